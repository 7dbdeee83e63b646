/-
  Contracts: rules and desks that are compared, marked and read again.
-/
import Derived.Test.YtdnhdfnghkkncaaD6
set_option linter.unusedSimpArgs false
set_option linter.unusedVariables false
set_option maxRecDepth 100000
namespace Go.Proofs.Ytdnhdfnghkkncaa
open Go.RowKit
open Fl Ieee

theorem own_other {w w' : World} {base : Nat} {e : TypeId} {size : Nat} {v : Value} {n : Nat} {xs : List Value} {p : Nat} (h : w.ownsRow base e size v n xs) (k : Only p w w') (hne : v.ownBlock ≠ some p) : w'.ownsRow base e size v n xs := h.kept k (.inr hne)
theorem own_apart {w : World} {b1 b2 e1 e2 s1 s2 g1 g2 c1 c2 n1 n2 : Nat} {xs ys : List Value} (h : w.ownsRow b1 e1 s1 (.slice (some ⟨g1, 0, none⟩) n1 c1) n1 xs) (k : w.ownsRow b2 e2 s2 (.slice (some ⟨g2, 0, none⟩) n2 c2) n2 ys) (hne : e1 ≠ e2) : g1 ≠ g2 := by
  rcases h.2 with ⟨h1, _⟩ | ⟨g, cap, cur, h1, _, hh, _⟩
  · cases h1
  · rcases k.2 with ⟨k1, _⟩ | ⟨g', cap', cur', k1, _, hk, _⟩
    · cases k1
    · injection h1 with h1
      injection h1 with h1
      injection h1 with h1
      injection k1 with k1
      injection k1 with k1
      injection k1 with k1
      subst h1 k1
      intro he
      subst he
      rw [hh] at hk
      injection hk with hk
      injection hk with _ hk
      exact hne hk

theorem eqRules_c (a b c d : Nat) (w : World) (na : num32 a = true) (nb : num32 b = true) (nc : num32 c = true) (nd : num32 d = true) (ha : SameF (wid a)) (hb : SameF (wid b)) (hc : SameF (wid c)) (hd : SameF (wid d)) :
   Calls Try.prog 218 #[.agg #[.float .f32 a, .float .f32 b, .float .f32 c, .float .f32 d], .agg #[.float .f32 a, .float .f32 b, .float .f32 c, .float .f32 d]] w fun e w' => e = .returned (.bool true) ∧ Below w.heap.size w w' := by
  have u2 := und37
  have u3 := Try.underlying63
  have HA := Lib.hid ha
  have HB := Lib.hid hb
  have HC := Lib.hid hc
  have HD := Lib.hid hd
  clear ha hb hc hd
  go_enter Try.func218, Try.ntmps218
  go_wp2_with fail
  refine (sameF_c _ _ HA.out).mono ?_
  rintro e w' ⟨rfl, rfl⟩
  go_wp2_with fail
  refine (sameF_c _ _ HB.out).mono ?_
  rintro e w' ⟨rfl, rfl⟩
  go_wp2_with fail
  refine (sameF_c _ _ HC.out).mono ?_
  rintro e w' ⟨rfl, rfl⟩
  go_wp2_with fail
  refine (sameF_c _ _ HD.out).mono ?_
  rintro e w' ⟨rfl, rfl⟩
  go_wp2_with fail
  go_ret
  exact ⟨rfl, balloc (balloc (Below.refl _ _) (Nat.le_refl _) _) (Nat.le_refl _) _⟩

/-- a desk's value -/
abbrev deskV (A : Option Addr) (n c : Nat) (r0 r1 r2 r3 : Nat) (W : Option Addr) (m d : Nat) (B : Option Addr) (e : Nat) : Array Value :=
  #[.slice A n c, .float .f32 r0, .float .f32 r1, .float .f32 r2, .float .f32 r3, .slice W m d, .slice B 0 e]
structure RulesOk (r0 r1 r2 r3 : Nat) : Prop where
  n0 : num32 r0 = true
  n1 : num32 r1 = true
  n2 : num32 r2 = true
  n3 : num32 r3 = true
  s0 : SameF (wid r0)
  s1 : SameF (wid r1)
  s2 : SameF (wid r2)
  s3 : SameF (wid r3)

set_option maxHeartbeats 1000000 in
theorem eqDesk_c (gs : List G) (ls : List Wl) (r0 r1 r2 r3 : Nat) (w : World) (A A' W W' B B' : Option Addr) (n m c c' d d' e e' : Nat) (hg : Grs w w.heap.size A n gs) (hg' : Grs w w.heap.size A' n gs) (hw : Wls w w.heap.size W m ls) (hw' : Wls w w.heap.size W' m ls)
   (hn : n ≤ 4096) (hm : m ≤ 4096) (hs : ∀ g ∈ gs, g.Same) (hl : ∀ l ∈ ls, l.Same) (hr : RulesOk r0 r1 r2 r3) :
   Calls Try.prog 93 #[.agg (deskV A n c r0 r1 r2 r3 W m d B e), .agg (deskV A' n c' r0 r1 r2 r3 W' m d' B' e')] w fun x w' => x = .returned (.bool true) ∧ Below w.heap.size w w' := by
  have z140 := sz140
  have z138 := sz138
  have z26 := sz26
  have H1 := Lib.hid (fun Wd (K : Below w.heap.size w Wd) => eqHeap_c gs Wd A A' n c c' (hg.to K) (hg'.to K) hn hs)
  have H2 := Lib.hid (fun Wd => eqRules_c r0 r1 r2 r3 Wd hr.n0 hr.n1 hr.n2 hr.n3 hr.s0 hr.s1 hr.s2 hr.s3)
  have H3 := Lib.hid (fun Wd (K : Below w.heap.size w Wd) => eqWallS_c ls Wd W W' m d d' (hw.to K) (hw'.to K) hm hl)
  clear hg hg' hw hw' hs hl hr
  have K0 := balloc (balloc (Below.refl w.heap.size w) (Nat.le_refl _) (.cells (deskV A n c r0 r1 r2 r3 W m d B e) 140)) (Nat.le_refl _) (.cells (deskV A' n c' r0 r1 r2 r3 W' m d' B' e') 140)
  have B0 := (Blk.new w 140 (deskV A n c r0 r1 r2 r3 W m d B e)).alloc (.cells (deskV A' n c' r0 r1 r2 r3 W' m d' B' e') 140)
  have B1 := Blk.newAt (w := w.alloc (.cells (deskV A n c r0 r1 r2 r3 W m d B e) 140)) (g := w.heap.size + 1) (by simp) 140 (deskV A' n c' r0 r1 r2 r3 W' m d' B' e')
  go_enter Try.func93, Try.ntmps93
  go_wp2_with fail
  refine (H1.out _ K0).mono ?_
  rintro x w1 ⟨rfl, K1⟩
  have C0 := B0.below K1 (by simp; omega)
  have C1 := B1.below K1 (by simp)
  have KK := bthen K0 K1 K0.size
  clear K0 K1 B0 B1
  have D0 := C0.cell
  have D1 := C1.cell
  go_wp2_with fail
  refine (H2.out _).mono ?_
  rintro x w2 ⟨rfl, K2⟩
  have E0 := C0.below K2 C0.lt
  have E1 := C1.below K2 C1.lt
  have KK2 := bthen KK K2 KK.size
  clear C0 C1 D0 D1 K2 KK
  have D0 := E0.cell
  have D1 := E1.cell
  go_wp2_with fail
  refine (H3.out _ KK2).mono ?_
  rintro x w3 ⟨rfl, K3⟩
  have F0 := E0.below K3 E0.lt
  have F1 := E1.below K3 E1.lt
  have KK3 := bthen KK2 K3 KK2.size
  clear E0 E1 D0 D1 K3 KK2
  have D0 := F0.cell
  have D1 := F1.cell
  go_wp2_with fail
  refine (eqBondS_c _ _ _ _ _).mono ?_
  rintro x w' ⟨rfl, rfl⟩
  go_wp2_with fail
  go_ret
  exact ⟨rfl, KK3⟩

theorem markBondS_c (k : Int) (w : World) (B : Option Addr) (c : Nat) : Calls Try.prog 223 #[.slice B 0 c, .int .i64 k] w fun e w' => e = .returned (.int .i64 k) ∧ w = w' := by
  go_enter Try.func223, Try.ntmps223
  go_wp2_with fail
  go_loop [5, 1] (fun i m => i = .int .i64 0 ∧ m = .int .i64 k) (fun i _ => 0 - (intOf i).toNat)
  case atStart => exact ⟨rfl, rfl⟩
  case round =>
    obtain ⟨rfl, rfl⟩ := hrel
    go_wp2_with fail
    go_ret
    exact ⟨rfl, rfl⟩
theorem heldBondS_c (k : Int) (w : World) (B : Option Addr) (c : Nat) : Calls Try.prog 226 #[.slice B 0 c, .int .i64 k] w fun e w' => e = .returned (.int .i64 k) ∧ w = w' := by
  go_enter Try.func226, Try.ntmps226
  go_wp2_with fail
  go_loop [5, 1] (fun i m => i = .int .i64 0 ∧ m = .int .i64 k) (fun i _ => 0 - (intOf i).toNat)
  case atStart => exact ⟨rfl, rfl⟩
  case round =>
    obtain ⟨rfl, rfl⟩ := hrel
    go_wp2_with fail
    go_ret
    exact ⟨rfl, rfl⟩
theorem markHeap_c (gs : List G) (w : World) (base g n cap : Nat) (k : Int) (hO : w.ownsRow base 43 7 (.slice (some ⟨g, 0, none⟩) n cap) n (gs.flatMap G.cells)) (hl : gs.length = n) (hn : n ≤ 100) (h0 : 0 ≤ k) (h1 : k ≤ 1000) :
   Calls Try.prog 221 #[.agg #[.slice (some ⟨g, 0, none⟩) n cap], .int .i64 k] w fun e w' => e = .returned (.int .i64 (k + 7 * n)) ∧ w'.ownsRow base 43 7 (.slice (some ⟨g, 0, none⟩) n cap) n ((setFrom (fun j => markG (k + 7 * j)) gs n).flatMap G.cells) ∧ Only g w w' := by
  have H := Lib.hid (markGrainS_c gs _ base g n cap k (hO.alloc (.cells #[.slice (some ⟨g, 0, none⟩) n cap] 26)) hl hn h0 h1)
  clear hO
  go_enter Try.func221, Try.ntmps221
  go_wp2_with fail
  refine H.out.mono ?_
  rintro e w1 ⟨rfl, HO, K⟩
  go_wp2_with fail
  go_ret
  exact ⟨rfl, HO, only_trans (only_alloc (only_refl _ _) _) K⟩
theorem heldHeap_c (gs : List G) (w : World) (A : Option Addr) (n cap : Nat) (k : Int) (hr : Grs w w.heap.size A n gs) (hm : ∀ (j : Nat) (l : G), gs[j]? = some l → l = markG (k + 7 * j)) (hn : n ≤ 100) (h0 : 0 ≤ k) (h1 : k ≤ 1000) :
   Calls Try.prog 224 #[.agg #[.slice A n cap], .int .i64 k] w fun e w' => e = .returned (.int .i64 (k + 7 * n)) ∧ Below w.heap.size w w' := by
  have K0 := balloc (Below.refl w.heap.size w) (Nat.le_refl _) (.cells #[.slice A n cap] 26)
  have H := Lib.hid (heldGrainS_c gs _ A n cap k (hr.to K0) hm hn h0 h1)
  have hk : decide (k + 7 * (n : Int) < 0) = false := decide_eq_false (by omega)
  clear hr hm
  go_enter Try.func224, Try.ntmps224
  go_wp2_with fail
  refine H.out.mono ?_
  rintro e w1 ⟨rfl, rfl⟩
  go_wp2_with fail
  go_ret
  exact ⟨rfl, K0⟩
end Go.Proofs.Ytdnhdfnghkkncaa
