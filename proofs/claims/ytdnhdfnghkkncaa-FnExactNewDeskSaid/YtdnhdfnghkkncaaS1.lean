/-
  Contracts of the source of choices: next, pick, one; a grain that is drawn.
-/
import Derived.Test.YtdnhdfnghkkncaaW2
set_option linter.unusedSimpArgs false
set_option linter.unusedVariables false
set_option maxRecDepth 100000
namespace Go.Proofs.Ytdnhdfnghkkncaa
open Go.RowKit

abbrev Bys (w : World) (B : Nat) (A : Option Addr) (n : Nat) (xs : List Int) : Prop := Arr (fun x => [Value.int .u8 x]) 1 w B A n xs
/-- the source: its code, its place, its seed -/
abbrev Src (w : World) (p : Nat) (A : Option Addr) (n c : Nat) (at_ seed : Int) : Prop := Blk w p 256 #[.slice A n c, .int .i64 at_, .int .u64 seed]

theorem and255 (y : Int) : 0 ≤ wrap64 (bits .and .u64 (IntKind.u64.wrap y / 1099511627776) 255) ∧ wrap64 (bits .and .u64 (IntKind.u64.wrap y / 1099511627776) 255) ≤ 255 := by
  have h0 : 0 ≤ IntKind.u64.wrap y ∧ IntKind.u64.wrap y < 18446744073709551616 := by
    unfold IntKind.wrap
    simp [IntKind.bits, IntKind.signed]
    omega
  generalize IntKind.u64.wrap y = z at h0
  rw [u64_and _ _ (by omega) (by omega) (by omega) (by omega)]
  have h1 : (z / 1099511627776).toNat &&& (255 : Int).toNat ≤ 255 := Nat.and_le_right
  generalize (z / 1099511627776).toNat &&& (255 : Int).toNat = k at h1
  unfold wrap64
  omega

set_option maxHeartbeats 1000000 in
theorem next_c (w : World) (p B : Nat) (A : Option Addr) (n c : Nat) (xs : List Int) (at_ seed : Int) (hs : Src w p A n c at_ seed) (hx : Bys w B A n xs) (hB : B ≤ p) (hb : ∀ x ∈ xs, 0 ≤ x ∧ x < 256)
   (h0 : 0 ≤ at_) (h1 : at_ ≤ 60000) :
   Calls Try.prog 232 #[.pointer (some ⟨p, 0, none⟩)] w fun e w' => ∃ r seed', 0 ≤ r ∧ r ≤ 255 ∧ e = .returned (.int .i64 r) ∧ Src w' p A n c (at_ + 1) seed' ∧ w.grownBy w' (some p) := by
  have C := hs.cell
  have Fz := hs.frozen
  by_cases hlt : at_ < n
  · obtain ⟨b, off, x, rfl, hbb, hxx, hcell⟩ := hx.one (i := at_.toNat) (by omega)
    obtain ⟨x0, x1⟩ := hb x (List.mem_of_getElem? hxx)
    have hlen := hx.len
    have HXX := Lib.hid hxx
    clear hxx hb hlen
    go_enter Try.func232, Try.ntmps232
    go_wp2
    go_quiet (fail)
    go_wp2
    go_quiet (fail)
    go_wp2
    go_quiet (fail)
    go_wp2
    go_ret
    exact ⟨x, _, x0, by omega, rfl, (((hs.drewN _).set_ 1 _).set_ 2 _).drewN _, only_drew (only_set (only_set (only_drew (only_refl p w) _) _ _) _ _) _⟩
  · go_enter Try.func232, Try.ntmps232
    go_wp2
    go_quiet (fail)
    go_wp2
    go_quiet (fail)
    go_wp2
    go_ret
    exact ⟨_, _, (and255 _).1, (and255 _).2, rfl, (((hs.drewN _).set_ 1 _).set_ 2 _).drewN _, only_drew (only_set (only_set (only_drew (only_refl p w) _) _ _) _ _) _⟩

/-- what a source needs: its code lies below it, its place is not far -/
structure SrcOk (w : World) (p B : Nat) (A : Option Addr) (n c : Nat) (xs : List Int) (at_ : Int) : Prop where
  src : ∃ seed, Src w p A n c at_ seed
  bys : Bys w B A n xs
  le : B ≤ p
  byte : ∀ x ∈ xs, 0 ≤ x ∧ x < 256
  lo : 0 ≤ at_

theorem SrcOk.step {w w' : World} {p B n c : Nat} {A : Option Addr} {xs : List Int} {at_ seed' : Int} (h : SrcOk w p B A n c xs at_) (h1 : Src w' p A n c (at_ + 1) seed') (h2 : Only p w w') : SrcOk w' p B A n c xs (at_ + 1) :=
  ⟨⟨_, h1⟩, h.bys.only h2 h.le (by obtain ⟨_, hs⟩ := h.src; have := hs.lt; have := h.le; omega), h.le, h.byte, by have := h.lo; omega⟩
/-- another block is written, or laid -/
theorem SrcOk.below {w w' : World} {p B B' n c : Nat} {A : Option Addr} {xs : List Int} {at_ : Int} (h : SrcOk w p B A n c xs at_) (hb : Below B' w w') (hp : p < B') : SrcOk w' p B A n c xs at_ :=
  ⟨by obtain ⟨s, hs⟩ := h.src; exact ⟨s, hs.below hb hp⟩, h.bys.below (hb.mono (by have := h.le; omega)), h.le, h.byte, h.lo⟩

theorem next_ok {w : World} {p B n c : Nat} {A : Option Addr} {xs : List Int} {at_ : Int} (h : SrcOk w p B A n c xs at_) (h1 : at_ ≤ 60000) :
   Calls Try.prog 232 #[.pointer (some ⟨p, 0, none⟩)] w fun e w' => ∃ r, 0 ≤ r ∧ r ≤ 255 ∧ e = .returned (.int .i64 r) ∧ SrcOk w' p B A n c xs (at_ + 1) ∧ Only p w w' := by
  obtain ⟨seed, hs⟩ := h.src
  refine (next_c w p B A n c xs at_ seed hs h.bys h.le h.byte h.lo h1).mono ?_
  rintro e w' ⟨r, s, r0, r1, he, h2, h3⟩
  exact ⟨r, r0, r1, he, h.step h2 h3, h3⟩

theorem pick_ok {w : World} {p B n c : Nat} {A : Option Addr} {xs : List Int} {at_ : Int} (m : Int) (h : SrcOk w p B A n c xs at_) (h1 : at_ ≤ 60000) (hm : 2 ≤ m) (hm2 : m ≤ 200) :
   Calls Try.prog 104 #[.pointer (some ⟨p, 0, none⟩), .int .i64 m] w fun e w' => ∃ r, 0 ≤ r ∧ r < m ∧ e = .returned (.int .i64 r) ∧ SrcOk w' p B A n c xs (at_ + 1) ∧ Only p w w' := by
  have H := Lib.hid (next_ok h h1)
  clear h
  go_enter Try.func104, Try.ntmps104
  go_wp2_with (go_at_call 232; refine H.out.mono ?_; rintro e w1 ⟨r, r0, r1, rfl, h2, h3⟩)
  go_ret
  exact ⟨r % m, Int.emod_nonneg _ (by omega), Int.emod_lt_of_pos _ (by omega), rfl, h2, h3⟩

theorem one_ok {w : World} {p B n c : Nat} {A : Option Addr} {xs : List Int} {at_ : Int} (m : Int) (h : SrcOk w p B A n c xs at_) (h1 : at_ ≤ 60000) (hm : 2 ≤ m) (hm2 : m ≤ 200) :
   Calls Try.prog 231 #[.pointer (some ⟨p, 0, none⟩), .int .i64 m] w fun e w' => ∃ r, e = .returned (.bool r) ∧ SrcOk w' p B A n c xs (at_ + 1) ∧ Only p w w' := by
  have H := Lib.hid (pick_ok m h h1 hm hm2)
  clear h
  go_enter Try.func231, Try.ntmps231
  go_wp2_with (go_at_call 104; refine H.out.mono ?_; rintro e w1 ⟨r, r0, r1, rfl, h2, h3⟩)
  go_ret
  exact ⟨_, rfl, h2, h3⟩

/-- a number in quarters -/
theorem quarter {n : Int} (h : n.natAbs ≤ 16777216) : IsG 2 n (fdiv (fint n) 1082130432) := IsG.half (g := 0) 2 (IsG.int h) (by decide) (by omega) h
theorem half_ {n : Int} (h : n.natAbs ≤ 16777216) : IsG 1 n (fdiv (fint n) 1073741824) := IsG.half (g := 0) 1 (IsG.int h) (by decide) (by omega) h
theorem sixteenth {n : Int} (h : n.natAbs ≤ 16777216) : IsG 4 n (fdiv (fint n) 1098907648) := IsG.half (g := 0) 4 (IsG.int h) (by decide) (by omega) h
theorem four_num : num32 1082130432 = true := by decide
theorem four_nz : nz32 1082130432 = true := by decide
theorem two_num : num32 1073741824 = true := by decide
theorem two_nz : nz32 1073741824 = true := by decide
theorem sixteen_num : num32 1098907648 = true := by decide
theorem sixteen_nz : nz32 1098907648 = true := by decide

theorem drawSmall_ok {w : World} {p B n c : Nat} {A : Option Addr} {xs : List Int} {at_ : Int} (h : SrcOk w p B A n c xs at_) (h1 : at_ ≤ 60000) :
   Calls Try.prog 207 #[.pointer (some ⟨p, 0, none⟩)] w fun e w' => ∃ r : Int, -16 ≤ r ∧ r ≤ 16 ∧ e = .returned (.float .f32 (fdiv (fint r) 1082130432)) ∧ SrcOk w' p B A n c xs (at_ + 1) ∧ Only p w w' := by
  have H := Lib.hid (pick_ok 33 h h1 (by omega) (by omega))
  clear h
  have u1 := und2
  have u2 := Try.underlying37
  have q1 := four_num
  have q2 := four_nz
  go_enter Try.func207, Try.ntmps207
  go_wp2_with (go_at_call 104; refine H.out.mono ?_; rintro e w1 ⟨r, r0, r1, rfl, h2, h3⟩; have q3 := (IsG.int (n := r - 16) (by omega)).num)
  go_ret
  exact ⟨r - 16, by omega, by omega, rfl, h2, h3⟩
end Go.Proofs.Ytdnhdfnghkkncaa
