/-
  Contracts: marks that are written into walls, and read again.
-/
import Derived.Test.YtdnhdfnghkkncaaD4
import Derived.Test.YtdnhdfnghkkncaaL4
import Derived.Test.YtdnhdfnghkkncaaC2
set_option linter.unusedSimpArgs false
set_option linter.unusedVariables false
set_option maxRecDepth 100000
namespace Go.Proofs.Ytdnhdfnghkkncaa
open Go.RowKit
open Fl Ieee

def mk (k : Int) : Nat := nar (dint k)
def mk1 : Nat := nar 4607182418800017408
def markW (k : Int) : Wl := ⟨mk k, mk1, mk (k + 1), mk1, mk (k + 2), mk1⟩
def setFrom {α : Type} (f : Nat → α) (xs : List α) : Nat → List α
  | 0 => xs
  | j + 1 => (setFrom f xs j).set j (f j)
theorem setFrom_len {α : Type} (f : Nat → α) (xs : List α) : ∀ j, (setFrom f xs j).length = xs.length
  | 0 => rfl
  | j + 1 => by rw [setFrom, List.length_set, setFrom_len f xs j]
theorem setFrom_at {α : Type} (f : Nat → α) (xs : List α) : ∀ (j i : Nat), i < j → i < xs.length → (setFrom f xs j)[i]? = some (f i)
  | 0, i, h, _ => by omega
  | j + 1, i, h, hl => by
    rw [setFrom]
    by_cases he : i = j
    · subst he
      exact List.getElem?_set_self (by rw [setFrom_len]; exact hl)
    · rw [List.getElem?_set_ne (by omega)]
      exact setFrom_at f xs j i (by omega) hl

theorem wrap_small {k : Int} (h0 : 0 ≤ k) (h1 : k ≤ 100000) : IntKind.i64.wrap k = k := by
  rw [IntKind.wrap_i64]; omega
theorem IsD.int {n : Int} (h : n.natAbs ≤ h53) : IsD 0 n (dint n) := by
  have := ofInt_num double (by decide) n (149 + dK) lp64' (by rw [← h53_eq]; exact h) (by rw [top64_eq, dK_eq]; decide)
  exact this
theorem mk_is {k : Int} (h0 : 0 ≤ k) (h1 : k ≤ 100000) : narOk (dint k) = true ∧ IsG 0 k (mk k) := (IsD.int (by unfold h53; omega)).nar (by omega) (by omega)
theorem mk1_ok : narOk 4607182418800017408 = true := by kernel_rfl
theorem mk1_num : num32 mk1 = true := by kernel_rfl
theorem mk1_same : (FloatKind.f32.format.order mk1 mk1 == some Ordering.eq) = true := by kernel_rfl
theorem mk_same {k : Int} (h0 : 0 ≤ k) (h1 : k ≤ 100000) : (FloatKind.f32.format.order (mk k) (mk k) == some Ordering.eq) = true := by
  have h := (mk_is h0 h1).2
  have := h.feq h
  simpa using this

set_option maxHeartbeats 1000000 in
theorem markWallS_c (ls : List Wl) (w : World) (base g n cap : Nat) (k : Int) (hO : w.ownsRow base 31 3 (.slice (some ⟨g, 0, none⟩) n cap) n (ls.flatMap Wl.cells)) (hl : ls.length = n) (hn : n ≤ 100) (h0 : 0 ≤ k) (h1 : k ≤ 1000) :
   Calls Try.prog 222 #[.slice (some ⟨g, 0, none⟩) n cap, .int .i64 k] w fun e w' => e = .returned (.int .i64 (k + 3 * n)) ∧ w'.ownsRow base 31 3 (.slice (some ⟨g, 0, none⟩) n cap) n ((setFrom (fun j => markW (k + 3 * j)) ls n).flatMap Wl.cells) ∧ Only g w w' := by
  have u1 := und28
  go_enter Try.func222, Try.ntmps222
  go_wp2_with fail
  go_loopw [5, 1] (fun i m wr => ∃ j : Nat, ∃ q : Int, j ≤ n ∧ i = .int .i64 j ∧ m = .int .i64 q ∧ q = k + 3 * j ∧ wr.ownsRow base 31 3 (.slice (some ⟨g, 0, none⟩) n cap) n ((setFrom (fun j => markW (k + 3 * j)) ls j).flatMap Wl.cells) ∧ Only g w wr) (fun i _ _ => n - (intOf i).toNat)
  case atStart => exact ⟨0, k, by omega, rfl, rfl, by omega, hO, only_refl _ _⟩
  case round =>
    obtain ⟨j, q, hj, rfl, rfl, hq, HO, HK⟩ := hrel
    have HQ := Lib.hid hq
    by_cases hlt : j < n
    · have hlen := setFrom_len (fun j => markW (k + 3 * j)) ls j
      obtain ⟨l, hg⟩ : ∃ l, (setFrom (fun j => markW (k + 3 * j)) ls j)[j]? = some l := ⟨_, List.getElem?_eq_getElem (by omega)⟩
      have hcell := fun (i : Nat) (u : Value) (hk : i < 3) (hu : l.cells[i]? = some u) => (HO.cellAt (j * 3 + i) (by omega)).trans (flat_at Wl.cells_len _ j l hg i u hu)
      have c0 := hcell 0 _ (by omega) rfl
      have c1 := hcell 1 _ (by omega) rfl
      have c2 := hcell 2 _ (by omega) rfl
      have hfz := HO.frozenAt
      simp only [Nat.add_zero] at c0
      have e1 : wrap64 (q + 1) = q + 1 := by unfold wrap64; omega
      have e2 : wrap64 (q + 1 + 1) = q + 2 := by unfold wrap64; omega
      have e3 : wrap64 (q + 2 + 1) = q + 3 := by unfold wrap64; omega
      have n1 := (mk_is (k := q) (by omega) (by omega)).1
      have n2 := (mk_is (k := q + 1) (by omega) (by omega)).1
      have n3 := (mk_is (k := q + 2) (by omega) (by omega)).1
      have n4 := mk1_ok
      have u28 := Try.underlying28
      have u288 := und288
      clear hcell hq
      have hlt3 : j * 3 + 2 < n * 3 := by omega
      go_wp2_with fail
      have o1 := own_store Wl.cells_len HO (x' := { l with fx := mk q, fy := mk1 }) (k := 0) (u := .complex .f32 (mk q) mk1) hg (by omega) rfl
      have g1 := set_at (y := { l with fx := mk q, fy := mk1 }) hg
      have o2 := own_store Wl.cells_len o1 (x' := { l with fx := mk q, fy := mk1, tx := mk (q + 1), ty := mk1 }) (k := 1) (u := .complex .f32 (mk (q + 1)) mk1) g1 (by omega) rfl
      rw [List.set_set] at o2
      have g2 := set_at (y := { l with fx := mk q, fy := mk1, tx := mk (q + 1), ty := mk1 }) hg
      have o3 := own_store Wl.cells_len o2 (x' := markW q) (k := 2) (u := .complex .f32 (mk (q + 2)) mk1) g2 (by omega) rfl
      rw [List.set_set] at o3
      have es : setFrom (fun j => markW (k + 3 * j)) ls (j + 1) = (setFrom (fun j => markW (k + 3 * j)) ls j).set j (markW q) := by rw [HQ.out]; rfl
      rw [← es] at o3
      exact ⟨⟨j + 1, q + 3, by omega, by go_num, by rw [e3], by have := HQ.out; omega, o3, only_set (only_set (only_set HK _ _) _ _) _ _⟩, by simp [intOf]; omega⟩
    · obtain rfl : j = n := by omega
      clear hq
      go_wp2_with fail
      go_ret
      have e := HQ.out
      subst e
      exact ⟨rfl, HO, HK⟩

set_option maxHeartbeats 1000000 in
theorem heldWallS_c (ls : List Wl) (w : World) (A : Option Addr) (n cap : Nat) (k : Int) (hr : Wls w w.heap.size A n ls) (hm : ∀ (j : Nat) (l : Wl), ls[j]? = some l → l = markW (k + 3 * j)) (hn : n ≤ 100) (h0 : 0 ≤ k) (h1 : k ≤ 1000) :
   Calls Try.prog 225 #[.slice A n cap, .int .i64 k] w fun e w' => e = .returned (.int .i64 (k + 3 * n)) ∧ w = w' := by
  have u1 := und28
  have HR := Lib.hid hr
  have HM := Lib.hid hm
  clear hr hm
  go_enter Try.func225, Try.ntmps225
  go_wp2_with fail
  go_loop [5, 1] (fun i m => ∃ j : Nat, ∃ q : Int, j ≤ n ∧ i = .int .i64 j ∧ m = .int .i64 q ∧ Hid (q = k + 3 * j)) (fun i _ => n - (intOf i).toNat)
  case atStart => exact ⟨0, k, by omega, rfl, rfl, by show _ = _; omega⟩
  case round =>
    obtain ⟨j, q, hj, rfl, rfl, HQ⟩ := hrel
    by_cases hlt : j < n
    · obtain ⟨b, off, l, rfl, hb, hg, c0, c1, c2⟩ := HR.out.wall hlt
      have hl := HM.out j l hg
      rw [← HQ.out] at hl
      subst hl
      have hq := HQ.out
      have n1 := (mk_is (k := q) (by omega) (by omega)).1
      have n2 := (mk_is (k := q + 1) (by omega) (by omega)).1
      have n3 := (mk_is (k := q + 2) (by omega) (by omega)).1
      have n4 := mk1_ok
      have s0 : (FloatKind.f32.format.order (nar (floatOfInt .f64 q)) (nar (floatOfInt .f64 q)) == some Ordering.eq) = true := mk_same (k := q) (by omega) (by omega)
      have s1 : (FloatKind.f32.format.order (nar (floatOfInt .f64 (q + 1))) (nar (floatOfInt .f64 (q + 1))) == some Ordering.eq) = true := mk_same (k := q + 1) (by omega) (by omega)
      have s2 : (FloatKind.f32.format.order (nar (floatOfInt .f64 (q + 2))) (nar (floatOfInt .f64 (q + 2))) == some Ordering.eq) = true := mk_same (k := q + 2) (by omega) (by omega)
      have s4 : (FloatKind.f32.format.order (nar 4607182418800017408) (nar 4607182418800017408) == some Ordering.eq) = true := mk1_same
      have e1 : wrap64 (q + 1) = q + 1 := by unfold wrap64; omega
      have e2 : wrap64 (q + 1 + 1) = q + 2 := by unfold wrap64; omega
      have e3 : wrap64 (q + 2 + 1) = q + 3 := by unfold wrap64; omega
      have u28 := Try.underlying28
      have u288 := und288
      have d0 : w.cell? ⟨b, off + j * 3, none⟩ = some (.complex .f32 (nar (floatOfInt .f64 q)) (nar 4607182418800017408)) := c0
      have d1 : w.cell? ⟨b, off + j * 3 + 1, none⟩ = some (.complex .f32 (nar (floatOfInt .f64 (q + 1))) (nar 4607182418800017408)) := c1
      have d2 : w.cell? ⟨b, off + j * 3 + 2, none⟩ = some (.complex .f32 (nar (floatOfInt .f64 (q + 2))) (nar 4607182418800017408)) := c2
      clear hg hq c0 c1 c2
      go_wp2_with fail
      go_round
      case rel => exact ⟨j + 1, q + 3, by omega, by go_num, by rw [e3], by have := HQ.out; show _ = _; omega⟩
      case measure => simp [intOf]; omega
    · obtain rfl : j = n := by omega
      go_wp2_with fail
      go_ret
      have e := HQ.out
      subst e
      exact ⟨rfl, rfl⟩
end Go.Proofs.Ytdnhdfnghkkncaa
