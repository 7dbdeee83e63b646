/-
  Contracts: a place that an input chooses (R8Place).
-/
import Derived.Test.YtdnhdfnghkkncaaS3
set_option linter.unusedSimpArgs false
set_option linter.unusedVariables false
set_option maxRecDepth 100000
namespace Go.Proofs.Ytdnhdfnghkkncaa
open Go.RowKit

/-- a coordinate that an input chooses -/
def qw (xs : List Int) (i : Nat) (d : Nat) : Nat := match xs[i]? with | some x => fdiv (fint (x % 33 - 16)) 1082130432 | none => d
theorem qw_is {xs : List Int} (hb : ∀ x ∈ xs, 0 ≤ x ∧ x < 256) (i d : Nat) {m : Int} (hd : IsG 2 m d) (hm : -16 ≤ m ∧ m ≤ 16) : ∃ q : Int, -16 ≤ q ∧ q ≤ 16 ∧ IsG 2 q (qw xs i d) := by
  unfold qw
  cases h : xs[i]? with
  | none => exact ⟨m, hm.1, hm.2, hd⟩
  | some x =>
    have := hb x (List.mem_of_getElem? h)
    exact ⟨x % 33 - 16, by omega, by omega, quarter (by omega)⟩
theorem qw_some {xs : List Int} {i d : Nat} {x : Int} (h : xs[i]? = some x) : qw xs i d = fdiv (fint (x % 33 - 16)) 1082130432 := by unfold qw; rw [h]
theorem qw_none {xs : List Int} {i d : Nat} (h : xs.length ≤ i) : qw xs i d = d := by unfold qw; rw [List.getElem?_eq_none h]

set_option maxHeartbeats 1000000 in
theorem r8Place_ok {w : World} {A : Option Addr} {n c : Nat} {xs : List Int} (k : Nat) (hk : k ≤ 64) (hb : ∀ x ∈ xs, 0 ≤ x ∧ x < 256) (h : Bys w w.heap.size A n xs) :
   Calls Try.prog 16 #[.slice A n c, .int .i64 k] w fun e w' => e = .returned (.complex .f32 (qw xs k 1065353216) (qw xs (k + 1) 3204448256)) ∧ Below w.heap.size w w' := by
  have u1 := und2
  have u2 := Try.underlying37
  have q1 := four_num
  have q2 := four_nz
  have HB := Lib.hid hb
  have HA := Lib.hid h
  clear hb h
  go_enter Try.func16, Try.ntmps16
  go_wp2_with fail
  go_loopw [6] (fun i wr => ∃ j l0 l1 : Nat, j ≤ 2 ∧ i = .int .i64 j ∧ Blk wr w.heap.size 37 #[.float .f32 l0, .float .f32 l1] ∧ Below w.heap.size w wr ∧
     Hid (l0 = if 0 < j then qw xs k 1065353216 else 1065353216) ∧ Hid (l1 = if 1 < j then qw xs (k + 1) 3204448256 else 3204448256)) (fun i _ => 2 - (intOf i).toNat)
  case atStart => exact ⟨0, 1065353216, 3204448256, by omega, rfl, Blk.new w 37 _, (Below.refl _ _).alloc (Nat.le_refl _) _, rfl, rfl⟩
  case round =>
    obtain ⟨j, l0, l1, hj, rfl, HL, HK, H0, H1⟩ := hrel
    have CL := HL.cell
    have FL := HL.frozen
    obtain rfl | rfl | rfl : j = 0 ∨ j = 1 ∨ j = 2 := by omega
    · by_cases hlt : k < n
      · obtain ⟨b, off, x, rfl, hbb, hxx, hcell⟩ := (HA.out.below HK).one hlt
        obtain ⟨x0, x1⟩ := HB.out x (List.mem_of_getElem? hxx)
        have i1 := (IsG.int (n := x % 33 - 16) (by omega)).num
        have HX := Lib.hid hxx
        clear hxx
        go_wp2_with fail
        refine ⟨⟨1, _, _, by omega, by go_num, HL.set_ 0 _, bset HK (Nat.le_refl _) _ _, (qw_some HX.out).symm, H1.out⟩, by simp [intOf]⟩
      · go_wp2_with fail
        refine ⟨⟨1, _, _, by omega, by go_num, HL, HK, H0.out.trans (qw_none (by rw [HA.out.len]; omega)).symm, H1.out⟩, by simp [intOf]⟩
    · by_cases hlt : k + 1 < n
      · obtain ⟨b, off, x, rfl, hbb, hxx, hcell⟩ := (HA.out.below HK).one hlt
        obtain ⟨x0, x1⟩ := HB.out x (List.mem_of_getElem? hxx)
        have i1 := (IsG.int (n := x % 33 - 16) (by omega)).num
        have HX := Lib.hid hxx
        clear hxx
        go_wp2_with fail
        refine ⟨⟨2, _, _, by omega, by go_num, HL.set_ 1 _, bset HK (Nat.le_refl _) _ _, H0.out, (qw_some HX.out).symm⟩, by simp [intOf]⟩
      · go_wp2_with fail
        refine ⟨⟨2, _, _, by omega, by go_num, HL, HK, H0.out, H1.out.trans (qw_none (by rw [HA.out.len]; omega)).symm⟩, by simp [intOf]⟩
    · go_wp2_with fail
      go_quiet (fail)
      go_wp2
      go_ret
      exact ⟨by rw [H0.out, H1.out]; rfl, bdrew HK _⟩
end Go.Proofs.Ytdnhdfnghkkncaa
