/-
  Contracts: complex numbers, powers, walls.
-/
import Derived.Test.YtdnhdfnghkkncaaW1
import Derived.Test.YtdnhdfnghkkncaaFx
set_option linter.unusedSimpArgs false
set_option maxRecDepth 100000
namespace Go.Proofs.Ytdnhdfnghkkncaa
open Go.RowKit

section
variable (a b c d : Nat) (w : World)
theorem less_c (ha : num32 a = true) (hb : num32 b = true) (hc : num32 c = true) (hd : num32 d = true) :
    Calls Try.prog 113 #[.complex .f32 a b, .complex .f32 c d] w fun e w' => e = .returned (.complex .f32 (fsub a c) (fsub b d)) ∧ w = w' := by
  go_enter Try.func113, Try.ntmps113
  go_wp2
  go_ret
  exact ⟨rfl, rfl⟩
theorem plus_c (ha : num32 a = true) (hb : num32 b = true) (hc : num32 c = true) (hd : num32 d = true) :
    Calls Try.prog 135 #[.complex .f32 a b, .complex .f32 c d] w fun e w' => e = .returned (.complex .f32 (fadd a c) (fadd b d)) ∧ w = w' := by
  go_enter Try.func135, Try.ntmps135
  go_wp2
  go_ret
  exact ⟨rfl, rfl⟩
theorem scale_c (ha : num32 a = true) (hb : num32 b = true) (hc : num32 c = true) :
    Calls Try.prog 136 #[.complex .f32 a b, .float .f32 c] w fun e w' => e = .returned (.complex .f32 (fmul a c) (fmul b c)) ∧ w = w' := by
  go_enter Try.func136, Try.ntmps136
  go_wp2
  go_ret
  exact ⟨rfl, rfl⟩
theorem outer_c (ha : num32 a = true) (hb : num32 b = true) (hc : num32 c = true) (hd : num32 d = true) (h1 : num32 (fmul a d) = true) (h2 : num32 (fmul b c) = true) :
    Calls Try.prog 112 #[.complex .f32 a b, .complex .f32 c d] w fun e w' => e = .returned (.float .f32 (fsub (fmul a d) (fmul b c))) ∧ w = w' := by
  go_enter Try.func112, Try.ntmps112
  go_wp2
  go_ret
  exact ⟨rfl, rfl⟩
theorem number_c (ha : num32 a = true) :
    Calls Try.prog 111 #[.float .f32 a, .bool true] w fun e w' => e = .returned (.tuple #[.float .f32 a, .bool true]) ∧ w = w' := by
  go_enter Try.func111, Try.ntmps111
  go_wp2_with (go_at_call 109; refine (finite_c _ _ ha).mono ?_; rintro e w' ⟨rfl, rfl⟩)
  go_ret2
  exact ⟨rfl, rfl⟩
theorem wideParts_c (ha : num32 a = true) (hb : num32 b = true) :
    Calls Try.prog 248 #[.complex .f32 a b] w fun e w' => e = .returned (.tuple #[.float .f64 (wid a), .float .f64 (wid b)]) ∧ w = w' := by
  have u1 : (Try.prog.underlying 37).isSome = true := by rw [Try.underlying37]; rfl
  have u2 := Try.underlying63
  go_enter Try.func248, Try.ntmps248
  go_wp2
  go_ret2
  exact ⟨rfl, rfl⟩
theorem widePower_c (h : PowOk a b) :
    Calls Try.prog 157 #[.complex .f32 a b] w fun e w' => e = .returned (.float .f64 (wpow a b)) ∧ w = w' := by
  obtain ⟨ha, hb, h1, h2, _, _⟩ := h
  have h5 := (wid_num ha).1
  have h6 := (wid_num hb).1
  go_enter Try.func157, Try.ntmps157
  go_wp2_with (go_at_call 248; refine (wideParts_c _ _ _ ha hb).mono ?_; rintro e w' ⟨rfl, rfl⟩)
  go_ret
  exact ⟨rfl, rfl⟩
theorem power_c (h : PowOk a b) :
    Calls Try.prog 176 #[.complex .f32 a b] w fun e w' => e = .returned (.float .f32 (fpow a b)) ∧ w = w' := by
  have h3 := h.h3
  have H := Lib.hid h
  clear h
  have u1 : (Try.prog.underlying 63).isSome = true := by rw [Try.underlying63]; rfl
  have u2 := Try.underlying37
  go_enter Try.func176, Try.ntmps176
  go_wp2_with (go_at_call 157; refine (widePower_c _ _ _ H.out).mono ?_; rintro e w' ⟨rfl, rfl⟩)
  go_ret
  exact ⟨rfl, rfl⟩
end
theorem within_c (x low high : Int) (w : World) :
    Calls Try.prog 128 #[.int .i64 x, .int .i64 low, .int .i64 high] w fun e w' => e = .returned (.bool (decide (low ≤ x ∧ x ≤ high))) ∧ w = w' := by
  by_cases h1 : low ≤ x <;> by_cases h2 : x ≤ high
  all_goals
    go_enter Try.func128, Try.ntmps128
    go_wp2
    go_ret
    exact ⟨by simp [h1, h2], rfl⟩

/-- a wall, as words -/
structure Wl where
  fx : Nat
  fy : Nat
  tx : Nat
  ty : Nat
  vx : Nat
  vy : Nat
abbrev Wl.val (l : Wl) : Value := .agg #[.complex .f32 l.fx l.fy, .complex .f32 l.tx l.ty, .complex .f32 l.vx l.vy]
/-- a valid wall -/
structure Wl.Ok (l : Wl) : Prop where
  fx : num32 l.fx = true
  fy : num32 l.fy = true
  tx : num32 l.tx = true
  ty : num32 l.ty = true
  vx : num32 l.vx = true
  vy : num32 l.vy = true
  pow : PowOk (fsub l.tx l.fx) (fsub l.ty l.fy)
  pos : fgt (fpow (fsub l.tx l.fx) (fsub l.ty l.fy)) 0 = true

theorem validWall_c (l : Wl) (w : World) (h : l.Ok) : Calls Try.prog 106 #[l.val] w fun e w' => e = .returned (.bool true) ∧ Below w.heap.size w w' := by
  obtain ⟨h1, h2, h3, h4, h5, h6, h7, h8⟩ := h
  have h9 := h7.h4
  have H7 := Lib.hid h7
  clear h7
  go_enter Try.func106, Try.ntmps106
  go_wp2_with fail
  refine (finiteC_c _ _ _ h1 h2).mono ?_
  rintro e w1 ⟨rfl, hb1⟩
  obtain ⟨B1, L1, K1⟩ := boxed hb1
  clear hb1
  have C1 := B1.cell
  go_wp2_with fail
  refine (finiteC_c _ _ _ h3 h4).mono ?_
  rintro e w2 ⟨rfl, hb2⟩
  have B2 := B1.below hb2 L1
  have C2 := B2.cell
  have L2 : w.heap.size < w2.heap.size := Nat.lt_of_lt_of_le L1 hb2.size
  have K2 := bthen K1 hb2 (by omega)
  clear C1 B1 K1 hb2
  go_wp2_with fail
  refine (finiteC_c _ _ _ h5 h6).mono ?_
  rintro e w3 ⟨rfl, hb3⟩
  have C3 := (B2.below hb3 L2).cell
  have K3 := bthen K2 hb3 (by omega)
  clear C2 B2 K2 hb3
  go_wp2_with (first
    | (go_at_call 113; refine (less_c _ _ _ _ _ h3 h4 h1 h2).mono ?_; rintro e w' ⟨rfl, rfl⟩)
    | (go_at_call 176; refine (power_c _ _ _ H7.out).mono ?_; rintro e w' ⟨rfl, rfl⟩)
    | (go_at_call 109; refine (finite_c _ _ h9).mono ?_; rintro e w' ⟨rfl, rfl⟩))
  go_ret
  exact ⟨rfl, K3⟩

/-- on which side of a wall a point lies -/
def sideW (l : Wl) (a b : Nat) : Nat := fsub (fmul (fsub l.tx l.fx) (fsub b l.fy)) (fmul (fsub l.ty l.fy) (fsub a l.fx))
structure SideOk (l : Wl) (a b : Nat) : Prop where
  ha : num32 a = true
  hb : num32 b = true
  h1 : num32 (fsub l.tx l.fx) = true
  h2 : num32 (fsub l.ty l.fy) = true
  h3 : num32 (fsub a l.fx) = true
  h4 : num32 (fsub b l.fy) = true
  h5 : num32 (fmul (fsub l.tx l.fx) (fsub b l.fy)) = true
  h6 : num32 (fmul (fsub l.ty l.fy) (fsub a l.fx)) = true
  h7 : num32 (sideW l a b) = true

theorem sideOf_c (l : Wl) (a b : Nat) (w : World) (hl : l.Ok) (h : SideOk l a b) :
    Calls Try.prog 20 #[l.val, .complex .f32 a b] w fun e w' => e = .returned (.tuple #[.float .f32 (sideW l a b), .bool true]) ∧ Below w.heap.size w w' := by
  obtain ⟨ha, hb, h1, h2, h3, h4, h5, h6, h7⟩ := h
  have g1 := hl.fx
  have g2 := hl.fy
  have g3 := hl.tx
  have g4 := hl.ty
  have HL := Lib.hid hl
  clear hl
  unfold sideW at h7 ⊢
  go_enter Try.func20, Try.ntmps20
  go_wp2_with fail
  refine (validWall_c l _ HL.out).mono ?_
  rintro e w1 ⟨rfl, hb1⟩
  obtain ⟨B1, L1, K1⟩ := boxed hb1
  clear hb1
  have C1 := B1.cell
  go_wp2_with fail
  refine (finiteC_c _ _ _ ha hb).mono ?_
  rintro e w2 ⟨rfl, hb2⟩
  have C2 := (B1.below hb2 L1).cell
  have K2 := bthen K1 hb2 (by omega)
  clear C1 B1 K1 hb2
  go_wp2_with fail
  go_quiet (first
    | (go_at_call 113; exact quiet' (less_c _ _ _ _ _ (by assumption) (by assumption) (by assumption) (by assumption)))
    | (go_at_call 112; exact quiet' (outer_c _ _ _ _ _ (by assumption) (by assumption) (by assumption) (by assumption) (by assumption) (by assumption)))
    | (go_at_call 111; exact quiet' (number_c _ _ (by assumption))))
  go_wp2
  go_ret2
  exact ⟨rfl, bdrew K2 _⟩
end Go.Proofs.Ytdnhdfnghkkncaa
