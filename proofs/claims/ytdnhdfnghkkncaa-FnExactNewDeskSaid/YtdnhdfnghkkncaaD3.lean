/-
  Contracts: the comparisons of the exact laws, at values that are the same.
-/
import Derived.Test.YtdnhdfnghkkncaaD2
import Derived.StillTailTactics
set_option linter.unusedSimpArgs false
set_option linter.unusedVariables false
set_option maxRecDepth 100000
namespace Go.Proofs.Ytdnhdfnghkkncaa
open Go.RowKit

@[go_sem] theorem run_widC {P : Program} (w : World) (src dst : TypeId) {a b : Nat} (hs : (P.underlying src).isSome = true) (hd : P.underlying dst = some (.complex .f64)) (ha : num32 a = true) (hb : num32 b = true) : (convert src dst (.complex .f32 a b)).run P w = .ok (.complex .f64 (wid a) (wid b)) w :=
  run_convert_complex w src dst .f32 .f64 a b _ _ hs hd (by show (floatToFloatBits .f32 a .f64).bind _ = _; rw [wid_some ha]; show (floatToFloatBits .f32 b .f64).bind _ = _; rw [wid_some hb]; rfl)
@[go_sem] theorem run_narC {P : Program} (w : World) (src dst : TypeId) {a b : Nat} (hs : (P.underlying src).isSome = true) (hd : P.underlying dst = some (.complex .f32)) (ha : narOk a = true) (hb : narOk b = true) : (convert src dst (.complex .f64 a b)).run P w = .ok (.complex .f32 (nar a) (nar b)) w :=
  run_convert_complex w src dst .f64 .f32 a b _ _ hs hd (by
    have e1 : floatToFloatBits .f64 a .f32 = some (nar a) := some_getD (Option.isSome_iff_exists.1 ha)
    have e2 : floatToFloatBits .f64 b .f32 = some (nar b) := some_getD (Option.isSome_iff_exists.1 hb)
    show (floatToFloatBits .f64 a .f32).bind _ = _; rw [e1]; show (floatToFloatBits .f64 b .f32).bind _ = _; rw [e2]; rfl)

/-- a word that equals itself, and is the positive zero if it is a zero -/
structure SameF (x : Nat) : Prop where
  num : num64 x = true
  zero : x = 0 ∨ (FloatKind.f64.format.order x 0 == some Ordering.eq) = false
theorem SameF.refl_ {x : Nat} (h : SameF x) : (FloatKind.f64.format.order x x == some Ordering.eq) = true := by
  have h1 := Fl.order_num Ieee.double h.num h.num
  have h2 : FloatKind.f64.format.order x x = some (compare (Fl.sc Ieee.double x) (Fl.sc Ieee.double x)) := h1
  rw [h2, show compare (Fl.sc Ieee.double x) (Fl.sc Ieee.double x) = .eq from Std.ReflCmp.compare_self]; rfl
theorem run_oneOver {P : Program} (w : World) : (binOp .quo 63 (.float .f64 4607182418800017408) (.float .f64 0)).run P w = .ok (.float .f64 9218868437227405312) w :=
  run_float_arith w .quo 63 .f64 _ _ _ (by kernel_rfl)
theorem sameF0_c (w : World) : Calls Try.prog 264 #[.float .f64 0, .float .f64 0] w fun e w' => e = .returned (.bool true) ∧ w = w' := by
  have h1 : (FloatKind.f64.format.order 0 0 == some Ordering.eq) = true := by decide
  have h2 : (FloatKind.f64.format.order 9218868437227405312 0 == some Ordering.gt) = true := by decide
  have h3 := fun W => run_oneOver (P := Try.prog) W
  go_enter Try.func264, Try.ntmps264
  go_wp2
  go_ret
  exact ⟨rfl, rfl⟩
theorem sameF_c (x : Nat) (w : World) (h : SameF x) : Calls Try.prog 264 #[.float .f64 x, .float .f64 x] w fun e w' => e = .returned (.bool true) ∧ w = w' := by
  rcases h.zero with rfl | h0
  · exact sameF0_c w
  · have h1 := h.refl_
    have h2 := h.num
    have h3 : (FloatKind.f64.format.order x x != some Ordering.eq) = false := by rw [bne, h1]; rfl
    clear h
    go_enter Try.func264, Try.ntmps264
    go_wp2
    go_ret
    exact ⟨rfl, rfl⟩
theorem sameC_c (x y : Nat) (w : World) (h : SameF x) (k : SameF y) : Calls Try.prog 290 #[.complex .f64 x y, .complex .f64 x y] w fun e w' => e = .returned (.bool true) ∧ w = w' := by
  have H := Lib.hid h
  have K := Lib.hid k
  clear h k
  go_enter Try.func290, Try.ntmps290
  go_wp2_with fail
  refine (sameF_c x _ H.out).mono ?_
  rintro e w' ⟨rfl, rfl⟩
  go_wp2_with fail
  refine (sameF_c y _ K.out).mono ?_
  rintro e w' ⟨rfl, rfl⟩
  go_wp2_with fail
  go_ret
  exact ⟨rfl, rfl⟩

/-- a grain whose words equal themselves -/
structure G.Same (g : G) : Prop where
  ok : g.Ok
  ax : SameF (wid g.ax)
  ay : SameF (wid g.ay)
  sx : SameF (wid g.sx)
  sy : SameF (wid g.sy)
  rad : SameF (wid g.rad)
  mass : SameF (wid g.mass)
  turn : SameF (wid g.turn)
  spin : SameF (wid g.spin)
structure Wl.Same (l : Wl) : Prop where
  fx : num32 l.fx = true
  fy : num32 l.fy = true
  tx : num32 l.tx = true
  ty : num32 l.ty = true
  vx : num32 l.vx = true
  vy : num32 l.vy = true
  fxs : SameF (wid l.fx)
  fys : SameF (wid l.fy)
  txs : SameF (wid l.tx)
  tys : SameF (wid l.ty)
  vxs : SameF (wid l.vx)
  vys : SameF (wid l.vy)

theorem eqGrain_c (g : G) (w : World) (h : g.Same) : Calls Try.prog 289 #[g.val, g.val] w fun e w' => e = .returned (.bool true) ∧ Below w.heap.size w w' := by
  have H := Lib.hid h
  have u1 := und28
  have u2 := und37
  have u3 := Try.underlying63
  have u4 := Try.underlying288
  obtain ⟨h1, h2, h3, h4, h5, h6, h7, h8, _, _⟩ := h.ok
  clear h
  go_enter Try.func289, Try.ntmps289
  go_wp2_with fail
  refine (sameC_c _ _ _ H.out.ax H.out.ay).mono ?_
  rintro e w' ⟨rfl, rfl⟩
  go_wp2_with fail
  refine (sameC_c _ _ _ H.out.sx H.out.sy).mono ?_
  rintro e w' ⟨rfl, rfl⟩
  go_wp2_with fail
  refine (sameF_c _ _ H.out.rad).mono ?_
  rintro e w' ⟨rfl, rfl⟩
  go_wp2_with fail
  refine (sameF_c _ _ H.out.mass).mono ?_
  rintro e w' ⟨rfl, rfl⟩
  go_wp2_with fail
  refine (sameF_c _ _ H.out.turn).mono ?_
  rintro e w' ⟨rfl, rfl⟩
  go_wp2_with fail
  refine (sameF_c _ _ H.out.spin).mono ?_
  rintro e w' ⟨rfl, rfl⟩
  go_wp2_with fail
  go_ret
  exact ⟨rfl, balloc (balloc (Below.refl _ _) (Nat.le_refl _) _) (Nat.le_refl _) _⟩
theorem eqWall_c (l : Wl) (w : World) (h : l.Same) : Calls Try.prog 265 #[l.val, l.val] w fun e w' => e = .returned (.bool true) ∧ Below w.heap.size w w' := by
  have H := Lib.hid h
  have u1 := und28
  have u4 := Try.underlying288
  obtain ⟨h1, h2, h3, h4, h5, h6, _⟩ := h
  go_enter Try.func265, Try.ntmps265
  go_wp2_with fail
  refine (sameC_c _ _ _ H.out.fxs H.out.fys).mono ?_
  rintro e w' ⟨rfl, rfl⟩
  go_wp2_with fail
  refine (sameC_c _ _ _ H.out.txs H.out.tys).mono ?_
  rintro e w' ⟨rfl, rfl⟩
  go_wp2_with fail
  refine (sameC_c _ _ _ H.out.vxs H.out.vys).mono ?_
  rintro e w' ⟨rfl, rfl⟩
  go_wp2_with fail
  go_ret
  exact ⟨rfl, balloc (balloc (Below.refl _ _) (Nat.le_refl _) _) (Nat.le_refl _) _⟩
end Go.Proofs.Ytdnhdfnghkkncaa
