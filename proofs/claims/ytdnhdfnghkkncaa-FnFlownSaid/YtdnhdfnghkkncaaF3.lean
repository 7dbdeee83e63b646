/-
  FnFlown, plain facts of the second half: momentum of a pushed heap, grains in the box of their heap.
-/
import Derived.Test.YtdnhdfnghkkncaaF2
import Derived.Test.YtdnhdfnghkkncaaC5
set_option linter.unusedSimpArgs false
set_option linter.unusedVariables false
set_option maxRecDepth 100000
namespace Go.Proofs.Ytdnhdfnghkkncaa
open Go.RowKit

theorem part_bound {S M : Int} (hS : -100 ≤ S ∧ S ≤ 100) (hM : 1 ≤ M ∧ M ≤ 8) : -800 ≤ S * M ∧ S * M ≤ 800 := by
  rcases mass_cases hM with rfl | rfl | rfl | rfl | rfl | rfl | rfl | rfl <;> omega
theorem push_mom {g0 g1 g2 : G} {S0 T0 S1 T1 S2 T2 M0 M1 M2 P Q : Int} {px py : Nat} (s0 : IsG 3 S0 g0.sx) (t0 : IsG 3 T0 g0.sy) (s1 : IsG 3 S1 g1.sx) (t1 : IsG 3 T1 g1.sy) (s2 : IsG 3 S2 g2.sx) (t2 : IsG 3 T2 g2.sy)
   (m0 : IsG 2 M0 g0.mass) (m1 : IsG 2 M1 g1.mass) (m2 : IsG 2 M2 g2.mass) (hp : IsG 2 P px) (hq : IsG 2 Q py) (b0 : -100 ≤ S0 ∧ S0 ≤ 100) (c0 : -100 ≤ T0 ∧ T0 ≤ 100) (b1 : -100 ≤ S1 ∧ S1 ≤ 100) (c1 : -100 ≤ T1 ∧ T1 ≤ 100) (b2 : -100 ≤ S2 ∧ S2 ≤ 100) (c2 : -100 ≤ T2 ∧ T2 ≤ 100)
   (n0 : 1 ≤ M0 ∧ M0 ≤ 8) (n1 : 1 ≤ M1 ∧ M1 ≤ 8) (n2 : 1 ≤ M2 ∧ M2 ≤ 8) (hP : -16 ≤ P ∧ P ≤ 16) (hQ : -16 ≤ Q ∧ Q ≤ 16) (o0 : g0.held = false) (o2 : g2.held = false) :
   MomOk [g0, g1, g2] ∧ MomOk [pushG px py g0, { g1 with held := true }, pushG px py g2] ∧ num32 g0.mass = true ∧ num32 g2.mass = true ∧ num32 (fadd g0.mass g2.mass) = true ∧ CmulOk px py (fadd g0.mass g2.mass) 0 ∧
     num32 (cre px py (fadd g0.mass g2.mass) 0) = true ∧ num32 (cim px py (fadd g0.mass g2.mass) 0) = true ∧ num32 (mom [g0, g1, g2]).1 = true ∧ num32 (mom [g0, g1, g2]).2 = true ∧
     ApartOk (mom [pushG px py g0, { g1 with held := true }, pushG px py g2]).1 (mom [pushG px py g0, { g1 with held := true }, pushG px py g2]).2 (fadd (mom [g0, g1, g2]).1 (cre px py (fadd g0.mass g2.mass) 0)) (fadd (mom [g0, g1, g2]).2 (cim px py (fadd g0.mass g2.mass) 0)) := by
  have e0 : pushG px py g0 = { g0 with sx := fadd g0.sx px, sy := fadd g0.sy py } := by unfold pushG; rw [if_neg (by rw [o0]; decide)]
  have e2 : pushG px py g2 = { g2 with sx := fadd g2.sx px, sy := fadd g2.sy py } := by unfold pushG; rw [if_neg (by rw [o2]; decide)]
  have fp : IsG 3 (P * 2) px := hp.fine (k := 1) (by omega)
  have fq : IsG 3 (Q * 2) py := hq.fine (k := 1) (by omega)
  have k0 := part_bound b0 n0
  have k1 := part_bound b1 n1
  have k2 := part_bound b2 n2
  have l0 := part_bound c0 n0
  have l1 := part_bound c1 n1
  have l2 := part_bound c2 n2
  have x0 := part_num s0 m0 (by omega) (mass_cases n0)
  have x1 := part_num s1 m1 (by omega) (mass_cases n1)
  have x2 := part_num s2 m2 (by omega) (mass_cases n2)
  have y0 := part_num t0 m0 (by omega) (mass_cases n0)
  have y1 := part_num t1 m1 (by omega) (mass_cases n1)
  have y2 := part_num t2 m2 (by omega) (mass_cases n2)
  have u0 := part_num (IsG.add s0 fp (by omega)) m0 (by omega) (mass_cases n0)
  have u2 := part_num (IsG.add s2 fp (by omega)) m2 (by omega) (mass_cases n2)
  have v0 := part_num (IsG.add t0 fq (by omega)) m0 (by omega) (mass_cases n0)
  have v2 := part_num (IsG.add t2 fq (by omega)) m2 (by omega) (mass_cases n2)
  obtain ⟨z1, z2, z3⟩ := mom3 x0.1 x1.1 x2.1 y0.1 y1.1 y2.1 x0.2 x1.2 x2.2 y0.2 y1.2 y2.2
  have w := mom3 (g0 := pushG px py g0) (g1 := { g1 with held := true }) (g2 := pushG px py g2) (by rw [e0]; exact u0.1) x1.1 (by rw [e2]; exact u2.1) (by rw [e0]; exact v0.1) y1.1 (by rw [e2]; exact v2.1) u0.2 x1.2 u2.2 v0.2 y1.2 v2.2
  obtain ⟨w1, w2, w3⟩ := w
  have hm := IsG.add m0 m2 (by omega)
  have pm : -256 ≤ P * (M0 + M2) ∧ P * (M0 + M2) ≤ 256 := by
    have a := part_bound (S := P) (by omega) n0
    have b := part_bound (S := P) (by omega) n2
    have a' : -128 ≤ P * M0 ∧ P * M0 ≤ 128 := by rcases mass_cases n0 with rfl | rfl | rfl | rfl | rfl | rfl | rfl | rfl <;> omega
    have b' : -128 ≤ P * M2 ∧ P * M2 ≤ 128 := by rcases mass_cases n2 with rfl | rfl | rfl | rfl | rfl | rfl | rfl | rfl <;> omega
    rw [Int.mul_add]; omega
  have qm : -256 ≤ Q * (M0 + M2) ∧ Q * (M0 + M2) ≤ 256 := by
    have a' : -128 ≤ Q * M0 ∧ Q * M0 ≤ 128 := by rcases mass_cases n0 with rfl | rfl | rfl | rfl | rfl | rfl | rfl | rfl <;> omega
    have b' : -128 ≤ Q * M2 ∧ Q * M2 ≤ 128 := by rcases mass_cases n2 with rfl | rfl | rfl | rfl | rfl | rfl | rfl | rfl <;> omega
    rw [Int.mul_add]; omega
  obtain ⟨d1, d2, d3⟩ := IsG.cmul hp hq hm (isG0 2) (by omega) (by omega) (by omega) (by omega) (by omega)
  have d2' : IsG 5 (2 * (P * (M0 + M2))) (cre px py (fadd g0.mass g2.mass) 0) := (d2.fine (k := 1) (by omega)).eq_ (by simp; omega)
  have d3' : IsG 5 (2 * (Q * (M0 + M2))) (cim px py (fadd g0.mass g2.mass) 0) := (d3.fine (k := 1) (by omega)).eq_ (by simp; omega)
  have r1 : (S0 + P * 2) * M0 + S1 * M1 + (S2 + P * 2) * M2 = S0 * M0 + S1 * M1 + S2 * M2 + 2 * (P * (M0 + M2)) := by
    rw [Int.mul_add, Int.add_mul, Int.add_mul, Int.mul_right_comm P 2 M0, Int.mul_right_comm P 2 M2]; omega
  have r2 : (T0 + Q * 2) * M0 + T1 * M1 + (T2 + Q * 2) * M2 = T0 * M0 + T1 * M1 + T2 * M2 + 2 * (Q * (M0 + M2)) := by
    rw [Int.mul_add, Int.add_mul, Int.add_mul, Int.mul_right_comm Q 2 M0, Int.mul_right_comm Q 2 M2]; omega
  have s := IsG.add z2 d2' (by omega)
  have t := IsG.add z3 d3' (by omega)
  exact ⟨z1, w1, m0.num, m2.num, hm.num, d1, d2.num, d3.num, z2.num, z3.num, apart_ok (w2.eq_ r1) s (w3.eq_ r2) t (by omega)⟩

/-- a grain lies in a box -/
structure InBox (g : G) (a b c d : Nat) : Prop where
  x0 : (FloatKind.f32.format.order (fsub g.ax g.rad) a == some Ordering.lt) = false
  y0 : (FloatKind.f32.format.order (fsub g.ay g.rad) b == some Ordering.lt) = false
  x1 : (FloatKind.f32.format.order (fadd g.ax g.rad) c == some Ordering.gt) = false
  y1 : (FloatKind.f32.format.order (fadd g.ay g.rad) d == some Ordering.gt) = false
theorem GIs.box {g : G} {v : V} (h : GIs g v) (q : v.Good) (hx : -100 ≤ v.x ∧ v.x ≤ 100) : BoxIs g := by
  have h1 := q.y
  have h2 := q.rad
  exact ⟨⟨_, IsG.sub h.ax h.rad (by omega)⟩, ⟨_, IsG.sub h.ay h.rad (by omega)⟩, ⟨_, IsG.add h.ax h.rad (by omega)⟩, ⟨_, IsG.add h.ay h.rad (by omega)⟩⟩
theorem Box.has {gs : List G} {a b c d : Nat} (h : Box gs a b c d) {g : G} (hg : g ∈ gs) (k : BoxIs g) : InBox g a b c d := by
  obtain ⟨⟨p, h1⟩, ⟨q, h2⟩, ⟨r, h3⟩, ⟨s, h4⟩⟩ := k
  obtain ⟨⟨p', i1, j1⟩, ⟨q', i2, j2⟩, ⟨r', i3, j3⟩, ⟨s', i4, j4⟩⟩ := h
  have e1 := j1 g hg p h1
  have e2 := j2 g hg q h2
  have e3 := j3 g hg r h3
  have e4 := j4 g hg s h4
  have f1 : flt (bx0 g) a = false := by rw [h1.lt i1]; exact decide_eq_false (by omega)
  have f2 : flt (by0 g) b = false := by rw [h2.lt i2]; exact decide_eq_false (by omega)
  have f3 : fgt (bx1 g) c = false := by rw [h3.gt i3]; exact decide_eq_false (by omega)
  have f4 : fgt (by1 g) d = false := by rw [h4.gt i4]; exact decide_eq_false (by omega)
  exact ⟨f1, f2, f3, f4⟩

theorem flyG_turn {x : G} (h : x.held = false) (p q t : Nat) : (flyG p q t x).turn = turnFly x.turn x.spin t ∧ (flyG p q t x).spin = x.spin ∧ (flyG p q t x).held = false := by
  unfold flyG
  rw [if_neg (by rw [h]; decide)]
  exact ⟨rfl, rfl, h⟩
/-- what the second test of a round asks -/
structure PullOk (px py : Nat) (g f : G) : Prop where
  mul : CmulOk px py halfT 0
  re : num32 (cre px py halfT 0) = true
  im : num32 (cim px py halfT 0) = true
  sx : num32 g.sx = true
  sy : num32 g.sy = true
  far : ApartOk f.sx f.sy (fadd g.sx (cre px py halfT 0)) (fadd g.sy (cim px py halfT 0))
theorem round_ok2 {g r b : G} {X Y S T Xb Yb S' T' X' Y' S2 T2 : Int} (h : Fine g X Y S T) (hr : Fine r X' Y' S2 T2) (hb : Fine b Xb Yb S' T') (e1 : S2 = S) (e2 : T2 = T) (e3 : Xb = X) (e4 : Yb = Y) (rg : Rest g) (rb : Rest b)
   (eb : b.turn = turnFly (turnFly g.turn g.spin halfT) g.spin nhalfT)
   (t1 : num64 (dsub (wid (turnFly (turnFly g.turn g.spin halfT) g.spin nhalfT)) (wid g.turn)) = true) (t2 : num64 (dsub (wid g.turn) (wid (turnFly (turnFly g.turn g.spin halfT) g.spin nhalfT))) = true)
   (t3 : (FloatKind.f64.format.order (dmax (dsub (wid (turnFly (turnFly g.turn g.spin halfT) g.spin nhalfT)) (wid g.turn)) (dsub (wid g.turn) (wid (turnFly (turnFly g.turn g.spin halfT) g.spin nhalfT)))) 4562254508917369340 == some Ordering.gt) = false) : RoundOk g r b := by
  subst e3 e4
  have tb := rb.turn
  rw [← eb] at t1 t2 t3
  exact round_ok h hr hb e1 e2 tb rg.turn t1 t2 t3
theorem pull_ok2 {g f : G} {X Y S T P Q X' Y' S' T' : Int} {px py : Nat} (h : Fine g X Y S T) (hf : Fine f X' Y' S' T') (hp : IsG 2 P px) (hq : IsG 2 Q py) (e1 : S' = S + P * 1) (e2 : T' = T + Q * 1)
   (hS : -1000 ≤ S ∧ S ≤ 1000) (hT : -1000 ≤ T ∧ T ≤ 1000) (hP : -100 ≤ P ∧ P ≤ 100) (hQ : -100 ≤ Q ∧ Q ≤ 100) : PullOk px py g f := by
  subst e1 e2
  obtain ⟨a, b, c, d⟩ := pulled_ok h.sx h.sy hp hq hf.sx hf.sy hS hT hP hQ
  exact ⟨a, b, c, h.sx.num, h.sy.num, d⟩
end Go.Proofs.Ytdnhdfnghkkncaa
