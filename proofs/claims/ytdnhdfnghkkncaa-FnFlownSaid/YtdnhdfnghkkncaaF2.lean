/-
  FnFlown, plain facts of one grain's round: speeds, places and turns that come back.
-/
import Derived.Test.YtdnhdfnghkkncaaF0
set_option linter.unusedSimpArgs false
set_option linter.unusedVariables false
set_option maxRecDepth 100000
namespace Go.Proofs.Ytdnhdfnghkkncaa
open Go.RowKit

/-- two points are nothing apart, and the walk may reckon it -/
def ApartOk (a b c d : Nat) : Prop := num32 a = true ∧ num32 b = true ∧ num32 c = true ∧ num32 d = true ∧ ∃ r, PowOk (fsub a c) (fsub b d) ∧ Ieee.double.sqrt (wpow (fsub a c) (fsub b d)) = some r ∧ narOk r = true ∧ num32 (nar r) = true ∧ num64 (wid (nar r)) = true ∧ (FloatKind.f64.format.order (wid (nar r)) 4562254508917369340 == some Ordering.gt) = false
theorem apart_ok {g : Nat} {n m : Int} {a b c d : Nat} (ha : IsG g n a) (hc : IsG g n c) (hb : IsG g m b) (hd : IsG g m d) (hg : g ≤ 70) : ApartOk a b c d := by
  obtain ⟨r, z, h1, h2, h3, h4, rfl, h6, h7⟩ := apart_zero (k := 0) ha hc hb hd hg
  exact ⟨ha.num, hb.num, hc.num, hd.num, r, h1, h2, h3, h4, h6, h7⟩
/-- the answer of a call of r8Apart -/
def apartW (a b c d : Nat) : Nat := wid (nar ((Ieee.double.sqrt (wpow (fsub a c) (fsub b d))).getD 0))
theorem ApartOk.call {a b c d : Nat} (h : ApartOk a b c d) (w : World) : Calls Try.prog 32 #[.complex .f32 a b, .complex .f32 c d] w fun e w' => e = .returned (.float .f64 (apartW a b c d)) ∧ w = w' := by
  obtain ⟨ha, hb, hc, hd, r, h1, h2, h3, h4, _, _⟩ := h
  have e : apartW a b c d = wid (nar r) := by unfold apartW; rw [h2]; rfl
  rw [e]
  exact apart_c w ha hb hc hd h1 h2 h3 h4
theorem ApartOk.near {a b c d : Nat} (h : ApartOk a b c d) : (FloatKind.f64.format.order (apartW a b c d) 4562254508917369340 == some Ordering.gt) = false := by
  obtain ⟨_, _, _, _, r, _, h2, _, _, _, h6⟩ := h
  have e : apartW a b c d = wid (nar r) := by unfold apartW; rw [h2]; rfl
  rw [e]; exact h6

/-- what the walk asks of a round: g the grain, r after a free flight, b after the way back -/
structure RoundOk (g r b : G) : Prop where
  sx : (FloatKind.f32.format.order r.sx g.sx == some Ordering.eq) = true
  sy : (FloatKind.f32.format.order r.sy g.sy == some Ordering.eq) = true
  at_ : ApartOk b.ax b.ay g.ax g.ay
  tb : num32 b.turn = true
  tg : num32 g.turn = true
  t1 : num64 (dsub (wid b.turn) (wid g.turn)) = true
  t2 : num64 (dsub (wid g.turn) (wid b.turn)) = true
  t3 : (FloatKind.f64.format.order (dmax (dsub (wid b.turn) (wid g.turn)) (dsub (wid g.turn) (wid b.turn))) 4562254508917369340 == some Ordering.gt) = false
theorem round_ok {g : G} {X Y S T : Int} {b r : G} {X' Y' S' T' S2 T2 : Int} (h : Fine g X Y S T) (hr : Fine r X' Y' S2 T2) (hb : Fine b X Y S' T') (e1 : S2 = S) (e2 : T2 = T) (tb : num32 b.turn = true) (tg : num32 g.turn = true)
   (t1 : num64 (dsub (wid b.turn) (wid g.turn)) = true) (t2 : num64 (dsub (wid g.turn) (wid b.turn)) = true) (t3 : (FloatKind.f64.format.order (dmax (dsub (wid b.turn) (wid g.turn)) (dsub (wid g.turn) (wid b.turn))) 4562254508917369340 == some Ordering.gt) = false) : RoundOk g r b := by
  subst e1 e2
  exact ⟨same_feq hr.sx h.sx, same_feq hr.sy h.sy, apart_ok hb.ax h.ax hb.ay h.ay (by omega), tb, tg, t1, t2, t3⟩
/-- the speed after a flight under a pull, told in the law's own way -/
theorem pulled_ok {g f : G} {S T P Q : Int} {px py : Nat} (hs : IsG 3 S g.sx) (ht : IsG 3 T g.sy) (hp : IsG 2 P px) (hq : IsG 2 Q py) (fs : IsG 3 (S + P * 1) f.sx) (ft : IsG 3 (T + Q * 1) f.sy)
   (hS : -1000 ≤ S ∧ S ≤ 1000) (hT : -1000 ≤ T ∧ T ≤ 1000) (hP : -100 ≤ P ∧ P ≤ 100) (hQ : -100 ≤ Q ∧ Q ≤ 100) :
   CmulOk px py halfT 0 ∧ num32 (cre px py halfT 0) = true ∧ num32 (cim px py halfT 0) = true ∧ ApartOk f.sx f.sy (fadd g.sx (cre px py halfT 0)) (fadd g.sy (cim px py halfT 0)) := by
  obtain ⟨c1, c2, c3⟩ := IsG.cmul hp hq isHalf (isG0 1) (by omega) (by omega) (by omega) (by omega) (by omega)
  have c2' : IsG 3 (P * 1 - Q * 0) (cre px py halfT 0) := c2
  have c3' : IsG 3 (P * 0 + Q * 1) (cim px py halfT 0) := c3
  have a1 := (IsG.add hs c2' (by omega)).eq_ (m := S + P * 1) (by omega)
  have a2 := (IsG.add ht c3' (by omega)).eq_ (m := T + Q * 1) (by omega)
  exact ⟨c1, c2.num, c3.num, apart_ok fs a1 ft a2 (by omega)⟩
end Go.Proofs.Ytdnhdfnghkkncaa
