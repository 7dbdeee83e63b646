/-
  FnFlown, plain facts: grains of a row that fly, there and back, and are pushed. No program is stepped through.
-/
import Derived.Test.YtdnhdfnghkkncaaC4
set_option linter.unusedSimpArgs false
set_option linter.unusedVariables false
set_option maxRecDepth 100000
namespace Go.Proofs.Ytdnhdfnghkkncaa
open Go.RowKit

abbrev halfT : Nat := 1056964608
abbrev nhalfT : Nat := 3204448256
theorem isHalf : IsG 1 1 halfT := ⟨by decide, by decide⟩
theorem isNHalf : IsG 1 (-1) nhalfT := ⟨by decide, by decide⟩

/-- one coordinate that flies -/
theorem fly_num {a s p t : Nat} {X S P e : Int} (ha : IsG 4 X a) (hs : IsG 3 S s) (hp : IsG 2 P p) (ht : IsG 1 e t) (he : e = 1 ∨ e = -1) (hX : -10000 ≤ X ∧ X ≤ 10000) (hS : -1000 ≤ S ∧ S ≤ 1000) (hP : -100 ≤ P ∧ P ≤ 100) :
   IsG 3 (P * e) (fmul p t) ∧ IsG 3 (S + P * e) (fadd s (fmul p t)) ∧ IsG 4 ((S + P * e) * e) (fmul (fadd s (fmul p t)) t) ∧ IsG 4 (X + (S + P * e) * e) (fadd a (fmul (fadd s (fmul p t)) t)) := by
  rcases he with rfl | rfl
  · have h1 := IsG.mul hp ht (by omega) (by omega)
    have h2 := IsG.add hs h1 (by omega)
    have h3 := IsG.mul h2 ht (by omega) (by omega)
    exact ⟨h1, h2, h3, IsG.add ha h3 (by omega)⟩
  · have h1 := IsG.mul hp ht (by omega) (by omega)
    have h2 := IsG.add hs h1 (by omega)
    have h3 := IsG.mul h2 ht (by omega) (by omega)
    exact ⟨h1, h2, h3, IsG.add ha h3 (by omega)⟩

/-- a grain's numbers on finer grids -/
structure Fine (g : G) (X Y S T : Int) : Prop where
  ax : IsG 4 X g.ax
  ay : IsG 4 Y g.ay
  sx : IsG 3 S g.sx
  sy : IsG 3 T g.sy
structure Rest (g : G) : Prop where
  rad : num32 g.rad = true
  mass : num32 g.mass = true
  turn : num32 g.turn = true
  spin : num32 g.spin = true
  radp : fgt g.rad 0 = true
  massp : fgt g.mass 0 = true
theorem GIs.fine {g : G} {v : V} (h : GIs g v) : Fine g (v.x * 4) (v.y * 4) (v.sx * 2) (v.sy * 2) :=
  ⟨h.ax.fine (k := 2) (by omega), h.ay.fine (k := 2) (by omega), h.sx.fine (k := 1) (by omega), h.sy.fine (k := 1) (by omega)⟩
theorem GIs.rest {g : G} {v : V} (h : GIs g v) (hv : v.Good) : Rest g := by
  have k := h.ok hv
  exact ⟨k.rad, k.mass, k.turn, k.spin, k.radp, k.massp⟩
theorem Fine.ok {g : G} {X Y S T : Int} (h : Fine g X Y S T) (r : Rest g) : g.Ok := ⟨h.ax.num, h.ay.num, h.sx.num, h.sy.num, r.rad, r.mass, r.turn, r.spin, r.radp, r.massp⟩

/-- what a flight asks of the turn -/
structure TurnFlies (T S t : Nat) : Prop where
  h7 : num32 (fmul S t) = true
  h8 : num32 (fdiv (fmul S t) 1086918619) = true
  h9 : num32 (turnFly T S t) = true
theorem turn_there {T S : Nat} (h : turnOk T S = true) : TurnFlies T S halfT ∧ TurnFlies (turnFly T S halfT) S nhalfT ∧
   num64 (dsub (wid (turnFly (turnFly T S halfT) S nhalfT)) (wid T)) = true ∧ num64 (dsub (wid T) (wid (turnFly (turnFly T S halfT) S nhalfT))) = true ∧
   (FloatKind.f64.format.order (dmax (dsub (wid (turnFly (turnFly T S halfT) S nhalfT)) (wid T)) (dsub (wid T) (wid (turnFly (turnFly T S halfT) S nhalfT)))) 4562254508917369340 == some .gt) = false := by
  unfold turnOk at h
  simp only [Bool.and_eq_true, Bool.not_eq_true'] at h
  obtain ⟨⟨⟨⟨⟨⟨⟨⟨a1, a2⟩, a3⟩, a4⟩, a5⟩, a6⟩, a7⟩, a8⟩, a9⟩ := h
  exact ⟨⟨a1, a2, a3⟩, ⟨a4, a5, a6⟩, a7, a8, a9⟩

/-- a grain that is not held flies -/
theorem fly_fine {g : G} {X Y S T P Q e : Int} {px py t : Nat} (h : Fine g X Y S T) (r : Rest g) (hp : IsG 2 P px) (hq : IsG 2 Q py) (ht : IsG 1 e t) (he : e = 1 ∨ e = -1) (hX : -10000 ≤ X ∧ X ≤ 10000) (hY : -10000 ≤ Y ∧ Y ≤ 10000)
   (hS : -1000 ≤ S ∧ S ≤ 1000) (hT : -1000 ≤ T ∧ T ≤ 1000) (hP : -100 ≤ P ∧ P ≤ 100) (hQ : -100 ≤ Q ∧ Q ≤ 100) (ht2 : TurnFlies g.turn g.spin t) (hh : g.held = false) :
   FlyOk px py t g ∧ Fine (flyG px py t g) (X + (S + P * e) * e) (Y + (T + Q * e) * e) (S + P * e) (T + Q * e) ∧ Rest (flyG px py t g) := by
  obtain ⟨x1, x2, x3, x4⟩ := fly_num h.ax h.sx hp ht he hX hS hP
  obtain ⟨y1, y2, y3, y4⟩ := fly_num h.ay h.sy hq ht he hY hT hQ
  have e1 : flyG px py t g = { g with sx := fadd g.sx (fmul px t), sy := fadd g.sy (fmul py t), ax := fadd g.ax (fmul (fadd g.sx (fmul px t)) t), ay := fadd g.ay (fmul (fadd g.sy (fmul py t)) t), turn := turnFly g.turn g.spin t } := by
    unfold flyG; rw [if_neg (by rw [hh]; decide)]
  rw [e1]
  exact ⟨⟨h.ax.num, h.ay.num, h.sx.num, h.sy.num, r.turn, r.spin, x1.num, y1.num, x2.num, y2.num, x3.num, y3.num, ht2.h7, ht2.h8⟩, ⟨x4, y4, x2, y2⟩, ⟨r.rad, r.mass, ht2.h9, r.spin, r.radp, r.massp⟩⟩
theorem push_fine {g : G} {X Y S T P Q : Int} {px py : Nat} (h : Fine g X Y S T) (r : Rest g) (hp : IsG 2 P px) (hq : IsG 2 Q py)
   (hS : -1000 ≤ S ∧ S ≤ 1000) (hT : -1000 ≤ T ∧ T ≤ 1000) (hP : -100 ≤ P ∧ P ≤ 100) (hQ : -100 ≤ Q ∧ Q ≤ 100) (hh : g.held = false) :
   Fine (pushG px py g) X Y (S + P * 2) (T + Q * 2) ∧ Rest (pushG px py g) := by
  have e1 : pushG px py g = { g with sx := fadd g.sx px, sy := fadd g.sy py } := by unfold pushG; rw [if_neg (by rw [hh]; decide)]
  rw [e1]
  have fp : IsG 3 (P * 2) px := hp.fine (k := 1) (by omega)
  have fq : IsG 3 (Q * 2) py := hq.fine (k := 1) (by omega)
  exact ⟨⟨h.ax, h.ay, IsG.add h.sx fp (by omega), IsG.add h.sy fq (by omega)⟩, ⟨r.rad, r.mass, r.turn, r.spin, r.radp, r.massp⟩⟩

/-- a part of the momentum -/
theorem part_num {s m : Nat} {S M : Int} (hs : IsG 3 S s) (hm : IsG 2 M m) (hS : -1000 ≤ S ∧ S ≤ 1000) (hM : M = 1 ∨ M = 2 ∨ M = 3 ∨ M = 4 ∨ M = 5 ∨ M = 6 ∨ M = 7 ∨ M = 8) : IsG 5 (S * M) (fmul s m) ∧ -8000 ≤ S * M ∧ S * M ≤ 8000 := by
  have hb : -8000 ≤ S * M ∧ S * M ≤ 8000 := by rcases hM with rfl | rfl | rfl | rfl | rfl | rfl | rfl | rfl <;> omega
  exact ⟨IsG.mul hs hm (by omega) (by omega), hb.1, hb.2⟩
theorem mass_cases {M : Int} (h : 1 ≤ M ∧ M ≤ 8) : M = 1 ∨ M = 2 ∨ M = 3 ∨ M = 4 ∨ M = 5 ∨ M = 6 ∨ M = 7 ∨ M = 8 := by omega
/-- the momentum of three grains -/
theorem mom3 {g0 g1 g2 : G} {k0 k1 k2 l0 l1 l2 : Int} (a0 : IsG 5 k0 (fmul g0.sx g0.mass)) (a1 : IsG 5 k1 (fmul g1.sx g1.mass)) (a2 : IsG 5 k2 (fmul g2.sx g2.mass)) (b0 : IsG 5 l0 (fmul g0.sy g0.mass)) (b1 : IsG 5 l1 (fmul g1.sy g1.mass)) (b2 : IsG 5 l2 (fmul g2.sy g2.mass))
   (c0 : -8000 ≤ k0 ∧ k0 ≤ 8000) (c1 : -8000 ≤ k1 ∧ k1 ≤ 8000) (c2 : -8000 ≤ k2 ∧ k2 ≤ 8000) (d0 : -8000 ≤ l0 ∧ l0 ≤ 8000) (d1 : -8000 ≤ l1 ∧ l1 ≤ 8000) (d2 : -8000 ≤ l2 ∧ l2 ≤ 8000) :
   MomOk [g0, g1, g2] ∧ IsG 5 (k0 + k1 + k2) (mom [g0, g1, g2]).1 ∧ IsG 5 (l0 + l1 + l2) (mom [g0, g1, g2]).2 := by
  have x0 := (IsG.add (isG0 5) a0 (by omega)).eq_ (m := k0) (by omega)
  have x1 := IsG.add x0 a1 (by omega)
  have x2 := IsG.add x1 a2 (by omega)
  have y0 := (IsG.add (isG0 5) b0 (by omega)).eq_ (m := l0) (by omega)
  have y1 := IsG.add y0 b1 (by omega)
  have y2 := IsG.add y1 b2 (by omega)
  refine ⟨⟨?_, ?_⟩, x2, y2⟩
  · intro g hg
    simp at hg
    rcases hg with rfl | rfl | rfl
    · exact ⟨a0.num, b0.num⟩
    · exact ⟨a1.num, b1.num⟩
    · exact ⟨a2.num, b2.num⟩
  · intro j
    match j with
    | 0 => exact ⟨(isG0 5).num, (isG0 5).num⟩
    | 1 => exact ⟨x0.num, y0.num⟩
    | 2 => exact ⟨x1.num, y1.num⟩
    | j + 3 =>
      have e : [g0, g1, g2].take (j + 3) = [g0, g1, g2] := List.take_of_length_le (by simp)
      rw [e]
      exact ⟨x2.num, y2.num⟩
theorem three {gs : List G} (h : gs.length = 3) : ∃ g0 g1 g2, gs = [g0, g1, g2] := by
  match gs, h with
  | [g0, g1, g2], _ => exact ⟨g0, g1, g2, rfl⟩
theorem same_feq {g : Nat} {n : Int} {x y : Nat} (hx : IsG g n x) (hy : IsG g n y) : (FloatKind.f32.format.order x y == some Ordering.eq) = true := by
  have := hx.feq hy
  simpa using this
end Go.Proofs.Ytdnhdfnghkkncaa
