/-
  FnBeyond, plain facts: places of a list, the lowest of a row's grains, walls that inputs choose. No program is stepped through.
-/
import Derived.Test.YtdnhdfnghkkncaaL4
import Derived.Test.YtdnhdfnghkkncaaS4
set_option linter.unusedSimpArgs false
set_option linter.unusedVariables false
set_option maxRecDepth 100000
namespace Go.Proofs.Ytdnhdfnghkkncaa
open Go.RowKit

/-! ### places of a list -/
theorem idxs_append {α : Type} (p : α → Bool) (xs ys : List α) : ∃ zs, idxs p (xs ++ ys) = idxs p xs ++ zs := by
  unfold idxs
  rw [List.zipIdx_append, List.filter_append, List.map_append]
  exact ⟨_, rfl⟩
theorem idxs_at {α : Type} (p : α → Bool) {xs : List α} {j : Nat} {x : α} (h : xs[j]? = some x) (hp : p x = true) : (idxs p xs)[(idxs p (xs.take j)).length]? = some (j : Int) := by
  obtain ⟨zs, hz⟩ := idxs_append p (xs.take (j + 1)) (xs.drop (j + 1))
  rw [List.take_append_drop, idxs_take p h, if_pos hp] at hz
  rw [hz]
  simp
theorem idxs_take_le {α : Type} (p : α → Bool) (xs : List α) (j : Nat) : (idxs p (xs.take j)).length ≤ (idxs p xs).length := by
  obtain ⟨zs, hz⟩ := idxs_append p (xs.take j) (xs.drop j)
  rw [List.take_append_drop] at hz
  rw [hz, List.length_append]; omega
theorem idxs_cons {α : Type} (p : α → Bool) (x : α) (xs : List α) : (idxs p (x :: xs)).length = (if p x then 1 else 0) + (idxs p xs).length := by
  unfold idxs
  rw [List.zipIdx_cons, List.filter_cons, List.length_map, List.length_map]
  have h : ∀ (k : Nat) (l : List α), (List.filter (fun y => p y.1) (l.zipIdx k)).length = (List.filter p l).length := by
    intro k l
    induction l generalizing k with
    | nil => rfl
    | cons y ys ih =>
      rw [List.zipIdx_cons, List.filter_cons, List.filter_cons]
      split <;> simp [ih]
  split <;> simp [h] <;> omega
theorem idxs_split {α : Type} (p : α → Bool) : ∀ xs : List α, (xs.filter (fun x => !p x)).length + (idxs p xs).length = xs.length
  | [] => rfl
  | x :: xs => by
    have := idxs_split p xs
    rw [idxs_cons, List.filter_cons]
    cases h : p x <;> simp <;> omega
theorem idxs_none {α : Type} (p : α → Bool) : ∀ xs : List α, (idxs p (xs.filter (fun x => !p x))).length = 0
  | [] => rfl
  | x :: xs => by
    have := idxs_none p xs
    rw [List.filter_cons]
    cases h : p x
    · simp only [Bool.not_false, if_true]
      rw [idxs_cons, h]; simpa using this
    · simpa using this

/-! ### order -/
theorem IsG.uniq {g : Nat} {n m : Int} {x : Nat} (h1 : IsG g n x) (h2 : IsG g m x) : n = m := by
  have e1 := h1.order h1
  rw [h1.order h2] at e1
  injection e1 with e1
  have : compare n n = .eq := by simp [compare, compareOfLessAndEq]
  rw [this] at e1
  simp only [compare, compareOfLessAndEq] at e1
  split at e1
  · cases e1
  · split at e1
    · assumption
    · cases e1
theorem IsG.lt {g : Nat} {n m : Int} {x y : Nat} (hx : IsG g n x) (hy : IsG g m y) : flt x y = decide (n < m) := by
  show (Ieee.single.order x y == some .lt) = _
  rw [hx.order hy]
  simp only [compare, compareOfLessAndEq]
  split
  · rename_i h; simp [h]
  · rename_i h; split <;> simp [h]
theorem IsG.gt {g : Nat} {n m : Int} {x y : Nat} (hx : IsG g n x) (hy : IsG g m y) : fgt x y = decide (m < n) := by
  show (Ieee.single.order x y == some .gt) = _
  rw [hx.order hy]
  simp only [compare, compareOfLessAndEq]
  split
  · rename_i h; simp; omega
  · rename_i h; split
    · simp; omega
    · simp; omega
theorem IsG.feq {g : Nat} {n m : Int} {x y : Nat} (hx : IsG g n x) (hy : IsG g m y) : feq x y = decide (n = m) := by
  show (Ieee.single.order x y == some .eq) = _
  rw [hx.order hy]
  simp only [compare, compareOfLessAndEq]
  split
  · rename_i h; simp; omega
  · rename_i h; split
    · simp; omega
    · simp; omega
theorem isG0 (g : Nat) : IsG g 0 0 := ⟨by decide, by simp only [Int.zero_mul]; decide⟩

/-! ### the lowest -/
theorem lowFrom_least : ∀ (gs : List G) (p : Int × Nat) (j : Nat), (∀ g ∈ gs, g.held = false ∧ ∃ m, IsG 2 m (lowW g)) → 0 ≤ p.1 → p.1 ≤ j → (∃ m, IsG 2 m p.2) →
    0 ≤ (lowFrom p j gs).1 ∧ (lowFrom p j gs).1 ≤ max p.1 (j + gs.length - 1) ∧ (∃ m0 m, IsG 2 m0 p.2 ∧ IsG 2 m (lowFrom p j gs).2 ∧ m ≤ m0) ∧ ∀ g ∈ gs, flt (lowW g) (lowFrom p j gs).2 = false
  | [], p, j, _, h0, h1, ⟨m, hm⟩ => by
    simp only [lowFrom]
    exact ⟨h0, by omega, ⟨m, m, hm, hm, by omega⟩, by simp⟩
  | g :: gs, p, j, h, h0, h1, ⟨m, hm⟩ => by
    obtain ⟨hh, mg, hg⟩ := h g (by simp)
    have hl := hg.lt hm
    have key : (lowStep p j g = ((j : Int), lowW g) ∧ mg < m) ∨ (lowStep p j g = p ∧ m ≤ mg) := by
      unfold lowStep
      rw [hh, hl]
      by_cases h5 : mg < m
      · left; simp [h5]
      · right
        have : ¬ p.1 < 0 := by omega
        simp [h5, this]; omega
    simp only [lowFrom]
    rcases key with ⟨hs, hlt⟩ | ⟨hs, hge⟩
    · obtain ⟨i1, i2, ⟨m0, m1, i3, i4, i5⟩, i6⟩ := lowFrom_least gs (lowStep p j g) (j + 1) (fun g' hg' => h g' (by simp [hg'])) (by rw [hs]; simp) (by rw [hs]; simp; omega) (by rw [hs]; exact ⟨mg, hg⟩)
      rw [hs] at i3
      have := i3.uniq hg
      subst this
      refine ⟨i1, ?_, ⟨m, m1, hm, i4, by omega⟩, ?_⟩
      · rw [hs] at i2 ⊢; simp at i2 ⊢; omega
      · intro g' hg'
        rcases List.mem_cons.1 hg' with rfl | h7
        · rw [hg.lt i4]; simp; omega
        · exact i6 g' h7
    · obtain ⟨i1, i2, ⟨m0, m1, i3, i4, i5⟩, i6⟩ := lowFrom_least gs (lowStep p j g) (j + 1) (fun g' hg' => h g' (by simp [hg'])) (by rw [hs]; exact h0) (by rw [hs]; omega) (by rw [hs]; exact ⟨m, hm⟩)
      rw [hs] at i3
      have := i3.uniq hm
      subst this
      refine ⟨i1, ?_, ⟨m0, m1, hm, i4, by omega⟩, ?_⟩
      · rw [hs] at i2 ⊢; simp at i2 ⊢; omega
      · intro g' hg'
        rcases List.mem_cons.1 hg' with rfl | h7
        · rw [hg.lt i4]; simp; omega
        · exact i6 g' h7

/-- the lowest of grains none of which is held -/
theorem low_free {gs : List G} (hne : gs ≠ []) (h : ∀ g ∈ gs, g.held = false ∧ ∃ m, IsG 2 m (lowW g)) : ∃ (b : Int) (lw : Nat), lowFrom (-1, 0) 0 gs = (b, lw) ∧ 0 ≤ b ∧ b < gs.length ∧ num32 lw = true ∧ ∀ g ∈ gs, flt (lowW g) lw = false := by
  match gs, hne, h with
  | g :: gs, _, h =>
    obtain ⟨hh, mg, hg⟩ := h g (by simp)
    have hs : lowStep (-1, 0) 0 g = (0, lowW g) := by unfold lowStep; rw [hh]; simp
    obtain ⟨i1, i2, ⟨m0, m1, i3, i4, i5⟩, i6⟩ := lowFrom_least gs (0, lowW g) 1 (fun g' hg' => h g' (by simp [hg'])) (by simp) (by simp) ⟨mg, hg⟩
    simp only at i3
    have := i3.uniq hg
    subst this
    refine ⟨(lowFrom (-1, 0) 0 (g :: gs)).1, (lowFrom (-1, 0) 0 (g :: gs)).2, rfl, ?_, ?_, ?_, ?_⟩
    all_goals simp only [lowFrom, hs, Nat.zero_add]
    · exact i1
    · simp only [List.length_cons] at i2 ⊢; simp at i2; omega
    · exact i4.num
    · intro g' hg'
      rcases List.mem_cons.1 hg' with rfl | h7
      · rw [hg.lt i4]; simp; omega
      · exact i6 g' h7
/-- none is free -/
theorem low_held : ∀ (gs : List G) (p : Int × Nat) (j : Nat), (∀ g ∈ gs, g.held = true) → lowFrom p j gs = p
  | [], _, _, _ => rfl
  | g :: gs, p, j, h => by
    have hs : lowStep p j g = p := by unfold lowStep; rw [h g (by simp)]; simp
    simp only [lowFrom]
    rw [hs]
    exact low_held gs p (j + 1) (fun g' hg' => h g' (by simp [hg']))

/-! ### a row's grains -/
theorem Row.at_ {gs : List G} {vs : List V} (h : Row gs vs) {g : G} (hg : g ∈ gs) : ∃ v, v ∈ vs ∧ GIs g v ∧ v.Good ∧ g.held = false := by
  obtain ⟨i, hi⟩ := List.mem_iff_getElem?.1 hg
  have hl : i < vs.length := by
    rw [← h.len]
    rcases Nat.lt_or_ge i gs.length with h1 | h1
    · exact h1
    · rw [List.getElem?_eq_none h1] at hi; cases hi
  have hv : vs[i]? = some vs[i] := List.getElem?_eq_getElem hl
  obtain ⟨a, b, c⟩ := h.is i g _ hi hv
  exact ⟨_, List.mem_of_getElem? hv, a, b, c⟩
theorem chain_x : ∀ (a : Int) (vs : List V), chain a vs → ∀ v ∈ vs, a + 2 ≤ v.x ∧ v.x ≤ a + 6 * vs.length
  | a, u :: us, h, v, hv => by
    obtain ⟨h1, h2, h3⟩ := h
    rcases List.mem_cons.1 hv with rfl | h4
    · simp only [List.length_cons]; omega
    · have := chain_x u.x us h3 v h4
      simp only [List.length_cons]; omega
theorem GIs.ok {g : G} {v : V} (h : GIs g v) (hv : v.Good) : g.Ok := by
  have r := hv.rad
  have m := hv.mass
  exact ⟨h.ax.num, h.ay.num, h.sx.num, h.sy.num, h.rad.num, h.mass.num, h.turn.num, h.spin.num, by rw [h.rad.gt (isG0 2)]; simp; omega, by rw [h.mass.gt (isG0 2)]; simp; omega⟩
theorem GIs.low {g : G} {v : V} (h : GIs g v) (hv : v.Good) : IsG 2 (v.y - v.rad) (lowW g) := by
  have r := hv.rad
  have y := hv.y
  exact IsG.sub h.ay h.rad (by omega)

/-- the wall that FnBeyond builds -/
abbrev wallAt (qx qy : Nat) : Wl := ⟨qx, qy, fadd qx 1073741824, fadd qy 1065353216, 0, 0⟩
theorem wallAt_ok {qx qy : Nat} {a b : Int} (ha : IsG 2 a qx) (hb : IsG 2 b qy) (ha' : -16 ≤ a ∧ a ≤ 16) (hb' : -16 ≤ b ∧ b ≤ 16) : (wallAt qx qy).Ok ∧ IsG 2 8 (fsub (fadd qx 1073741824) qx) ∧ IsG 2 4 (fsub (fadd qy 1065353216) qy) := by
  have c1 : IsG 2 8 1073741824 := ⟨by decide, by decide⟩
  have c2 : IsG 2 4 1065353216 := ⟨by decide, by decide⟩
  have t1 := IsG.add ha c1 (by omega)
  have t2 := IsG.add hb c2 (by omega)
  have d1 := (IsG.sub t1 ha (by omega)).eq_ (m := 8) (by omega)
  have d2 := (IsG.sub t2 hb (by omega)).eq_ (m := 4) (by omega)
  obtain ⟨p1, p2⟩ := IsG.pow d1 d2 (by omega) (by omega)
  refine ⟨⟨ha.num, hb.num, t1.num, t2.num, (isG0 2).num, (isG0 2).num, p1, ?_⟩, d1, d2⟩
  show fgt (fpow (fsub (fadd qx 1073741824) qx) (fsub (fadd qy 1065353216) qy)) 0 = true
  rw [p2.gt (isG0 4)]; decide
theorem wallAt_side {qx qy : Nat} {a b : Int} (ha : IsG 2 a qx) (hb : IsG 2 b qy) (ha' : -16 ≤ a ∧ a ≤ 16) (hb' : -16 ≤ b ∧ b ≤ 16) {x y : Nat} {m n : Int} (hx : IsG 2 m x) (hy : IsG 2 n y) (hm : -1000 ≤ m ∧ m ≤ 1000) (hn : -1000 ≤ n ∧ n ≤ 1000) : SideOk (wallAt qx qy) x y := by
  obtain ⟨_, d1, d2⟩ := wallAt_ok ha hb ha' hb'
  have e1 := IsG.sub hx ha (by omega)
  have e2 := IsG.sub hy hb (by omega)
  have f1 := IsG.mul d1 e2 (by omega) (by omega)
  have f2 := IsG.mul d2 e1 (by omega) (by omega)
  exact ⟨hx.num, hy.num, d1.num, d2.num, e1.num, e2.num, f1.num, f2.num, (IsG.sub f1 f2 (by omega)).num⟩

/-- the same grains, the first i of them held -/
def Like (gs hs : List G) (i : Nat) : Prop := hs.length = gs.length ∧ ∀ j h, hs[j]? = some h → (∃ g b, gs[j]? = some g ∧ h = { g with held := b }) ∧ (j < i → h.held = true)
theorem Like.start (gs : List G) : Like gs gs 0 := ⟨rfl, fun j h hj => ⟨⟨h, h.held, hj, rfl⟩, by omega⟩⟩
theorem Like.next {gs hs : List G} {i : Nat} (h : Like gs hs i) {g : G} (hg : hs[i]? = some g) : Like gs (hs.set i { g with held := true }) (i + 1) := by
  refine ⟨by rw [List.length_set]; exact h.1, fun j h' hj => ?_⟩
  by_cases hij : i = j
  · subst hij
    have hlt : i < hs.length := by
      rcases Nat.lt_or_ge i hs.length with h1 | h1
      · exact h1
      · rw [List.getElem?_eq_none h1] at hg; cases hg
    rw [List.getElem?_set_self hlt] at hj
    injection hj with hj
    subst hj
    obtain ⟨⟨g0, b, h1, rfl⟩, _⟩ := h.2 i g hg
    exact ⟨⟨g0, true, h1, rfl⟩, fun _ => rfl⟩
  · rw [List.getElem?_set_ne hij] at hj
    obtain ⟨h1, h2⟩ := h.2 j h' hj
    exact ⟨h1, fun h3 => h2 (by omega)⟩
theorem Like.mem {gs hs : List G} {i : Nat} (h : Like gs hs i) {x : G} (hx : x ∈ hs) : ∃ g b, g ∈ gs ∧ x = { g with held := b } := by
  obtain ⟨j, hj⟩ := List.mem_iff_getElem?.1 hx
  obtain ⟨⟨g, b, h1, h2⟩, _⟩ := h.2 j x hj
  exact ⟨g, b, List.mem_of_getElem? h1, h2⟩
theorem Like.held {gs hs : List G} {i : Nat} (h : Like gs hs i) (hi : gs.length ≤ i) : ∀ x ∈ hs, x.held = true := by
  intro x hx
  obtain ⟨j, hj⟩ := List.mem_iff_getElem?.1 hx
  refine (h.2 j x hj).2 ?_
  rcases Nat.lt_or_ge j hs.length with h1 | h1
  · have := h.1; omega
  · rw [List.getElem?_eq_none h1] at hj; cases hj

section
variable {P : Program} (w : World) (t : TypeId) {a b c d : Nat}
@[go_sem] theorem run_cadd (ha : num32 a = true) (hb : num32 b = true) (hc : num32 c = true) (hd : num32 d = true) : (binOp .add t (.complex .f32 a b) (.complex .f32 c d)).run P w = .ok (.complex .f32 (fadd a c) (fadd b d)) w := by
  refine run_complex_sum w .add (.inl rfl) t .f32 a b c d _ _ ?_
  have h1 : floatBits .add .f32 a c = some (fadd a c) := some_getD (add_some ha hc)
  have h2 : floatBits .add .f32 b d = some (fadd b d) := some_getD (add_some hb hd)
  unfold cSumBits
  rw [h1, h2]; rfl
@[go_sem] theorem run_csub (ha : num32 a = true) (hb : num32 b = true) (hc : num32 c = true) (hd : num32 d = true) : (binOp .sub t (.complex .f32 a b) (.complex .f32 c d)).run P w = .ok (.complex .f32 (fsub a c) (fsub b d)) w := by
  refine run_complex_sum w .sub (.inr rfl) t .f32 a b c d _ _ ?_
  have h1 : floatBits .sub .f32 a c = some (fsub a c) := some_getD (sub_some ha hc)
  have h2 : floatBits .sub .f32 b d = some (fsub b d) := some_getD (sub_some hb hd)
  unfold cSumBits
  rw [h1, h2]; rfl
end

theorem r8Long_c (w : World) (A1 A2 : Option Addr) (n1 c1 n2 c2 : Nat) (h1 : n1 ≤ 48) (h2 : n2 ≤ 48) : Calls Try.prog 14 #[.slice A1 n1 c1, .slice A2 n2 c2] w fun e w' => e = .returned (.bool false) ∧ w = w' := by
  have d1 : decide ((48 : Int) < n1) = false := by simp; omega
  have d2 : decide ((48 : Int) < n2) = false := by simp; omega
  go_enter Try.func14, Try.ntmps14
  go_wp2
  go_ret
  exact ⟨rfl, rfl⟩
theorem r8Long_yes (w : World) (A1 A2 : Option Addr) (n1 c1 n2 c2 : Nat) (h : ¬ (n1 ≤ 48 ∧ n2 ≤ 48)) : Calls Try.prog 14 #[.slice A1 n1 c1, .slice A2 n2 c2] w fun e w' => e = .returned (.bool true) ∧ w = w' := by
  by_cases h1 : n1 ≤ 48
  · have d1 : decide ((48 : Int) < n1) = false := by simp; omega
    have d2 : decide ((48 : Int) < n2) = true := by simp; omega
    go_enter Try.func14, Try.ntmps14
    go_wp2
    go_ret
    exact ⟨rfl, rfl⟩
  · have d1 : decide ((48 : Int) < n1) = true := by simp; omega
    go_enter Try.func14, Try.ntmps14
    go_wp2
    go_ret
    exact ⟨rfl, rfl⟩
end Go.Proofs.Ytdnhdfnghkkncaa
