/-
  The closures of FlyHeap and PushHeap: one grain of a row of the call's own.
-/
import Derived.Test.YtdnhdfnghkkncaaC1
import Derived.Deep.RegionWith
import Derived.StillTailTactics
set_option linter.unusedSimpArgs false
set_option linter.unusedVariables false
set_option maxRecDepth 100000
namespace Go.Proofs.Ytdnhdfnghkkncaa
open Go.RowKit

/-- a grain that flies for a time under a pull -/
def flyG (px py t : Nat) (g : G) : G :=
  if g.held then g else
    { g with sx := fadd g.sx (fmul px t), sy := fadd g.sy (fmul py t), ax := fadd g.ax (fmul (fadd g.sx (fmul px t)) t), ay := fadd g.ay (fmul (fadd g.sy (fmul py t)) t), turn := turnFly g.turn g.spin t }
structure FlyOk (px py t : Nat) (g : G) : Prop where
  ax : num32 g.ax = true
  ay : num32 g.ay = true
  sx : num32 g.sx = true
  sy : num32 g.sy = true
  turn : num32 g.turn = true
  spin : num32 g.spin = true
  h1 : num32 (fmul px t) = true
  h2 : num32 (fmul py t) = true
  h3 : num32 (fadd g.sx (fmul px t)) = true
  h4 : num32 (fadd g.sy (fmul py t)) = true
  h5 : num32 (fmul (fadd g.sx (fmul px t)) t) = true
  h6 : num32 (fmul (fadd g.sy (fmul py t)) t) = true
  h7 : num32 (fmul g.spin t) = true
  h8 : num32 (fdiv (fmul g.spin t) 1086918619) = true

theorem frozen_setCell (w : World) (p a : Addr) (u : Value) : (w.setCell p u).frozen? a = w.frozen? a := by
  unfold World.frozen? World.setCell
  simp only [Array.getElem?_modify]
  by_cases h : p.block = a.block
  · rw [if_pos h]
    cases w.heap[a.block]? with
    | none => rfl
    | some x => cases x <;> rfl
  · rw [if_neg h]
theorem still' {P : Program} {f : FuncId} {args : Array Value} {w : World} {v : Value} (h : Calls P f args w fun e w' => e = .returned v ∧ w = w') : Calls P f args w fun e w' => e = .returned v ∧ w' = w :=
  h.mono fun _ _ ⟨h1, h2⟩ => ⟨h1, h2.symm⟩
theorem flyHeld_c (W : World) (b o p q : Nat) (hc : W.cell? ⟨b, o + 6, none⟩ = some (.bool true)) :
   Calls Try.prog 134 #[.pointer (some ⟨b, o, none⟩), .pointer (some ⟨p, 0, none⟩), .pointer (some ⟨q, 0, none⟩)] W fun e w' => e = .returned (.tuple #[]) ∧ W = w' := by
  go_enter Try.func134, Try.ntmps134
  go_wp2
  refine bodyPost_ret (results_none rfl _ _ _) rfl ?_
  exact ⟨rfl, rfl⟩
set_option maxHeartbeats 2000000 in
theorem fly_c (W : World) (b o p q px py t : Nat) (g : G) (h : FlyOk px py t g) (hp : num32 px = true) (hq : num32 py = true) (ht : num32 t = true) (hh : g.held = false) (hbp : b ≠ p) (hbq : b ≠ q)
   (c0 : W.cell? ⟨b, o, none⟩ = some (.complex .f32 g.ax g.ay)) (c1 : W.cell? ⟨b, o + 1, none⟩ = some (.complex .f32 g.sx g.sy)) (c4 : W.cell? ⟨b, o + 4, none⟩ = some (.float .f32 g.turn)) (c5 : W.cell? ⟨b, o + 5, none⟩ = some (.float .f32 g.spin)) (c6 : W.cell? ⟨b, o + 6, none⟩ = some (.bool false))
   (cp : W.cell? ⟨p, 0, none⟩ = some (.complex .f32 px py)) (cq : W.cell? ⟨q, 0, none⟩ = some (.float .f32 t)) (hf : ∀ i, W.frozen? ⟨b, i, none⟩ = false) :
   Calls Try.prog 134 #[.pointer (some ⟨b, o, none⟩), .pointer (some ⟨p, 0, none⟩), .pointer (some ⟨q, 0, none⟩)] W fun e w' => e = .returned (.tuple #[]) ∧
      ∃ W1 W2, W1 = (W.setCell ⟨b, o + 1, none⟩ (.complex .f32 (fadd g.sx (fmul px t)) (fadd g.sy (fmul py t)))).drew ∧ W2 = (W1.setCell ⟨b, o, none⟩ (.complex .f32 (fadd g.ax (fmul (fadd g.sx (fmul px t)) t)) (fadd g.ay (fmul (fadd g.sy (fmul py t)) t)))).drew ∧
        w' = (W2.setCell ⟨b, o + 4, none⟩ (.float .f32 (turnFly g.turn g.spin t))).drew := by
  obtain ⟨k1, k2, k3, k4, k5, k6, h1, h2, h3, h4, h5, h6, h7, h8⟩ := h
  have z1 : num32 1086918619 = true := by decide
  have z2 : nz32 1086918619 = true := by decide
  go_enter Try.func134, Try.ntmps134
  go_wp2_with fail
  go_still_tail 11, (by kernel_rfl)
  still_call (still' (scale_c px py t _ hp hq ht))
  still_call (still' (plus_c g.sx g.sy (fmul px t) (fmul py t) _ k3 k4 h1 h2))
  repeat still_step
  refine wpStill_nil ?_
  change wpList _ _ _ _ _ W.drew
  go_wp2_with fail
  generalize hW1 : (W.setCell ⟨b, o + 1, none⟩ (.complex .f32 (fadd g.sx (fmul px t)) (fadd g.sy (fmul py t)))).drew = W1
  have d0 : W1.cell? ⟨b, o, none⟩ = some (.complex .f32 g.ax g.ay) := by rw [← hW1]; exact (World.cell?_setCell_other W _ _ _ (by simp)).trans c0
  have d1 : W1.cell? ⟨b, o + 1, none⟩ = some (.complex .f32 (fadd g.sx (fmul px t)) (fadd g.sy (fmul py t))) := by rw [← hW1]; exact World.cell?_setCell_same W _ _ c1
  have d4 : W1.cell? ⟨b, o + 4, none⟩ = some (.float .f32 g.turn) := by rw [← hW1]; exact (World.cell?_setCell_other W _ _ _ (by simp)).trans c4
  have d5 : W1.cell? ⟨b, o + 5, none⟩ = some (.float .f32 g.spin) := by rw [← hW1]; exact (World.cell?_setCell_other W _ _ _ (by simp)).trans c5
  have dq : W1.cell? ⟨q, 0, none⟩ = some (.float .f32 t) := by rw [← hW1]; exact (World.cell?_setCell_other W _ _ _ (by intro he; injection he with he _ _; exact hbq he)).trans cq
  have df : ∀ i, W1.frozen? ⟨b, i, none⟩ = false := by intro i; rw [← hW1]; exact (frozen_setCell W _ _ _).trans (hf i)
  have HW1 := Lib.hid hW1
  clear c0 c1 c4 c5 c6 cp cq hf hW1
  go_still_tail 14, (by kernel_rfl)
  still_call (still' (scale_c (fadd g.sx (fmul px t)) (fadd g.sy (fmul py t)) t _ h3 h4 ht))
  still_call (still' (plus_c g.ax g.ay (fmul (fadd g.sx (fmul px t)) t) (fmul (fadd g.sy (fmul py t)) t) _ k1 k2 h5 h6))
  repeat still_step
  refine wpStill_nil ?_
  change wpList _ _ _ _ _ W1.drew
  go_wp2_with fail
  generalize hW2 : (W1.setCell ⟨b, o, none⟩ (.complex .f32 (fadd g.ax (fmul (fadd g.sx (fmul px t)) t)) (fadd g.ay (fmul (fadd g.sy (fmul py t)) t)))).drew = W2
  have e4 : W2.cell? ⟨b, o + 4, none⟩ = some (.float .f32 g.turn) := by rw [← hW2]; exact (World.cell?_setCell_other W1 _ _ _ (by simp)).trans d4
  have e5 : W2.cell? ⟨b, o + 5, none⟩ = some (.float .f32 g.spin) := by rw [← hW2]; exact (World.cell?_setCell_other W1 _ _ _ (by simp)).trans d5
  have eq_ : W2.cell? ⟨q, 0, none⟩ = some (.float .f32 t) := by rw [← hW2]; exact (World.cell?_setCell_other W1 _ _ _ (by intro he; injection he with he _ _; exact hbq he)).trans dq
  have ef : ∀ i, W2.frozen? ⟨b, i, none⟩ = false := by intro i; rw [← hW2]; exact (frozen_setCell W1 _ _ _).trans (df i)
  have HW2 := Lib.hid hW2
  clear d0 d1 d4 d5 dq df hW2
  go_still_tail 14, (by kernel_rfl)
  change wpList _ _ _ _ _ W2.drew
  go_wp2_with fail
  go_end0
  exact ⟨rfl, W1, W2, HW1.out.symm, HW2.out.symm, rfl⟩

/-- a grain that is pushed -/
def pushG (px py : Nat) (g : G) : G := if g.held then g else { g with sx := fadd g.sx px, sy := fadd g.sy py }
theorem pushHeld_c (W : World) (b o p : Nat) (hc : W.cell? ⟨b, o + 6, none⟩ = some (.bool true)) :
   Calls Try.prog 137 #[.pointer (some ⟨b, o, none⟩), .pointer (some ⟨p, 0, none⟩)] W fun e w' => e = .returned (.tuple #[]) ∧ W = w' := by
  go_enter Try.func137, Try.ntmps137
  go_wp2
  go_end0
  exact ⟨rfl, rfl⟩
set_option maxHeartbeats 2000000 in
theorem push_c (W : World) (b o p px py : Nat) (g : G) (k3 : num32 g.sx = true) (k4 : num32 g.sy = true) (hp : num32 px = true) (hq : num32 py = true)
   (c1 : W.cell? ⟨b, o + 1, none⟩ = some (.complex .f32 g.sx g.sy)) (c6 : W.cell? ⟨b, o + 6, none⟩ = some (.bool false))
   (cp : W.cell? ⟨p, 0, none⟩ = some (.complex .f32 px py)) (hf : ∀ i, W.frozen? ⟨b, i, none⟩ = false) :
   Calls Try.prog 137 #[.pointer (some ⟨b, o, none⟩), .pointer (some ⟨p, 0, none⟩)] W fun e w' => e = .returned (.tuple #[]) ∧ w' = (W.setCell ⟨b, o + 1, none⟩ (.complex .f32 (fadd g.sx px) (fadd g.sy py))).drew := by
  go_enter Try.func137, Try.ntmps137
  go_wp2_with fail
  go_still_tail 9, (by kernel_rfl)
  still_call (still' (plus_c g.sx g.sy px py _ k3 k4 hp hq))
  repeat still_step
  refine wpStill_nil ?_
  change wpList _ _ _ _ _ W.drew
  go_wp2_with fail
  go_end0
  exact ⟨rfl, rfl⟩

/-! ### at a row of the call's own -/
theorem set_self {α : Type} : ∀ {xs : List α} {i : Nat} {x : α}, xs[i]? = some x → xs.set i x = xs
  | [], i, x, h => by simp at h
  | y :: ys, 0, x, h => by simp at h; subst h; rfl
  | y :: ys, i + 1, x, h => by
    simp only [List.set_cons_succ]
    rw [set_self (by simpa using h)]
theorem set_at {α : Type} {xs : List α} {i : Nat} {x y : α} (h : xs[i]? = some x) : (xs.set i y)[i]? = some y := by
  have hlt : i < xs.length := by
    rcases Nat.lt_or_ge i xs.length with h1 | h1
    · exact h1
    · rw [List.getElem?_eq_none h1] at h; cases h
  exact List.getElem?_set_self hlt

theorem flyAt_c (W : World) (base gv n cap p q px py t i : Nat) (xs : List G) (g : G) (hO : W.ownsRow base 43 7 (.slice (some ⟨gv, 0, none⟩) n cap) n (xs.flatMap G.cells)) (hn : xs.length = n) (hg : xs[i]? = some g)
   (h : g.held = false → FlyOk px py t g) (hp : num32 px = true) (hq : num32 py = true) (ht : num32 t = true) (hbp : gv ≠ p) (hbq : gv ≠ q) (cp : W.cell? ⟨p, 0, none⟩ = some (.complex .f32 px py)) (cq : W.cell? ⟨q, 0, none⟩ = some (.float .f32 t)) :
   Calls Try.prog 134 #[.pointer (some ⟨gv, i * 7, none⟩), .pointer (some ⟨p, 0, none⟩), .pointer (some ⟨q, 0, none⟩)] W fun e w' => e = .returned (.tuple #[]) ∧
     w'.ownsRow base 43 7 (.slice (some ⟨gv, 0, none⟩) n cap) n ((xs.set i (flyG px py t g)).flatMap G.cells) ∧ Only gv W w' := by
  have hlt : i < n := by
    rw [← hn]
    rcases Nat.lt_or_ge i xs.length with h1 | h1
    · exact h1
    · rw [List.getElem?_eq_none h1] at hg; cases hg
  have hcell := fun (k : Nat) (u : Value) (hk : k < 7) (hu : g.cells[k]? = some u) => (hO.cellAt (i * 7 + k) (by omega)).trans (flat_at G.cells_len xs i g hg k u hu)
  cases hh : g.held with
  | true =>
    refine (flyHeld_c W gv (i * 7) p q ((hcell 6 (.bool g.held) (by omega) rfl).trans (by rw [hh]))).mono ?_
    rintro e w' ⟨rfl, rfl⟩
    have e1 : flyG px py t g = g := by unfold flyG; rw [hh]; rfl
    rw [e1, set_self hg]
    exact ⟨rfl, hO, only_refl _ _⟩
  | false =>
    refine (fly_c W gv (i * 7) p q px py t g (h hh) hp hq ht hh hbp hbq (hcell 0 _ (by omega) rfl) (hcell 1 _ (by omega) rfl) (hcell 4 _ (by omega) rfl) (hcell 5 _ (by omega) rfl) ((hcell 6 (.bool g.held) (by omega) rfl).trans (by rw [hh])) cp cq (fun j => hO.frozenAt j)).mono ?_
    rintro e w' ⟨rfl, W1, W2, rfl, rfl, rfl⟩
    refine ⟨rfl, ?_, only_drew (only_set (only_drew (only_set (only_drew (only_set (only_refl gv W) _ _) 1) _ _) 1) _ _) 1⟩
    have o1 := own_drew1 (own_store G.cells_len hO (x' := { g with sx := fadd g.sx (fmul px t), sy := fadd g.sy (fmul py t) }) (k := 1) (u := .complex .f32 (fadd g.sx (fmul px t)) (fadd g.sy (fmul py t))) hg (by omega) rfl)
    have g1 := set_at (y := { g with sx := fadd g.sx (fmul px t), sy := fadd g.sy (fmul py t) }) hg
    have o2 := own_drew1 (own_store G.cells_len o1 (x' := { g with sx := fadd g.sx (fmul px t), sy := fadd g.sy (fmul py t), ax := fadd g.ax (fmul (fadd g.sx (fmul px t)) t), ay := fadd g.ay (fmul (fadd g.sy (fmul py t)) t) }) (k := 0) (u := .complex .f32 (fadd g.ax (fmul (fadd g.sx (fmul px t)) t)) (fadd g.ay (fmul (fadd g.sy (fmul py t)) t))) g1 (by omega) rfl)
    rw [List.set_set] at o2
    have g2 := set_at (y := { g with sx := fadd g.sx (fmul px t), sy := fadd g.sy (fmul py t), ax := fadd g.ax (fmul (fadd g.sx (fmul px t)) t), ay := fadd g.ay (fmul (fadd g.sy (fmul py t)) t) }) hg
    have o3 := own_drew1 (own_store G.cells_len o2 (x' := flyG px py t g) (k := 4) (u := .float .f32 (turnFly g.turn g.spin t)) g2 (by omega) (by unfold flyG; rw [hh]; rfl))
    rw [List.set_set] at o3
    exact o3
theorem pushAt_c (W : World) (base gv n cap p px py i : Nat) (xs : List G) (g : G) (hO : W.ownsRow base 43 7 (.slice (some ⟨gv, 0, none⟩) n cap) n (xs.flatMap G.cells)) (hn : xs.length = n) (hg : xs[i]? = some g)
   (k3 : num32 g.sx = true) (k4 : num32 g.sy = true) (hp : num32 px = true) (hq : num32 py = true) (cp : W.cell? ⟨p, 0, none⟩ = some (.complex .f32 px py)) :
   Calls Try.prog 137 #[.pointer (some ⟨gv, i * 7, none⟩), .pointer (some ⟨p, 0, none⟩)] W fun e w' => e = .returned (.tuple #[]) ∧
     w'.ownsRow base 43 7 (.slice (some ⟨gv, 0, none⟩) n cap) n ((xs.set i (pushG px py g)).flatMap G.cells) ∧ Only gv W w' := by
  have hlt : i < n := by
    rw [← hn]
    rcases Nat.lt_or_ge i xs.length with h1 | h1
    · exact h1
    · rw [List.getElem?_eq_none h1] at hg; cases hg
  have hcell := fun (k : Nat) (u : Value) (hk : k < 7) (hu : g.cells[k]? = some u) => (hO.cellAt (i * 7 + k) (by omega)).trans (flat_at G.cells_len xs i g hg k u hu)
  cases hh : g.held with
  | true =>
    refine (pushHeld_c W gv (i * 7) p ((hcell 6 (.bool g.held) (by omega) rfl).trans (by rw [hh]))).mono ?_
    rintro e w' ⟨rfl, rfl⟩
    have e1 : pushG px py g = g := by unfold pushG; rw [hh]; rfl
    rw [e1, set_self hg]
    exact ⟨rfl, hO, only_refl _ _⟩
  | false =>
    refine (push_c W gv (i * 7) p px py g k3 k4 hp hq (hcell 1 _ (by omega) rfl) ((hcell 6 (.bool g.held) (by omega) rfl).trans (by rw [hh])) cp (fun j => hO.frozenAt j)).mono ?_
    rintro e w' ⟨rfl, rfl⟩
    refine ⟨rfl, ?_, only_drew (only_set (only_refl gv W) _ _) 1⟩
    have o1 := own_drew1 (own_store G.cells_len hO (x' := pushG px py g) (k := 1) (u := .complex .f32 (fadd g.sx px) (fadd g.sy py)) hg (by omega) (by unfold pushG; rw [if_neg (by rw [hh]; decide)]; rfl))
    exact o1
end Go.Proofs.Ytdnhdfnghkkncaa
