/-
  What all walks of this seat share: slices that read as lists, grains as words, small tools.
-/
import Derived.Test.YtdnhdfnghkkncaaProg
import Derived.Test.YtdnhdfnghkkncaaFw
import Derived.WalkKit
import Derived.WalkLawsBesides
import Derived.Laws.ResultCell
import Derived.Laws.Rows
import Derived.Deep.QuietTactic
import Derived.BigQuiet
import Derived.KernelRfl
import Derived.Lib.Hide
set_option linter.unusedSimpArgs false
namespace Go.Proofs.Ytdnhdfnghkkncaa
open Go.RowKit

@[go_sem] theorem run_store_float {P : Program} (w : World) (a : Addr) (m : Mode) (k : FloatKind) (x : Nat) : (store a (.float k x) m).run P w = stored P w a (.float k x) m := run_store P w a _ m rfl
@[go_sem] theorem run_store_complex {P : Program} (w : World) (a : Addr) (m : Mode) (k : FloatKind) (x y : Nat) : (store a (.complex k x y) m).run P w = stored P w a (.complex k x y) m := run_store P w a _ m rfl
@[go_sem] theorem run_store_func' {P : Program} (w : World) (a : Addr) (m : Mode) (fn : Fn) (x y : Array Value) : (store a (.func fn x y) m).run P w = stored P w a (.func fn x y) m := run_store P w a _ m rfl

theorem Blk0.lt {w : World} {g : Nat} {o : Obj} (h : w.heap[g]? = some o) : g < w.heap.size := by
  rcases Nat.lt_or_ge g w.heap.size with hlt | hge
  · exact hlt
  · rw [Array.getElem?_eq_none hge] at h; cases h

/-- The slice '.slice A n c' reads as the list xs, each element the cells 'cs x' ('size' of them), all below block B. -/
structure Arr {α : Type} (cs : α → List Value) (size : Nat) (w : World) (B : Nat) (A : Option Addr) (n : Nat) (xs : List α) : Prop where
  len : xs.length = n
  cells : 0 < n → ∃ b off, A = some ⟨b, off, none⟩ ∧ b < B ∧ ∀ i x, xs[i]? = some x → ∀ k u, (cs x)[k]? = some u → w.cell? ⟨b, off + i * size + k, none⟩ = some u

section
variable {α : Type} {cs : α → List Value} {size : Nat} {w w' : World} {B B' n : Nat} {A : Option Addr} {xs : List α}
theorem Arr.none_ : Arr cs size w B A 0 [] := ⟨rfl, fun h => absurd h (by omega)⟩
theorem Arr.keep (h : Arr cs size w B A n xs) (hk : ∀ b o, b < B → w'.cell? ⟨b, o, none⟩ = w.cell? ⟨b, o, none⟩) : Arr cs size w' B A n xs :=
  ⟨h.1, fun hn => by
    obtain ⟨b, off, e, hb, hc⟩ := h.2 hn
    exact ⟨b, off, e, hb, fun i x hx k u hu => (hk _ _ hb).trans (hc i x hx k u hu)⟩⟩
theorem Arr.more (h : Arr cs size w B A n xs) (hB : B ≤ B') : Arr cs size w B' A n xs :=
  ⟨h.1, fun hn => by
    obtain ⟨b, off, e, hb, hc⟩ := h.2 hn
    exact ⟨b, off, e, by omega, hc⟩⟩
theorem Arr.below (h : Arr cs size w B A n xs) (hb : Below B w w') : Arr cs size w' B A n xs := h.keep fun b o hp => hb.cell (p := ⟨b, o, none⟩) hp
theorem Arr.drewN (h : Arr cs size w B A n xs) (k : Nat) : Arr cs size (w.drewN k) B A n xs := h.keep fun _ _ _ => rfl
theorem Arr.alloc (h : Arr cs size w B A n xs) (hB : B ≤ w.heap.size) (o : Obj) : Arr cs size (w.alloc o) B A n xs := h.keep fun b i hp => World.cell?_alloc_lt w o ⟨b, i, none⟩ (by show b < _; omega)
/-- in a world that has only grown -/
theorem Arr.to (h : Arr cs size w w.heap.size A n xs) (hb : Below w.heap.size w w') : Arr cs size w' w'.heap.size A n xs := (h.below hb).more hb.size
end

theorem flat_at {α : Type} {cs : α → List Value} {size : Nat} (hcs : ∀ x, (cs x).length = size) : ∀ (xs : List α) (i : Nat) (x : α), xs[i]? = some x → ∀ k u, (cs x)[k]? = some u → (xs.flatMap cs)[i * size + k]? = some u
  | [], i, x, h, _, _, _ => by simp at h
  | y :: ys, 0, x, h, k, u, hu => by
    simp at h
    subst h
    have hk : k < (cs y).length := by
      rcases Nat.lt_or_ge k (cs y).length with h | h
      · exact h
      · rw [List.getElem?_eq_none h] at hu; cases hu
    rw [List.flatMap_cons, Nat.zero_mul, Nat.zero_add, List.getElem?_append_left hk]; exact hu
  | y :: ys, i + 1, x, h, k, u, hu => by
    have ih := flat_at hcs ys i x (by simpa using h) k u hu
    rw [List.flatMap_cons, List.getElem?_append_right (by rw [hcs, Nat.add_mul]; omega), hcs]
    rw [show (i + 1) * size + k - size = i * size + k by rw [Nat.add_mul]; omega]
    exact ih
theorem flat_len {α : Type} {cs : α → List Value} {size : Nat} (hcs : ∀ x, (cs x).length = size) : ∀ (xs : List α), (xs.flatMap cs).length = xs.length * size
  | [] => by simp
  | y :: ys => by rw [List.flatMap_cons, List.length_append, flat_len hcs ys, hcs, List.length_cons, Nat.add_mul]; omega

/-- An owned row is a slice that reads as its list. -/
theorem own_arr {α : Type} {cs : α → List Value} {size : Nat} {w : World} {base : Nat} {e : TypeId} {v : Value} {n : Nat} {xs : List α} (hcs : ∀ x, (cs x).length = size) (hs : 0 < size)
    (h : w.ownsRow base e size v n (xs.flatMap cs)) : ∃ A c, v = .slice A n c ∧ n ≤ c ∧ Arr cs size w w.heap.size A n xs := by
  have hl : xs.length = n := by
    have h1 := h.1
    rw [flat_len hcs] at h1
    exact Nat.eq_of_mul_eq_mul_right hs h1
  rcases h.2 with ⟨rfl, rfl⟩ | ⟨g, cap, cur, rfl, hb, hh, hnc, hm, hc, ht⟩
  · refine ⟨none, 0, rfl, Nat.le_refl _, hl, fun h => absurd h (by omega)⟩
  · refine ⟨_, cap, rfl, hnc, hl, fun hn => ⟨g, 0, rfl, ?_, fun i x hx k u hu => ?_⟩⟩
    · exact Blk0.lt hh
    · rw [cell_of_row w g _ cur e (0, 0) hh]
      have hf := flat_at hcs xs i x hx k u hu
      rw [← ht] at hf
      rw [Nat.zero_add, ← Array.getElem?_toList]
      rw [List.getElem?_take] at hf
      split at hf
      · exact hf
      · cases hf

/-- A grain, as words. -/
structure G where
  ax : Nat
  ay : Nat
  sx : Nat
  sy : Nat
  rad : Nat
  mass : Nat
  turn : Nat
  spin : Nat
  held : Bool
def G.cells (g : G) : List Value := [.complex .f32 g.ax g.ay, .complex .f32 g.sx g.sy, .float .f32 g.rad, .float .f32 g.mass, .float .f32 g.turn, .float .f32 g.spin, .bool g.held]
theorem G.cells_len (g : G) : g.cells.length = 7 := rfl
abbrev Grs (w : World) (B : Nat) (A : Option Addr) (n : Nat) (gs : List G) : Prop := Arr G.cells 7 w B A n gs
abbrev ownG (w : World) (base : Nat) (v : Value) (gs : List G) : Prop := w.ownsRow base 43 7 v gs.length (gs.flatMap G.cells)
theorem Arr.grain {w : World} {B n : Nat} {A : Option Addr} {gs : List G} (h : Grs w B A n gs) {i : Nat} (hi : i < n) :
    ∃ b off g, A = some ⟨b, off, none⟩ ∧ b < B ∧ gs[i]? = some g ∧ w.cell? ⟨b, off + i * 7, none⟩ = some (.complex .f32 g.ax g.ay) ∧ w.cell? ⟨b, off + i * 7 + 1, none⟩ = some (.complex .f32 g.sx g.sy) ∧
      w.cell? ⟨b, off + i * 7 + 2, none⟩ = some (.float .f32 g.rad) ∧ w.cell? ⟨b, off + i * 7 + 3, none⟩ = some (.float .f32 g.mass) ∧ w.cell? ⟨b, off + i * 7 + 4, none⟩ = some (.float .f32 g.turn) ∧
      w.cell? ⟨b, off + i * 7 + 5, none⟩ = some (.float .f32 g.spin) ∧ w.cell? ⟨b, off + i * 7 + 6, none⟩ = some (.bool g.held) := by
  obtain ⟨b, off, e, hb, hc⟩ := h.cells (by omega)
  have hl := h.len
  have hg : gs[i]? = some (gs[i]'(by omega)) := List.getElem?_eq_getElem _
  exact ⟨b, off, _, e, hb, hg, hc i _ hg 0 _ rfl, hc i _ hg 1 _ rfl, hc i _ hg 2 _ rfl, hc i _ hg 3 _ rfl, hc i _ hg 4 _ rfl, hc i _ hg 5 _ rfl, hc i _ hg 6 _ rfl⟩
/-- one-cell elements -/
theorem Arr.one {α : Type} {f : α → Value} {w : World} {B n : Nat} {A : Option Addr} {xs : List α} (h : Arr (fun x => [f x]) 1 w B A n xs) {i : Nat} (hi : i < n) :
    ∃ b off x, A = some ⟨b, off, none⟩ ∧ b < B ∧ xs[i]? = some x ∧ w.cell? ⟨b, off + i, none⟩ = some (f x) := by
  obtain ⟨b, off, e, hb, hc⟩ := h.cells (by omega)
  have hl := h.len
  have hg : xs[i]? = some (xs[i]'(by omega)) := List.getElem?_eq_getElem _
  refine ⟨b, off, _, e, hb, hg, ?_⟩
  have := hc i _ hg 0 _ rfl
  rwa [Nat.mul_one, Nat.add_zero] at this

/-! ### blocks -/
/-- Block g is just the cells cs of element type t, none frozen. -/
def Blk (w : World) (g : Nat) (t : TypeId) (cs : Array Value) : Prop := w.heap[g]? = some (.cells cs t (0, 0))

section
variable {w w' : World} {g : Nat} {t : TypeId} {cs : Array Value}
theorem Blk.lt (h : Blk w g t cs) : g < w.heap.size := by
  rcases Nat.lt_or_ge g w.heap.size with hlt | hge
  · exact hlt
  · unfold Blk at h; rw [Array.getElem?_eq_none hge] at h; cases h
theorem Blk.cell (h : Blk w g t cs) (i : Nat) : w.cell? ⟨g, i, none⟩ = cs[i]? := cell_of_row w g i cs t (0, 0) h
theorem Blk.frozen (h : Blk w g t cs) (i : Nat) : w.frozen? ⟨g, i, none⟩ = false := by
  unfold Blk at h
  simp [World.frozen?, h]
theorem Blk.new (w : World) (t : TypeId) (cs : Array Value) : Blk (w.alloc (.cells cs t)) w.heap.size t cs := heap_alloc_new w _
theorem Blk.newAt {w : World} {g : Nat} (h : w.heap.size = g) (t : TypeId) (cs : Array Value) : Blk (w.alloc (.cells cs t)) g t cs := h ▸ heap_alloc_new w _
theorem Blk.drewN (h : Blk w g t cs) (n : Nat) : Blk (w.drewN n) g t cs := h
theorem Blk.alloc (h : Blk w g t cs) (o : Obj) : Blk (w.alloc o) g t cs := (Below.heap_alloc w o g h.lt).trans h
theorem Blk.set_ (h : Blk w g t cs) (i : Nat) (u : Value) : Blk (w.setCell ⟨g, i, none⟩ u) g t (cs.setIfInBounds i u) := by
  unfold Blk at h ⊢
  simp [World.setCell, Array.getElem?_modify, h]
theorem Blk.far (h : Blk w g t cs) {p : Addr} (hp : g ≠ p.block) (u : Value) : Blk (w.setCell p u) g t cs := (Below.heap_setCell w p u g hp).trans h
theorem Blk.below {B : Nat} (h : Blk w g t cs) (hb : Below B w w') (hg : g < B) : Blk w' g t cs := (hb.block g hg).trans h
/-- A box that a call was given time to leave alone. -/
theorem boxed (h : Below (w.alloc (.cells cs t)).heap.size (w.alloc (.cells cs t)) w') : Blk w' w.heap.size t cs ∧ w.heap.size < w'.heap.size ∧ Below w.heap.size w w' :=
  ⟨(Blk.new w t cs).below h (by simp), by have := h.size; simp at this; omega, ((Below.refl _ _).alloc (Nat.le_refl _) _).trans (h.mono (by simp))⟩
end
/-! ### only block p may have been written -/
abbrev Only (p : Nat) (w w' : World) : Prop := w.grownBy w' (some p)
section
variable {w w' w'' : World} {p g : Nat} {t : TypeId} {cs : Array Value}
theorem only_refl (p : Nat) (w : World) : Only p w w := ⟨rfl, rfl, rfl, Nat.le_refl _, fun _ _ _ => rfl⟩
theorem only_trans (h : Only p w w') (k : Only p w' w'') : Only p w w'' :=
  ⟨k.os.trans h.os, k.tape.trans h.tape, k.output.trans h.output, Nat.le_trans h.size k.size, fun i hi hn => (k.block i (Nat.lt_of_lt_of_le hi h.size) hn).trans (h.block i hi hn)⟩
theorem only_set (h : Only p w w') (i : Nat) (u : Value) : Only p w (w'.setCell ⟨p, i, none⟩ u) :=
  only_trans h ⟨rfl, rfl, rfl, by simp [World.setCell], fun k _ hn => Below.heap_setCell _ _ _ _ (fun e => hn (by rw [e]))⟩
theorem only_drew (h : Only p w w') (n : Nat) : Only p w (w'.drewN n) := ⟨h.os, h.tape, h.output, h.size, h.block⟩
theorem only_alloc (h : Only p w w') (o : Obj) : Only p w (w'.alloc o) :=
  only_trans h ⟨rfl, rfl, rfl, by simp, fun k hk _ => Below.heap_alloc _ _ _ hk⟩
theorem only_new (h : Only p w w') (hg : w.heap.size ≤ g) (i : Nat) (u : Value) : Only p w (w'.setCell ⟨g, i, none⟩ u) :=
  ⟨h.os, h.tape, h.output, Nat.le_trans h.size (by simp [World.setCell]), fun k hk hn => (Below.heap_setCell _ _ _ _ (by show k ≠ g; omega)).trans (h.block k hk hn)⟩
theorem only_below {B : Nat} (h : Only p w w') (hp : B ≤ p) (hB : B ≤ w.heap.size) : Below B w w' :=
  ⟨h.os, h.tape, h.output, h.size, fun k hk => h.block k (by omega) (by intro e; injection e with e; omega)⟩
theorem below_only {B : Nat} (h : Below B w w') (hB : w.heap.size ≤ B) (p : Nat) : Only p w w' := ⟨h.os, h.tape, h.output, h.size, fun k hk _ => h.block k (by omega)⟩
theorem Blk.only (h : Blk w g t cs) (k : Only p w w') (hg : g ≠ p) : Blk w' g t cs := (k.block g h.lt (by intro e; injection e with e; exact hg e)).trans h
theorem Arr.only {α : Type} {cs : α → List Value} {size B n : Nat} {A : Option Addr} {xs : List α} (h : Arr cs size w B A n xs) (k : Only p w w') (hB : B ≤ p) (hs : B ≤ w.heap.size) : Arr cs size w' B A n xs := h.below (only_below k hB hs)
end
/-! ### a whole variable is stored -/
def rowFits : Option Obj → Nat → Bool
  | some (.cells old _ fr), n => old.size == n && fr == (0, 0)
  | _, _ => false
@[go_sem, simp] theorem rowFits_cells (old : Array Value) (t : TypeId) (n : Nat) : rowFits (some (.cells old t (0, 0))) n = (old.size == n) := by simp [rowFits]
theorem rowFits_iff {o : Option Obj} {n : Nat} (h : rowFits o n = true) : ∃ old t, o = some (.cells old t (0, 0)) ∧ old.size = n := by
  unfold rowFits at h
  split at h
  · simp at h
    obtain ⟨h1, h2⟩ := h
    exact ⟨_, _, by rw [h2], h1⟩
  · cases h
theorem setRow_alloc (w : World) (a b : Array Value) (t : TypeId) : (w.alloc (.cells a t)).setRow w.heap.size b = w.alloc (.cells b t) := by
  unfold World.setRow World.alloc
  congr 1
  apply Array.ext
  · simp
  · intro i h1 h2
    simp only [Array.getElem_modify, Array.getElem_push]
    split <;> split <;> simp_all <;> omega
theorem wp_store_at {P : Program} {o : Oper} {a : Act} {w : World} {K : Act → World → Prop} {Q : Exit → Act → World → Prop} {ty : TypeId} {x y : Operand} {g : Nat} {cells : Array Value} (hd : o.dst = none) (ho : o.op = .store ty x y)
    (hx : a.eval x = .pointer (some ⟨g, 0, none⟩)) (hy : a.eval y = .agg cells) (hi : (P.info? ty).map (·.size) = some cells.size) {t : TypeId} {old : Array Value} (hg : w.heap[g]? = some (.cells old t (0, 0)))
    (hs : old.size = cells.size) (h1 : cells.toList.all (·.oneCell') = true) (h : K a (w.setRow g cells)) : o.wp P a w K Q :=
  wp_store_row ty x y ho g cells hx hy t old hg hi hs (by rw [← Array.all_toList]; exact h1) (by rw [hd]; exact h)
/-- a struct is stored into a variable that was just laid -/
theorem wpL_store_new {P : Program} {ops : Array Oper} {Q : Exit → Act → World → Prop} {rest : List Oper} {o : Oper} {a : Act} {w0 : World} {cs : Array Value} {t : TypeId} (hgd : o.guard = none) (hd : o.dst = none) {ty : TypeId} {x y : Operand} (ho : o.op = .store ty x y)
    {cells : Array Value} (hx : a.eval x = .pointer (some ⟨w0.heap.size, 0, none⟩)) (hy : a.eval y = .agg cells) (hi : (P.info? ty).map (·.size) = some cells.size) (hs : cs.size = cells.size) (h1 : cells.toList.all (·.oneCell') = true)
    (h : wpList P ops Q rest a (w0.alloc (.cells cells t))) : wpList P ops Q (o :: rest) a (w0.alloc (.cells cs t)) :=
  wpList_plain hgd fun _ hK => wp_store_at hd ho hx hy hi (heap_alloc_new w0 _) hs h1 (hK _ _ (by rw [setRow_alloc]; exact h))
/-- a struct is stored into a variable that is known whole -/
theorem wpL_store_blk {P : Program} {ops : Array Oper} {Q : Exit → Act → World → Prop} {rest : List Oper} {o : Oper} {a : Act} {w : World} (hgd : o.guard = none) (hd : o.dst = none) {ty : TypeId} {x y : Operand} (ho : o.op = .store ty x y)
    {cells : Array Value} {g : Nat} (hx : a.eval x = .pointer (some ⟨g, 0, none⟩)) (hy : a.eval y = .agg cells) (hi : (P.info? ty).map (·.size) = some cells.size) {t : TypeId} {cs : Array Value} (hb : Blk w g t cs) (hs : cs.size = cells.size) (h1 : cells.toList.all (·.oneCell') = true)
    (h : ∀ w', Blk w' g t cells → Only g w w' → w'.heap.size = w.heap.size → wpList P ops Q rest a w') : wpList P ops Q (o :: rest) a w :=
  wpList_plain hgd fun _ hK => wp_store_at hd ho hx hy hi hb hs h1 (hK _ _ (h _ (setRow_heap w g cs cells t (0, 0) hb) ⟨rfl, rfl, rfl, by simp, fun k _ hn => setRow_other w g k cells (fun e => hn (by rw [e]))⟩ (by simp)))
@[go_sem, simp] theorem heap_alloc_at (w : World) (o : Obj) : (w.alloc o).heap[w.heap.size]? = some o := heap_alloc_new w o

theorem Blk.off {w : World} {g t : Nat} {cs : Array Value} (h : Blk w g t cs) {p : Nat} (hp : g ≠ p) (i : Nat) (u : Value) : Blk (w.setCell ⟨p, i, none⟩ u) g t cs := h.far (p := ⟨p, i, none⟩) hp u
theorem bset {B : Nat} {a w : World} (h : Below B a w) {p : Nat} (hp : B ≤ p) (i : Nat) (u : Value) : Below B a (w.setCell ⟨p, i, none⟩ u) := h.setCell (p := ⟨p, i, none⟩) hp u
theorem balloc {B : Nat} {a w : World} (h : Below B a w) (hB : B ≤ a.heap.size) (o : Obj) : Below B a (w.alloc o) := h.alloc (Nat.le_trans hB h.size) o
@[simp] theorem size_setCell (w : World) (a : Addr) (u : Value) : (w.setCell a u).heap.size = w.heap.size := by simp [World.setCell]

theorem Blk.drew1 {w : World} {g t : Nat} {cs : Array Value} (h : Blk w g t cs) : Blk w.drew g t cs := h
theorem bdrew1 {B : Nat} {a w : World} (h : Below B a w) : Below B a w.drew := ⟨h.os, h.tape, h.output, h.size, h.block⟩

/-! ### results that lie in memory -/
theorem run_load_blk {P : Program} {w : World} {g : Nat} {t ty : TypeId} {cells : Array Value} {fs : Array Field} (hb : Blk w g t cells) (hu : P.underlying ty = some (.struct fs)) (hi : (P.info? ty).map (·.size) = some cells.size) :
    (loadVar ty ⟨g, 0, none⟩).run P w = .ok (.agg cells) w := run_loadVar_row w g t ty cells (0, 0) _ hb hu rfl hi
theorem ret_cell {P : Program} {fn : Func} {R : Ending → World → Prop} {a : Act} {w : World} {p : Tmp} {t ty : TypeId} {g : Nat} {cells : Array Value} {fs : Array Field} (h : fn.results = #[.cell p ty]) (hp : a.tmps.getD p undef = .pointer (some ⟨g, 0, none⟩))
    (hb : Blk w g t cells) (hu : P.underlying ty = some (.struct fs)) (hi : (P.info? ty).map (·.size) = some cells.size) (hd : a.defers = []) (hR : R (.returned (.agg cells)) w) : bodyPost P fn R .ret a w :=
  bodyPost_ret (by
    have hp' : a.tmps[p]?.getD undef = .pointer (some ⟨g, 0, none⟩) := by simpa using hp
    simp only [results, h]
    simp [Sem.run_bind, hp', asAddr, run_load_blk hb hu hi, Result.andThen]) hd hR
theorem ret_cell2 {P : Program} {fn : Func} {R : Ending → World → Prop} {a : Act} {w : World} {p u : Tmp} {t ty : TypeId} {g : Nat} {cells : Array Value} {fs : Array Field} (h : fn.results = #[.cell p ty, .tmp u]) (hp : a.tmps.getD p undef = .pointer (some ⟨g, 0, none⟩))
    (hb : Blk w g t cells) (hu : P.underlying ty = some (.struct fs)) (hi : (P.info? ty).map (·.size) = some cells.size) (hd : a.defers = []) (hR : R (.returned (.tuple #[.agg cells, a.tmps.getD u undef])) w) : bodyPost P fn R .ret a w :=
  bodyPost_ret (by
    have hp' : a.tmps[p]?.getD undef = .pointer (some ⟨g, 0, none⟩) := by simpa using hp
    simp only [results, h]
    simp [Sem.run_bind, hp', asAddr, run_load_blk hb hu hi, Result.andThen]) hd hR
theorem ret_cell3 {P : Program} {fn : Func} {R : Ending → World → Prop} {a : Act} {w : World} {p u v : Tmp} {t ty : TypeId} {g : Nat} {cells : Array Value} {fs : Array Field} (h : fn.results = #[.cell p ty, .tmp u, .tmp v]) (hp : a.tmps.getD p undef = .pointer (some ⟨g, 0, none⟩))
    (hb : Blk w g t cells) (hu : P.underlying ty = some (.struct fs)) (hi : (P.info? ty).map (·.size) = some cells.size) (hd : a.defers = []) (hR : R (.returned (.tuple #[.agg cells, a.tmps.getD u undef, a.tmps.getD v undef])) w) : bodyPost P fn R .ret a w :=
  bodyPost_ret (by
    have hp' : a.tmps[p]?.getD undef = .pointer (some ⟨g, 0, none⟩) := by simpa using hp
    simp only [results, h]
    simp [Sem.run_bind, hp', asAddr, run_load_blk hb hu hi, Result.andThen]) hd hR
theorem quiet' {P : Program} {f : FuncId} {args : Array Value} {w : World} {n : Nat} {v : Value}
    (h : Calls P f args (w.drewN n) fun e w' => e = .returned v ∧ w.drewN n = w') : Calls P f args (w.drewN n) fun e w'' => e = .returned v ∧ ∃ m, w'' = w.drewN m :=
  h.mono fun _ _ ⟨he, hm⟩ => ⟨he, n, hm.symm⟩
theorem bdrew {B : Nat} {a w : World} (h : Below B a w) (n : Nat) : Below B a (w.drewN n) := ⟨h.os, h.tape, h.output, h.size, h.block⟩
theorem bthen {B B' : Nat} {a b c : World} (h : Below B a b) (k : Below B' b c) (hB : B ≤ B') : Below B a c := h.trans (k.mono hB)

/-! ### sizes of the program's types, in cells -/
theorem sz26 : (Try.prog.info? 26).map (·.size) = some 1 := by kernel_rfl
theorem sz31 : (Try.prog.info? 31).map (·.size) = some 3 := by kernel_rfl
theorem sz43 : (Try.prog.info? 43).map (·.size) = some 7 := by kernel_rfl
theorem sz58 : (Try.prog.info? 58).map (·.size) = some 4 := by kernel_rfl
theorem sz78 : (Try.prog.info? 78).map (·.size) = some 3 := by kernel_rfl
theorem sz111 : (Try.prog.info? 111).map (·.size) = some 3 := by kernel_rfl
theorem sz133 : (Try.prog.info? 133).map (·.size) = some 3 := by kernel_rfl
theorem sz138 : (Try.prog.info? 138).map (·.size) = some 4 := by kernel_rfl
theorem sz140 : (Try.prog.info? 140).map (·.size) = some 7 := by kernel_rfl
theorem sz256 : (Try.prog.info? 256).map (·.size) = some 3 := by kernel_rfl
theorem sz206 : (Try.prog.info? 206).map (·.size) = some 2 := by kernel_rfl
theorem und2 : (Try.prog.underlying 2).isSome = true := by rw [Try.underlying2]; rfl
theorem und3 : (Try.prog.underlying 3).isSome = true := by rw [Try.underlying3]; rfl
theorem und5 : (Try.prog.underlying 5).isSome = true := by rw [Try.underlying5]; rfl
theorem und28 : (Try.prog.underlying 28).isSome = true := by rw [Try.underlying28]; rfl
theorem und37 : (Try.prog.underlying 37).isSome = true := by rw [Try.underlying37]; rfl
theorem und63 : (Try.prog.underlying 63).isSome = true := by rw [Try.underlying63]; rfl
theorem und288 : (Try.prog.underlying 288).isSome = true := by rw [Try.underlying288]; rfl
theorem und254 : (Try.prog.underlying 254).isSome = true := by rw [Try.underlying254]; rfl
end Go.Proofs.Ytdnhdfnghkkncaa
