/-
  Slices of a call's own over the door's program: how they read, how they are kept, one element appended.
-/
import Derived.Test.YtdnhdfnghkkncaaDoorProg
import Derived.WalkKit
import Derived.WalkLawsBesides
import Derived.Laws.ResultCell
import Derived.Laws.Rows
import Derived.Deep.QuietTactic
import Derived.Deep.AppendLies
import Derived.BigQuiet
import Derived.KernelRfl
import Derived.Lib.Hide
set_option linter.unusedSimpArgs false
set_option linter.unusedVariables false
namespace Go.Proofs.YtdnhdfnghkkncaaDoor
open Go.RowKit

theorem Blk0.lt {w : World} {g : Nat} {o : Obj} (h : w.heap[g]? = some o) : g < w.heap.size := by
  rcases Nat.lt_or_ge g w.heap.size with hlt | hge
  · exact hlt
  · rw [Array.getElem?_eq_none hge] at h; cases h

/-- The slice '.slice A n c' reads as the list xs, each element the cells 'cs x' ('size' of them), all below block B. -/
structure Arr {α : Type} (cs : α → List Value) (size : Nat) (w : World) (B : Nat) (A : Option Addr) (n : Nat) (xs : List α) : Prop where
  len : xs.length = n
  cells : 0 < n → ∃ b off, A = some ⟨b, off, none⟩ ∧ b < B ∧ ∀ i x, xs[i]? = some x → ∀ k u, (cs x)[k]? = some u → w.cell? ⟨b, off + i * size + k, none⟩ = some u

section
variable {α : Type} {cs : α → List Value} {size : Nat} {w w' : World} {B B' n : Nat} {A : Option Addr} {xs : List α}
theorem Arr.none_ : Arr cs size w B A 0 [] := ⟨rfl, fun h => absurd h (by omega)⟩
theorem Arr.keep (h : Arr cs size w B A n xs) (hk : ∀ b o, b < B → w'.cell? ⟨b, o, none⟩ = w.cell? ⟨b, o, none⟩) : Arr cs size w' B A n xs :=
  ⟨h.1, fun hn => by
    obtain ⟨b, off, e, hb, hc⟩ := h.2 hn
    exact ⟨b, off, e, hb, fun i x hx k u hu => (hk _ _ hb).trans (hc i x hx k u hu)⟩⟩
theorem Arr.more (h : Arr cs size w B A n xs) (hB : B ≤ B') : Arr cs size w B' A n xs :=
  ⟨h.1, fun hn => by
    obtain ⟨b, off, e, hb, hc⟩ := h.2 hn
    exact ⟨b, off, e, by omega, hc⟩⟩
theorem Arr.below (h : Arr cs size w B A n xs) (hb : Below B w w') : Arr cs size w' B A n xs := h.keep fun b o hp => hb.cell (p := ⟨b, o, none⟩) hp
theorem Arr.drewN (h : Arr cs size w B A n xs) (k : Nat) : Arr cs size (w.drewN k) B A n xs := h.keep fun _ _ _ => rfl
theorem Arr.alloc (h : Arr cs size w B A n xs) (hB : B ≤ w.heap.size) (o : Obj) : Arr cs size (w.alloc o) B A n xs := h.keep fun b i hp => World.cell?_alloc_lt w o ⟨b, i, none⟩ (by show b < _; omega)
/-- in a world that has only grown -/
theorem Arr.to (h : Arr cs size w w.heap.size A n xs) (hb : Below w.heap.size w w') : Arr cs size w' w'.heap.size A n xs := (h.below hb).more hb.size
end

theorem flat_at {α : Type} {cs : α → List Value} {size : Nat} (hcs : ∀ x, (cs x).length = size) : ∀ (xs : List α) (i : Nat) (x : α), xs[i]? = some x → ∀ k u, (cs x)[k]? = some u → (xs.flatMap cs)[i * size + k]? = some u
  | [], i, x, h, _, _, _ => by simp at h
  | y :: ys, 0, x, h, k, u, hu => by
    simp at h
    subst h
    have hk : k < (cs y).length := by
      rcases Nat.lt_or_ge k (cs y).length with h | h
      · exact h
      · rw [List.getElem?_eq_none h] at hu; cases hu
    rw [List.flatMap_cons, Nat.zero_mul, Nat.zero_add, List.getElem?_append_left hk]; exact hu
  | y :: ys, i + 1, x, h, k, u, hu => by
    have ih := flat_at hcs ys i x (by simpa using h) k u hu
    rw [List.flatMap_cons, List.getElem?_append_right (by rw [hcs, Nat.add_mul]; omega), hcs]
    rw [show (i + 1) * size + k - size = i * size + k by rw [Nat.add_mul]; omega]
    exact ih
theorem flat_len {α : Type} {cs : α → List Value} {size : Nat} (hcs : ∀ x, (cs x).length = size) : ∀ (xs : List α), (xs.flatMap cs).length = xs.length * size
  | [] => by simp
  | y :: ys => by rw [List.flatMap_cons, List.length_append, flat_len hcs ys, hcs, List.length_cons, Nat.add_mul]; omega

/-- An owned row is a slice that reads as its list. -/
theorem own_arr {α : Type} {cs : α → List Value} {size : Nat} {w : World} {base : Nat} {e : TypeId} {v : Value} {n : Nat} {xs : List α} (hcs : ∀ x, (cs x).length = size) (hs : 0 < size)
    (h : w.ownsRow base e size v n (xs.flatMap cs)) : ∃ A c, v = .slice A n c ∧ n ≤ c ∧ Arr cs size w w.heap.size A n xs := by
  have hl : xs.length = n := by
    have h1 := h.1
    rw [flat_len hcs] at h1
    exact Nat.eq_of_mul_eq_mul_right hs h1
  rcases h.2 with ⟨rfl, rfl⟩ | ⟨g, cap, cur, rfl, hb, hh, hnc, hm, hc, ht⟩
  · refine ⟨none, 0, rfl, Nat.le_refl _, hl, fun h => absurd h (by omega)⟩
  · refine ⟨_, cap, rfl, hnc, hl, fun hn => ⟨g, 0, rfl, ?_, fun i x hx k u hu => ?_⟩⟩
    · exact Blk0.lt hh
    · rw [cell_of_row w g _ cur e (0, 0) hh]
      have hf := flat_at hcs xs i x hx k u hu
      rw [← ht] at hf
      rw [Nat.zero_add, ← Array.getElem?_toList]
      rw [List.getElem?_take] at hf
      split at hf
      · exact hf
      · cases hf

/-- one-cell elements -/
theorem Arr.one {α : Type} {f : α → Value} {w : World} {B n : Nat} {A : Option Addr} {xs : List α} (h : Arr (fun x => [f x]) 1 w B A n xs) {i : Nat} (hi : i < n) :
    ∃ b off x, A = some ⟨b, off, none⟩ ∧ b < B ∧ xs[i]? = some x ∧ w.cell? ⟨b, off + i, none⟩ = some (f x) := by
  obtain ⟨b, off, e, hb, hc⟩ := h.cells (by omega)
  have hl := h.len
  have hg : xs[i]? = some (xs[i]'(by omega)) := List.getElem?_eq_getElem _
  refine ⟨b, off, _, e, hb, hg, ?_⟩
  have := hc i _ hg 0 _ rfl
  rwa [Nat.mul_one, Nat.add_zero] at this

/-! ### blocks -/
/-- Block g is just the cells cs of element type t, none frozen. -/
def Blk (w : World) (g : Nat) (t : TypeId) (cs : Array Value) : Prop := w.heap[g]? = some (.cells cs t (0, 0))

section
variable {w w' : World} {g : Nat} {t : TypeId} {cs : Array Value}
theorem Blk.lt (h : Blk w g t cs) : g < w.heap.size := by
  rcases Nat.lt_or_ge g w.heap.size with hlt | hge
  · exact hlt
  · unfold Blk at h; rw [Array.getElem?_eq_none hge] at h; cases h
theorem Blk.cell (h : Blk w g t cs) (i : Nat) : w.cell? ⟨g, i, none⟩ = cs[i]? := cell_of_row w g i cs t (0, 0) h
theorem Blk.frozen (h : Blk w g t cs) (i : Nat) : w.frozen? ⟨g, i, none⟩ = false := by
  unfold Blk at h
  simp [World.frozen?, h]
theorem Blk.new (w : World) (t : TypeId) (cs : Array Value) : Blk (w.alloc (.cells cs t)) w.heap.size t cs := heap_alloc_new w _
theorem Blk.newAt {w : World} {g : Nat} (h : w.heap.size = g) (t : TypeId) (cs : Array Value) : Blk (w.alloc (.cells cs t)) g t cs := h ▸ heap_alloc_new w _
theorem Blk.drewN (h : Blk w g t cs) (n : Nat) : Blk (w.drewN n) g t cs := h
theorem Blk.alloc (h : Blk w g t cs) (o : Obj) : Blk (w.alloc o) g t cs := (Below.heap_alloc w o g h.lt).trans h
theorem Blk.set_ (h : Blk w g t cs) (i : Nat) (u : Value) : Blk (w.setCell ⟨g, i, none⟩ u) g t (cs.setIfInBounds i u) := by
  unfold Blk at h ⊢
  simp [World.setCell, Array.getElem?_modify, h]
theorem Blk.far (h : Blk w g t cs) {p : Addr} (hp : g ≠ p.block) (u : Value) : Blk (w.setCell p u) g t cs := (Below.heap_setCell w p u g hp).trans h
theorem Blk.below {B : Nat} (h : Blk w g t cs) (hb : Below B w w') (hg : g < B) : Blk w' g t cs := (hb.block g hg).trans h
end
section
variable {w w' : World} {base : Nat} {e : TypeId} {size : Nat} {v : Value} {n : Nat} {xs : List Value}
theorem own_below (h : w.ownsRow base e size v n xs) (hb : Below w.heap.size w w') : w'.ownsRow base e size v n xs :=
  h.kept (row := none) ⟨hb.os, hb.tape, hb.output, hb.size, fun j hj _ => hb.block j hj⟩ (by cases hv : v.ownBlock <;> simp)
theorem own_drew1 (h : w.ownsRow base e size v n xs) : w.drew.ownsRow base e size v n xs := h
theorem own_drew (h : w.ownsRow base e size v n xs) (k : Nat) : (w.drewN k).ownsRow base e size v n xs := h
/-- a block of another element type is another block -/
theorem own_ne {g t : Nat} {cs : Array Value} (h : w.ownsRow base e size v n xs) (hg : Blk w g t cs) (hne : e ≠ t) : v.ownBlock ≠ some g := by
  rcases h.2 with ⟨rfl, _⟩ | ⟨g', cap, cur, rfl, _, hh, _⟩
  · simp [Value.ownBlock]
  · intro he
    have : g' = g := by simpa [Value.ownBlock] using he
    subst this
    unfold Blk at hg
    rw [hh] at hg
    injection hg with hg
    injection hg with _ ht
    exact hne ht
theorem own_ne_new (h : w.ownsRow base e size v n xs) {g : Nat} (hg : w.heap.size ≤ g) : v.ownBlock ≠ some g := fun he => by have := (h.lt g he).2; omega
/-- what an append leaves below the row's own base -/
theorem own_grown (h : w.ownsRow base e size v n xs) (hg : w.grownBy w' v.ownBlock) (hB : base ≤ w.heap.size) : Below base w w' := (Below.refl _ _).grown hg hB (fun k hk => (h.lt k hk).1)
theorem own_mono {base' : Nat} (h : w.ownsRow base e size v n xs) (hb : base' ≤ base) : w.ownsRow base' e size v n xs :=
  ⟨h.1, h.2.imp id fun ⟨g, cap, cur, h1, h2, h3⟩ => ⟨g, cap, cur, h1, Nat.le_trans hb h2, h3⟩⟩
end

/-- E is the element type of the slice type T: so many cells, not too many bytes -/
structure ElT (P : Program) (T E size : Nat) : Prop where
  und : P.underlying T = some (.slice E)
  info : ∃ b, b ≤ 64 ∧ (P.info? E).map (fun i => (i.size, i.bytes, (i.zero.map (·.cells.size)))) = some (size, b, some size)
  pos : 0 < size

/-- one element is appended to a slice of the call's own -/
theorem wpL_append1 {P : Program} {ops : Array Oper} {Q : Exit → Act → World → Prop} {rest : List Oper} {o : Oper} {a : Act} {w : World} {T E size : Nat} (hT : ElT P T E size) (hgd : o.guard = none) {s x : Operand}
    (ho : o.op = .call { callee := .builtin .append, args := #[s, x], argTypes := #[T, T] }) {α : Type} {cs : α → List Value} {base n : Nat} {v : Value} {xs : List α} {y : α} {g c : Nat}
    (hs : a.eval s = v) (hx : a.eval x = .slice (some ⟨g, 0, none⟩) 1 c) (hown : w.ownsRow base E size v n (xs.flatMap cs)) {cells : Array Value} (hb : Blk w g E cells) (hy : cells.toList = cs y) (hl : (cs y).length = size) (h1 : (cs y).all (·.oneCell') = true)
    (hn : n ≤ 20000) (hbase : base ≤ w.heap.size)
    (h : ∀ v' w', w'.ownsRow base E size v' (n + 1) ((xs ++ [y]).flatMap cs) → w.grownBy w' v.ownBlock → wpList P ops Q rest (a.put o.dst v') w') : wpList P ops Q (o :: rest) a w := by
  obtain ⟨b, hb64, hinfo⟩ := hT.info
  obtain ⟨i, hi, hzz⟩ := Option.map_eq_some_iff.1 hinfo
  simp only [Prod.mk.injEq] at hzz
  obtain ⟨hz1, hz2, hz3⟩ := hzz
  obtain ⟨z, hz, hzs⟩ := Option.map_eq_some_iff.1 hz3
  refine wpList_append_own w hgd s x T ho base E i z size b hT.und hi hz hz1 hz2 hzs hT.pos v n _ hs hown ⟨g, 0, none⟩ 1 c (cs y) hx (by rw [hl, Nat.one_mul]) ?_ ?_ ?_ ?_ hbase ?_
  · intro j u hu
    have hadd : (⟨g, 0, none⟩ : Addr).add j = ⟨g, j, none⟩ := by unfold Addr.add; split <;> simp_all
    rw [hadd, hb.cell j, ← Array.getElem?_toList, hy]
    exact hu
  · intro u hu
    exact List.all_eq_true.1 h1 u hu
  · unfold maxLen; omega
  · have : (n + 1) * b ≤ 20001 * 64 := Nat.mul_le_mul (by omega) hb64
    omega
  · intro v' w' h2 h3 _
    refine h v' w' ?_ h3
    rw [List.flatMap_append]
    simpa using h2

theorem balloc {B : Nat} {a w : World} (h : Below B a w) (hB : B ≤ a.heap.size) (o : Obj) : Below B a (w.alloc o) := h.alloc (Nat.le_trans hB h.size) o
theorem bdrew {B : Nat} {a w : World} (h : Below B a w) (n : Nat) : Below B a (w.drewN n) := ⟨h.os, h.tape, h.output, h.size, h.block⟩
theorem bdrew1 {B : Nat} {a w : World} (h : Below B a w) : Below B a w.drew := ⟨h.os, h.tape, h.output, h.size, h.block⟩
theorem bthen {B B' : Nat} {a b c : World} (h : Below B a b) (k : Below B' b c) (hB : B ≤ B') : Below B a c := h.trans (k.mono hB)

theorem elStr : ElT Tryd.prog 25 9 1 := ⟨Tryd.underlying25, ⟨16, by omega, by kernel_rfl⟩, by omega⟩
abbrev strs (s : ByteArray) : List Value := [.string s]
theorem strs_len (s : ByteArray) : (strs s).length = 1 := rfl
abbrev ownS (w : World) (base : Nat) (v : Value) (xs : List ByteArray) : Prop := w.ownsRow base 9 1 v xs.length (xs.flatMap strs)
abbrev Strs (w : World) (B : Nat) (A : Option Addr) (n : Nat) (xs : List ByteArray) : Prop := Arr strs 1 w B A n xs
end Go.Proofs.YtdnhdfnghkkncaaDoor
