/-
  Slices of a call's own: how they are kept, and one element appended.
-/
import Derived.Test.YtdnhdfnghkkncaaBase
import Derived.Deep.AppendLies
set_option linter.unusedSimpArgs false
set_option linter.unusedVariables false
namespace Go.Proofs.Ytdnhdfnghkkncaa
open Go.RowKit

section
variable {w w' : World} {base : Nat} {e : TypeId} {size : Nat} {v : Value} {n : Nat} {xs : List Value}
theorem own_below (h : w.ownsRow base e size v n xs) (hb : Below w.heap.size w w') : w'.ownsRow base e size v n xs :=
  h.kept (row := none) ⟨hb.os, hb.tape, hb.output, hb.size, fun j hj _ => hb.block j hj⟩ (by cases hv : v.ownBlock <;> simp)
theorem own_only {p : Nat} (h : w.ownsRow base e size v n xs) (hb : Only p w w') (hp : p < base) : w'.ownsRow base e size v n xs :=
  h.kept (row := some p) hb (by
    cases hv : v.ownBlock with
    | none => exact .inl rfl
    | some k => refine .inr ?_; have := (h.lt k hv).1; intro he; injection he; omega)
theorem own_drew1 (h : w.ownsRow base e size v n xs) : w.drew.ownsRow base e size v n xs := h
theorem own_drew (h : w.ownsRow base e size v n xs) (k : Nat) : (w.drewN k).ownsRow base e size v n xs := h
/-- a block of another element type is another block -/
theorem own_ne {g t : Nat} {cs : Array Value} (h : w.ownsRow base e size v n xs) (hg : Blk w g t cs) (hne : e ≠ t) : v.ownBlock ≠ some g := by
  rcases h.2 with ⟨rfl, _⟩ | ⟨g', cap, cur, rfl, _, hh, _⟩
  · simp [Value.ownBlock]
  · intro he
    have : g' = g := by simpa [Value.ownBlock] using he
    subst this
    unfold Blk at hg
    rw [hh] at hg
    injection hg with hg
    injection hg with _ ht
    exact hne ht
theorem own_ne_new (h : w.ownsRow base e size v n xs) {g : Nat} (hg : w.heap.size ≤ g) : v.ownBlock ≠ some g := fun he => by have := (h.lt g he).2; omega
/-- what an append leaves below the row's own base -/
theorem own_grown (h : w.ownsRow base e size v n xs) (hg : w.grownBy w' v.ownBlock) (hB : base ≤ w.heap.size) : Below base w w' := (Below.refl _ _).grown hg hB (fun k hk => (h.lt k hk).1)
/-- another block is stored to -/
theorem own_set {g : Nat} (h : w.ownsRow base e size v n xs) (hg : v.ownBlock ≠ some g) (i : Nat) (u : Value) : (w.setCell ⟨g, i, none⟩ u).ownsRow base e size v n xs :=
  h.kept (row := some g) (only_set (only_refl g w) i u) (.inr hg)
/-- a block that an append to v leaves -/
theorem Blk.grown {g t : Nat} {cs : Array Value} (h : Blk w g t cs) (hg : w.grownBy w' v.ownBlock) (hne : v.ownBlock ≠ some g) : Blk w' g t cs := (hg.block g h.lt (fun he => hne he.symm)).trans h
theorem own_mono {base' : Nat} (h : w.ownsRow base e size v n xs) (hb : base' ≤ base) : w.ownsRow base' e size v n xs :=
  ⟨h.1, h.2.imp id fun ⟨g, cap, cur, h1, h2, h3⟩ => ⟨g, cap, cur, h1, Nat.le_trans hb h2, h3⟩⟩
end

/-- E is the element type of the slice type T: so many cells, not too many bytes -/
structure ElT (P : Program) (T E size : Nat) : Prop where
  und : P.underlying T = some (.slice E)
  info : ∃ b, b ≤ 64 ∧ (P.info? E).map (fun i => (i.size, i.bytes, (i.zero.map (·.cells.size)))) = some (size, b, some size)
  pos : 0 < size

/-- one element is appended to a slice of the call's own -/
theorem wpL_append1 {P : Program} {ops : Array Oper} {Q : Exit → Act → World → Prop} {rest : List Oper} {o : Oper} {a : Act} {w : World} {T E size : Nat} (hT : ElT P T E size) (hgd : o.guard = none) {s x : Operand}
    (ho : o.op = .call { callee := .builtin .append, args := #[s, x], argTypes := #[T, T] }) {α : Type} {cs : α → List Value} {base n : Nat} {v : Value} {xs : List α} {y : α} {g c : Nat}
    (hs : a.eval s = v) (hx : a.eval x = .slice (some ⟨g, 0, none⟩) 1 c) (hown : w.ownsRow base E size v n (xs.flatMap cs)) {cells : Array Value} (hb : Blk w g E cells) (hy : cells.toList = cs y) (hl : (cs y).length = size) (h1 : (cs y).all (·.oneCell') = true)
    (hn : n ≤ 4096) (hbase : base ≤ w.heap.size)
    (h : ∀ v' w', w'.ownsRow base E size v' (n + 1) ((xs ++ [y]).flatMap cs) → w.grownBy w' v.ownBlock → wpList P ops Q rest (a.put o.dst v') w') : wpList P ops Q (o :: rest) a w := by
  obtain ⟨b, hb64, hinfo⟩ := hT.info
  obtain ⟨i, hi, hzz⟩ := Option.map_eq_some_iff.1 hinfo
  simp only [Prod.mk.injEq] at hzz
  obtain ⟨hz1, hz2, hz3⟩ := hzz
  obtain ⟨z, hz, hzs⟩ := Option.map_eq_some_iff.1 hz3
  refine wpList_append_own w hgd s x T ho base E i z size b hT.und hi hz hz1 hz2 hzs hT.pos v n _ hs hown ⟨g, 0, none⟩ 1 c (cs y) hx (by rw [hl, Nat.one_mul]) ?_ ?_ ?_ ?_ hbase ?_
  · intro j u hu
    have hadd : (⟨g, 0, none⟩ : Addr).add j = ⟨g, j, none⟩ := by unfold Addr.add; split <;> simp_all
    rw [hadd, hb.cell j, ← Array.getElem?_toList, hy]
    exact hu
  · intro u hu
    exact List.all_eq_true.1 h1 u hu
  · unfold maxLen; omega
  · have : (n + 1) * b ≤ 4097 * 64 := Nat.mul_le_mul (by omega) hb64
    omega
  · intro v' w' h2 h3 _
    refine h v' w' ?_ h3
    rw [List.flatMap_append]
    simpa using h2

theorem elG : ElT Try.prog 24 43 7 := ⟨Try.underlying24, ⟨36, by omega, by kernel_rfl⟩, by omega⟩
theorem elInt : ElT Try.prog 32 2 1 := ⟨Try.underlying32, ⟨8, by omega, by kernel_rfl⟩, by omega⟩
end Go.Proofs.Ytdnhdfnghkkncaa
