import Derived.Test.YtdnhdfnghkkncaaL3
set_option linter.unusedSimpArgs false
set_option linter.unusedVariables false
set_option maxRecDepth 100000
namespace Go.Proofs.Ytdnhdfnghkkncaa
open Go.RowKit

theorem flat_set {α : Type} {cs : α → List Value} {size : Nat} (hcs : ∀ x, (cs x).length = size) : ∀ (xs : List α) (i : Nat) (x x' : α) (k : Nat) (u : Value), xs[i]? = some x → k < size → cs x' = (cs x).set k u → (xs.flatMap cs).set (i * size + k) u = (xs.set i x').flatMap cs
  | [], i, x, x', k, u, h, _, _ => by simp at h
  | y :: ys, 0, x, x', k, u, h, hk, he => by
    simp at h
    subst h
    simp only [List.flatMap_cons, List.set_cons_zero, Nat.zero_mul, Nat.zero_add]
    rw [List.set_append_left _ _ (by rw [hcs]; exact hk), he]
  | y :: ys, i + 1, x, x', k, u, h, hk, he => by
    have ih := flat_set hcs ys i x x' k u (by simpa using h) hk he
    simp only [List.flatMap_cons, List.set_cons_succ]
    rw [List.set_append_right _ _ (by rw [hcs, Nat.add_mul]; omega), hcs, ← ih]
    congr 2
    rw [Nat.add_mul]; omega

/-- a cell of an own row is stored to -/
theorem own_store {α : Type} {cs : α → List Value} {size : Nat} {w : World} {base : Nat} {e : TypeId} {g n cap : Nat} {xs : List α} (hcs : ∀ x, (cs x).length = size) (h : w.ownsRow base e size (.slice (some ⟨g, 0, none⟩) n cap) n (xs.flatMap cs))
    {i k : Nat} {x x' : α} {u : Value} (hi : xs[i]? = some x) (hk : k < size) (he : cs x' = (cs x).set k u) : (w.setCell ⟨g, i * size + k, none⟩ u).ownsRow base e size (.slice (some ⟨g, 0, none⟩) n cap) n ((xs.set i x').flatMap cs) := by
  rw [← flat_set hcs xs i x x' k u hi hk he]
  exact (h.stored _ _).1

theorem isGrain_in (gs : List G) (w : World) (A : Option Addr) (n c : Nat) (i : Int) (hr : Grs w w.heap.size A n gs) (hn : n ≤ 24) (hok : ∀ g ∈ gs, g.Ok) (h0 : 0 ≤ i) (h1 : i < n) :
   Calls Try.prog 114 #[.agg #[.slice A n c], .int .i64 i] w fun e w' => e = .returned (.bool true) ∧ Below w.heap.size w w' :=
  (isGrain_c gs w A n c i hr hn hok).mono fun e w' ⟨he, hb⟩ => ⟨by rw [he]; simp; omega, hb⟩

set_option maxHeartbeats 1000000 in
theorem holdGrain_c (gs : List G) (w : World) (A : Option Addr) (n c i : Nat) (g : G) (b : Bool) (hr : Grs w w.heap.size A n gs) (hn : n ≤ 24) (hok : ∀ g ∈ gs, g.Ok) (hg : gs[i]? = some g) :
   Calls Try.prog 21 #[.agg #[.slice A n c], .int .i64 i, .bool b] w fun e w' => ∃ v, e = .returned (.tuple #[.agg #[v], .bool true]) ∧ ownG w' w.heap.size v (gs.set i { g with held := b }) ∧ Below w.heap.size w w' := by
  have z26 := sz26
  have hi : i < n := by
    rw [← hr.len]
    rcases Nat.lt_or_ge i gs.length with h | h
    · exact h
    · rw [List.getElem?_eq_none h] at hg; cases hg
  have HI := Lib.hid (fun W (K : Below w.heap.size w W) => isGrain_in gs W A n c i (hr.to K) hn hok (by omega) (by omega))
  have HC := Lib.hid (fun W (K : Below w.heap.size w W) => own_c gs W A n c (hr.to K) (by omega))
  have HG := Lib.hid hg
  have HN := Lib.hid hr.len
  clear hr hok hg
  go_enter Try.func21, Try.ntmps21
  go_wp2_with fail
  refine (HI.out _ (balloc (balloc (Below.refl _ _) (Nat.le_refl _) _) (Nat.le_refl _) _)).mono ?_
  rintro e w1 ⟨rfl, hb1⟩
  have R1 := (Blk.new (w.alloc (.cells #[.slice A n c] 26)) 26 #[.slice none 0 0]).below hb1 (by simp)
  have B1 := ((Blk.new w 26 #[.slice A n c]).alloc (.cells #[.slice none 0 0] 26)).below hb1 (by simp; omega)
  have K1 := (balloc (balloc (Below.refl w.heap.size w) (Nat.le_refl _) (.cells #[.slice A n c] 26)) (Nat.le_refl _) (.cells #[.slice none 0 0] 26)).trans (hb1.mono (by simp; omega))
  have e1 : (w.alloc (.cells #[.slice A n c] 26)).heap.size = w.heap.size + 1 := by simp
  rw [e1] at R1
  clear e1 hb1
  have C1 := B1.cell
  have l0 := B1.lt
  have l1 := R1.lt
  go_wp2_with fail
  refine (HC.out _ K1).mono ?_
  rintro e w2 ⟨v, rfl, HO, hb2⟩
  have R2 := R1.below hb2 l1
  have K2 := K1.trans (hb2.mono (by omega))
  obtain ⟨Av, cv, rfl, _, _⟩ := own_arr G.cells_len (by omega) HO
  have L2 := R2.lt
  clear R1 B1 K1 C1 hb2
  obtain ⟨gv, cap, hv⟩ : ∃ gv, ∃ cap, Value.slice Av gs.length cv = .slice (some ⟨gv, 0, none⟩) gs.length cap := by
    obtain ⟨g', cap, h, _⟩ := HO.form (by rw [HN.out]; omega)
    exact ⟨g', cap, h⟩
  injection hv with h1 _ h3
  subst h1 h3
  have hgv := (HO.lt gv rfl)
  have hcell := HO.cellAt (i * 7 + 6) (by rw [HN.out]; omega)
  have hfz := HO.frozenAt (i * 7 + 6)
  have hf := flat_at G.cells_len gs i g HG.out 6 (.bool g.held) rfl
  rw [hf] at hcell
  have HO2 := own_store G.cells_len HO (x' := { g with held := b }) (k := 6) (u := .bool b) HG.out (by omega) rfl
  have en := HN.out
  have CR := R2.cell
  have FR := R2.frozen
  have hne : gv ≠ w.heap.size + 1 := by omega
  go_wp2_with fail
  rw [en] at HO2
  refine ret_cell2 (g := w.heap.size + 1) rfl rfl (((R2.off (p := gv) (by omega) _ _).set_ 0 _).alloc _) Try.underlying26 sz26 rfl ?_
  refine ⟨_, rfl, ?_, balloc (bset (bset K2 (by omega) _ _) (by omega) _ _) (by simp) _⟩
  have H3 := own_mono ((own_set HO2 (g := w.heap.size + 1) (fun he => by have : gv = w.heap.size + 1 := by simpa [Value.ownBlock] using he
                                                                         omega) 0 (Value.slice (some { block := gv, off := 0 }) n cv)).alloc (.cells #[Value.slice (some { block := gv, off := 0 }) n cv] 26)) (show w.heap.size ≤ w1.heap.size by omega)
  have hl : (gs.set i { g with held := b }).length = n := by rw [List.length_set]; exact en
  show World.ownsRow _ _ _ _ _ _ _
  rw [hl]
  exact H3
end Go.Proofs.Ytdnhdfnghkkncaa
