/-
  Bytes that come in, as lists; FnBeyond's body at every length.
-/
import Derived.Test.YtdnhdfnghkkncaaP1
set_option linter.unusedSimpArgs false
set_option linter.unusedVariables false
set_option maxRecDepth 100000
namespace Go.Proofs.Ytdnhdfnghkkncaa
open Go.RowKit

theorem cell_lt {w : World} {b o : Nat} {v : Value} (h : w.cell? ⟨b, o, none⟩ = some v) : b < w.heap.size := by
  rcases Nat.lt_or_ge b w.heap.size with h1 | h1
  · exact h1
  · simp [World.cell?, Array.getElem?_eq_none h1] at h

theorem bys_of {w : World} {a : Option Addr} {len cap : Nat} {zs : List Int} (h : (a = none ∧ len = 0 ∧ cap = 0 ∧ zs = []) ∨
  ∃ x, a = some x ∧ len ≤ cap ∧ cap ≤ maxLen ∧ zs.length = cap ∧ (∀ i, i < zs.length → w.cell? (x.add i) = some (.int .u8 (zs.getD i 0))) ∧ ∀ n ∈ zs, (Lit.int .u8 n).wf = true) :
  ∃ xs, Bys w w.heap.size a len xs ∧ ∀ x ∈ xs, 0 ≤ x ∧ x < 256 := by
  rcases h with ⟨rfl, rfl, rfl, rfl⟩ | ⟨x, rfl, hl, hm, hz, hcell, hwz⟩
  · exact ⟨[], Arr.none_, by simp⟩
  · refine ⟨zs.take len, ⟨by rw [List.length_take]; omega, fun hn => ?_⟩, fun y hy => ?_⟩
    · obtain ⟨b, off, spot⟩ := x
      have hc := hcell 0 (by omega)
      have hspot : spot = none := by simpa [Addr.add] using World.cell?_spot hc
      subst hspot
      have hc0 : w.cell? ⟨b, off, none⟩ = some (.int .u8 (zs.getD 0 0)) := by simpa [Addr.add] using hc
      refine ⟨b, off, rfl, cell_lt hc0, fun i x hx k u hu => ?_⟩
      have hi : i < len := by
        rcases Nat.lt_or_ge i len with h1 | h1
        · exact h1
        · rw [List.getElem?_eq_none (by rw [List.length_take]; omega)] at hx; cases hx
      rw [List.getElem?_take, if_pos hi] at hx
      have h1 := hcell i (by omega)
      have h2 : zs.getD i 0 = x := by rw [List.getD_eq_getElem?_getD, hx]; rfl
      rw [h2] at h1
      match k, hu with
      | 0, hu =>
        simp at hu
        subst hu
        have ea : (⟨b, off, none⟩ : Addr).add i = ⟨b, off + i * 1 + 0, none⟩ := by
          unfold Addr.add
          by_cases hi0 : i = 0
          · subst hi0; simp
          · simp [hi0]
        rw [← ea]
        exact h1
      | k + 1, hu => simp at hu
    · have := hwz y (List.mem_of_mem_take hy)
      have h2 : (decide ((0 : Int) ≤ y) && decide (y ≤ 255)) = true := this
      simp at h2
      omega
end Go.Proofs.Ytdnhdfnghkkncaa
