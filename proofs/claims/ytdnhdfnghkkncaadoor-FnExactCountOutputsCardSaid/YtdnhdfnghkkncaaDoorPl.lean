/-
  Lines of a text, plain: cutting at newlines, in the library's words and in the loop's. No program.
-/
import Derived.Lib.SplitLaws
set_option linter.unusedSimpArgs false
set_option linter.unusedVariables false
namespace Go.Proofs.YtdnhdfnghkkncaaDoor
open Go.Lib

/-- bytes put ahead of the first piece -/
def glue (pre : List UInt8) : List (List UInt8) → List (List UInt8)
  | [] => [pre]
  | h :: t => (pre ++ h) :: t
/-- a text cut at its newlines -/
def pieces : List UInt8 → List (List UInt8)
  | [] => [[]]
  | c :: l => if c = 10 then [] :: pieces l else glue [c] (pieces l)
theorem pieces_ne : ∀ l : List UInt8, pieces l ≠ []
  | [] => by simp [pieces]
  | c :: l => by
    unfold pieces
    split
    · simp
    · cases pieces l <;> simp [glue]
theorem glue_len (pre : List UInt8) {ps : List (List UInt8)} (h : ps ≠ []) : (glue pre ps).length = ps.length := by
  cases ps with
  | nil => exact absurd rfl h
  | cons a t => simp [glue]
theorem pieces_le : ∀ l : List UInt8, (pieces l).length ≤ l.length + 1
  | [] => by simp [pieces]
  | c :: l => by
    have ih := pieces_le l
    unfold pieces
    split
    · simp; omega
    · rw [glue_len _ (pieces_ne l)]; simp; omega
theorem glue_nil {ps : List (List UInt8)} (h : ps ≠ []) : glue [] ps = ps := by
  cases ps with
  | nil => exact absurd rfl h
  | cons a t => simp [glue]
theorem glue_glue (a b : List UInt8) (ps : List (List UInt8)) : glue a (glue b ps) = glue (a ++ b) ps := by
  cases ps <;> simp [glue]

theorem split_pieces : ∀ (s : List UInt8) (k : Nat), count s [10] = k → splitK [10] 0 k s = pieces s
  | [], k, h => by
    have : k = 0 := by rw [← h, count_one]; rfl
    subst this
    rfl
  | c :: l, k, h => by
    by_cases hc : c = 10
    · subst hc
      rw [count_cons_eq] at h
      obtain ⟨k', rfl⟩ : ∃ k', k = k' + 1 := ⟨count l [10], by omega⟩
      have hi : index (10 :: l) [10] = 0 := by unfold index; simp [List.isPrefixOf]
      rw [splitK, hi]
      simp only [pieces]
      rw [← split_pieces l k' (by omega)]
      simp
    · rw [count_cons_ne _ _ _ hc] at h
      have ih := split_pieces l k h
      have hi : index (c :: l) [10] = if index l [10] == -1 then -1 else index l [10] + 1 := by
        have hb : (10 == c) = false := by
          cases hb : (10 == c) with
          | false => rfl
          | true => exact absurd (eq_of_beq hb).symm hc
        conv => lhs; unfold index
        simp [List.isPrefixOf, hb]
      have hp : pieces (c :: l) = glue [c] (pieces l) := by simp [pieces, hc]
      rw [hp, ← ih]
      match k, h with
      | 0, h => simp [splitK, glue]
      | k' + 1, h =>
        have hne : index l [10] ≠ -1 := by
          intro he
          rw [count_miss he] at h; omega
        have hge := index_ge l [10]
        have hb : (index l [10] == -1) = false := by
          cases hb : (index l [10] == -1) with
          | false => rfl
          | true => exact absurd (eq_of_beq hb) hne
        rw [hb] at hi
        simp only [Bool.false_eq_true, if_false] at hi
        have hb2 : (index (c :: l) [10] == -1) = false := by
          rw [hi]
          cases hb2 : (index l [10] + 1 == -1) with
          | false => rfl
          | true => have := eq_of_beq hb2; omega
        rw [splitK, splitK, hb, hb2, hi]
        have e : (index l [10] + 1).toNat = (index l [10]).toNat + 1 := by omega
        simp [e, glue]

/-- the library's cutting -/
theorem splitB_pieces (s : ByteArray) : (splitB ⟨#[10]⟩ 0 (countB s ⟨#[10]⟩) s).map (·.data.toList) = pieces s.data.toList := by
  rw [splitB_data]
  exact split_pieces _ _ rfl

/-! ### the loop's cutting: what is laid, what is begun -/
def Cutting (l : List UInt8) (P : List (List UInt8)) (frm k : Nat) : Prop := frm ≤ k ∧ k ≤ l.length ∧ pieces l = P ++ glue ((l.drop frm).take (k - frm)) (pieces (l.drop k))
theorem Cutting.start (l : List UInt8) : Cutting l [] 0 0 := ⟨by omega, by omega, by simp [glue_nil (pieces_ne l)]⟩
theorem Cutting.hit {l : List UInt8} {P : List (List UInt8)} {frm k : Nat} (h : Cutting l P frm k) (hk : l[k]? = some 10) : Cutting l (P ++ [(l.drop frm).take (k - frm)]) (k + 1) (k + 1) := by
  have hlt : k < l.length := by
    rcases Nat.lt_or_ge k l.length with h1 | h1
    · exact h1
    · rw [List.getElem?_eq_none h1] at hk; cases hk
  refine ⟨Nat.le_refl _, hlt, ?_⟩
  rw [h.2.2]
  have hd : l.drop k = 10 :: l.drop (k + 1) := by
    rw [List.drop_eq_getElem_cons hlt]
    rw [List.getElem?_eq_getElem hlt] at hk
    injection hk with hk
    rw [hk]
  rw [hd, show pieces (10 :: l.drop (k + 1)) = [] :: pieces (l.drop (k + 1)) by simp [pieces], Nat.sub_self, List.take_zero, glue_nil (pieces_ne _)]
  simp [glue]
theorem Cutting.miss {l : List UInt8} {P : List (List UInt8)} {frm k : Nat} {c : UInt8} (h : Cutting l P frm k) (hk : l[k]? = some c) (hc : c ≠ 10) : Cutting l P frm (k + 1) := by
  have hlt : k < l.length := by
    rcases Nat.lt_or_ge k l.length with h1 | h1
    · exact h1
    · rw [List.getElem?_eq_none h1] at hk; cases hk
  have hf := h.1
  refine ⟨by omega, hlt, ?_⟩
  rw [h.2.2]
  have hg : l[k]'hlt = c := by
    rw [List.getElem?_eq_getElem hlt] at hk
    injection hk
  have hd : l.drop k = c :: l.drop (k + 1) := by
    rw [List.drop_eq_getElem_cons hlt, hg]
  have ht : (l.drop frm).take (k + 1 - frm) = (l.drop frm).take (k - frm) ++ [c] := by
    rw [show k + 1 - frm = (k - frm) + 1 by omega, List.take_add_one, List.getElem?_drop, show frm + (k - frm) = k by omega, hk]
    rfl
  rw [hd, ht]
  simp only [pieces, if_neg hc]
  rw [glue_glue]
theorem Cutting.last {l : List UInt8} {P : List (List UInt8)} {frm : Nat} (h : Cutting l P frm l.length) : pieces l = P ++ [(l.drop frm).take (l.length - frm)] := by
  rw [h.2.2]
  simp [pieces, glue]

/-! ### the last piece -/
theorem getLast_glue (pre : List UInt8) (ps : List (List UInt8)) : (glue pre ps).getLast? = if ps.length ≤ 1 then some (pre ++ (ps.getLast?.getD [])) else ps.getLast? := by
  match ps with
  | [] => simp [glue]
  | [h] => simp [glue]
  | h :: h2 :: t => simp [glue]
/-- the last piece is empty: the text is empty or ends with a newline -/
theorem last_empty : ∀ l : List UInt8, ((pieces l).getLast? = some []) ↔ (l = [] ∨ l.getLast? = some 10)
  | [] => by simp [pieces]
  | [c] => by
    by_cases hc : c = 10
    · subst hc; simp [pieces]
    · simp [pieces, hc, glue]
  | c :: d :: l => by
    have ih := last_empty (d :: l)
    simp only [List.cons_ne_nil, false_or, List.getLast?_cons_cons] at ih ⊢
    rw [← ih]
    by_cases hc : c = 10
    · subst hc
      have hp : pieces (10 :: d :: l) = [] :: pieces (d :: l) := by simp [pieces]
      rw [hp]
      have := pieces_ne (d :: l)
      cases hq : pieces (d :: l) with
      | nil => exact absurd hq this
      | cons a t => simp [List.getLast?_cons_cons]
    · have hp : pieces (c :: d :: l) = glue [c] (pieces (d :: l)) := by simp [pieces, hc]
      rw [hp, getLast_glue]
      split
      · rename_i hle
        cases hq : pieces (d :: l) with
        | nil => exact absurd hq (pieces_ne _)
        | cons a t =>
          rw [hq] at hle
          have : t = [] := by cases t with
            | nil => rfl
            | cons _ _ => simp at hle
          subst this
          simp
          intro ha
          subst ha
          by_cases hd : d = 10
          · subst hd
            rw [show pieces (10 :: l) = [] :: pieces l by simp [pieces]] at hq
            injection hq with _ hq
            exact absurd hq (pieces_ne l)
          · rw [show pieces (d :: l) = glue [d] (pieces l) by simp [pieces, hd]] at hq
            cases hr : pieces l with
            | nil => exact absurd hr (pieces_ne l)
            | cons a t => rw [hr] at hq; simp [glue] at hq
      · exact Iff.rfl
end Go.Proofs.YtdnhdfnghkkncaaDoor
