/-
  Walks over the door's program: cutting a text at its newlines, twice; counting lines.
-/
import Derived.Test.YtdnhdfnghkkncaaDoorPl
import Derived.Test.YtdnhdfnghkkncaaDoorOw
import Derived.Test.YtdnhdfnghkkncaaDoorSh
import Derived.Deep.RegionWith
set_option linter.unusedSimpArgs false
set_option linter.unusedVariables false
set_option maxRecDepth 100000
namespace Go.Proofs.YtdnhdfnghkkncaaDoor
open Go.RowKit

theorem suffix0_c (s : ByteArray) (w : World) (hs : s.size ≤ 1048576) :
   Calls Tryd.prog 11 #[.string s, .string ⟨#[10]⟩] w fun e w' => e = .returned (.bool (decide (1 ≤ s.size) && (s.extract (s.size - 1) s.size == ⟨#[10]⟩))) ∧ w = w' := by
  by_cases h1 : 1 ≤ s.size
  · have d1 : decide ((1 : Int) ≤ s.size) = true := by simp; omega
    have d2 : decide (1 ≤ s.size) = true := by simp; omega
    go_enter Tryd.func11, Tryd.ntmps11
    go_wp2
    go_ret
    exact ⟨by rw [d2, beq_toListBytes]; simp, rfl⟩
  · have d1 : decide ((1 : Int) ≤ s.size) = false := decide_eq_false (by omega)
    have d2 : decide (1 ≤ s.size) = false := decide_eq_false h1
    go_enter Tryd.func11, Tryd.ntmps11
    go_wp2
    go_ret
    exact ⟨by rw [d2]; rfl, rfl⟩

def CutS (s : ByteArray) (ps : List ByteArray) (fr j : Nat) : Prop := if j ≤ s.size then Cutting s.data.toList (ps.map (·.data.toList)) fr j else ps.map (·.data.toList) = pieces s.data.toList

set_option maxHeartbeats 1000000 in
theorem cut_c (s : ByteArray) (w : World) (hs : s.size ≤ 16000) :
   Calls Tryd.prog 8 #[.string s, .int .u8 10] w fun e w' => ∃ v ps, e = .returned v ∧ ownS w' w.heap.size v ps ∧ ps.map (·.data.toList) = pieces s.data.toList ∧ Below w.heap.size w w' := by
  go_enter Tryd.func8, Tryd.ntmps8
  go_wp2_with fail
  have O0 : (w.alloc (.cells #[] 9)).ownsRow w.heap.size 9 1 (.slice (some ⟨w.heap.size, 0, none⟩) 0 0) 0 (([] : List ByteArray).flatMap strs) :=
    World.ownsRow_lit w #[] 0 (by omega) (by unfold maxLen; omega) rfl
  have K0 := balloc (Below.refl w.heap.size w) (Nat.le_refl _) (.cells #[] 9)
  go_loopw [5, 6, 7] (fun v f k wr => ∃ (ps : List ByteArray) (j fr : Nat), k = .int .i64 j ∧ f = .int .i64 fr ∧ j ≤ s.size + 1 ∧ fr ≤ j ∧ ps.length ≤ j ∧ wr.ownsRow w.heap.size 9 1 v ps.length (ps.flatMap strs) ∧
      Hid (CutS s ps fr j) ∧ Below w.heap.size w wr) (fun _ _ k _ => s.size + 1 - (intOf k).toNat)
  case atStart => exact ⟨[], 0, 0, rfl, rfl, by omega, by omega, by simp, O0, by show CutS _ _ _ _; unfold CutS; rw [if_pos (by omega)]; exact Cutting.start _, K0⟩
  case round =>
    obtain ⟨ps, j, fr, rfl, rfl, hj, hfr, hpl, HO, HC, HK⟩ := hrel
    clear O0 K0
    have hc := HC.out
    unfold CutS at hc
    have hz := Lib.size_eq s
    by_cases hlt : j < s.size
    · have hx : s.data.toList[j]? = some (s[j]'hlt) := List.getElem?_eq_getElem (by rw [← Lib.size_eq]; exact hlt)
      rw [if_pos (by omega)] at hc
      have hje : ((j : Int) == (s.size : Int)) = false := by
        cases h : ((j : Int) == (s.size : Int)) with
        | false => rfl
        | true => have := eq_of_beq h; omega
      by_cases hb : s[j]'hlt = 10
      · have hb2 : ((((s[j]'hlt).toNat : Nat) : Int) == 10) = true := by rw [hb]; rfl
        have HH : Hid (CutS s (ps ++ [s.extract fr j]) (j + 1) (j + 1)) := by
          show CutS _ _ _ _
          unfold CutS
          rw [if_pos (by omega), List.map_append]
          have := hc.hit (by rw [hx, hb])
          simpa [Lib.extract_data] using this
        clear hc hx hb HC hz
        go_wp2_with (at_builtin; refine wpL_append1 elStr rfl rfl (y := s.extract fr j) rfl rfl (HO.alloc _) (Blk.newAt ?c3 9 _) rfl rfl rfl ?c1 ?c2 ?c4)
        case c1 => omega
        case c2 => have := HK.size; simp; omega
        case c3 => rfl
        intro v' w5 HO6 HG6
        have BX := own_grown (HO.alloc _) HG6 (by have := HK.size; simp; omega)
        have K6 := (balloc HK (Nat.le_refl _) (.cells #[.string (s.extract fr j)] 9)).trans BX
        go_wp2_with fail
        exact ⟨⟨ps ++ [s.extract fr j], j + 1, j + 1, by go_num, by go_num, by omega, by omega, by simp; omega, by simpa using HO6, HH, K6⟩, by simp [intOf]; omega⟩
      · have hb2 : ((((s[j]'hlt).toNat : Nat) : Int) == 10) = false := by
          cases h : ((((s[j]'hlt).toNat : Nat) : Int) == 10) with
          | false => rfl
          | true =>
            have h1 := eq_of_beq h
            exact absurd (UInt8.toNat_inj.1 (by have : (s[j]'hlt).toNat = 10 := by omega
                                                rw [this]; rfl)) hb
        have HH : Hid (CutS s ps fr (j + 1)) := by
          show CutS _ _ _ _
          unfold CutS
          rw [if_pos (by omega)]
          exact hc.miss hx hb
        clear hc hx hb HC hz
        go_wp2_with fail
        exact ⟨⟨ps, j + 1, fr, by go_num, rfl, by omega, by omega, by omega, HO, HH, HK⟩, by simp [intOf]; omega⟩
    · by_cases he : j = s.size
      · subst he
        rw [if_pos (by omega)] at hc
        have HH : Hid (CutS s (ps ++ [s.extract fr s.size]) (s.size + 1) (s.size + 1)) := by
          show CutS _ _ _ _
          unfold CutS
          rw [if_neg (by omega), List.map_append]
          rw [hz] at hc
          rw [hc.last]
          show _ ++ [(s.extract fr s.size).data.toList] = _
          rw [Lib.extract_data, ← hz]
        clear hc HC hz
        go_wp2_with (at_builtin; refine wpL_append1 elStr rfl rfl (y := s.extract fr s.size) rfl rfl (HO.alloc _) (Blk.newAt ?e3 9 _) rfl rfl rfl ?e1 ?e2 ?e4)
        case e1 => omega
        case e2 => have := HK.size; simp; omega
        case e3 => rfl
        intro v' w5 HO6 HG6
        have BX := own_grown (HO.alloc _) HG6 (by have := HK.size; simp; omega)
        have K6 := (balloc HK (Nat.le_refl _) (.cells #[.string (s.extract fr s.size)] 9)).trans BX
        go_wp2_with fail
        exact ⟨⟨ps ++ [s.extract fr s.size], s.size + 1, s.size + 1, by go_num, by go_num, by omega, by omega, by simp; omega, by simpa using HO6, HH, K6⟩, by simp [intOf]⟩
      · rw [if_neg (by omega)] at hc
        have hd : decide ((j : Int) ≤ s.size) = false := decide_eq_false (by omega)
        have HH := Lib.hid hc
        clear hc HC hz
        go_wp2_with fail
        go_ret
        have hc := HH.out
        exact ⟨_, ps, rfl, HO, hc, HK⟩

set_option maxHeartbeats 1000000 in
/-- spec's lines -/
theorem specLines_c (s : ByteArray) (w : World) (hs : s.size ≤ 16000) :
   Calls Tryd.prog 6 #[.string s] w fun e w' => ∃ A n c ps b, e = .returned (.tuple #[.slice A n c, .string b]) ∧ Strs w' w'.heap.size A n ps ∧ (ps ++ [b]).map (·.data.toList) = pieces s.data.toList ∧ Below w.heap.size w w' := by
  have HC := Lib.hid (cut_c s w hs)
  go_enter Tryd.func6, Tryd.ntmps6
  go_wp2_with fail
  refine HC.out.mono ?_
  rintro e w1 ⟨v, ps, rfl, HO, hp, K1⟩
  obtain ⟨A, c, rfl, hc, HA⟩ := own_arr strs_len (by omega) HO
  have hne : ps ≠ [] := by
    rintro rfl
    exact pieces_ne _ hp.symm
  have hl : 0 < ps.length := List.length_pos_iff.2 hne
  obtain ⟨qs, b, rfl⟩ : ∃ qs b, ps = qs ++ [b] := ⟨ps.dropLast, ps.getLast hne, (List.dropLast_concat_getLast hne).symm⟩
  have HP := Lib.hid hp
  have HAA := Lib.hid HA
  obtain ⟨g, off, rfl, hg, hx, hcell⟩ : ∃ g off, A = some ⟨g, off, none⟩ ∧ g < w1.heap.size ∧ True ∧ w1.cell? ⟨g, off + qs.length, none⟩ = some (.string b) := by
    obtain ⟨g, off, e, hg, h⟩ := HA.cells hl
    refine ⟨g, off, e, hg, trivial, ?_⟩
    have := h qs.length b (by simp) 0 (.string b) rfl
    simpa using this
  have e2 : (qs ++ [b]).length = qs.length + 1 := by simp
  have hq : qs.length ≤ 16000 := by
    have h1 := pieces_le s.data.toList
    rw [← hp, List.length_map, e2, ← Lib.size_eq] at h1
    omega
  rw [e2] at hc
  rw [e2]
  clear hp HA HO hne hl e2 HC
  go_wp2_with fail
  go_quiet (fail)
  go_wp2
  go_ret2
  refine ⟨some ⟨g, off, none⟩, qs.length, _, qs, b, rfl, ?_, HP.out, bdrew K1 _⟩
  refine ⟨rfl, fun hn => ?_⟩
  obtain ⟨g', off', e, hg', h⟩ := HAA.out.cells (by simp)
  refine ⟨g', off', e, hg', fun i x hi k u hu => ?_⟩
  have hi2 : (qs ++ [b])[i]? = some x := by
    rw [List.getElem?_append_left]
    · exact hi
    · rcases Nat.lt_or_ge i qs.length with h1 | h1
      · exact h1
      · rw [List.getElem?_eq_none h1] at hi; cases hi
  exact h i x hi2 k u hu

theorem suffix_iff (s : ByteArray) : (decide (1 ≤ s.size) && (s.extract (s.size - 1) s.size == ⟨#[10]⟩)) = true ↔ s.data.toList.getLast? = some 10 := by
  rw [Bool.and_eq_true, beq_toListBytes, beq_iff_eq, Lib.toList_data, Lib.extract_data, decide_eq_true_iff, Lib.size_eq]
  generalize s.data.toList = l
  have e : (ByteArray.mk #[10]).toList = [10] := by simp
  rw [e]
  constructor
  · rintro ⟨h1, h2⟩
    rw [List.getLast?_eq_getElem?]
    have h3 : ((l.drop (l.length - 1)).take (l.length - (l.length - 1)))[0]? = some 10 := by rw [h2]; rfl
    rw [List.getElem?_take, List.getElem?_drop] at h3
    rw [if_pos (by omega)] at h3
    simpa using h3
  · intro h
    have hne : l ≠ [] := by rintro rfl; simp at h
    have hl : 1 ≤ l.length := List.length_pos_iff.2 hne
    refine ⟨hl, ?_⟩
    have h5 : l = l.dropLast ++ [10] := by
      have := List.dropLast_concat_getLast hne
      rw [List.getLast?_eq_some_getLast hne] at h
      injection h with h
      rw [h] at this
      exact this.symm
    rw [h5]
    simp

theorem suffix_c (s : ByteArray) (w : World) (hs : s.size ≤ 1048576) :
   Calls Tryd.prog 9 #[.string s, .string ⟨#[10]⟩] w fun e w' => e = .returned (.bool (decide (s.data.toList.getLast? = some 10))) ∧ w = w' := by
  have H := Lib.hid (suffix0_c s w hs)
  have e : (decide (1 ≤ s.size) && (s.extract (s.size - 1) s.size == ⟨#[10]⟩)) = decide (s.data.toList.getLast? = some 10) := by
    have := suffix_iff s
    cases h : (decide (1 ≤ s.size) && (s.extract (s.size - 1) s.size == ⟨#[10]⟩)) with
    | true => rw [h] at this; simp at this; simp [this]
    | false => rw [h] at this; simp at this; simp [this]
  rw [e] at H
  clear e
  generalize hd : decide (s.data.toList.getLast? = some 10) = d at *
  clear hd
  go_enter Tryd.func9, Tryd.ntmps9
  go_wp2_with (go_at_call 11; refine H.out.mono ?_; rintro e w' ⟨rfl, rfl⟩)
  go_ret
  exact ⟨rfl, rfl⟩

def LinesPost (s : ByteArray) (w' : World) (e : Ending) : Prop :=
  (¬ (s.size ≤ 16000 ∧ (s.data.toList = [] ∨ s.data.toList.getLast? = some 10)) ∧ e = .returned (.tuple #[.slice none 0 0, .bool false])) ∨
  ((s.size ≤ 16000 ∧ (s.data.toList = [] ∨ s.data.toList.getLast? = some 10)) ∧ ∃ (A : Option Addr) (n c : Nat) (ps : List ByteArray) (b : ByteArray), e = .returned (.tuple #[.slice A n c, .bool true]) ∧ Strs w' w'.heap.size A n ps ∧ (ps ++ [b]).map (·.data.toList) = pieces s.data.toList)

/-- what a cutting of the library's leaves, but for its last piece -/
theorem split_strs {w : World} {cn : Nat} {ps0 : List ByteArray} {l : List UInt8} (h : ps0.map (·.data.toList) = pieces l) (hl : ps0.length = cn + 1) :
   ∃ (ps : List ByteArray) (b : ByteArray), Strs (w.alloc (.cells (ps0.map Value.string).toArray 9)) (w.alloc (.cells (ps0.map Value.string).toArray 9)).heap.size (some ⟨w.heap.size, 0, none⟩) cn ps ∧ (ps ++ [b]).map (fun p : ByteArray => p.data.toList) = pieces l := by
  have hne : ps0 ≠ [] := by rintro rfl; simp at hl
  obtain ⟨qs, b, rfl⟩ : ∃ qs b, ps0 = qs ++ [b] := ⟨ps0.dropLast, ps0.getLast hne, (List.dropLast_concat_getLast hne).symm⟩
  refine ⟨qs, b, ⟨by simpa using hl, fun hn => ⟨w.heap.size, 0, rfl, by simp, fun i x hi k u hu => ?_⟩⟩, h⟩
  rw [(Blk.new w 9 _).cell]
  have hlt : i < qs.length := by
    rcases Nat.lt_or_ge i qs.length with h1 | h1
    · exact h1
    · rw [List.getElem?_eq_none h1] at hi; cases hi
  match k, hu with
  | 0, hu =>
    simp at hu
    subst hu
    simp
    rw [List.getElem?_append_left (by simpa using hlt)]
    simp [hi]
  | k + 1, hu => simp at hu

set_option maxHeartbeats 1000000 in
/-- impl's lines -/
theorem implLines_c (s : ByteArray) (w : World) (m : Int) (hs : s.size ≤ 1048576) (hm : w.cell? ⟨0, 0, none⟩ = some (.int .i64 m)) :
   Calls Tryd.prog 7 #[.string s] w fun e w' => LinesPost s w' e ∧ Below w.heap.size w w' := by
  have HS := Lib.hid (suffix_c s w hs)
  have HT := Lib.hid (Tryd.strings_Split s ⟨#[10]⟩ m w (by omega) hm (by decide))
  have hc0 := Lib.countB_le ⟨#[10]⟩ (by decide) _ s (Nat.le_refl _)
  have HPS := Lib.hid (split_strs (w := w) (splitB_pieces s) (Lib.splitB_all ⟨#[10]⟩ (by decide) 0 _ s rfl))
  have HL := Lib.hid (Lib.splitB_all ⟨#[10]⟩ (by decide) 0 _ s rfl)
  have HM := hm
  clear hm HM
  generalize Lib.countB s ⟨#[10]⟩ = cn at *
  generalize Lib.splitB ⟨#[10]⟩ 0 cn s = ps0 at *
  by_cases h16 : s.size ≤ 16000
  · have d1 : decide ((16000 : Int) < s.size) = false := decide_eq_false (by omega)
    by_cases he : s.data.toList = []
    · have e1 : (s.toList == []) = true := by rw [Lib.toList_data, he]; rfl
      go_enter Tryd.func7, Tryd.ntmps7
      go_wp2_with (go_at_call 10; refine HT.out.mono ?_; rintro e w' ⟨rfl, rfl⟩)
      go_ret2
      obtain ⟨ps, b, h1, h2⟩ := HPS.out
      exact ⟨.inr ⟨⟨h16, .inl he⟩, _, _, _, ps, b, rfl, h1, h2⟩, balloc (Below.refl _ _) (Nat.le_refl _) _⟩
    · have e1 : (s.toList == []) = false := by rw [Lib.toList_data]; simpa using he
      by_cases h10 : s.data.toList.getLast? = some 10
      · have d2 : decide (s.data.toList.getLast? = some 10) = true := decide_eq_true h10
        rw [d2] at HS
        have HH := Lib.hid (And.intro he h10)
        clear he h10 d2
        go_enter Tryd.func7, Tryd.ntmps7
        go_wp2_with (first | (go_at_call 9; refine HS.out.mono ?_; rintro e w' ⟨rfl, rfl⟩) | (go_at_call 10; refine HT.out.mono ?_; rintro e w' ⟨rfl, rfl⟩))
        go_ret2
        obtain ⟨ps, b, h1, h2⟩ := HPS.out
        exact ⟨.inr ⟨⟨h16, .inr HH.out.2⟩, _, _, _, ps, b, rfl, h1, h2⟩, balloc (Below.refl _ _) (Nat.le_refl _) _⟩
      · have d2 : decide (s.data.toList.getLast? = some 10) = false := decide_eq_false h10
        rw [d2] at HS
        have HH := Lib.hid (And.intro he h10)
        clear he h10 d2
        go_enter Tryd.func7, Tryd.ntmps7
        go_wp2_with (go_at_call 9; refine HS.out.mono ?_; rintro e w' ⟨rfl, rfl⟩)
        go_ret2
        exact ⟨.inl ⟨by rintro ⟨_, h | h⟩; exact HH.out.1 h; exact HH.out.2 h, rfl⟩, Below.refl _ _⟩
  · have d1 : decide ((16000 : Int) < s.size) = true := decide_eq_true (by omega)
    go_enter Tryd.func7, Tryd.ntmps7
    go_wp2
    go_ret2
    exact ⟨.inl ⟨fun h => h16 h.1, rfl⟩, Below.refl _ _⟩

/-- a line is one of the two answers that are counted apart -/
def isBad (p : ByteArray) : Bool := p.toList == [110, 111] || p.toList == [119, 104, 97, 116]
def badN (ps : List ByteArray) : Nat := (ps.filter isBad).length
theorem badN_le (ps : List ByteArray) : badN ps ≤ ps.length := List.length_filter_le _ _
theorem badN_take {ps : List ByteArray} {j : Nat} {x : ByteArray} (h : ps[j]? = some x) : badN (ps.take (j + 1)) = badN (ps.take j) + (if isBad x then 1 else 0) := by
  have hlt : j < ps.length := by
    rcases Nat.lt_or_ge j ps.length with h1 | h1
    · exact h1
    · rw [List.getElem?_eq_none h1] at h; cases h
  have e : ps.take (j + 1) = ps.take j ++ [x] := by
    rw [List.take_add_one, h]; rfl
  unfold badN
  rw [e, List.filter_append, List.length_append]
  congr 1
  cases hb : isBad x <;> simp [List.filter, hb]

abbrev LinesOk (s : ByteArray) : Prop := s.size ≤ 16000 ∧ (s.data.toList = [] ∨ s.data.toList.getLast? = some 10)
def Counted (s : ByteArray) (ok : Bool) (ps : List ByteArray) : Prop :=
  if ok = true then LinesOk s ∧ ∃ b : ByteArray, (ps ++ [b]).map (fun p : ByteArray => p.data.toList) = pieces s.data.toList else ¬ LinesOk s ∧ ps = []

set_option maxHeartbeats 1000000 in
/-- impl.CountOutputs -/
theorem implCount_c (s : ByteArray) (w : World) (m : Int) (hs : s.size ≤ 1048576) (hm : w.cell? ⟨0, 0, none⟩ = some (.int .i64 m)) :
   Calls Tryd.prog 5 #[.string s] w fun e w' => (∃ ok ps, e = .returned (.tuple #[.int .i64 (badN ps), .int .i64 ((ps.length : Int) - badN ps), .bool ok]) ∧ Counted s ok ps) ∧ Below w.heap.size w w' := by
  have HI := Lib.hid (implLines_c s w m hs hm)
  clear hm
  go_enter Tryd.func5, Tryd.ntmps5
  go_wp2_with fail
  refine HI.out.mono ?_
  rintro e w1 ⟨hp, K1⟩
  obtain ⟨ok, A, n, c, ps, rfl, hn, HS, HR⟩ : ∃ (ok : Bool) (A : Option Addr) (n c : Nat) (ps : List ByteArray), e = .returned (.tuple #[.slice A n c, .bool ok]) ∧ n ≤ 16000 ∧ Strs w1 w1.heap.size A n ps ∧
      Hid (Counted s ok ps) := by
    rcases hp with ⟨h1, rfl⟩ | ⟨h1, A, n, c, ps, b, rfl, h2, h3⟩
    · exact ⟨false, none, 0, 0, [], rfl, by omega, Arr.none_, by show Counted _ _ _; unfold Counted; rw [if_neg (by decide)]; exact ⟨h1, rfl⟩⟩
    · refine ⟨true, A, n, c, ps, rfl, ?_, h2, by show Counted _ _ _; unfold Counted; rw [if_pos rfl]; exact ⟨h1, b, h3⟩⟩
      have h5 := pieces_le s.data.toList
      have h6 := h1.1
      have h7 := h2.len
      rw [← h3, List.length_map, List.length_append, ← Lib.size_eq] at h5
      simp at h5
      omega
  have HN := Lib.hid HS.len
  have HSS := Lib.hid HS
  clear hp HI HS
  go_wp2_with fail
  go_loopw [7, 8, 18] (fun f o i wr => ∃ j k : Nat, j ≤ n ∧ i = .int .i64 j ∧ f = .int .i64 k ∧ o = .int .i64 ((j : Int) - k) ∧ Hid (badN (ps.take j) = k) ∧ k ≤ j ∧ Below w1.heap.size w1 wr) (fun _ _ i _ => n - (intOf i).toNat)
  case atStart => exact ⟨0, 0, by omega, rfl, rfl, rfl, rfl, by omega, Below.refl _ _⟩
  case round =>
    obtain ⟨j, k, hj, rfl, rfl, rfl, hk, hkj, HK⟩ := hrel
    by_cases hlt : j < n
    · obtain ⟨b, off, x, rfl, hbb, hx, hc⟩ := (HSS.out.to HK).one hlt
      have HT := Lib.hid (badN_take hx)
      clear hx
      by_cases h1 : (x.toList == [110, 111]) = true
      · have hb : isBad x = true := by unfold isBad; rw [h1]; rfl
        have hk2 : Hid (badN (ps.take (j + 1)) = k + 1) := by show _ = _; rw [HT.out, hk.out, if_pos hb]
        clear hb
        go_wp2_with fail
        exact ⟨⟨j + 1, k + 1, by omega, by go_num, by go_num, by go_num, hk2, by omega, HK⟩, by simp [intOf]; omega⟩
      · have h1' : (x.toList == [110, 111]) = false := by simpa using h1
        by_cases h2 : (x.toList == [119, 104, 97, 116]) = true
        · have hb : isBad x = true := by unfold isBad; rw [h2]; simp
          have hk2 : Hid (badN (ps.take (j + 1)) = k + 1) := by show _ = _; rw [HT.out, hk.out, if_pos hb]
          clear hb h1
          go_wp2_with fail
          exact ⟨⟨j + 1, k + 1, by omega, by go_num, by go_num, by go_num, hk2, by omega, HK⟩, by simp [intOf]; omega⟩
        · have h2' : (x.toList == [119, 104, 97, 116]) = false := by simpa using h2
          have hb : ¬ isBad x = true := by unfold isBad; rw [h1', h2']; simp
          have hk2 : Hid (badN (ps.take (j + 1)) = k) := by show _ = _; rw [HT.out, hk.out, if_neg hb, Nat.add_zero]
          clear hb h1 h2
          go_wp2_with fail
          exact ⟨⟨j + 1, k, by omega, by go_num, by go_num, by go_num, hk2, by omega, HK⟩, by simp [intOf]; omega⟩
    · obtain rfl : j = n := by omega
      go_wp2_with fail
      go_ret3
      have e1 := HN.out
      have e2 : ps.take j = ps := List.take_of_length_le (by omega)
      have e3 := hk.out
      rw [e2] at e3
      subst e3
      exact ⟨⟨ok, ps, by rw [e1]; rfl, HR.out⟩, K1.trans (HK.mono K1.size)⟩

set_option maxHeartbeats 1000000 in
/-- spec.CountOutputs -/
theorem specCount_c (s : ByteArray) (w : World) (hs : s.size ≤ 1048576) :
   Calls Tryd.prog 4 #[.string s] w fun e w' => (∃ ok ps, e = .returned (.tuple #[.int .i64 (badN ps), .int .i64 ((ps.length : Int) - badN ps), .bool ok]) ∧ Counted s ok ps) ∧ Below w.heap.size w w' := by
  by_cases h16 : s.size ≤ 16000
  · have d1 : decide ((16000 : Int) < s.size) = false := decide_eq_false (by omega)
    have HI := Lib.hid (specLines_c s w h16)
    go_enter Tryd.func4, Tryd.ntmps4
    go_wp2_with fail
    refine HI.out.mono ?_
    rintro e w1 ⟨A, n, c, ps, b, rfl, HS, hp, K1⟩
    have hlast : ((pieces s.data.toList).getLast? = some []) ↔ b.toList = [] := by
      rw [← hp, Lib.toList_data]
      simp
    rw [last_empty] at hlast
    have hn : n ≤ 16000 := by
      have h5 := pieces_le s.data.toList
      have h7 := HS.len
      rw [← hp, List.length_map, List.length_append, ← Lib.size_eq] at h5
      simp at h5
      omega
    have HN := Lib.hid HS.len
    have HSS := Lib.hid HS
    have HP := Lib.hid hp
    have HLA := Lib.hid hlast
    clear hp HI HS hlast
    by_cases hb : b.toList = []
    · have e1 : (b.toList == []) = true := by rw [hb]; rfl
      have HB := Lib.hid hb
      clear hb
      go_wp2_with fail
      go_loopw [7, 8] (fun f i wr => ∃ j k : Nat, j ≤ n ∧ i = .int .i64 j ∧ f = .int .i64 k ∧ Hid (badN (ps.take j) = k) ∧ k ≤ j ∧ Below w1.heap.size w1 wr) (fun _ i _ => n - (intOf i).toNat)
      case atStart => exact ⟨0, 0, by omega, rfl, rfl, rfl, by omega, Below.refl _ _⟩
      case round =>
        obtain ⟨j, k, hj, rfl, rfl, hk, hkj, HK⟩ := hrel
        by_cases hlt : j < n
        · obtain ⟨b2, off, x, rfl, hbb, hx, hc⟩ := (HSS.out.to HK).one hlt
          have HT := Lib.hid (badN_take hx)
          clear hx
          by_cases h1 : (x.toList == [110, 111]) = true
          · have hb : isBad x = true := by unfold isBad; rw [h1]; rfl
            have hk2 : Hid (badN (ps.take (j + 1)) = k + 1) := by show _ = _; rw [HT.out, hk.out, if_pos hb]
            clear hb
            go_wp2_with fail
            exact ⟨⟨j + 1, k + 1, by omega, by go_num, by go_num, hk2, by omega, HK⟩, by simp [intOf]; omega⟩
          · have h1' : (x.toList == [110, 111]) = false := by simpa using h1
            by_cases h2 : (x.toList == [119, 104, 97, 116]) = true
            · have hb : isBad x = true := by unfold isBad; rw [h2]; simp
              have hk2 : Hid (badN (ps.take (j + 1)) = k + 1) := by show _ = _; rw [HT.out, hk.out, if_pos hb]
              clear hb h1
              go_wp2_with fail
              exact ⟨⟨j + 1, k + 1, by omega, by go_num, by go_num, hk2, by omega, HK⟩, by simp [intOf]; omega⟩
            · have h2' : (x.toList == [119, 104, 97, 116]) = false := by simpa using h2
              have hb : ¬ isBad x = true := by unfold isBad; rw [h1', h2']; simp
              have hk2 : Hid (badN (ps.take (j + 1)) = k) := by show _ = _; rw [HT.out, hk.out, if_neg hb, Nat.add_zero]
              clear hb h1 h2
              go_wp2_with fail
              exact ⟨⟨j + 1, k, by omega, by go_num, rfl, hk2, by omega, HK⟩, by simp [intOf]; omega⟩
        · obtain rfl : j = n := by omega
          go_wp2_with fail
          go_ret3
          have e1 := HN.out
          have e2 : ps.take j = ps := List.take_of_length_le (by omega)
          have e3 := hk.out
          rw [e2] at e3
          subst e3
          exact ⟨⟨true, ps, by rw [e1]; rfl, by unfold Counted; rw [if_pos rfl]; exact ⟨⟨h16, HLA.out.2 HB.out⟩, b, HP.out⟩⟩, K1.trans (HK.mono K1.size)⟩
    · have e1 : (b.toList == []) = false := by simpa using hb
      have HB := Lib.hid hb
      clear hb
      go_wp2_with fail
      go_ret3
      exact ⟨⟨false, [], rfl, by unfold Counted; rw [if_neg (by decide)]; exact ⟨fun h => HB.out (HLA.out.1 h.2), rfl⟩⟩, K1⟩
  · have d1 : decide ((16000 : Int) < s.size) = true := decide_eq_true (by omega)
    go_enter Tryd.func4, Tryd.ntmps4
    go_wp2
    go_ret3
    exact ⟨⟨false, [], rfl, by unfold Counted; rw [if_neg (by decide)]; exact ⟨fun h => h16 h.1, rfl⟩⟩, Below.refl _ _⟩

theorem bytes_map_inj : ∀ xs ys : List ByteArray, xs.map (fun p : ByteArray => p.data.toList) = ys.map (fun p : ByteArray => p.data.toList) → xs = ys
  | [], [], _ => rfl
  | [], y :: ys, h => by simp at h
  | x :: xs, [], h => by simp at h
  | x :: xs, y :: ys, h => by
    rw [List.map_cons, List.map_cons] at h
    injection h with h1 h2
    rw [ByteArray.ext (Array.toList_inj.1 h1), bytes_map_inj xs ys h2]

theorem counted_same {s : ByteArray} {ok ok' : Bool} {ps ps' : List ByteArray} (h : Counted s ok ps) (h' : Counted s ok' ps') : ok = ok' ∧ ps = ps' := by
  unfold Counted at h h'
  cases ok <;> cases ok' <;> simp only [if_true, Bool.false_eq_true, if_false] at h h'
  · exact ⟨rfl, h.2.trans h'.2.symm⟩
  · exact absurd h'.1 h.1
  · exact absurd h.1 h'.1
  · obtain ⟨_, b, h1⟩ := h
    obtain ⟨_, b', h2⟩ := h'
    have h3 : ps ++ [b] = ps' ++ [b'] := bytes_map_inj _ _ (h1.trans h2.symm)
    exact ⟨rfl, (List.append_inj_left' h3 rfl)⟩

set_option maxHeartbeats 1000000 in
/-- the law's body -/
theorem countOutputs_body (s : ByteArray) (w : World) (m : Int) (hm : w.cell? ⟨0, 0, none⟩ = some (.int .i64 m)) :
   Calls Tryd.prog 3 #[.string s] w fun e w' => e = .returned (.bool true) ∧ Below w.heap.size w w' := by
  have h0 : 0 < w.heap.size := block_lt_of_cell hm
  by_cases hs : s.size ≤ 1048576
  · have d1 : decide ((1048576 : Int) < s.size) = false := decide_eq_false (by omega)
    have HI := Lib.hid (fun w' (K : Below w.heap.size w w') => implCount_c s w' m hs ((K.cell (p := ⟨0, 0, none⟩) h0).trans hm))
    have HS := Lib.hid (specCount_c s w hs)
    clear hm
    go_enter Tryd.func3, Tryd.ntmps3
    go_wp2_with fail
    refine HS.out.mono ?_
    rintro e w1 ⟨⟨ok, ps, rfl, hc⟩, K1⟩
    have HC := Lib.hid hc
    clear hc
    go_wp2_with fail
    refine (HI.out _ K1).mono ?_
    rintro e w2 ⟨⟨ok', ps', rfl, hc'⟩, K2⟩
    obtain ⟨rfl, rfl⟩ := counted_same HC.out hc'
    have K3 := K1.trans (K2.mono K1.size)
    clear HC HI HS hc'
    go_wp2_with fail
    go_ret
    exact ⟨rfl, K3⟩
  · have d1 : decide ((1048576 : Int) < s.size) = true := decide_eq_true (by omega)
    go_enter Tryd.func3, Tryd.ntmps3
    go_wp2
    go_ret
    exact ⟨rfl, Below.refl _ _⟩
end Go.Proofs.YtdnhdfnghkkncaaDoor
