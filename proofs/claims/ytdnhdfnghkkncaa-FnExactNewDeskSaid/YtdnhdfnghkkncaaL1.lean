/-
  Contracts: the grains beyond a wall (GrainsBeyond).
-/
import Derived.Test.YtdnhdfnghkkncaaW2
import Derived.Test.YtdnhdfnghkkncaaOwn
set_option linter.unusedSimpArgs false
set_option linter.unusedVariables false
set_option maxRecDepth 100000
namespace Go.Proofs.Ytdnhdfnghkkncaa
open Go.RowKit

/-- the places at which p says yes -/
def idxs {α : Type} (p : α → Bool) (xs : List α) : List Int := (xs.zipIdx.filter (fun x => p x.1)).map (fun x => (x.2 : Int))
theorem idxs_snoc {α : Type} (p : α → Bool) (xs : List α) (x : α) : idxs p (xs ++ [x]) = idxs p xs ++ (if p x then [(xs.length : Int)] else []) := by
  unfold idxs
  rw [List.zipIdx_append]
  simp [List.filter_cons]
  split <;> simp
theorem take_snoc' {α : Type} {xs : List α} {j : Nat} {x : α} (h : xs[j]? = some x) : xs.take (j + 1) = xs.take j ++ [x] := by
  have hj : j < xs.length := by
    rcases Nat.lt_or_ge j xs.length with h1 | h1
    · exact h1
    · rw [List.getElem?_eq_none h1] at h; cases h
  rw [List.take_succ_eq_append_getElem hj]
  rw [List.getElem?_eq_getElem hj] at h
  injection h with h
  rw [h]
theorem idxs_take {α : Type} (p : α → Bool) {xs : List α} {j : Nat} {x : α} (h : xs[j]? = some x) : idxs p (xs.take (j + 1)) = idxs p (xs.take j) ++ (if p x then [(j : Int)] else []) := by
  have hj : j < xs.length := by
    rcases Nat.lt_or_ge j xs.length with h1 | h1
    · exact h1
    · rw [List.getElem?_eq_none h1] at h; cases h
  rw [take_snoc' h, idxs_snoc, List.length_take, Nat.min_eq_left (Nat.le_of_lt hj)]
theorem idxs_le {α : Type} (p : α → Bool) (xs : List α) : (idxs p xs).length ≤ xs.length := by
  unfold idxs
  rw [List.length_map]
  exact Nat.le_trans (List.length_filter_le _ _) (by simp)
abbrev i64s (x : Int) : List Value := [.int .i64 x]
theorem i64s_len (x : Int) : (i64s x).length = 1 := rfl
abbrev ownI (w : World) (base : Nat) (v : Value) (xs : List Int) : Prop := w.ownsRow base 2 1 v xs.length (xs.flatMap i64s)
abbrev Ints (w : World) (B : Nat) (A : Option Addr) (n : Nat) (xs : List Int) : Prop := Arr i64s 1 w B A n xs

abbrev beyond (l : Wl) (g : G) : Bool := flt (sideW l g.ax g.ay) 0

set_option maxHeartbeats 2000000 in
theorem grainsBeyond_c (l : Wl) (gs : List G) (w : World) (A : Option Addr) (n c : Nat) (hr : Grs w w.heap.size A n gs) (hn : n ≤ 24) (hok : ∀ g ∈ gs, g.Ok) (hl : l.Ok) (hs : ∀ g ∈ gs, SideOk l g.ax g.ay) :
   Calls Try.prog 17 #[.agg #[.slice A n c], l.val] w fun e w' => ∃ v, e = .returned (.tuple #[v, .bool true]) ∧ ownI w' w.heap.size v (idxs (beyond l) gs) ∧ Below w.heap.size w w' := by
  have hlen := hr.len
  have HR0 := Lib.hid hr
  have HR := Lib.hid (hr.to (((Below.refl w.heap.size w).alloc (Nat.le_refl _) (.cells #[.slice A n c] 26)).alloc (by simp) (.cells #[.complex .f32 l.fx l.fy, .complex .f32 l.tx l.ty, .complex .f32 l.vx l.vy] 31)))
  have HOK := Lib.hid hok
  have HL := Lib.hid hl
  have HS := Lib.hid hs
  have HN := Lib.hid hlen
  clear hr hok hl hs hlen
  go_enter Try.func17, Try.ntmps17
  go_wp2_with fail
  refine (validHeap_c gs _ A n c HR.out hn HOK.out).mono ?_
  rintro e w1 ⟨rfl, hb1⟩
  have B1 := ((Blk.new w 26 #[.slice A n c]).alloc (.cells #[.complex .f32 l.fx l.fy, .complex .f32 l.tx l.ty, .complex .f32 l.vx l.vy] 31)).below hb1 (by simp; omega)
  obtain ⟨D1, L1, K1⟩ := boxed hb1
  have K1' := (balloc (Below.refl w.heap.size w) (Nat.le_refl _) (.cells #[.slice A n c] 26)).trans (K1.mono (by simp))
  clear K1 HR
  have e1 : (w.alloc (.cells #[.slice A n c] 26)).heap.size = w.heap.size + 1 := by simp
  rw [e1] at D1 L1
  clear e1 hb1
  have CD := D1.cell
  go_wp2_with fail
  refine (validWall_c l _ HL.out).mono ?_
  rintro e w2 ⟨rfl, hb2⟩
  have B2 := B1.below hb2 (by omega)
  have D2 := D1.below hb2 L1
  have K2 := bthen K1' hb2 (by omega)
  have C2 := B2.cell
  have L2 := D2.lt
  have L0 := B2.lt
  clear B1 D1 CD K1' hb2 L1
  go_wp2_with fail
  have B3 := B2.alloc (.cells #[] 2)
  have D3 := D2.alloc (.cells #[] 2)
  have K3 := balloc K2 (Nat.le_refl _) (.cells #[] 2)
  have O3 : (w2.alloc (.cells #[] 2)).ownsRow (w.heap.size + 1 + 1) 2 1 (.slice (some ⟨w2.heap.size, 0, none⟩) 0 0) 0 ((idxs (beyond l) ([] : List G)).flatMap i64s) :=
    World.ownsRow_lit w2 #[] 0 (by omega) (by unfold maxLen; omega) rfl
  clear B2 D2 K2 C2
  generalize w2.alloc (.cells #[] 2) = w3 at *
  go_loopw [23, 6] (fun i x wr => ∃ (j : Nat) (v : Value), j ≤ n ∧ i = .int .i64 j ∧ x = v ∧ wr.ownsRow (w.heap.size + 1 + 1) 2 1 v (idxs (beyond l) (gs.take j)).length ((idxs (beyond l) (gs.take j)).flatMap i64s) ∧
      Blk wr w.heap.size 26 #[.slice A n c] ∧ Blk wr (w.heap.size + 1) 31 #[.complex .f32 l.fx l.fy, .complex .f32 l.tx l.ty, .complex .f32 l.vx l.vy] ∧ Below w.heap.size w wr) (fun i _ _ => n - (intOf i).toNat)
  case atStart => exact ⟨0, _, by omega, rfl, rfl, O3, B3, D3, K3⟩
  case round =>
    obtain ⟨j, v, hj, rfl, rfl, HO, HB, HD, HK⟩ := hrel
    clear O3 B3 D3 K3
    by_cases hlt : j < n
    · obtain ⟨b, off, g, rfl, hb, hg, c0, c1, c2, c3, c4, c5, c6⟩ := (HR0.out.below HK).grain hlt
      have CD := HD.cell
      have l1 := HD.lt
      have HG := Lib.hid hg
      have hle : (idxs (beyond l) (gs.take j)).length ≤ j := Nat.le_trans (idxs_le _ _) (List.length_take_le _ _)
      clear hg
      go_wp2_with fail
      refine (sideOf_c l g.ax g.ay _ HL.out (HS.out g (List.mem_of_getElem? HG.out))).mono ?_
      rintro e w4 ⟨rfl, hb4⟩
      have HO4 := own_below (HO.alloc _) hb4
      have HB4 := (HB.alloc _).below hb4 (by simp; omega)
      have HD4 := (HD.alloc _).below hb4 (by simp; omega)
      have HK4 := (balloc HK (Nat.le_refl _) _).trans (hb4.mono (by simp; omega))
      have l4 := HD4.lt
      clear HO HB HD HK hb4 CD c0 c1 c2 c3 c4 c5 c6
      by_cases hbey : beyond l g = true
      · have hB : (FloatKind.f32.format.order (sideW l g.ax g.ay) 0 == some Ordering.lt) = true := hbey
        go_wp2_with (at_builtin; refine wpL_append1 elInt rfl rfl (y := (j : Int)) rfl rfl (HO4.alloc _) (Blk.newAt ?c3 2 _) rfl rfl rfl ?c1 ?c2 ?c4)
        case c1 => omega
        case c2 => simp; omega
        case c3 => rfl
        intro v' w5 HO6 HG6
        have BX := own_grown (HO4.alloc _) HG6 (by simp; omega)
        have HBX := (HB4.alloc _).below BX (by omega)
        have HDX := (HD4.alloc _).below BX (by omega)
        have HKX := (balloc HK4 (Nat.le_refl _) _).trans (BX.mono (by omega))
        have HO7 : w5.ownsRow (w.heap.size + 1 + 1) 2 1 v' (idxs (beyond l) (gs.take (j + 1))).length ((idxs (beyond l) (gs.take (j + 1))).flatMap i64s) := by
          rw [idxs_take _ HG.out, if_pos hbey, List.length_append, List.flatMap_append]; simpa using HO6
        clear HO6 HG6 BX HO4 HB4 HD4 HK4
        go_wp2_with fail
        exact ⟨⟨j + 1, _, by omega, by go_num, rfl, HO7, HBX, HDX, HKX⟩, by simp [intOf]; omega⟩
      · have hB : (FloatKind.f32.format.order (sideW l g.ax g.ay) 0 == some Ordering.lt) = false := by simpa using hbey
        have HO7 : w4.ownsRow (w.heap.size + 1 + 1) 2 1 u6 (idxs (beyond l) (gs.take (j + 1))).length ((idxs (beyond l) (gs.take (j + 1))).flatMap i64s) := by
          rw [idxs_take _ HG.out, if_neg hbey, List.append_nil]; exact HO4
        clear HO4 hbey
        go_wp2_with fail
        exact ⟨⟨j + 1, _, by omega, by go_num, rfl, HO7, HB4, HD4, HK4⟩, by simp [intOf]; omega⟩
    · go_wp2_with fail
      go_ret2
      have e : gs.take j = gs := List.take_of_length_le (by rw [HN.out]; omega)
      rw [e] at HO
      exact ⟨_, rfl, own_mono HO (by omega), HK⟩
end Go.Proofs.Ytdnhdfnghkkncaa
