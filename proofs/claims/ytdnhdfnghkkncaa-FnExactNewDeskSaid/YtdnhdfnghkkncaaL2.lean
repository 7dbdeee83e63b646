/-
  Contracts: Contains, Index of whole numbers; the heap without what is beyond a wall (DropBeyond).
-/
import Derived.Test.YtdnhdfnghkkncaaL1
import Derived.Deep.RegionWith
set_option linter.unusedSimpArgs false
set_option linter.unusedVariables false
set_option maxRecDepth 100000
namespace Go.Proofs.Ytdnhdfnghkkncaa
open Go.RowKit

/-- where a number stands first -/
def FirstAt (v : Int) (xs : List Int) (r : Int) : Prop := (r = -1 ∧ v ∉ xs) ∨ (∃ k : Nat, r = k ∧ xs[k]? = some v ∧ ∀ i, i < k → xs[i]? ≠ some v)

theorem indexI_c (xs : List Int) (v : Int) (w : World) (B : Nat) (A : Option Addr) (n c : Nat) (hr : Ints w B A n xs) (hn : n ≤ 4096) :
   Calls Try.prog 127 #[.slice A n c, .int .i64 v] w fun e w' => ∃ r, FirstAt v xs r ∧ e = .returned (.int .i64 r) ∧ w = w' := by
  have HR := Lib.hid hr
  clear hr
  go_enter Try.func127, Try.ntmps127
  go_wp2
  go_loop [8, 4, 5] (fun i r k => ∃ j : Nat, j ≤ n ∧ i = .int .i64 j ∧ r = .int .i64 0 ∧ Hid (∀ i, i < j → xs[i]? ≠ some v)) (fun i _ _ => n - (intOf i).toNat)
  case atStart => exact ⟨0, by omega, rfl, rfl, fun i hi => absurd hi (by omega)⟩
  case round =>
    obtain ⟨j, hj, rfl, rfl, HH⟩ := hrel
    by_cases hlt : j < n
    · obtain ⟨b, off, x, rfl, hb, hxx, hcell⟩ := HR.out.one hlt
      have HX := Lib.hid hxx
      clear hxx
      by_cases hvx : v = x
      · subst hvx
        go_wp2
        go_ret
        exact ⟨j, .inr ⟨j, rfl, HX.out, HH.out⟩, rfl, rfl⟩
      · have hB : (v == x) = false := by simpa using hvx
        have HV := Lib.hid hvx
        clear hvx
        go_wp2
        go_round
        case rel =>
          refine ⟨j + 1, by omega, by go_num, rfl, fun i hi => ?_⟩
          rcases Nat.lt_or_ge i j with h | h
          · exact HH.out i h
          · have : i = j := by omega
            subst this
            rw [HX.out]
            intro he
            injection he with he
            exact HV.out he.symm
        case measure => simp [intOf]; omega
    · go_wp2
      go_ret
      refine ⟨-1, .inl ⟨rfl, fun hm => ?_⟩, rfl, rfl⟩
      obtain ⟨i, hi⟩ := List.mem_iff_getElem?.1 hm
      refine HH.out i ?_ hi
      have : i < xs.length := by
        rcases Nat.lt_or_ge i xs.length with h | h
        · exact h
        · rw [List.getElem?_eq_none h] at hi; cases hi
      rw [HR.out.len] at this
      omega

theorem containsI_c (xs : List Int) (v : Int) (w : World) (B : Nat) (A : Option Addr) (n c : Nat) (hr : Ints w B A n xs) (hn : n ≤ 4096) :
   Calls Try.prog 107 #[.slice A n c, .int .i64 v] w fun e w' => e = .returned (.bool (decide (v ∈ xs))) ∧ w = w' := by
  have HC := Lib.hid (indexI_c xs v w B A n c hr hn)
  clear hr
  go_enter Try.func107, Try.ntmps107
  go_wp2_with (go_at_call 127; refine HC.out.mono ?_; rintro e w1 ⟨r, hF, rfl, rfl⟩)
  go_ret
  refine ⟨?_, rfl⟩
  rcases hF with ⟨rfl, h⟩ | ⟨k, rfl, h, _⟩
  · simp [h]
  · have := List.mem_of_getElem? h
    simp [this]

theorem sizeI_c (w : World) (A : Option Addr) (n c : Nat) : Calls Try.prog 108 #[.slice A n c] w fun e w' => e = .returned (.int .i64 n) ∧ w = w' := by
  go_enter Try.func108, Try.ntmps108
  go_wp2
  go_ret
  exact ⟨rfl, rfl⟩
theorem sizeG_c (w : World) (A : Option Addr) (n c : Nat) : Calls Try.prog 125 #[.slice A n c] w fun e w' => e = .returned (.int .i64 n) ∧ w = w' := by
  go_enter Try.func125, Try.ntmps125
  go_wp2
  go_ret
  exact ⟨rfl, rfl⟩

theorem mem_idxs {α : Type} (p : α → Bool) {xs : List α} {j : Nat} {x : α} (h : xs[j]? = some x) : ((j : Int) ∈ idxs p xs) ↔ p x = true := by
  unfold idxs
  simp only [List.mem_map, List.mem_filter, Prod.exists]
  constructor
  · rintro ⟨a, b, ⟨hm, hp⟩, he⟩
    have hb : b = j := by exact_mod_cast he
    subst hb
    have := List.mem_zipIdx_iff_getElem?.1 hm
    rw [this] at h
    injection h with h
    rw [← h]; exact hp
  · intro hp
    exact ⟨x, j, ⟨List.mem_zipIdx_iff_getElem?.2 h, hp⟩, rfl⟩

set_option maxHeartbeats 2000000 in
theorem dropBeyond_c (l : Wl) (gs : List G) (w : World) (A : Option Addr) (n c : Nat) (hr : Grs w w.heap.size A n gs) (hn : n ≤ 24) (hok : ∀ g ∈ gs, g.Ok) (hl : l.Ok) (hs : ∀ g ∈ gs, SideOk l g.ax g.ay) :
   Calls Try.prog 18 #[.agg #[.slice A n c], l.val] w fun e w' => ∃ v, e = .returned (.tuple #[.agg #[v], .int .i64 (idxs (beyond l) gs).length, .bool true]) ∧ ownG w' w.heap.size v (gs.filter (fun g => !beyond l g)) ∧ Below w.heap.size w w' := by
  have z26 := sz26
  have HR0 := Lib.hid hr
  have HN := Lib.hid hr.len
  have HC := Lib.hid (fun W (K : Below w.heap.size w W) => grainsBeyond_c l gs W A n c (hr.to K) hn hok hl hs)
  clear hr hok hl hs
  go_enter Try.func18, Try.ntmps18
  go_wp2_with fail
  refine (HC.out _ (balloc (balloc (balloc (Below.refl _ _) (Nat.le_refl _) _) (Nat.le_refl _) _) (Nat.le_refl _) _)).mono ?_
  rintro e w1 ⟨vl, rfl, HL, hb1⟩
  obtain ⟨Al, cl, rfl, _, HA⟩ := own_arr i64s_len (by omega) HL
  have B1 := (((Blk.new w 26 #[.slice A n c]).alloc (.cells #[.complex .f32 l.fx l.fy, .complex .f32 l.tx l.ty, .complex .f32 l.vx l.vy] 31)).alloc (.cells #[.slice none 0 0] 26)).below hb1 (by simp; omega)
  have R1 := (Blk.new ((w.alloc (.cells #[.slice A n c] 26)).alloc (.cells #[.complex .f32 l.fx l.fy, .complex .f32 l.tx l.ty, .complex .f32 l.vx l.vy] 31)) 26 #[.slice none 0 0]).below hb1 (by simp)
  have K1 := (balloc (balloc (balloc (Below.refl w.heap.size w) (Nat.le_refl _) (.cells #[.slice A n c] 26)) (Nat.le_refl _) (.cells #[.complex .f32 l.fx l.fy, .complex .f32 l.tx l.ty, .complex .f32 l.vx l.vy] 31)) (Nat.le_refl _) (.cells #[.slice none 0 0] 26)).trans (hb1.mono (by simp; omega))
  have e1 : ((w.alloc (.cells #[.slice A n c] 26)).alloc (.cells #[.complex .f32 l.fx l.fy, .complex .f32 l.tx l.ty, .complex .f32 l.vx l.vy] 31)).heap.size = w.heap.size + 1 + 1 := by simp
  have HLen : (idxs (beyond l) gs).length ≤ 24 := Nat.le_trans (idxs_le _ _) (by rw [HN.out]; exact hn)
  rw [e1] at R1
  clear e1 hb1 HL
  have C1 := B1.cell
  have l0 := B1.lt
  have l1 := R1.lt
  have B2 := B1.alloc (.cells #[.slice none 0 0] 26)
  have R2 := R1.alloc (.cells #[.slice none 0 0] 26)
  have G2 := Blk.new w1 26 #[.slice none 0 0]
  have K2 := balloc K1 (Nat.le_refl _) (.cells #[.slice none 0 0] 26)
  have HA2 := HA.alloc (Nat.le_refl _) (.cells #[.slice none 0 0] 26)
  have O2 := World.ownsRow_nil (w1.alloc (.cells #[.slice none 0 0] 26)) (w1.heap.size + 1) 43 7
  go_wp2_with fail
  clear B1 R1 K1 C1 HA
  generalize w1.alloc (.cells #[.slice none 0 0] 26) = w2 at *
  generalize hgO : w1.heap.size = gO at *
  clear hgO
  go_loopw [25] (fun i wr => ∃ (j : Nat) (v : Value), j ≤ n ∧ i = .int .i64 j ∧ wr.ownsRow (gO + 1) 43 7 v ((gs.take j).filter (fun g => !beyond l g)).length (((gs.take j).filter (fun g => !beyond l g)).flatMap G.cells) ∧
      Blk wr gO 26 #[v] ∧ Blk wr w.heap.size 26 #[.slice A n c] ∧ Blk wr (w.heap.size + 1 + 1) 26 #[.slice none 0 0] ∧ Below w.heap.size w wr ∧ Ints wr gO Al (idxs (beyond l) gs).length (idxs (beyond l) gs)) (fun i _ => n - (intOf i).toNat)
  case atStart => exact ⟨0, _, by omega, rfl, O2, G2, B2, R2, K2, HA2⟩
  case round =>
    obtain ⟨j, v, hj, rfl, HO, HG, HB, HR, HK, HI⟩ := hrel
    clear O2 G2 B2 R2 K2 HA2
    obtain ⟨Av, cv, rfl, _, _⟩ := own_arr G.cells_len (by omega) HO
    have lG := HG.lt
    by_cases hlt : j < n
    · obtain ⟨b, off, g, rfl, hb, hg, c0, c1, c2, c3, c4, c5, c6⟩ := (HR0.out.below HK).grain hlt
      have HGG := Lib.hid hg
      have hfl : ((gs.take j).filter (fun g => !beyond l g)).length ≤ j := Nat.le_trans (List.length_filter_le _ _) (List.length_take_le _ _)
      have HMem := Lib.hid (mem_idxs (beyond l) hg)
      clear hg
      have CG := HG.cell
      have FG := HG.frozen
      go_wp2_with fail
      refine (containsI_c _ _ _ _ _ _ _ (HI.alloc (by omega) _) (by omega)).mono ?_
      rintro e w4 ⟨rfl, rfl⟩
      by_cases hbey : beyond l g = true
      · have hB : decide ((j : Int) ∈ idxs (beyond l) gs) = true := by simp [HMem.out, hbey]
        have HF : Hid ((gs.take (j + 1)).filter (fun g => !beyond l g) = (gs.take j).filter (fun g => !beyond l g)) := by
          show _ = _
          rw [take_snoc' HGG.out, List.filter_append]; simp [hbey]
        clear hbey
        go_wp2_with fail
        refine ⟨⟨j + 1, _, by omega, by go_num, ?_, HG.alloc _, HB.alloc _, HR.alloc _, balloc HK (Nat.le_refl _) _, HI.alloc (by omega) _⟩, by simp [intOf]; omega⟩
        rw [HF.out]; exact HO.alloc _
      · have hB : decide ((j : Int) ∈ idxs (beyond l) gs) = false := by simp [HMem.out, hbey]
        have HF : Hid ((gs.take (j + 1)).filter (fun g => !beyond l g) = (gs.take j).filter (fun g => !beyond l g) ++ [g]) := by
          show _ = _
          rw [take_snoc' HGG.out, List.filter_append]; simp [hbey]
        clear hbey
        go_wp2_with (at_builtin; refine wpL_append1 elG rfl rfl (y := g) rfl rfl ((HO.alloc _).alloc _) (Blk.newAt ?c3 43 _) rfl rfl rfl ?c1 ?c2 ?c4)
        case c1 => omega
        case c2 => simp; omega
        case c3 => simp
        intro v' w5 HO6 HG6
        have BX := own_grown ((HO.alloc _).alloc _) HG6 (by simp; omega)
        have HGX := ((HG.alloc _).alloc _).grown HG6 (own_ne HO HG (by decide))
        have HBX := ((HB.alloc _).alloc _).below BX (by omega)
        have HRX := ((HR.alloc _).alloc _).below BX (by omega)
        have HKX := (balloc (balloc HK (Nat.le_refl _) _) (Nat.le_refl _) _).trans (BX.mono (by omega))
        have HIX := ((HI.alloc (by omega) _).alloc (by simp; omega) _).below (BX.mono (by omega))
        have HO7 : w5.ownsRow (gO + 1) 43 7 v' ((gs.take (j + 1)).filter (fun g => !beyond l g)).length (((gs.take (j + 1)).filter (fun g => !beyond l g)).flatMap G.cells) := by
          rw [HF.out, List.length_append, List.flatMap_append]; simpa using HO6
        clear HO6 HG6 HO HG HB HR HK HI BX CG FG
        obtain ⟨Av', cv', rfl, _, _⟩ := own_arr G.cells_len (by omega) HO7
        have CG := HGX.cell
        have FG := HGX.frozen
        go_wp2_with fail
        exact ⟨⟨j + 1, _, by omega, by go_num, own_set HO7 (own_ne HO7 HGX (by decide)) _ _, HGX.set_ 0 _, HBX.off (by omega) _ _, HRX.off (by omega) _ _, bset HKX (by omega) _ _, HIX.keep (fun b o hb => World.cell?_setCell_other _ _ _ _ (by intro e; injection e; omega))⟩, by simp [intOf]; omega⟩
    · have e : gs.take j = gs := List.take_of_length_le (by rw [HN.out]; omega)
      rw [e] at HO HG
      clear e
      have CG := HG.cell
      have CR := HR.cell
      have FR := HR.frozen
      go_wp2_with fail
      go_region_with (go_at_call 108; refine (sizeI_c _ _ _ _).mono ?_; rintro e w' ⟨rfl, rfl⟩)
      all_goals
        go_wp2
        refine ret_cell3 (g := w.heap.size + 1 + 1) rfl rfl (HR.set_ 0 _).drew1 Try.underlying26 z26 rfl ?_
        exact ⟨_, rfl, own_mono (own_drew1 (own_set HO (fun he => by have h9 := (HO.lt (w.heap.size + 1 + 1) he).1; omega) 0 _)) (by omega), bdrew1 (bset HK (by omega) _ _)⟩
end Go.Proofs.Ytdnhdfnghkkncaa
