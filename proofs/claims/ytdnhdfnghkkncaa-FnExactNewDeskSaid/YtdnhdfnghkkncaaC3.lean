/-
  Heaps that fly and are pushed: turned, checked, FlyHeap, PushHeap.
-/
import Derived.Test.YtdnhdfnghkkncaaC2
set_option linter.unusedSimpArgs false
set_option linter.unusedVariables false
set_option maxRecDepth 100000
namespace Go.Proofs.Ytdnhdfnghkkncaa
open Go.RowKit

def mapTo (R : G → G) (i : Nat) (gs : List G) : List G := (gs.take i).map R ++ gs.drop i
theorem mapTo_zero (R : G → G) (gs : List G) : mapTo R 0 gs = gs := by simp [mapTo]
theorem mapTo_all (R : G → G) {gs : List G} {i : Nat} (h : gs.length ≤ i) : mapTo R i gs = gs.map R := by simp [mapTo, List.take_of_length_le h, List.drop_of_length_le h]
theorem mapTo_len (R : G → G) (i : Nat) (gs : List G) : (mapTo R i gs).length = gs.length := by simp [mapTo]; omega
theorem mapTo_at (R : G → G) {i : Nat} {gs : List G} {g : G} (h : gs[i]? = some g) : (mapTo R i gs)[i]? = some g := by
  have hlt : i < gs.length := by
    rcases Nat.lt_or_ge i gs.length with h1 | h1
    · exact h1
    · rw [List.getElem?_eq_none h1] at h; cases h
  unfold mapTo
  rw [List.getElem?_append_right (by simp; omega), List.getElem?_drop]
  rw [List.length_map, List.length_take, Nat.min_eq_left (Nat.le_of_lt hlt), Nat.sub_self, Nat.add_zero, h]
theorem mapTo_set (R : G → G) {i : Nat} {gs : List G} {g : G} (h : gs[i]? = some g) : (mapTo R i gs).set i (R g) = mapTo R (i + 1) gs := by
  have hlt : i < gs.length := by
    rcases Nat.lt_or_ge i gs.length with h1 | h1
    · exact h1
    · rw [List.getElem?_eq_none h1] at h; cases h
  unfold mapTo
  have hl : ((gs.take i).map R).length = i := by rw [List.length_map, List.length_take, Nat.min_eq_left (Nat.le_of_lt hlt)]
  rw [List.set_append_right _ _ (by rw [hl]; exact Nat.le_refl _), hl, Nat.sub_self, take_snoc' h, List.map_append]
  have hd : gs.drop i = g :: gs.drop (i + 1) := by
    rw [List.drop_eq_getElem_cons hlt]
    rw [List.getElem?_eq_getElem hlt] at h
    injection h with h
    rw [h]
  rw [hd]
  simp

theorem checked_c (gs : List G) (w : World) (A : Option Addr) (n c : Nat) (hr : Grs w w.heap.size A n gs) (hn : n ≤ 24) (hok : ∀ g ∈ gs, g.Ok) :
   Calls Try.prog 162 #[.agg #[.slice A n c]] w fun e w' => e = .returned (.tuple #[.agg #[.slice A n c], .bool true]) ∧ Below w.heap.size w w' := by
  have z26 := sz26
  have HV := Lib.hid (validHeap_c gs ((w.alloc (.cells #[.slice A n c] 26)).alloc (.cells #[.slice none 0 0] 26)) A n c (hr.to (balloc (balloc (Below.refl _ _) (Nat.le_refl _) _) (Nat.le_refl _) _)) hn hok)
  clear hr hok
  go_enter Try.func162, Try.ntmps162
  go_wp2_with fail
  refine HV.out.mono ?_
  rintro e w1 ⟨rfl, hb1⟩
  have R1 := (Blk.new (w.alloc (.cells #[.slice A n c] 26)) 26 #[.slice none 0 0]).below hb1 (by simp)
  have B1 := ((Blk.new w 26 #[.slice A n c]).alloc (.cells #[.slice none 0 0] 26)).below hb1 (by simp; omega)
  have K1 := (balloc (balloc (Below.refl w.heap.size w) (Nat.le_refl _) (.cells #[.slice A n c] 26)) (Nat.le_refl _) (.cells #[.slice none 0 0] 26)).trans (hb1.mono (by simp; omega))
  have e1 : (w.alloc (.cells #[.slice A n c] 26)).heap.size = w.heap.size + 1 := by simp
  rw [e1] at R1
  clear e1 hb1
  have C1 := B1.cell
  have l0 := B1.lt
  have l1 := R1.lt
  have CR := R1.cell
  have FR := R1.frozen
  go_wp2_with fail
  refine ret_cell2 (g := w.heap.size + 1) rfl rfl (R1.set_ 0 _) Try.underlying26 sz26 rfl ?_
  exact ⟨rfl, bset K1 (by omega) _ _⟩

set_option maxHeartbeats 2000000 in
theorem turned_c (fid : Nat) (caps : Array Value) (R : G → G) (gs : List G) (w : World) (A : Option Addr) (n c : Nat) (hr : Grs w w.heap.size A n gs) (hn : n ≤ 24) (hok : ∀ g ∈ gs, g.Ok) (hok2 : ∀ g ∈ gs, (R g).Ok)
   (hin : ∀ args w, (callFunc fid args).run Try.prog w = .ok (.enter fid args) w)
   (hc : ∀ (W : World) (base gv cap i : Nat) (xs : List G) (g : G), Below w.heap.size w W → w.heap.size ≤ gv → W.ownsRow base 43 7 (.slice (some ⟨gv, 0, none⟩) n cap) n (xs.flatMap G.cells) → xs.length = n → xs[i]? = some g → gs[i]? = some g →
      Calls Try.prog fid (#[.pointer (some ⟨gv, i * 7, none⟩)] ++ caps) W fun e w' => e = .returned (.tuple #[]) ∧ w'.ownsRow base 43 7 (.slice (some ⟨gv, 0, none⟩) n cap) n ((xs.set i (R g)).flatMap G.cells) ∧ Only gv W w') :
   Calls Try.prog 133 #[.agg #[.slice A n c], .func (.func fid) #[] caps] w fun e w' => ∃ v, e = .returned (.tuple #[.agg #[v], .bool true]) ∧ ownG w' w.heap.size v (gs.map R) ∧ Below w.heap.size w w' := by
  have z26 := sz26
  have HN := Lib.hid hr.len
  have HOK2 := Lib.hid hok2
  have HC := Lib.hid hc
  have K0 := balloc (balloc (Below.refl w.heap.size w) (Nat.le_refl _) (.cells #[.slice A n c] 26)) (Nat.le_refl _) (.cells #[.slice none 0 0] 26)
  have HV := Lib.hid (validHeap_c gs _ A n c (hr.to K0) hn hok)
  have HO := Lib.hid (fun W (K : Below w.heap.size w W) => own_c gs W A n c (hr.to K) (by omega))
  clear hr hok hok2 hc
  go_enter Try.func133, Try.ntmps133
  go_wp2_with fail
  refine HV.out.mono ?_
  rintro e w1 ⟨rfl, hb1⟩
  have R1 := (Blk.new (w.alloc (.cells #[.slice A n c] 26)) 26 #[.slice none 0 0]).below hb1 (by simp)
  have B1 := ((Blk.new w 26 #[.slice A n c]).alloc (.cells #[.slice none 0 0] 26)).below hb1 (by simp; omega)
  have K1 := K0.trans (hb1.mono (by simp; omega))
  have e1 : (w.alloc (.cells #[.slice A n c] 26)).heap.size = w.heap.size + 1 := by simp
  rw [e1] at R1
  clear e1 hb1 K0 HV
  have C1 := B1.cell
  have l0 := B1.lt
  have l1 := R1.lt
  go_wp2_with fail
  refine (HO.out _ K1).mono ?_
  rintro e w2 ⟨v, rfl, HO2, hb2⟩
  have R2 := R1.below hb2 l1
  have K2 := K1.trans (hb2.mono (by omega))
  obtain ⟨Av, cv, rfl, _, _⟩ := own_arr G.cells_len (by omega) HO2
  have en := HN.out
  have L2 := R2.lt
  clear R1 B1 C1 hb2 K1 HO
  go_wp2_with fail
  have T3 := Blk.new w2 26 #[.slice Av n cv]
  have O3 : (w2.alloc (.cells #[.slice Av n cv] 26)).ownsRow w1.heap.size 43 7 (.slice Av n cv) n ((mapTo R 0 gs).flatMap G.cells) := by
    have h : w2.ownsRow w1.heap.size 43 7 (.slice Av gs.length cv) gs.length (gs.flatMap G.cells) := HO2
    rw [en] at h
    rw [mapTo_zero]
    exact h.alloc _
  have R3 := R2.alloc (.cells #[.slice Av n cv] 26)
  have K3 := balloc K2 (Nat.le_refl _) (.cells #[.slice Av n cv] 26)
  clear HO2 R2 K2
  go_loopw [17] (fun i wr => ∃ j : Nat, j ≤ n ∧ i = .int .i64 j ∧ Blk wr w2.heap.size 26 #[.slice Av n cv] ∧ wr.ownsRow w1.heap.size 43 7 (.slice Av n cv) n ((mapTo R j gs).flatMap G.cells) ∧ Blk wr (w.heap.size + 1) 26 #[.slice none 0 0] ∧ Below w.heap.size w wr) (fun i _ => n - (intOf i).toNat)
  case atStart => exact ⟨0, by omega, rfl, T3, O3, R3, K3⟩
  case round =>
    obtain ⟨j, hj, rfl, HT, HW, HR, HK⟩ := hrel
    clear T3 O3 R3 K3
    have CT := HT.cell
    have lt := HT.lt
    by_cases hlt : j < n
    · obtain ⟨g0, hg0⟩ : ∃ g, gs[j]? = some g := ⟨_, List.getElem?_eq_getElem (by omega)⟩
      obtain ⟨gv, cap, hv⟩ : ∃ gv, ∃ cap, Value.slice Av n cv = .slice (some ⟨gv, 0, none⟩) n cap := by
        obtain ⟨g', cap, h, _⟩ := HW.form (by omega)
        exact ⟨g', cap, h⟩
      injection hv with h1 _ h3
      subst h1 h3
      have hgv := HW.lt gv rfl
      have hne : gv ≠ w2.heap.size := fun he => own_ne HW HT (by decide) (by rw [he]; rfl)
      have HH := Lib.hid (HC.out wr w1.heap.size gv cv j (mapTo R j gs) g0 HK (by omega) HW (by rw [mapTo_len]; exact en) (mapTo_at R hg0) hg0)
      have HM := Lib.hid (mapTo_set R hg0)
      clear hg0
      go_wp2_with fail
      refine HH.out.mono ?_
      rintro e w3 ⟨rfl, HW3, O4⟩
      have HT3 := HT.only O4 (Ne.symm hne)
      have HR3 := HR.only O4 (by omega)
      have HK3 := HK.trans (only_below O4 (by omega) HK.size)
      rw [HM.out] at HW3
      clear HT HW HR HK CT HH HM
      go_wp2_with fail
      exact ⟨⟨j + 1, by omega, by go_num, HT3, HW3, HR3, HK3⟩, by simp [intOf]; omega⟩
    · obtain rfl : j = n := by omega
      rw [mapTo_all R (by omega)] at HW
      obtain ⟨Ax, cx, hx, _, HA⟩ := own_arr G.cells_len (by omega) HW
      injection hx with hx1 _ hx3
      subst hx1 hx3
      have HCK := Lib.hid (checked_c (gs.map R) wr Av j cv HA hn (by intro x hx; obtain ⟨g, hg, rfl⟩ := List.mem_map.1 hx; exact HOK2.out g hg))
      clear HA
      go_wp2_with fail
      refine HCK.out.mono ?_
      rintro e w3 ⟨rfl, K5⟩
      have lr := HR.lt
      have HR5 := HR.below K5 lr
      have HW5 := own_below HW K5
      have HK5 := HK.trans (K5.mono HK.size)
      have CR := HR5.cell
      have FR := HR5.frozen
      have hne := own_ne HW5 HR5 (by decide)
      clear HT HW HR HK CT HCK K5
      go_wp2_with fail
      refine ret_cell2 (g := w.heap.size + 1) rfl rfl (HR5.set_ 0 _) Try.underlying26 sz26 rfl ?_
      refine ⟨_, rfl, ?_, bset HK5 (by omega) _ _⟩
      have H6 := own_mono (own_set HW5 hne 0 (.slice Av j cv)) (show w.heap.size ≤ w1.heap.size by omega)
      have el : (gs.map R).length = j := by rw [List.length_map]; exact en
      show World.ownsRow _ _ _ _ _ _ _
      rw [el]
      exact H6

theorem flyHeap_c (px py t : Nat) (gs : List G) (w : World) (A : Option Addr) (n c : Nat) (hr : Grs w w.heap.size A n gs) (hn : n ≤ 24) (hok : ∀ g ∈ gs, g.Ok) (hok2 : ∀ g ∈ gs, (flyG px py t g).Ok) (hfl : ∀ g ∈ gs, g.held = false → FlyOk px py t g)
   (hp : num32 px = true) (hq : num32 py = true) (ht : num32 t = true) :
   Calls Try.prog 31 #[.agg #[.slice A n c], .complex .f32 px py, .float .f32 t] w fun e w' => ∃ v, e = .returned (.tuple #[.agg #[v], .bool true]) ∧ ownG w' w.heap.size v (gs.map (flyG px py t)) ∧ Below w.heap.size w w' := by
  have z26 := sz26
  have HT := Lib.hid (fun W p q (K : Below w.heap.size w W) (hpw : w.heap.size ≤ p ∧ p < W.heap.size) (hqw : w.heap.size ≤ q ∧ q < W.heap.size) (cp : W.cell? ⟨p, 0, none⟩ = some (.complex .f32 px py)) (cq : W.cell? ⟨q, 0, none⟩ = some (.float .f32 t)) =>
    turned_c 134 #[.pointer (some ⟨p, 0, none⟩), .pointer (some ⟨q, 0, none⟩)] (flyG px py t) gs W A n c (hr.to K) hn hok hok2 (fun _ _ => by kernel_rfl) (fun W2 base gv cap i xs g KB hgv hO hl hx hg =>
      flyAt_c W2 base gv n cap p q px py t i xs g hO hl hx (hfl g (List.mem_of_getElem? hg)) hp hq ht (by omega) (by omega) ((KB.cell (p := ⟨p, 0, none⟩) hpw.2).trans cp) ((KB.cell (p := ⟨q, 0, none⟩) hqw.2).trans cq)))
  clear hr hok hok2 hfl
  go_enter Try.func31, Try.ntmps31
  go_wp2_with fail
  have B0 := (((Blk.new w 26 #[.slice A n c]).alloc (.cells #[.complex .f32 px py] 28)).alloc (.cells #[.float .f32 t] 37)).alloc (.cells #[.slice none 0 0] 26)
  have B1 := ((Blk.newAt (w := w.alloc (.cells #[.slice A n c] 26)) (g := w.heap.size + 1) (by simp) 28 #[.complex .f32 px py]).alloc (.cells #[.float .f32 t] 37)).alloc (.cells #[.slice none 0 0] 26)
  have B2 := (Blk.newAt (w := (w.alloc (.cells #[.slice A n c] 26)).alloc (.cells #[.complex .f32 px py] 28)) (g := w.heap.size + 1 + 1) (by simp) 37 #[.float .f32 t]).alloc (.cells #[.slice none 0 0] 26)
  have B3 := Blk.newAt (w := ((w.alloc (.cells #[.slice A n c] 26)).alloc (.cells #[.complex .f32 px py] 28)).alloc (.cells #[.float .f32 t] 37)) (g := w.heap.size + 1 + 1 + 1) (by simp) 26 #[.slice none 0 0]
  have K0 := balloc (balloc (balloc (balloc (Below.refl w.heap.size w) (Nat.le_refl _) (.cells #[.slice A n c] 26)) (Nat.le_refl _) (.cells #[.complex .f32 px py] 28)) (Nat.le_refl _) (.cells #[.float .f32 t] 37)) (Nat.le_refl _) (.cells #[.slice none 0 0] 26)
  generalize hWW : (((w.alloc (.cells #[.slice A n c] 26)).alloc (.cells #[.complex .f32 px py] 28)).alloc (.cells #[.float .f32 t] 37)).alloc (.cells #[.slice none 0 0] 26) = W0 at *
  clear hWW
  refine (finiteC_c px py W0 hp hq).mono ?_
  rintro e w1 ⟨rfl, K1⟩
  have B0' := B0.below K1 B0.lt
  have B1' := B1.below K1 B1.lt
  have B2' := B2.below K1 B2.lt
  have B3' := B3.below K1 B3.lt
  have K1' := K0.trans (K1.mono K0.size)
  clear B0 B1 B2 B3 K0 K1
  have C0 := B0'.cell
  have C1 := B1'.cell
  have C2 := B2'.cell
  have l0 := B0'.lt
  have l1 := B1'.lt
  have l2 := B2'.lt
  have l3 := B3'.lt
  go_wp2_with (go_at_call 109; refine (finite_c _ _ ht).mono ?_; rintro e w' ⟨rfl, rfl⟩)
  refine (HT.out w1 (w.heap.size + 1) (w.heap.size + 1 + 1) K1' (by omega) (by omega) (C1 0) (C2 0)).mono ?_
  rintro e w2 ⟨v, rfl, HO, K2⟩
  have B3'' := B3'.below K2 l3
  have K2' := K1'.trans (K2.mono K1'.size)
  obtain ⟨Av, cv, rfl, _, _⟩ := own_arr G.cells_len (by omega) HO
  have C3 := B3''.cell
  have F3 := B3''.frozen
  have hne := own_ne HO B3'' (by decide)
  have hw := K1'.size
  clear C0 C1 C2 B0' B1' B2' B3' K1' K2 HT
  go_wp2_with fail
  refine ret_cell2 (g := w.heap.size + 1 + 1 + 1) rfl rfl (B3''.set_ 0 _) Try.underlying26 sz26 rfl ?_
  refine ⟨_, rfl, ?_, bset K2' (by omega) _ _⟩
  have h := own_mono (own_set HO hne 0 (.slice Av gs.length cv)) hw
  have el : (gs.map (flyG px py t)).length = gs.length := List.length_map ..
  rw [el] at h
  show World.ownsRow _ _ _ _ _ _ _
  rw [el]
  exact h

theorem pushHeap_c (px py : Nat) (gs : List G) (w : World) (A : Option Addr) (n c : Nat) (hr : Grs w w.heap.size A n gs) (hn : n ≤ 24) (hok : ∀ g ∈ gs, g.Ok) (hok2 : ∀ g ∈ gs, (pushG px py g).Ok)
   (hp : num32 px = true) (hq : num32 py = true) :
   Calls Try.prog 34 #[.agg #[.slice A n c], .complex .f32 px py] w fun e w' => ∃ v, e = .returned (.tuple #[.agg #[v], .bool true]) ∧ ownG w' w.heap.size v (gs.map (pushG px py)) ∧ Below w.heap.size w w' := by
  have z26 := sz26
  have HT := Lib.hid (fun W p (K : Below w.heap.size w W) (hpw : w.heap.size ≤ p ∧ p < W.heap.size) (cp : W.cell? ⟨p, 0, none⟩ = some (.complex .f32 px py)) =>
    turned_c 137 #[.pointer (some ⟨p, 0, none⟩)] (pushG px py) gs W A n c (hr.to K) hn hok hok2 (fun _ _ => by kernel_rfl) (fun W2 base gv cap i xs g KB hgv hO hl hx hg =>
      pushAt_c W2 base gv n cap p px py i xs g hO hl hx (hok g (List.mem_of_getElem? hg)).sx (hok g (List.mem_of_getElem? hg)).sy hp hq ((KB.cell (p := ⟨p, 0, none⟩) hpw.2).trans cp)))
  clear hr hok hok2
  go_enter Try.func34, Try.ntmps34
  go_wp2_with fail
  have B0 := ((Blk.new w 26 #[.slice A n c]).alloc (.cells #[.complex .f32 px py] 28)).alloc (.cells #[.slice none 0 0] 26)
  have B1 := (Blk.newAt (w := w.alloc (.cells #[.slice A n c] 26)) (g := w.heap.size + 1) (by simp) 28 #[.complex .f32 px py]).alloc (.cells #[.slice none 0 0] 26)
  have B3 := Blk.newAt (w := (w.alloc (.cells #[.slice A n c] 26)).alloc (.cells #[.complex .f32 px py] 28)) (g := w.heap.size + 1 + 1) (by simp) 26 #[.slice none 0 0]
  have K0 := balloc (balloc (balloc (Below.refl w.heap.size w) (Nat.le_refl _) (.cells #[.slice A n c] 26)) (Nat.le_refl _) (.cells #[.complex .f32 px py] 28)) (Nat.le_refl _) (.cells #[.slice none 0 0] 26)
  generalize hWW : ((w.alloc (.cells #[.slice A n c] 26)).alloc (.cells #[.complex .f32 px py] 28)).alloc (.cells #[.slice none 0 0] 26) = W0 at *
  clear hWW
  refine (finiteC_c px py W0 hp hq).mono ?_
  rintro e w1 ⟨rfl, K1⟩
  have B0' := B0.below K1 B0.lt
  have B1' := B1.below K1 B1.lt
  have B3' := B3.below K1 B3.lt
  have K1' := K0.trans (K1.mono K0.size)
  clear B0 B1 B3 K0 K1
  have C0 := B0'.cell
  have C1 := B1'.cell
  have l0 := B0'.lt
  have l1 := B1'.lt
  have l3 := B3'.lt
  go_wp2_with fail
  refine (HT.out w1 (w.heap.size + 1) K1' (by omega) (C1 0)).mono ?_
  rintro e w2 ⟨v, rfl, HO, K2⟩
  have B3'' := B3'.below K2 l3
  have K2' := K1'.trans (K2.mono K1'.size)
  obtain ⟨Av, cv, rfl, _, _⟩ := own_arr G.cells_len (by omega) HO
  have C3 := B3''.cell
  have F3 := B3''.frozen
  have hne := own_ne HO B3'' (by decide)
  have hw := K1'.size
  clear C0 C1 B0' B1' B3' K1' K2 HT
  go_wp2_with fail
  refine ret_cell2 (g := w.heap.size + 1 + 1) rfl rfl (B3''.set_ 0 _) Try.underlying26 sz26 rfl ?_
  refine ⟨_, rfl, ?_, bset K2' (by omega) _ _⟩
  have h := own_mono (own_set HO hne 0 (.slice Av gs.length cv)) hw
  have el : (gs.map (pushG px py)).length = gs.length := List.length_map ..
  rw [el] at h
  show World.ownsRow _ _ _ _ _ _ _
  rw [el]
  exact h
end Go.Proofs.Ytdnhdfnghkkncaa
