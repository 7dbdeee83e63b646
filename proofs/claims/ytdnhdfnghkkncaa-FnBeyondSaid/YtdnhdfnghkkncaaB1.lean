/-
  FnBeyond's body answers true, whatever the two lists of bytes.
-/
import Derived.Test.YtdnhdfnghkkncaaP1
import Derived.Deep.RegionWith
set_option linter.unusedSimpArgs false
set_option linter.unusedVariables false
set_option maxRecDepth 100000
namespace Go.Proofs.Ytdnhdfnghkkncaa
open Go.RowKit

theorem Arr.off {α : Type} {cs : α → List Value} {size : Nat} {w : World} {B n : Nat} {A : Option Addr} {xs : List α} {q : Nat} (h : Arr cs size w B A n xs) (hq : ∀ b o, A = some ⟨b, o, none⟩ → b ≠ q) (i : Nat) (u : Value) : Arr cs size (w.setCell ⟨q, i, none⟩ u) B A n xs :=
  ⟨h.1, fun hn => by
    obtain ⟨b, off, e, hb, hc⟩ := h.2 hn
    refine ⟨b, off, e, hb, fun i' x hx k u' hu => ?_⟩
    rw [← hc i' x hx k u' hu]
    exact World.cell?_setCell_other _ _ _ _ (by intro he; injection he with he _ _; exact hq b off e he.symm)⟩
theorem G.Ok.hold {g : G} (h : g.Ok) (b : Bool) : ({ g with held := b } : G).Ok := ⟨h.ax, h.ay, h.sx, h.sy, h.rad, h.mass, h.turn, h.spin, h.radp, h.massp⟩

set_option maxHeartbeats 3000000 in
theorem beyond_body (xs ys : List Int) (w : World) (A1 A2 : Option Addr) (n1 c1 n2 c2 : Nat) (hx : ∀ x ∈ xs, 0 ≤ x ∧ x < 256) (hy : ∀ x ∈ ys, 0 ≤ x ∧ x < 256) (h1 : Bys w w.heap.size A1 n1 xs) (h2 : Bys w w.heap.size A2 n2 ys) (hn : n1 ≤ 48 ∧ n2 ≤ 48) :
    Calls Try.prog 3 #[.slice A1 n1 c1, .slice A2 n2 c2] w fun e w' => e = .returned (.bool true) ∧ Below w.heap.size w w' := by
  have u37 := Try.underlying37
  obtain ⟨m1, m2⟩ := hn
  have H1 := Lib.hid h1
  have H2 := Lib.hid h2
  have HX := Lib.hid hx
  have HY := Lib.hid hy
  clear h1 h2 hx hy
  go_enter Try.func3, Try.ntmps3
  go_wp2_with fail
  refine (r8Long_c _ _ _ _ _ _ _ m1 m2).mono ?_
  rintro e w0 ⟨rfl, rfl⟩
  go_wp2_with fail
  refine (r8Heap_ok 4 (by omega) HX.out H1.out).mono ?_
  rintro e w1 ⟨gs, vs, v, hrow, hl, rfl, HO, K1⟩
  obtain ⟨A, c, rfl, _, HA⟩ := own_arr G.cells_len (by omega) HO
  rw [hl] at HA
  have H2' := Lib.hid (H2.out.to K1)
  clear HO H1 H2
  go_wp2_with fail
  refine (r8Place_ok 0 (by omega) HY.out (H2'.out.to (balloc (Below.refl _ _) (Nat.le_refl _) (.cells #[.slice A 4 c] 26)))).mono ?_
  rintro e w2 ⟨rfl, K2⟩
  have B2 := (Blk.new w1 26 #[.slice A 4 c]).below K2 (by simp)
  have K2' := (balloc (Below.refl w1.heap.size w1) (Nat.le_refl _) (.cells #[.slice A 4 c] 26)).trans (K2.mono (by simp))
  have L2 := B2.lt
  clear K2
  go_wp2_with fail
  refine (r8Place_ok 0 (by omega) HY.out (H2'.out.to K2')).mono ?_
  rintro e w3 ⟨rfl, K3⟩
  have B3 := B2.below K3 L2
  have K3' := K2'.trans (K3.mono (by omega))
  clear B2 K2' K3 L2
  obtain ⟨qa, qa1, qa2, hqa⟩ := qw_is HY.out 0 1065353216 (m := 4) ⟨by decide, by decide⟩ (by omega)
  obtain ⟨qb, qb1, qb2, hqb⟩ := qw_is HY.out 1 3204448256 (m := -2) ⟨by decide, by decide⟩ (by omega)
  have W1 := Lib.hid (wallAt_ok hqa hqb (by omega) (by omega)).1
  have WS := Lib.hid (fun (g : G) (hg : g ∈ gs) => by
    obtain ⟨v, hv, k1, k2, _⟩ := hrow.at_ hg
    have r1 := chain_x _ _ hrow.chain v hv
    have r2 := hrow.len
    have r3 := k2.y
    exact wallAt_side hqa hqb (by omega) (by omega) k1.ax k1.ay (by omega) (by omega))
  have a1 := hqa.num
  have a2 := hqb.num
  have z1 : num32 1073741824 = true := by decide
  have z2 : num32 1065353216 = true := by decide
  have GO := Lib.hid (fun (g : G) (hg : g ∈ gs) => by
    obtain ⟨v, hv, k1, k2, _⟩ := hrow.at_ hg
    exact k1.ok k2)
  have GL := Lib.hid (fun (g : G) (hg : g ∈ gs) => by
    obtain ⟨v, hv, k1, k2, k3⟩ := hrow.at_ hg
    exact (⟨k3, _, k1.low k2⟩ : g.held = false ∧ ∃ m, IsG 2 m (lowW g)))
  clear hrow hqa hqb
  generalize qw ys 0 1065353216 = qx at *
  generalize qw ys (0 + 1) 3204448256 = qy at *
  have HG := Lib.hid (fun W (K : Below w1.heap.size w1 W) => grainsBeyond_c (wallAt qx qy) gs W A 4 c (HA.to K) (by omega) GO.out W1.out WS.out)
  have HD := Lib.hid (fun W (K : Below w1.heap.size w1 W) => dropBeyond_c (wallAt qx qy) gs W A 4 c (HA.to K) (by omega) GO.out W1.out WS.out)
  have HL := Lib.hid (fun W (K : Below w1.heap.size w1 W) => lowest_c gs W A 4 c (HA.to K) (by omega) GO.out (fun g hg => by obtain ⟨_, _, h⟩ := GL.out g hg; exact h.num))
  have HAA := Lib.hid HA
  clear HA
  have C3 := B3.cell
  have L3 := B3.lt
  go_wp2_with fail
  have K4 := balloc K3' (Nat.le_refl _) (.cells #[.complex .f32 qx qy, .complex .f32 (fadd qx 1073741824) (fadd qy 1065353216), .complex .f32 0 0] 31)
  refine (HG.out _ K4).mono ?_
  rintro e w4 ⟨vg, rfl, HO4, K5⟩
  have B4 := (B3.alloc (.cells #[.complex .f32 qx qy, .complex .f32 (fadd qx 1073741824) (fadd qy 1065353216), .complex .f32 0 0] 31)).below K5 (by simp; omega)
  have D4 := (Blk.new w3 31 #[.complex .f32 qx qy, .complex .f32 (fadd qx 1073741824) (fadd qy 1065353216), .complex .f32 0 0]).below K5 (by simp)
  have K5' := K4.trans (K5.mono (by have := K3'.size; simp; omega))
  clear K4 K5 B3 C3 K3'
  have C4 := B4.cell
  have E4 := D4.cell
  have l4 := B4.lt
  have m4 := D4.lt
  have lp := L3
  have HN := Lib.hid (idxs_split (beyond (wallAt qx qy)) gs)
  go_wp2_with fail
  refine (HD.out _ K5').mono ?_
  rintro e w5 ⟨vd, rfl, HO5, K6⟩
  have HO4' := own_below HO4 K6
  have B5 := B4.below K6 l4
  have D5 := D4.below K6 m4
  have K7 := bthen K5' K6 (by omega)
  have L5 := HO4'
  have C5 := B5.cell
  have E5 := D5.cell
  clear HO4 B4 D4 K5' C4 E4 L5 HD
  obtain ⟨Ag, cg, rfl, _, HAG⟩ := own_arr i64s_len (by omega) HO4'
  obtain ⟨Ad, cd, rfl, _, HAD⟩ := own_arr G.cells_len (by omega) HO5
  have K6' := K6
  clear HO4' HO5 K6
  have l5 := B5.lt
  have m5 := D5.lt
  obtain ⟨b, lw, hb, hb0, hb1, hlw, hle⟩ := low_free (by intro he; rw [he] at hl; simp at hl) GL.out
  rw [hl] at hb1
  have HLE := Lib.hid hle
  clear hle
  go_wp2_with fail
  refine (HL.out _ (balloc K7 (Nat.le_refl _) _)).mono ?_
  rintro e w6 ⟨he, K8⟩
  rw [hb] at he
  unfold LowPost at he
  rw [if_neg (by omega)] at he
  subst he
  clear hb HL
  have B6 := (B5.alloc (.cells #[.slice Ad (List.filter (fun g => !beyond (wallAt qx qy) g) gs).length cd] 26)).below K8 (by simp; omega)
  have D6 := (D5.alloc (.cells #[.slice Ad (List.filter (fun g => !beyond (wallAt qx qy) g) gs).length cd] 26)).below K8 (by simp; omega)
  have F6 := (Blk.new w5 26 #[.slice Ad (List.filter (fun g => !beyond (wallAt qx qy) g) gs).length cd]).below K8 (by simp)
  have HAG6 := Lib.hid ((HAG.alloc (Nat.le_refl _) (.cells #[.slice Ad (List.filter (fun g => !beyond (wallAt qx qy) g) gs).length cd] 26)).more (by simp) |>.to K8)
  have HAD6 := Lib.hid ((HAD.alloc (Nat.le_refl _) (.cells #[.slice Ad (List.filter (fun g => !beyond (wallAt qx qy) g) gs).length cd] 26)).more (by simp) |>.to K8)
  have K9 := bthen (balloc K7 (Nat.le_refl _) _) K8 (by simp; omega)
  clear HAG HAD B5 D5 K7 K8 C5 E5 K6'
  have C6 := B6.cell
  have E6 := D6.cell
  have G6 := F6.cell
  have l6 := B6.lt
  have m6 := D6.lt
  have o6 := F6.lt
  have HNE : ((List.filter (fun g => !beyond (wallAt qx qy) g) gs).length : Int) + (idxs (beyond (wallAt qx qy)) gs).length = 4 := by have := HN.out; omega
  have HID := Lib.hid (fun (j : Nat) (g : G) (hg : gs[j]? = some g) (hp : beyond (wallAt qx qy) g = true) => idxs_at (beyond (wallAt qx qy)) hg hp)
  have HIT := Lib.hid (fun (j : Nat) (g : G) (hg : gs[j]? = some g) => idxs_take (beyond (wallAt qx qy)) hg)
  have HI0 := Lib.hid (show (idxs (beyond (wallAt qx qy)) (gs.take 4)).length = (idxs (beyond (wallAt qx qy)) gs).length by rw [List.take_of_length_le (by omega)])
  have hdn : (idxs (beyond (wallAt qx qy)) gs).length ≤ 4 := by omega
  generalize hni : (idxs (beyond (wallAt qx qy)) gs).length = ni at *
  generalize hnf : (List.filter (fun g => !beyond (wallAt qx qy) g) gs).length = nf at *
  have HNI := Lib.hid hni
  have HNF := Lib.hid hnf
  clear hni hnf
  have db0 : decide (b < 0) = false := by simp; omega
  have db1 : decide (3 < b) = false := by simp; omega
  go_wp2_with fail
  go_loopw [15, 16] (fun k i wr => ∃ j m : Nat, j ≤ 4 ∧ i = .int .i64 j ∧ k = .int .i64 m ∧ Hid ((idxs (beyond (wallAt qx qy)) (gs.take j)).length = m) ∧ m ≤ ni ∧ Below w6.heap.size w6 wr) (fun _ i _ => 4 - (intOf i).toNat)
  case atStart => exact ⟨0, 0, by omega, rfl, rfl, rfl, by omega, Below.refl _ _⟩
  case round =>
    obtain ⟨j, m, hj, rfl, rfl, hm, hmn, HK⟩ := hrel
    have CB := (B6.below HK l6).cell
    have CD := (D6.below HK m6).cell
    have KK := bthen K9 HK (by omega)
    by_cases hlt : j < 4
    · obtain ⟨b0, off, g, rfl, hbb, hg, c0, _, c2, _, _, _, _⟩ := (HAA.out.below KK).grain hlt
      have HS := sideOf_c (wallAt qx qy) g.ax g.ay
      have WG := WS.out g (List.mem_of_getElem? hg)
      have WO := W1.out
      have WL := GL.out g (List.mem_of_getElem? hg)
      have GG := GO.out g (List.mem_of_getElem? hg)
      have g1 := GG.ay
      have g2 := GG.rad
      have g3 := (fun (h : ∃ m, IsG 2 m (lowW g)) => (h.choose_spec.num : num32 (lowW g) = true)) WL.2
      have g4 : (FloatKind.f32.format.order (fsub g.ay g.rad) lw == some Ordering.lt) = false := HLE.out g (List.mem_of_getElem? hg)
      have HT := Lib.hid (HIT.out j g hg)
      have HX1 := Lib.hid (HID.out j g hg)
      clear WL GG hg
      go_wp2_with fail
      go_region_with (go_at_call 20; refine (HS _ WO WG).mono ?_; rintro e w7 ⟨rfl, hb7⟩)
      all_goals
        have K7 : Below w6.heap.size w6 w7 := bthen (bdrew1 HK) hb7 (by have := HK.size; simpa using this)
        have e7 : wr.drew.heap.size = wr.heap.size := rfl
        have CB7 := (B6.below K7 l6).cell
        have CD7 := (D6.below K7 m6).cell
        have d0 := (hb7.cell (p := ⟨b0, off + j * 7, none⟩) (by have := hbb; have := KK.size; show b0 < _; omega)).trans c0
        have d2 := (hb7.cell (p := ⟨b0, off + j * 7 + 2, none⟩) (by have := hbb; have := KK.size; show b0 < _; omega)).trans c2
        clear HS WG WO hb7 c0 c2
        go_wp2_with fail
        go_quiet (fail)
        by_cases hbw : beyond (wallAt qx qy) g = true
        · have hlt0 : (FloatKind.f32.format.order (sideW (wallAt qx qy) g.ax g.ay) 0 == some Ordering.lt) = true := hbw
          have hat := HX1.out hbw
          rw [hm.out] at hat
          have hmi : m < ni := by
            rw [← HNI.out]
            rcases Nat.lt_or_ge m (idxs (beyond (wallAt qx qy)) gs).length with h | h
            · exact h
            · rw [List.getElem?_eq_none h] at hat; cases hat
          obtain ⟨b1, o1, x, rfl, hb1', hx1, hc1⟩ := (HAG6.out.to K7).one hmi
          rw [hat] at hx1
          injection hx1 with hx1
          subst hx1
          have hm2 : Hid ((idxs (beyond (wallAt qx qy)) (gs.take (j + 1))).length = m + 1) := by
            show _ = _
            rw [HT.out, if_pos hbw, List.length_append, hm.out]; rfl
          clear hat HX1 hbw
          go_wp2_with fail
          exact ⟨⟨j + 1, m + 1, by omega, by go_num, by go_num, hm2, by omega, bdrew K7 _⟩, by simp [intOf]; omega⟩
        · have hlt0 : (FloatKind.f32.format.order (sideW (wallAt qx qy) g.ax g.ay) 0 == some Ordering.lt) = false := by simpa using hbw
          have hm2 : Hid ((idxs (beyond (wallAt qx qy)) (gs.take (j + 1))).length = m) := by
            show _ = _
            rw [HT.out, if_neg hbw, List.length_append, hm.out]; rfl
          clear HX1 hbw
          go_wp2_with fail
          exact ⟨⟨j + 1, m, by omega, by go_num, by go_num, hm2, by omega, bdrew K7 _⟩, by simp [intOf]; omega⟩
    · obtain rfl : j = 4 := by omega
      have em : m = ni := hm.out.symm.trans HI0.out
      subst em
      have C26 := CB 0
      clear hm HID HIT HI0 HLE
      go_wp2_with fail
      have DQ := B6.below HK l6
      have DW := D6.below HK m6
      have DF := F6.below HK o6
      have hw6 := HK.size
      have KW := bthen K1 KK K1.size
      have AD := (HAD6.out.to HK)
      have HA4 := HAA.out.to KK
      have hA4 : ∀ b o, A = some ⟨b, o, none⟩ → b ≠ wr.heap.size := by
        intro b o he hb
        obtain ⟨b', o', he', hb', _⟩ := HAA.out.cells (by omega)
        rw [he'] at he
        injection he with he
        injection he with he _ _
        have := KK.size
        omega
      clear B6 D6 F6 HAG6 HAD6 HAA KK K9 CB CD C26 C6 E6 G6 l6 m6 o6 HG
      generalize wr = wa at *
      go_loopw [20] (fun i wz => ∃ (j : Nat) (hs : List G) (Ah : Option Addr) (ch : Nat), j ≤ 4 ∧ i = .int .i64 j ∧ Hid (Like gs hs j) ∧ Blk wz wa.heap.size 26 #[.slice Ah 4 ch] ∧ Grs wz wz.heap.size Ah 4 hs ∧ (∀ b o, Ah = some ⟨b, o, none⟩ → b ≠ wa.heap.size) ∧ Below wa.heap.size wa wz) (fun i _ => 4 - (intOf i).toNat)
      case atStart => exact ⟨0, gs, A, c, by omega, rfl, Like.start gs, Blk.new wa 26 _, (HA4.alloc (Nat.le_refl _) _).more (by simp), hA4, balloc (Below.refl _ _) (Nat.le_refl _) _⟩
      case round =>
        obtain ⟨j, hs, Ah, ch, hj, rfl, hlike, HQ, HH, hAh, HK2⟩ := hrel
        have CQ := HQ.cell
        have FQ := HQ.frozen
        have lq := HQ.lt
        have ok2 : Hid (∀ x ∈ hs, x.Ok) := by
          intro x hx
          obtain ⟨g, b, hg, he⟩ := hlike.out.mem hx
          rw [he]
          exact (GO.out g hg).hold b
        by_cases hlt : j < 4
        · have hl2 : hs.length = 4 := hlike.out.1.trans hl
          have hex : ∃ g, hs[j]? = some g := ⟨_, List.getElem?_eq_getElem (by omega)⟩
          obtain ⟨g, hg⟩ := hex
          have HLN := Lib.hid (hlike.out.next hg)
          have HHH := holdGrain_c hs wr Ah 4 ch j g true HH (by omega) ok2.out hg
          have HL4 : (hs.set j { g with held := true }).length = 4 := by rw [List.length_set]; exact hl2
          clear hlike hg
          go_wp2_with fail
          refine HHH.mono ?_
          rintro e w7 ⟨vh, rfl, HO7, K7⟩
          have HQ7 := HQ.below K7 lq
          have F7 := HQ7.frozen
          have C7 := HQ7.cell
          have q7 := HQ7.lt
          have hz := HO7.lt
          obtain ⟨Av, cv, rfl, _, HV⟩ := own_arr G.cells_len (by omega) HO7
          rw [HL4] at HV
          have hAv : ∀ b o, Av = some ⟨b, o, none⟩ → b ≠ wa.heap.size := by
            intro b o he hb
            subst he
            have := (HO7.lt b (by simp [Value.ownBlock]))
            omega
          clear HHH HQ HH HO7 CQ FQ
          rw [HL4]
          go_wp2_with fail
          refine ⟨⟨_, _, _, _, _, _, _, _, _, _, _, _, _, _, _, _, _, ?_, rfl⟩, ?_⟩
          · exact ⟨j + 1, _, Av, cv, by omega, by go_num, HLN, (HQ7.set_ 0 _).alloc _, ((HV.off hAv 0 _).alloc (by simp) _).more (by simp), hAv, balloc (bset (bthen HK2 K7 (by omega)) (Nat.le_refl _) _ _) (Nat.le_refl _) _⟩
          · simp [intOf]; omega
        · obtain rfl : j = 4 := by omega
          have HLO := lowest_c hs wr Ah 4 ch HH (by omega) ok2.out (by
            intro x hx
            obtain ⟨g, b, hg, he⟩ := hlike.out.mem hx
            rw [he]
            obtain ⟨_, _, h⟩ := GL.out g hg
            exact h.num)
          rw [low_held hs (-1, 0) 0 (hlike.out.held (by omega))] at HLO
          have WF := (DF.below HK2 DF.lt).cell
          have WW := (DW.below HK2 DW.lt).cell
          have lF := DF.lt
          have lW := DW.lt
          have ADR := AD.to HK2
          clear hlike HH
          go_wp2_with fail
          refine HLO.mono ?_
          rintro e w8 ⟨he, K8⟩
          unfold LowPost at he
          rw [if_pos (by decide)] at he
          subst he
          have GF := ((DF.below HK2 lF).below K8 (by omega)).cell
          have GW := ((DW.below HK2 lW).below K8 (by omega)).cell
          have HB := grainsBeyond_c (wallAt qx qy) (gs.filter (fun g => !beyond (wallAt qx qy) g)) w8 Ad nf cd (ADR.to K8) (by omega) (fun g hg => GO.out g (List.mem_filter.1 hg).1) W1.out (fun g hg => WS.out g (List.mem_filter.1 hg).1)
          clear HLO WF WW
          go_wp2_with fail
          refine HB.mono ?_
          rintro e w9 ⟨vz, rfl, HO9, K9'⟩
          obtain ⟨Az, cz, rfl, _, _⟩ := own_arr i64s_len (by omega) HO9
          rw [idxs_none]
          clear HB HO9 GF GW
          go_wp2_with fail
          go_ret
          exact ⟨rfl, bthen (bthen (bthen KW HK2 (by have := KW.size; omega)) K8 (by have := KW.size; omega)) K9' (by have := KW.size; have := K8.size; have := HK2.size; omega)⟩
end Go.Proofs.Ytdnhdfnghkkncaa
