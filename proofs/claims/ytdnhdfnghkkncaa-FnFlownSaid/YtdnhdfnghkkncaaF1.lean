/-
  FnFlown's body, first part.
-/
import Derived.Test.YtdnhdfnghkkncaaF3
import Derived.Test.YtdnhdfnghkkncaaC5
set_option linter.unusedSimpArgs false
set_option linter.unusedVariables false
set_option maxRecDepth 100000
namespace Go.Proofs.Ytdnhdfnghkkncaa
open Go.RowKit

theorem quiet2 {P : Program} {f : FuncId} {args : Array Value} {w : World} {a n : Nat} {v : Value}
    (h : Calls P f args (w.drewN (a + n)) fun e w' => e = .returned v ∧ w.drewN (a + n) = w') : Calls P f args (w.drewN (a + n)) fun e w'' => e = .returned v ∧ ∃ m, w'' = (w.drewN a).drewN m :=
  h.mono fun _ _ ⟨he, hm⟩ => ⟨he, n, by rw [World.drewN_drewN]; exact hm.symm⟩
theorem quiet3 {P : Program} {f : FuncId} {args : Array Value} {w : World} {a n : Nat} {v : Value}
    (h : Calls P f args (w.drewN (a + n)) fun e w' => e = .returned v ∧ w.drewN (a + n) = w') : Calls P f args (w.drewN (a + n)) fun e w'' => e = .returned v ∧ ∃ m, w'' = w.drewN (a + m) :=
  h.mono fun _ _ ⟨he, hm⟩ => ⟨he, n, hm.symm⟩
set_option maxHeartbeats 4000000 in
theorem flown_body (xs ys : List Int) (w : World) (A1 A2 : Option Addr) (n1 c1 n2 c2 : Nat) (hx : ∀ x ∈ xs, 0 ≤ x ∧ x < 256) (hy : ∀ x ∈ ys, 0 ≤ x ∧ x < 256) (h1 : Bys w w.heap.size A1 n1 xs) (h2 : Bys w w.heap.size A2 n2 ys) (hn : n1 ≤ 48 ∧ n2 ≤ 48) :
    Calls Try.prog 5 #[.slice A1 n1 c1, .slice A2 n2 c2] w fun e w' => e = .returned (.bool true) ∧ Below w.heap.size w w' := by
  have u37 := Try.underlying37
  obtain ⟨m1, m2⟩ := hn
  have H1 := Lib.hid h1
  have H2 := Lib.hid h2
  have HX := Lib.hid hx
  have HY := Lib.hid hy
  clear h1 h2 hx hy
  go_enter Try.func5, Try.ntmps5
  go_wp2_with fail
  refine (r8Long_c _ _ _ _ _ _ _ m1 m2).mono ?_
  rintro e w0 ⟨rfl, rfl⟩
  go_wp2_with fail
  refine (r8Heap_ok 3 (by omega) HX.out H1.out).mono ?_
  rintro e w1 ⟨gs, vs, v, hrow, hl, rfl, HO, K1⟩
  obtain ⟨A, c, rfl, hnc, HA⟩ := own_arr G.cells_len (by omega) HO
  rw [hl] at HA
  have H2' := Lib.hid (H2.out.to K1)
  clear HO H1 H2
  obtain ⟨g0, g1, g2, rfl⟩ := three hl
  obtain ⟨v0, v1, v2, rfl⟩ : ∃ v0 v1 v2, vs = [v0, v1, v2] := by
    have := hrow.len
    match vs, this with
    | [a, b, d], _ => exact ⟨a, b, d, rfl⟩
  obtain ⟨i0, q0, o0⟩ := hrow.is 0 g0 v0 rfl rfl
  obtain ⟨i1, q1, o1⟩ := hrow.is 1 g1 v1 rfl rfl
  obtain ⟨i2, q2, o2⟩ := hrow.is 2 g2 v2 rfl rfl
  have hch := hrow.chain
  simp only [chain] at hch
  obtain ⟨x0a, x0b, x1a, x1b, x2a, x2b, _⟩ := hch
  clear hrow
  obtain ⟨qa, qa1, qa2, hqa⟩ := qw_is HY.out 0 1065353216 (m := 4) ⟨by decide, by decide⟩ (by omega)
  obtain ⟨qb, qb1, qb2, hqb⟩ := qw_is HY.out 1 3204448256 (m := -2) ⟨by decide, by decide⟩ (by omega)
  have hld : ([g0, g1, g2] : List G).length = 3 := rfl
  have ok0 := i0.ok q0
  have ok1 := i1.ok q1
  have ok2 := i2.ok q2
  have OK : ∀ g ∈ [g0, g1, g2], g.Ok := by simp [ok0, ok1, ok2]
  have HH := Lib.hid (fun W (K : Below w1.heap.size w1 W) => holdGrain_c [g0, g1, g2] W A 3 c 1 g1 true (HA.to K) (by omega) OK rfl)
  have HP := Lib.hid (fun W (K : Below w1.heap.size w1 W) => r8Place_ok 0 (by omega) HY.out (H2'.out.to K) (c := c2))
  have hf0 := i0.fine
  have hf1 := i1.fine
  have hf2 := i2.fine
  have r0 := i0.rest q0
  have r1 := i1.rest q1
  have r2 := i2.rest q2
  obtain ⟨t0, t0', e0a, e0b, e0c⟩ := turn_there (i0.turnOk q0)
  obtain ⟨t1, t1', e1a, e1b, e1c⟩ := turn_there (i1.turnOk q1)
  obtain ⟨t2, t2', e2a, e2b, e2c⟩ := turn_there (i2.turnOk q2)
  have y0 := q0.y
  have y1 := q1.y
  have y2 := q2.y
  have s0 := q0.sx
  have s1 := q1.sx
  have s2 := q2.sx
  have z0 := q0.sy
  have z1 := q1.sy
  have z2 := q2.sy
  generalize qw ys 0 1065353216 = px at *
  generalize qw ys (0 + 1) 3204448256 = py at *
  -- the flights
  obtain ⟨fo0, ff0, fr0⟩ := fly_fine hf0 r0 hqa hqb isHalf (.inl rfl) (by omega) (by omega) (by omega) (by omega) (by omega) (by omega) t0 o0
  obtain ⟨fo2, ff2, fr2⟩ := fly_fine hf2 r2 hqa hqb isHalf (.inl rfl) (by omega) (by omega) (by omega) (by omega) (by omega) (by omega) t2 o2
  obtain ⟨go0, gf0, gr0⟩ := fly_fine hf0 r0 (isG0 2) (isG0 2) isHalf (.inl rfl) (by omega) (by omega) (by omega) (by omega) (by omega) (by omega) t0 o0
  obtain ⟨go1, gf1, gr1⟩ := fly_fine hf1 r1 (isG0 2) (isG0 2) isHalf (.inl rfl) (by omega) (by omega) (by omega) (by omega) (by omega) (by omega) t1 o1
  obtain ⟨go2, gf2, gr2⟩ := fly_fine hf2 r2 (isG0 2) (isG0 2) isHalf (.inl rfl) (by omega) (by omega) (by omega) (by omega) (by omega) (by omega) t2 o2
  have u0 : (flyG 0 0 halfT g0).held = false := by unfold flyG; rw [if_neg (by rw [o0]; decide)]; exact o0
  have u1 : (flyG 0 0 halfT g1).held = false := by unfold flyG; rw [if_neg (by rw [o1]; decide)]; exact o1
  have u2 : (flyG 0 0 halfT g2).held = false := by unfold flyG; rw [if_neg (by rw [o2]; decide)]; exact o2
  have tt0 : TurnFlies (flyG 0 0 halfT g0).turn (flyG 0 0 halfT g0).spin nhalfT := by unfold flyG; rw [if_neg (by rw [o0]; decide)]; exact t0'
  have tt1 : TurnFlies (flyG 0 0 halfT g1).turn (flyG 0 0 halfT g1).spin nhalfT := by unfold flyG; rw [if_neg (by rw [o1]; decide)]; exact t1'
  have tt2 : TurnFlies (flyG 0 0 halfT g2).turn (flyG 0 0 halfT g2).spin nhalfT := by unfold flyG; rw [if_neg (by rw [o2]; decide)]; exact t2'
  obtain ⟨bo0, bf0, br0⟩ := fly_fine gf0 gr0 (isG0 2) (isG0 2) isNHalf (.inr rfl) (by omega) (by omega) (by omega) (by omega) (by omega) (by omega) tt0 u0
  obtain ⟨bo1, bf1, br1⟩ := fly_fine gf1 gr1 (isG0 2) (isG0 2) isNHalf (.inr rfl) (by omega) (by omega) (by omega) (by omega) (by omega) (by omega) tt1 u1
  obtain ⟨bo2, bf2, br2⟩ := fly_fine gf2 gr2 (isG0 2) (isG0 2) isNHalf (.inr rfl) (by omega) (by omega) (by omega) (by omega) (by omega) (by omega) tt2 u2
  have hbs : ∀ x : G, x.held = true → flyG px py halfT x = x := fun x hx => by unfold flyG; rw [if_pos hx]
  have hps : ∀ x : G, x.held = true → pushG px py x = x := fun x hx => by unfold pushG; rw [if_pos hx]
  have okh : ({ g1 with held := true } : G).Ok := ⟨ok1.ax, ok1.ay, ok1.sx, ok1.sy, ok1.rad, ok1.mass, ok1.turn, ok1.spin, ok1.radp, ok1.massp⟩
  have HF1 := Lib.hid (fun W Ah ch (hh : Grs W W.heap.size Ah 3 [g0, { g1 with held := true }, g2]) => flyHeap_c px py halfT [g0, { g1 with held := true }, g2] W Ah 3 ch hh (by omega) (by simp [ok0, okh, ok2]) (by
    simp only [List.mem_cons, List.not_mem_nil, or_false, forall_eq_or_imp, forall_eq]
    exact ⟨ff0.ok fr0, by rw [hbs _ rfl]; exact okh, ff2.ok fr2⟩) (by
    simp only [List.mem_cons, List.not_mem_nil, or_false, forall_eq_or_imp, forall_eq]
    exact ⟨fun _ => fo0, fun h => absurd h (by decide), fun _ => fo2⟩) hqa.num hqb.num isHalf.num)
  have HF2 := Lib.hid (fun W (K : Below w1.heap.size w1 W) => flyHeap_c 0 0 halfT [g0, g1, g2] W A 3 c (HA.to K) (by omega) OK (by
    simp only [List.mem_cons, List.not_mem_nil, or_false, forall_eq_or_imp, forall_eq]
    exact ⟨gf0.ok gr0, gf1.ok gr1, gf2.ok gr2⟩) (by
    simp only [List.mem_cons, List.not_mem_nil, or_false, forall_eq_or_imp, forall_eq]
    exact ⟨fun _ => go0, fun _ => go1, fun _ => go2⟩) (by decide) (by decide) isHalf.num)
  have HF3 := Lib.hid (fun W Ah ch (hh : Grs W W.heap.size Ah 3 [flyG 0 0 halfT g0, flyG 0 0 halfT g1, flyG 0 0 halfT g2]) => flyHeap_c 0 0 nhalfT [flyG 0 0 halfT g0, flyG 0 0 halfT g1, flyG 0 0 halfT g2] W Ah 3 ch hh (by omega) (by
    simp only [List.mem_cons, List.not_mem_nil, or_false, forall_eq_or_imp, forall_eq]
    exact ⟨gf0.ok gr0, gf1.ok gr1, gf2.ok gr2⟩) (by
    simp only [List.mem_cons, List.not_mem_nil, or_false, forall_eq_or_imp, forall_eq]
    exact ⟨bf0.ok br0, bf1.ok br1, bf2.ok br2⟩) (by
    simp only [List.mem_cons, List.not_mem_nil, or_false, forall_eq_or_imp, forall_eq]
    exact ⟨fun _ => bo0, fun _ => bo1, fun _ => bo2⟩) (by decide) (by decide) isNHalf.num)
  have RD : Hid (∀ j : Nat, j < 3 → ∃ g r b f : G, ([g0, g1, g2] : List G)[j]? = some g ∧ ([flyG 0 0 halfT g0, flyG 0 0 halfT g1, flyG 0 0 halfT g2] : List G)[j]? = some r ∧
      ([flyG 0 0 nhalfT (flyG 0 0 halfT g0), flyG 0 0 nhalfT (flyG 0 0 halfT g1), flyG 0 0 nhalfT (flyG 0 0 halfT g2)] : List G)[j]? = some b ∧ ([flyG px py halfT g0, flyG px py halfT { g1 with held := true }, flyG px py halfT g2] : List G)[j]? = some f ∧
      RoundOk g r b ∧ (j ≠ 1 → PullOk px py g f)) := by
    have k0 := round_ok2 hf0 gf0 bf0 (by omega) (by omega) (by omega) (by omega) r0 br0 (by obtain ⟨a, b, c⟩ := flyG_turn o0 0 0 halfT; rw [(flyG_turn c 0 0 nhalfT).1, a, b]) e0a e0b e0c
    have k1 := round_ok2 hf1 gf1 bf1 (by omega) (by omega) (by omega) (by omega) r1 br1 (by obtain ⟨a, b, c⟩ := flyG_turn o1 0 0 halfT; rw [(flyG_turn c 0 0 nhalfT).1, a, b]) e1a e1b e1c
    have k2 := round_ok2 hf2 gf2 bf2 (by omega) (by omega) (by omega) (by omega) r2 br2 (by obtain ⟨a, b, c⟩ := flyG_turn o2 0 0 halfT; rw [(flyG_turn c 0 0 nhalfT).1, a, b]) e2a e2b e2c
    have p0 := pull_ok2 hf0 ff0 hqa hqb rfl rfl (by omega) (by omega) (by omega) (by omega)
    have p2 := pull_ok2 hf2 ff2 hqa hqb rfl rfl (by omega) (by omega) (by omega) (by omega)
    intro j hj
    match j, hj with
    | 0, _ => exact ⟨g0, _, _, _, rfl, rfl, rfl, rfl, k0, fun _ => p0⟩
    | 1, _ => exact ⟨g1, _, _, _, rfl, rfl, rfl, rfl, k1, fun h => absurd rfl h⟩
    | 2, _ => exact ⟨g2, _, _, _, rfl, rfl, rfl, rfl, k2, fun _ => p2⟩
  have PM := Lib.hid (push_mom hf0.sx hf0.sy hf1.sx hf1.sy hf2.sx hf2.sy i0.mass i1.mass i2.mass hqa hqb (by omega) (by omega) (by omega) (by omega) (by omega) (by omega) q0.mass q1.mass q2.mass (by omega) (by omega) o0 o2)
  have BX := Lib.hid (show ∀ g ∈ [g0, g1, g2], BoxIs g by
    simp only [List.mem_cons, List.not_mem_nil, or_false, forall_eq_or_imp, forall_eq]
    exact ⟨i0.box q0 (by omega), i1.box q1 (by omega), i2.box q2 (by omega)⟩)
  have hok2 := Lib.hid (show ∀ g ∈ [g0, { g1 with held := true }, g2], (pushG px py g).Ok by
    obtain ⟨a, b⟩ := push_fine hf0 r0 hqa hqb (by omega) (by omega) (by omega) (by omega) o0
    obtain ⟨a2, b2⟩ := push_fine hf2 r2 hqa hqb (by omega) (by omega) (by omega) (by omega) o2
    simp only [List.mem_cons, List.not_mem_nil, or_false, forall_eq_or_imp, forall_eq]
    exact ⟨a.ok b, by rw [hps _ rfl]; exact okh, a2.ok b2⟩)
  have hokh := Lib.hid (show ∀ g ∈ [g0, { g1 with held := true }, g2], g.Ok by simp [ok0, okh, ok2])
  have hpp : [g0, { g1 with held := true }, g2].map (pushG px py) = [pushG px py g0, { g1 with held := true }, pushG px py g2] := by simp [hps]
  have hokp := Lib.hid (show ∀ g ∈ [pushG px py g0, { g1 with held := true }, pushG px py g2], g.Ok by
    rw [← hpp]
    intro g hg
    obtain ⟨x, hx, rfl⟩ := List.mem_map.1 hg
    exact hok2.out x hx)
  have HPU := Lib.hid (fun W Ah ch (hh : Grs W W.heap.size Ah 3 [g0, { g1 with held := true }, g2]) => pushHeap_c px py [g0, { g1 with held := true }, g2] W Ah 3 ch hh (by omega) hokh.out hok2.out hqa.num hqb.num)
  have HMO := Lib.hid (fun W A c (hh : Grs W W.heap.size A 3 [g0, g1, g2]) => momentum_c [g0, g1, g2] W A 3 c hh (by omega) OK PM.out.1)
  have HMP := Lib.hid (fun W A c (hh : Grs W W.heap.size A 3 [pushG px py g0, { g1 with held := true }, pushG px py g2]) => momentum_c [pushG px py g0, { g1 with held := true }, pushG px py g2] W A 3 c hh (by omega) hokp.out PM.out.2.1)
  have HBO := Lib.hid (fun W A c (hc : 3 ≤ c) (hh : Grs W W.heap.size A 3 [g0, g1, g2]) => box_c [g0, g1, g2] W A 3 c hh (by omega) hc (by omega) OK BX.out)
  have HPP := Lib.hid hpp
  have BX2 := BX
  have OKG := Lib.hid OK
  have pxn := hqa.num
  have pyn := hqb.num
  have ha1 := hf1.ax
  have hs1 := hf1.sx
  have hy1 := hf1.ay
  have hz1 := hf1.sy
  have qx1 := same_feq ha1 ha1
  have qy1 := same_feq hy1 hy1
  have qs1 := same_feq hs1 hs1
  have qz1 := same_feq hz1 hz1
  have na1 := ha1.num
  have na2 := hy1.num
  have na3 := hs1.num
  have na4 := hz1.num
  clear hpp fo0 ff0 fr0 fo2 ff2 fr2 go0 gf0 gr0 go1 gf1 gr1 go2 gf2 gr2 u0 u1 u2 tt0 tt1 tt2 bo0 bf0 br0 bo1 bf1 br1 bo2 bf2 br2 e0a e0b e0c e1a e1b e1c e2a e2b e2c t0 t0' t1 t1' t2 t2' i0 i1 i2 y0 y1 y2 s0 s1 s2 z0 z1 z2 hf0 hf1 hf2 r0 r1 r2 ha1 hs1 hy1 hz1 hqa hqb q0 q1 q2 x0a x0b x1a x1b x2a x2b hl OK ok0 ok1 ok2 okh hokh hokp hok2 BX hld qa1 qa2 qb1 qb2
  go_wp2_with fail
  refine (HH.out _ (balloc (Below.refl _ _) (Nat.le_refl _) _)).mono ?_
  rintro e w2 ⟨vh, rfl, HO2, K2⟩
  have T5 := (Blk.new w1 26 #[.slice A 3 c]).below K2 (by simp)
  have K2' := (balloc (Below.refl w1.heap.size w1) (Nat.le_refl _) (.cells #[.slice A 3 c] 26)).trans (K2.mono (by simp))
  obtain ⟨Ah, ch, rfl, hch, HAh⟩ := own_arr G.cells_len (by omega) HO2
  have HAh2 : Grs w2 w2.heap.size Ah 3 [g0, { g1 with held := true }, g2] := HAh
  have eh : (([g0, g1, g2] : List G).set 1 { g1 with held := true }).length = 3 := rfl
  rw [eh]
  clear HO2 K2 HH HAh hch eh
  have C5 := T5.cell
  have l5 := T5.lt
  go_wp2_with fail
  refine (HP.out _ (balloc K2' (Nat.le_refl _) _)).mono ?_
  rintro e w3 ⟨rfl, K3⟩
  have T6 := (Blk.new w2 26 #[.slice Ah 3 ch]).below K3 (by simp)
  have T5b := (T5.alloc (.cells #[.slice Ah 3 ch] 26)).below K3 (by simp; omega)
  have HAh3 : Grs w3 w3.heap.size Ah 3 [g0, { g1 with held := true }, g2] := ((HAh2.alloc (Nat.le_refl _) (.cells #[.slice Ah 3 ch] 26)).more (by simp) : Grs (w2.alloc (.cells #[.slice Ah 3 ch] 26)) (w2.alloc (.cells #[.slice Ah 3 ch] 26)).heap.size Ah 3 _).to K3
  have K3' := bthen (balloc K2' (Nat.le_refl _) (.cells #[.slice Ah 3 ch] 26)) K3 (Nat.le_trans K2'.size (by simp))
  have l6 := T6.lt
  have C6 := T6.cell
  have hw2 := l5
  clear T5 K2' K3 C5 l5 HAh2 HP
  go_wp2_with fail
  refine (HF1.out w3 Ah ch HAh3).mono ?_
  rintro e w4 ⟨vf, rfl, HO4, K4⟩
  have T6b := T6.below K4 l6
  have T5c := T5b.below K4 T5b.lt
  have K4' := bthen K3' K4 K3'.size
  obtain ⟨Af, cf, rfl, _, HAf⟩ := own_arr G.cells_len (by omega) HO4
  have HAf2 : Grs w4 w4.heap.size Af 3 [flyG px py halfT g0, flyG px py halfT { g1 with held := true }, flyG px py halfT g2] := HAf
  have HAh4 := HAh3.to K4
  have ef : (([g0, { g1 with held := true }, g2] : List G).map (flyG px py halfT)).length = 3 := rfl
  rw [ef]
  have C5 := T5c.cell
  have l5 := T5c.lt
  have l6' := T6b.lt
  clear T6 T5b K3' HO4 K4 HAf ef HAh3 l6 C6 HF1
  go_wp2_with fail
  refine (HF2.out _ (balloc K4' (Nat.le_refl _) _)).mono ?_
  rintro e w5 ⟨vr, rfl, HO5, K5⟩
  have T9 := (Blk.new w4 26 #[.slice Af 3 cf]).below K5 (by simp)
  have T6c := (T6b.alloc (.cells #[.slice Af 3 cf] 26)).below K5 (by simp; omega)
  have T5d := (T5c.alloc (.cells #[.slice Af 3 cf] 26)).below K5 (by simp; omega)
  have K5' := bthen (balloc K4' (Nat.le_refl _) (.cells #[.slice Af 3 cf] 26)) K5 (Nat.le_trans K4'.size (by simp))
  obtain ⟨Ar, cr, rfl, _, HAr⟩ := own_arr G.cells_len (by omega) HO5
  have HAr2 : Grs w5 w5.heap.size Ar 3 [flyG 0 0 halfT g0, flyG 0 0 halfT g1, flyG 0 0 halfT g2] := HAr
  have HAh5 := (((HAh4.alloc (Nat.le_refl _) (.cells #[.slice Af 3 cf] 26)).more (by simp) : Grs (w4.alloc (.cells #[.slice Af 3 cf] 26)) (w4.alloc (.cells #[.slice Af 3 cf] 26)).heap.size Ah 3 _)).to K5
  have HAf5 := (((HAf2.alloc (Nat.le_refl _) (.cells #[.slice Af 3 cf] 26)).more (by simp) : Grs (w4.alloc (.cells #[.slice Af 3 cf] 26)) (w4.alloc (.cells #[.slice Af 3 cf] 26)).heap.size Af 3 _)).to K5
  have er : (([g0, g1, g2] : List G).map (flyG 0 0 halfT)).length = 3 := rfl
  rw [er]
  have l9 := T9.lt
  clear T6b T5c K4' HO5 K5 HAr er HAh4 HAf2 C5 l5 l6' HF2
  go_wp2_with fail
  have T11 := Blk.new w5 26 #[.slice Ar 3 cr]
  have HAr5 := ((HAr2.alloc (Nat.le_refl _) (.cells #[.slice Ar 3 cr] 26)).more (by simp) : Grs (w5.alloc (.cells #[.slice Ar 3 cr] 26)) (w5.alloc (.cells #[.slice Ar 3 cr] 26)).heap.size Ar 3 _)
  refine (HF3.out _ Ar cr HAr5).mono ?_
  rintro e w6 ⟨vb, rfl, HO6, K6⟩
  have T11b := T11.below K6 (by simp)
  have T9b := (T9.alloc (.cells #[.slice Ar 3 cr] 26)).below K6 (by simp; omega)
  have T6d := (T6c.alloc (.cells #[.slice Ar 3 cr] 26)).below K6 (by have := T6c.lt; simp; omega)
  have T5e := (T5d.alloc (.cells #[.slice Ar 3 cr] 26)).below K6 (by have := T5d.lt; simp; omega)
  have K6' := bthen (balloc K5' (Nat.le_refl _) (.cells #[.slice Ar 3 cr] 26)) K6 (Nat.le_trans K5'.size (by simp))
  obtain ⟨Ab, cb, rfl, _, HAb⟩ := own_arr G.cells_len (by omega) HO6
  have HAb2 : Grs w6 w6.heap.size Ab 3 [flyG 0 0 nhalfT (flyG 0 0 halfT g0), flyG 0 0 nhalfT (flyG 0 0 halfT g1), flyG 0 0 nhalfT (flyG 0 0 halfT g2)] := HAb
  have HAr6 := HAr5.to K6
  have HAh6 := (((HAh5.alloc (Nat.le_refl _) (.cells #[.slice Ar 3 cr] 26)).more (by simp) : Grs (w5.alloc (.cells #[.slice Ar 3 cr] 26)) (w5.alloc (.cells #[.slice Ar 3 cr] 26)).heap.size Ah 3 _)).to K6
  have HAf6 := (((HAf5.alloc (Nat.le_refl _) (.cells #[.slice Ar 3 cr] 26)).more (by simp) : Grs (w5.alloc (.cells #[.slice Ar 3 cr] 26)) (w5.alloc (.cells #[.slice Ar 3 cr] 26)).heap.size Af 3 _)).to K6
  have HA6 : Grs w6 w6.heap.size A 3 [g0, g1, g2] := HA.to K6'
  have eb : (([flyG 0 0 halfT g0, flyG 0 0 halfT g1, flyG 0 0 halfT g2] : List G).map (flyG 0 0 nhalfT)).length = 3 := rfl
  rw [eb]
  clear T11 T9 T6c T5d K5' HO6 K6 HAb eb HAr5 HAr2 HAh5 HAf5 HF3 l9
  go_wp2_with fail
  have T13 := Blk.new w6 26 #[.slice Ab 3 cb]
  have T11c := T11b.alloc (.cells #[.slice Ab 3 cb] 26)
  have T9c := T9b.alloc (.cells #[.slice Ab 3 cb] 26)
  have T6e := T6d.alloc (.cells #[.slice Ab 3 cb] 26)
  have T5f := T5e.alloc (.cells #[.slice Ab 3 cb] 26)
  have KA := balloc K6' (Nat.le_refl _) (.cells #[.slice Ab 3 cb] 26)
  have EA := ((HA6.alloc (Nat.le_refl _) (.cells #[.slice Ab 3 cb] 26)).more (by simp) : Grs (w6.alloc (.cells #[.slice Ab 3 cb] 26)) (w6.alloc (.cells #[.slice Ab 3 cb] 26)).heap.size A 3 _)
  have EH := ((HAh6.alloc (Nat.le_refl _) (.cells #[.slice Ab 3 cb] 26)).more (by simp) : Grs (w6.alloc (.cells #[.slice Ab 3 cb] 26)) (w6.alloc (.cells #[.slice Ab 3 cb] 26)).heap.size Ah 3 _)
  have EF := ((HAf6.alloc (Nat.le_refl _) (.cells #[.slice Ab 3 cb] 26)).more (by simp) : Grs (w6.alloc (.cells #[.slice Ab 3 cb] 26)) (w6.alloc (.cells #[.slice Ab 3 cb] 26)).heap.size Af 3 _)
  have ER := ((HAr6.alloc (Nat.le_refl _) (.cells #[.slice Ab 3 cb] 26)).more (by simp) : Grs (w6.alloc (.cells #[.slice Ab 3 cb] 26)) (w6.alloc (.cells #[.slice Ab 3 cb] 26)).heap.size Ar 3 _)
  have EB := ((HAb2.alloc (Nat.le_refl _) (.cells #[.slice Ab 3 cb] 26)).more (by simp) : Grs (w6.alloc (.cells #[.slice Ab 3 cb] 26)) (w6.alloc (.cells #[.slice Ab 3 cb] 26)).heap.size Ab 3 _)
  generalize hw7 : w6.alloc (.cells #[.slice Ab 3 cb] 26) = w7 at *
  generalize w6.heap.size = p13 at *
  clear hw7 T11b T9b T6d T5e K6' HA6 HAh6 HAf6 HAr6 HAb2
  have D5 := T5f.cell
  have D9 := T9c.cell
  have D11 := T11c.cell
  have D13 := T13.cell
  obtain ⟨bA, oA, rfl, hbA, hcA⟩ := EA.cells (by omega)
  obtain ⟨bF, oF, rfl, hbF, hcF⟩ := EF.cells (by omega)
  have a10 := hcA 1 g1 rfl 0 _ rfl
  have a11 := hcA 1 g1 rfl 1 _ rfl
  have f10 := hcF 1 _ rfl 0 _ rfl
  have f11 := hcF 1 _ rfl 1 _ rfl
  rw [hbs _ rfl] at f10 f11
  simp only [Nat.one_mul, Nat.add_zero] at a10 a11 f10 f11
  have HCA := Lib.hid hcA
  have HCF := Lib.hid hcF
  clear hcA hcF
  go_quiet (fail)
  generalize nq = nq1 at *
  obtain ⟨bR, oR, rfl, hbR, hcR⟩ := ER.cells (by omega)
  obtain ⟨bB, oB, rfl, hbB, hcB⟩ := EB.cells (by omega)
  have HCR := Lib.hid hcR
  have HCB := Lib.hid hcB
  clear hcR hcB ER EB qx1 qy1 qs1 qz1 a10 a11 f10 f11 D5 D9 D11 D13
  go_wp2_with fail
  go_loopw [15] (fun i wr => ∃ j : Nat, j ≤ 3 ∧ i = .int .i64 j ∧ Below w7.heap.size w7 wr) (fun i _ => 3 - (intOf i).toNat)
  case atStart => exact ⟨0, by omega, rfl, bdrew (Below.refl _ _) _⟩
  case round =>
    obtain ⟨j, hj, rfl, HK⟩ := hrel
    have U5 := T5f.below HK T5f.lt
    have U6 := T6e.below HK T6e.lt
    have C5 := U5.cell
    by_cases hlt : j < 3
    · obtain ⟨g, r, b, f, hg, hr, hb, hf, RK, PK⟩ := RD.out j hlt
      have C9 := (T9c.below HK T9c.lt).cell
      have C11 := (T11c.below HK T11c.lt).cell
      have C13 := (T13.below HK T13.lt).cell
      have a0 := (HK.cell (p := ⟨bA, oA + j * 7 + 0, none⟩) hbA).trans (HCA.out j g hg 0 _ rfl)
      have a1 := (HK.cell (p := ⟨bA, oA + j * 7 + 1, none⟩) hbA).trans (HCA.out j g hg 1 _ rfl)
      have a4 := (HK.cell (p := ⟨bA, oA + j * 7 + 4, none⟩) hbA).trans (HCA.out j g hg 4 _ rfl)
      have r1 := (HK.cell (p := ⟨bR, oR + j * 7 + 1, none⟩) hbR).trans (HCR.out j r hr 1 _ rfl)
      have b0 := (HK.cell (p := ⟨bB, oB + j * 7 + 0, none⟩) hbB).trans (HCB.out j b hb 0 _ rfl)
      have b4 := (HK.cell (p := ⟨bB, oB + j * 7 + 4, none⟩) hbB).trans (HCB.out j b hb 4 _ rfl)
      have f1 := (HK.cell (p := ⟨bF, oF + j * 7 + 1, none⟩) hbF).trans (HCF.out j f hf 1 _ rfl)
      simp only [Nat.add_zero] at a0 b0
      have PK' := Lib.hid PK
      clear hg hr hb hf PK
      obtain ⟨rsx, rsy, rat, rtb, rtg, rt1, rt2, rt3⟩ := RK
      have rnear := rat.near
      have RAT := Lib.hid rat
      have w1 := (wid_num rtb).1
      have w2 := (wid_num rtg).1
      clear rat
      go_wp2_with fail
      go_quiet (first
        | (go_at_call 32; exact quiet' (RAT.out.call _))
        | (go_at_call 33; exact quiet' (gap_c _ w1 w2 rt1 rt2)))
      generalize nq = nq2 at *
      go_wp2_with fail
      by_cases h1 : j = 1
      · subst h1
        go_quiet (fail)
        go_wp2_with fail
        exact ⟨⟨2, by omega, by go_num, bdrew HK _⟩, by simp [intOf]⟩
      · have hne : ((j : Int) == 1) = false := by
          cases h : ((j : Int) == 1) with
          | false => rfl
          | true => have := eq_of_beq h; omega
        have hne2 : decide ((j : Int) = 1) = false := decide_eq_false (by omega)
        have hne3 : ((j : Int) = 1) = False := by simp; omega
        have hne4 : (j = 1) = False := by simp; omega
        obtain ⟨pmul, pre, pim, psx, psy, pfar⟩ := PK'.out h1
        have hcm := fun (W : World) => run_cmul (P := Try.prog) W 28 pmul
        have pnear := pfar.near
        have PFAR := Lib.hid pfar
        clear pfar pmul
        go_quiet (first
          | (go_at_call 32; first | exact quiet' (PFAR.out.call _) | exact quiet2 (PFAR.out.call _) | exact quiet3 (PFAR.out.call _)))
        go_wp2_with fail
        exact ⟨⟨j + 1, by omega, by go_num, bdrew HK _⟩, by simp [intOf]; omega⟩
    · obtain rfl : j = 3 := by omega
      have LA := EA.to HK
      have LH := EH.to HK
      have KB := bthen KA HK KA.size
      have l5 := U5.lt
      have l6 := U6.lt
      have C6 := U6.cell
      obtain ⟨_, _, mm0, mm2, mms, mmul, mre, mim, ma1, ma2, mfar⟩ := PM.out
      have MFAR := Lib.hid mfar
      have mnear := mfar.near
      have HMM := Lib.hid mmul
      clear HCA HCF HCR HCB RD T5f T6e T9c T11c T13 EA EH EF KA HK mfar mmul
      have hsz := KB.size
      go_wp2_with fail
      refine (HPU.out _ Ah ch LH).mono ?_
      rintro e w8 ⟨vp, rfl, HO8, K8⟩
      obtain ⟨Ap, cp, rfl, _, HAp⟩ := own_arr G.cells_len (by omega) HO8
      rw [HPP.out] at HAp
      have HAp2 : Grs w8 w8.heap.size Ap 3 [pushG px py g0, { g1 with held := true }, pushG px py g2] := HAp
      have ep : (([g0, { g1 with held := true }, g2] : List G).map (pushG px py)).length = 3 := rfl
      rw [ep]
      have V5 := U5.below K8 l5
      have LA8 := LA.to K8
      have KB8 := bthen KB K8 hsz
      clear HO8 HAp ep U5 U6 LA LH KB K8 C5 C6 HPU
      have C5 := V5.cell
      have l5' := V5.lt
      go_wp2_with fail
      refine (HMO.out _ _ c ((LA8.alloc (Nat.le_refl _) (.cells #[.slice Ap 3 cp] 26)).more (by simp))).mono ?_
      rintro e w9 ⟨rfl, K9⟩
      have P9 := (Blk.new w8 26 #[.slice Ap 3 cp]).below K9 (by simp)
      have V9 := (V5.alloc (.cells #[.slice Ap 3 cp] 26)).below K9 (by simp; omega)
      have LA9 := ((LA8.alloc (Nat.le_refl _) (.cells #[.slice Ap 3 cp] 26)).more (by simp) : Grs (w8.alloc (.cells #[.slice Ap 3 cp] 26)) (w8.alloc (.cells #[.slice Ap 3 cp] 26)).heap.size _ 3 _).to K9
      have LP9 := ((HAp2.alloc (Nat.le_refl _) (.cells #[.slice Ap 3 cp] 26)).more (by simp) : Grs (w8.alloc (.cells #[.slice Ap 3 cp] 26)) (w8.alloc (.cells #[.slice Ap 3 cp] 26)).heap.size Ap 3 _).to K9
      have KB9 := bthen (balloc KB8 (by omega) (.cells #[.slice Ap 3 cp] 26)) K9 (by have := KB8.size; simp; omega)
      clear V5 LA8 KB8 K9 C5 l5' HAp2 HMO
      have C5 := V9.cell
      have CP := P9.cell
      have l9 := V9.lt
      have hs9 := KB9.size
      go_wp2_with fail
      refine (HMP.out _ _ cp LP9).mono ?_
      rintro e w10 ⟨rfl, K10⟩
      have V10 := V9.below K10 l9
      have LA10 := LA9.to K10
      have KB10 := bthen KB9 K10 hs9
      clear V9 LA9 LP9 KB9 K10 C5 CP P9 HMP
      have C5 := V10.cell
      have hs10 := KB10.size
      obtain ⟨bA', oA', eA, hbA', hcA⟩ := LA10.cells (by omega)
      injection eA with eA
      injection eA with eA1 eA2 _
      subst eA1 eA2
      have a03 := hcA 0 g0 rfl 3 _ rfl
      have a23 := hcA 2 g2 rfl 3 _ rfl
      simp only [Nat.zero_mul, Nat.add_zero] at a03 a23
      have HCA := Lib.hid hcA
      clear hcA
      go_wp2_with fail
      go_quiet (fail)
      generalize nq = nq3 at *
      go_wp2_with fail
      have V11 := V10.drewN nq3
      have LA11 : Grs (w10.drewN nq3) (w10.drewN nq3).heap.size (some ⟨bA, oA, none⟩) 3 [g0, g1, g2] := LA10.drewN nq3
      have KB11 := bdrew KB10 nq3
      have hc3 : 3 ≤ c := hnc
      generalize hw11 : w10.drewN nq3 = w11 at *
      refine (HBO.out _ _ c hc3 LA11).mono ?_
      rintro e w12 ⟨x0, y0, x1, y1, rfl, hbox, K12⟩
      have l11 := V11.lt
      have V12 := V11.below K12 l11
      have LA12 := LA11.to K12
      have KB12 := bthen KB11 K12 (by have := KB11.size; omega)
      have HBOX := Lib.hid hbox
      have IB := Lib.hid (fun g (hg : g ∈ [g0, g1, g2]) => hbox.has hg (BX2.out g hg))
      clear hbox hw11 V10 LA10 KB10 V11 LA11 KB11 K12 a03 a23 HCA C5 HBO
      have hcm := fun (W : World) => run_cmul (P := Try.prog) W 28 HMM.out
      go_wp2_with (go_at_call 32; refine (MFAR.out.call _).mono ?_; rintro e w' ⟨rfl, rfl⟩)
      clear hcm mm0 mm2 mms mre mim ma1 ma2 mnear MFAR HMM
      have W5 := V12
      have WA := LA12
      have WK := KB12
      have WN := Lib.hid HBOX.out.nums
      clear V12 LA12 KB12
      generalize w12 = wz at *
      have hzs := WK.size
      go_loopw [26] (fun i wr2 => ∃ j : Nat, j ≤ 3 ∧ i = .int .i64 j ∧ Below wz.heap.size wz wr2) (fun i _ => 3 - (intOf i).toNat)
      case atStart => exact ⟨0, by omega, rfl, Below.refl _ _⟩
      case round =>
        obtain ⟨j, hj, rfl, HK⟩ := hrel
        have C5 := (W5.below HK W5.lt).cell
        by_cases hlt : j < 3
        · obtain ⟨bk, off, g, e, hbb, hg, c0, c1, c2, c3, c4, c5, c6⟩ := (WA.to HK).grain hlt
          injection e with e
          injection e with e1 e2 _
          subst e1 e2
          have hgk := OKG.out g (List.mem_of_getElem? hg)
          have k1 := hgk.ax
          have k2 := hgk.ay
          have k3 := hgk.rad
          obtain ⟨n1, n2, n3, n4⟩ := WN.out
          obtain ⟨i1, i2, i3, i4⟩ := IB.out g (List.mem_of_getElem? hg)
          clear hg hgk
          go_wp2_with fail
          exact ⟨⟨j + 1, by omega, by go_num, balloc HK (Nat.le_refl _) _⟩, by simp [intOf]; omega⟩
        · obtain rfl : j = 3 := by omega
          go_wp2_with fail
          go_ret
          exact ⟨rfl, bthen K1 (bthen WK HK hzs) K1.size⟩
end Go.Proofs.Ytdnhdfnghkkncaa
