/-
  Contracts: piles of grains (PileOfGrains, l02Pile), of radius 0.5 and mass 1.
-/
import Derived.Test.YtdnhdfnghkkncaaC3
set_option linter.unusedSimpArgs false
set_option linter.unusedVariables false
set_option maxRecDepth 100000
namespace Go.Proofs.Ytdnhdfnghkkncaa
open Go.RowKit
open Fl Ieee

/-- a grain of a pile: rad the radius, m the mass, Y the height of a row -/
def pileG (rad m Y n k : Nat) : G := ⟨fmul rad (fint (2 * (k : Int) + n)), fmul Y (fint n), 0, 0, rad, m, 0, 0, false⟩
theorem pileG_eq (rad m Y n k : Nat) : pileG rad m Y n k = ⟨fmul rad (fint (2 * (k : Int) + n)), fmul Y (fint n), 0, 0, rad, m, 0, 0, false⟩ := rfl
def pileRow (rad m Y n k : Nat) : List G := (List.range k).map (pileG rad m Y n)
def pileTo (rad m Y R n : Nat) : List G := (List.range n).flatMap (fun i => pileRow rad m Y i (R - i))
section
variable (rad m Y : Nat)
theorem pileRow_succ (n k : Nat) : pileRow rad m Y n (k + 1) = pileRow rad m Y n k ++ [pileG rad m Y n k] := by unfold pileRow; rw [List.range_succ, List.map_append]; rfl
theorem pileTo_succ (R n : Nat) : pileTo rad m Y R (n + 1) = pileTo rad m Y R n ++ pileRow rad m Y n (R - n) := by unfold pileTo; rw [List.range_succ, List.flatMap_append]; simp
theorem pileRow_len (n k : Nat) : (pileRow rad m Y n k).length = k := by simp [pileRow]
theorem pileTo_le (R : Nat) : ∀ n, (pileTo rad m Y R n).length ≤ n * R
  | 0 => by simp [pileTo]
  | n + 1 => by rw [pileTo_succ, List.length_append, pileRow_len, Nat.add_mul]; have := pileTo_le R n; omega
theorem pileTo_len {R : Nat} (h : R ≤ 6) : (pileTo rad m Y R R).length = R * (R + 1) / 2 := by
  obtain rfl | rfl | rfl | rfl | rfl | rfl | rfl : R = 0 ∨ R = 1 ∨ R = 2 ∨ R = 3 ∨ R = 4 ∨ R = 5 ∨ R = 6 := by omega
  all_goals simp [pileTo, pileRow_len, List.range_succ]
end
/-- the pile's numbers -/
structure PileOk (rad m Y : Nat) : Prop where
  y : fmul 1071494103 rad = Y
  radn : num32 rad = true
  massn : num32 m = true
  ynum : num32 Y = true
  radp : fgt rad 0 = true
  massp : fgt m 0 = true
  at_ : ∀ n k : Nat, n < 7 → k < 7 → num32 (fmul rad (fint (2 * (k : Int) + n))) = true ∧ num32 (fmul Y (fint n)) = true
theorem pileG_ok {rad m Y n k : Nat} (h : PileOk rad m Y) (hn : n < 7) (hk : k < 7) : (pileG rad m Y n k).Ok := by
  obtain ⟨a, b⟩ := h.at_ n k hn hk
  exact ⟨a, b, show num32 0 = true by decide, show num32 0 = true by decide, h.radn, h.massn, show num32 0 = true by decide, show num32 0 = true by decide, h.radp, h.massp⟩
theorem pileTo_ok {rad m Y R n : Nat} (h : PileOk rad m Y) (hR : R ≤ 6) (hn : n ≤ R) : ∀ g ∈ pileTo rad m Y R n, g.Ok := by
  intro g hg
  unfold pileTo pileRow at hg
  obtain ⟨i, hi, h'⟩ := List.mem_flatMap.1 hg
  obtain ⟨k, hk, rfl⟩ := List.mem_map.1 h'
  have := List.mem_range.1 hi
  have := List.mem_range.1 hk
  exact pileG_ok h (by omega) (by omega)
def halfY : Nat := fmul 1071494103 1056964608
theorem pile_nums : ((List.range 7).all fun n => (List.range 7).all fun k => num32 (fmul 1056964608 (fint (2 * (k : Int) + n))) && num32 (fmul halfY (fint n))) = true := by kernel_rfl
theorem halfY_num : num32 halfY = true := by kernel_rfl
theorem pileHalf : PileOk 1056964608 1065353216 halfY :=
  ⟨rfl, by decide, by decide, halfY_num, by decide, by decide, fun n k hn hk => by
    have := List.all_eq_true.1 (List.all_eq_true.1 pile_nums n (List.mem_range.2 hn)) k (List.mem_range.2 hk)
    simpa using this⟩

set_option maxHeartbeats 2000000 in
theorem pileSpec_c {rad m Y : Nat} (h : PileOk rad m Y) (w : World) (R : Nat) (hR : R ≤ 6) : Calls Try.prog 215 #[.int .i64 R, .float .f32 rad, .float .f32 m] w fun e w' => ∃ v, e = .returned (.agg #[v]) ∧ ownG w' w.heap.size v (pileTo rad m Y R R) ∧ Below w.heap.size w w' := by
  have u2 := und2
  have u37 := Try.underlying37
  have z43 := sz43
  have z26 := sz26
  have q1 : num32 1071494103 = true := by decide
  have q2 := h.radn
  have q3 := h.ynum
  have hY := h.y
  clear h
  go_enter Try.func215, Try.ntmps215
  go_wp2_with fail
  have e1 : (w.alloc (.cells #[.slice none 0 0] 26)).heap.size = w.heap.size + 1 := by simp
  have B2 := (((Blk.new w 26 #[.slice none 0 0]).alloc (.cells #[] 43)).alloc (.cells #[.slice (some ⟨w.heap.size + 1, 0, none⟩) 0 0] 26))
  have G2 := Blk.newAt (w := (w.alloc (.cells #[.slice none 0 0] 26)).alloc (.cells #[] 43)) (g := w.heap.size + 1 + 1) (by simp) 26 #[.slice (some ⟨w.heap.size + 1, 0, none⟩) 0 0]
  have O2 : (((w.alloc (.cells #[.slice none 0 0] 26)).alloc (.cells #[] 43)).alloc (.cells #[.slice (some ⟨w.heap.size + 1, 0, none⟩) 0 0] 26)).ownsRow (w.heap.size + 1) 43 7 (.slice (some ⟨w.heap.size + 1, 0, none⟩) 0 0) 0 (([] : List G).flatMap G.cells) := by
    have h := World.ownsRow_lit (w.alloc (.cells #[.slice none 0 0] 26)) (base := w.heap.size + 1) (e := 43) (size := 7) #[] 0 (by omega) (by unfold maxLen; omega) rfl
    rw [e1] at h
    exact h.alloc _
  have K2 := balloc (balloc (balloc (Below.refl w.heap.size w) (Nat.le_refl _) (.cells #[.slice none 0 0] 26)) (Nat.le_refl _) (.cells #[] 43)) (Nat.le_refl _) (.cells #[.slice (some ⟨w.heap.size + 1, 0, none⟩) 0 0] 26)
  clear e1
  generalize hW : ((w.alloc (.cells #[.slice none 0 0] 26)).alloc (.cells #[] 43)).alloc (.cells #[.slice (some ⟨w.heap.size + 1, 0, none⟩) 0 0] 26) = W0 at *
  clear hW
  generalize hρ : (R : Int) = ρ at *
  have Hρ := Lib.hid hρ
  have hρ0 : 0 ≤ ρ ∧ ρ ≤ 6 := by omega
  obtain ⟨hρ1, hρ2⟩ := hρ0
  clear hρ
  go_loopw [8] (fun i wr => ∃ (n : Nat) (ν : Int) (v : Value) (xs : List G) (L : Nat), n ≤ R ∧ i = .int .i64 ν ∧ Hid (ν = n) ∧ 0 ≤ ν ∧ ν ≤ 6 ∧ Hid (xs = pileTo rad m Y R n ∧ xs.length = L) ∧ wr.ownsRow (w.heap.size + 1) 43 7 v L (xs.flatMap G.cells) ∧ Blk wr (w.heap.size + 1 + 1) 26 #[v] ∧ Blk wr w.heap.size 26 #[.slice none 0 0] ∧ Below w.heap.size w wr) (fun i _ => R - (intOf i).toNat)
  case atStart => exact ⟨0, 0, _, [], 0, by omega, rfl, rfl, by omega, by omega, ⟨rfl, rfl⟩, O2, G2, B2, K2⟩
  case round =>
    obtain ⟨n, ν, v, xs, L, hn, rfl, Hν, hν0, hν1, HX, HO, HG, HR, HK⟩ := hrel
    clear O2 G2 B2 K2
    obtain ⟨Av, cv, rfl, _, HArr⟩ := own_arr G.cells_len (by omega) HO
    by_cases hlt : n < R
    · have c1 : decide (ν < ρ) = true := decide_eq_true (by have := Hν.out; have := Hρ.out; omega)
      have y1 := (IsG.int (n := ν) (by omega)).num
      have e2 : wrap64 (ρ - ν) = ρ - ν := by unfold wrap64; omega
      have HLE := Lib.hid (pileTo_le rad m Y R n)
      clear HArr
      go_wp2_with fail
      generalize wr = wa at *
      go_loopw [10] (fun i wz => ∃ (k : Nat) (κ : Int) (v : Value) (ys : List G) (M : Nat), k ≤ R - n ∧ i = .int .i64 κ ∧ Hid (κ = k) ∧ 0 ≤ κ ∧ κ ≤ 6 ∧ Hid (ys = pileTo rad m Y R n ++ pileRow rad m Y n k ∧ ys.length = M) ∧ wz.ownsRow (w.heap.size + 1) 43 7 v M (ys.flatMap G.cells) ∧ Blk wz (w.heap.size + 1 + 1) 26 #[v] ∧ Blk wz w.heap.size 26 #[.slice none 0 0] ∧ Below w.heap.size w wz) (fun i _ => (R - n) - (intOf i).toNat)
      case atStart => exact ⟨0, 0, _, xs, L, by omega, rfl, rfl, by omega, by omega, ⟨by rw [HX.out.1, show pileRow rad m Y n 0 = [] from rfl, List.append_nil], HX.out.2⟩, HO, HG, HR, HK⟩
      case round =>
        obtain ⟨k, κ, v, ys, M, hk, rfl, Hκ, hκ0, hκ1, HY, HO2, HG2, HR2, HK2⟩ := hrel
        clear HO HG HR HK
        obtain ⟨Av2, cv2, rfl, _, HArr⟩ := own_arr G.cells_len (by omega) HO2
        clear HArr
        by_cases hltk : k < R - n
        · have hM : M ≤ 100 := by
            rw [← HY.out.2, HY.out.1, List.length_append, pileRow_len]
            have := HLE.out
            have h6 : n * R ≤ 6 * 6 := Nat.mul_le_mul (by omega) hR
            omega
          have hκ2 : κ + ν < 6 := by have := Hν.out; have := Hρ.out; have := Hκ.out; omega
          have d1 : decide (κ < ρ - ν) = true := decide_eq_true (by have := Hν.out; have := Hρ.out; have := Hκ.out; omega)
          have e3 : wrap64 (2 * κ) = 2 * κ := by unfold wrap64; omega
          have e4 : wrap64 (2 * κ + ν) = 2 * κ + ν := by unfold wrap64; omega
          have e5 : wrap64 (κ + 1) = κ + 1 := by unfold wrap64; omega
          have y2 := (IsG.int (n := 2 * κ + ν) (by omega)).num
          have CG := HG2.cell
          have FG := HG2.frozen
          have lg := HG2.lt
          go_wp2_with (at_builtin; refine wpL_append1 elG rfl rfl (y := (⟨fmul rad (fint (2 * κ + ν)), fmul Y (fint ν), 0, 0, rad, m, 0, 0, false⟩ : G)) rfl rfl (HO2.alloc _) (Blk.newAt ?c3 43 _) rfl rfl rfl ?c1 ?c2 ?c4)
          case c1 => omega
          case c2 => simp; omega
          case c3 => rfl
          intro v' w5 HO7 HG6
          have BX := own_grown (HO2.alloc _) HG6 (by simp; omega)
          have HGX := (HG2.alloc _).grown HG6 (own_ne HO2 HG2 (by decide))
          have HRX := (HR2.alloc _).below BX (by omega)
          have HKX := (balloc HK2 (Nat.le_refl _) _).trans (BX.mono (by omega))
          have eG : (⟨fmul rad (fint (2 * κ + ν)), fmul Y (fint ν), 0, 0, rad, m, 0, 0, false⟩ : G) = pileG rad m Y n k := by rw [Hκ.out, Hν.out]; rfl
          have HO7 : w5.ownsRow (w.heap.size + 1) 43 7 v' (M + 1) ((ys ++ [pileG rad m Y n k]).flatMap G.cells) := by rw [List.flatMap_append, ← eG]; simpa using HO7
          obtain ⟨Av', cv', rfl, _, HArr⟩ := own_arr G.cells_len (by omega) HO7
          have CG6 := HGX.cell
          have FG6 := HGX.frozen
          have hne := own_ne HO7 HGX (by decide)
          have HY2 : Hid (ys ++ [pileG rad m Y n k] = pileTo rad m Y R n ++ pileRow rad m Y n (k + 1) ∧ (ys ++ [pileG rad m Y n k]).length = M + 1) := by
            refine ⟨?_, ?_⟩
            · rw [HY.out.1, pileRow_succ, List.append_assoc]
            · rw [List.length_append, HY.out.2]; rfl
          generalize ys ++ [pileG rad m Y n k] = zs at *
          clear BX HG6 CG FG HG2 HR2 HK2 HO2 HArr HY y2 e3 e4 eG
          go_wp2_with fail
          refine ⟨?_, ?_⟩
          · exact ⟨k + 1, κ + 1, _, zs, M + 1, by omega, by first | rfl | rw [e5], by have := Hκ.out; show _ = _; omega, by omega, by omega, HY2, own_set HO7 hne 0 _, HGX.set_ 0 _, HRX.off (by omega) _ _, bset HKX (by omega) _ _⟩
          · have := Hκ.out; simp [intOf]; omega
        · obtain rfl : k = R - n := by omega
          have d1 : decide (κ < ρ - ν) = false := decide_eq_false (by have := Hν.out; have := Hρ.out; have := Hκ.out; omega)
          have HX2 : Hid (ys = pileTo rad m Y R (n + 1) ∧ ys.length = M) := ⟨HY.out.1.trans (pileTo_succ rad m Y R n).symm, HY.out.2⟩
          have e6 : wrap64 (ν + 1) = ν + 1 := by unfold wrap64; omega
          clear HY
          go_wp2_with fail
          exact ⟨⟨n + 1, ν + 1, _, ys, M, by omega, by first | rfl | rw [e6], by have := Hν.out; show _ = _; omega, by omega, by have := Hν.out; omega, HX2, HO2, HG2, HR2, HK2⟩, by have := Hν.out; simp [intOf]; omega⟩
    · obtain rfl : n = R := by omega
      have c1 : decide (ν < ρ) = false := decide_eq_false (by have := Hν.out; have := Hρ.out; omega)
      have CG := HG.cell
      have CR := HR.cell
      have FR := HR.frozen
      clear HArr
      go_wp2_with fail
      obtain ⟨rfl, rfl⟩ := HX.out
      refine ret_cell (g := w.heap.size) rfl rfl (HR.set_ 0 _) Try.underlying26 sz26 rfl ?_
      exact ⟨_, rfl, own_mono (own_set (g := w.heap.size) HO (fun he => by have h9 := (HO.lt w.heap.size he).1; omega) 0 _) (show w.heap.size ≤ w.heap.size + 1 by omega), HK.setCell (Nat.le_refl _) _⟩

theorem within_t (x a b : Int) (w : World) (h : a ≤ x ∧ x ≤ b) : Calls Try.prog 128 #[.int .i64 x, .int .i64 a, .int .i64 b] w fun e w' => e = .returned (.bool true) ∧ w = w' :=
  (within_c x a b w).mono fun e w' ⟨he, hw⟩ => ⟨by rw [he]; simp; omega, hw⟩
set_option maxHeartbeats 2000000 in
theorem pile_c {rad m Y : Nat} (h : PileOk rad m Y) (w : World) (R : Nat) (hR : R ≤ 6) (hR1 : 1 ≤ R) : Calls Try.prog 52 #[.int .i64 R, .float .f32 rad, .float .f32 m] w fun e w' => ∃ v, e = .returned (.tuple #[.agg #[v], .bool true]) ∧ ownG w' w.heap.size v (pileTo rad m Y R R) ∧ Below w.heap.size w w' := by
  have u2 := und2
  have u37 := Try.underlying37
  have z43 := sz43
  have z26 := sz26
  have q1 : num32 1071494103 = true := by decide
  have q2 := h.radn
  have q4 := h.massn
  have q3 := h.ynum
  have hY := h.y
  have HOK := Lib.hid (pileTo_ok (n := R) h hR (Nat.le_refl _))
  have HW := Lib.hid (fun W => within_t (R : Int) 1 6 W (by omega))
  clear h
  have HF := finite2_c rad m (w.alloc (.cells #[.slice none 0 0] 26)) q2 q4
  rw [show (w.alloc (.cells #[.slice none 0 0] 26)).heap.size = w.heap.size + 1 by simp] at HF
  have HF2 := Lib.hid HF
  clear HF
  go_enter Try.func52, Try.ntmps52
  go_wp2_with fail
  refine (HW.out _).mono ?_
  rintro e w' ⟨rfl, rfl⟩
  go_wp2_with fail
  refine HF2.out.mono ?_
  rintro e w' ⟨rfl, rfl⟩
  go_wp2_with fail
  have B2 := (((Blk.new w 26 #[.slice none 0 0]).alloc (.cells #[.float .f32 rad, .float .f32 m] 37)).alloc (.cells #[.slice none 0 0] 26))
  have G2 := Blk.newAt (w := (w.alloc (.cells #[.slice none 0 0] 26)).alloc (.cells #[.float .f32 rad, .float .f32 m] 37)) (g := w.heap.size + 1 + 1) (by simp) 26 #[.slice none 0 0]
  have O2 : (((w.alloc (.cells #[.slice none 0 0] 26)).alloc (.cells #[.float .f32 rad, .float .f32 m] 37)).alloc (.cells #[.slice none 0 0] 26)).ownsRow (w.heap.size + 1) 43 7 (.slice none 0 0) 0 (([] : List G).flatMap G.cells) := ⟨rfl, .inl ⟨rfl, rfl⟩⟩
  have K2 := balloc (balloc (balloc (Below.refl w.heap.size w) (Nat.le_refl _) (.cells #[.slice none 0 0] 26)) (Nat.le_refl _) (.cells #[.float .f32 rad, .float .f32 m] 37)) (Nat.le_refl _) (.cells #[.slice none 0 0] 26)
  generalize hW : ((w.alloc (.cells #[.slice none 0 0] 26)).alloc (.cells #[.float .f32 rad, .float .f32 m] 37)).alloc (.cells #[.slice none 0 0] 26) = W0 at *
  clear hW
  generalize hρ : (R : Int) = ρ at *
  have Hρ := Lib.hid hρ
  have hρ0 : 0 ≤ ρ ∧ ρ ≤ 6 := by omega
  obtain ⟨hρ1, hρ2⟩ := hρ0
  clear hρ
  go_loopw [25] (fun i wr => ∃ (n : Nat) (ν : Int) (v : Value) (xs : List G) (L : Nat), n ≤ R ∧ i = .int .i64 ν ∧ Hid (ν = n) ∧ 0 ≤ ν ∧ ν ≤ 6 ∧ Hid (xs = pileTo rad m Y R n ∧ xs.length = L) ∧ wr.ownsRow (w.heap.size + 1) 43 7 v L (xs.flatMap G.cells) ∧ Blk wr (w.heap.size + 1 + 1) 26 #[v] ∧ Blk wr w.heap.size 26 #[.slice none 0 0] ∧ Below w.heap.size w wr) (fun i _ => R - (intOf i).toNat)
  case atStart => exact ⟨0, 0, _, [], 0, by omega, rfl, rfl, by omega, by omega, ⟨rfl, rfl⟩, O2, G2, B2, K2⟩
  case round =>
    obtain ⟨n, ν, v, xs, L, hn, rfl, Hν, hν0, hν1, HX, HO, HG, HR, HK⟩ := hrel
    clear O2 G2 B2 K2
    obtain ⟨Av, cv, rfl, _, HArr⟩ := own_arr G.cells_len (by omega) HO
    by_cases hlt : n < R
    · have c1 : decide (ν < ρ) = true := decide_eq_true (by have := Hν.out; have := Hρ.out; omega)
      have y1 := (IsG.int (n := ν) (by omega)).num
      have e2 : wrap64 (ρ - ν) = ρ - ν := by unfold wrap64; omega
      have HLE := Lib.hid (pileTo_le rad m Y R n)
      clear HArr
      go_wp2_with fail
      generalize wr = wa at *
      go_loopw [36] (fun i wz => ∃ (k : Nat) (κ : Int) (v : Value) (ys : List G) (M : Nat), k ≤ R - n ∧ i = .int .i64 κ ∧ Hid (κ = k) ∧ 0 ≤ κ ∧ κ ≤ 6 ∧ Hid (ys = pileTo rad m Y R n ++ pileRow rad m Y n k ∧ ys.length = M) ∧ wz.ownsRow (w.heap.size + 1) 43 7 v M (ys.flatMap G.cells) ∧ Blk wz (w.heap.size + 1 + 1) 26 #[v] ∧ Blk wz w.heap.size 26 #[.slice none 0 0] ∧ Below w.heap.size w wz) (fun i _ => (R - n) - (intOf i).toNat)
      case atStart => exact ⟨0, 0, _, xs, L, by omega, rfl, rfl, by omega, by omega, ⟨by rw [HX.out.1, show pileRow rad m Y n 0 = [] from rfl, List.append_nil], HX.out.2⟩, HO, HG, HR, HK⟩
      case round =>
        obtain ⟨k, κ, v, ys, M, hk, rfl, Hκ, hκ0, hκ1, HY, HO2, HG2, HR2, HK2⟩ := hrel
        clear HO HG HR HK
        obtain ⟨Av2, cv2, rfl, _, HArr⟩ := own_arr G.cells_len (by omega) HO2
        clear HArr
        by_cases hltk : k < R - n
        · have hM : M ≤ 100 := by
            rw [← HY.out.2, HY.out.1, List.length_append, pileRow_len]
            have := HLE.out
            have h6 : n * R ≤ 6 * 6 := Nat.mul_le_mul (by omega) hR
            omega
          have hκ2 : κ + ν < 6 := by have := Hν.out; have := Hρ.out; have := Hκ.out; omega
          have d1 : decide (κ < ρ - ν) = true := decide_eq_true (by have := Hν.out; have := Hρ.out; have := Hκ.out; omega)
          have e3 : wrap64 (2 * κ) = 2 * κ := by unfold wrap64; omega
          have e4 : wrap64 (2 * κ + ν) = 2 * κ + ν := by unfold wrap64; omega
          have e5 : wrap64 (κ + 1) = κ + 1 := by unfold wrap64; omega
          have y2 := (IsG.int (n := 2 * κ + ν) (by omega)).num
          have CG := HG2.cell
          have FG := HG2.frozen
          have lg := HG2.lt
          go_wp2_with (at_builtin; refine wpL_append1 elG rfl rfl (y := (⟨fmul rad (fint (2 * κ + ν)), fmul Y (fint ν), 0, 0, rad, m, 0, 0, false⟩ : G)) rfl rfl (HO2.alloc _) (Blk.newAt ?c3 43 _) rfl rfl rfl ?c1 ?c2 ?c4)
          case c1 => omega
          case c2 => simp; omega
          case c3 => rfl
          intro v' w5 HO7 HG6
          have BX := own_grown (HO2.alloc _) HG6 (by simp; omega)
          have HGX := (HG2.alloc _).grown HG6 (own_ne HO2 HG2 (by decide))
          have HRX := (HR2.alloc _).below BX (by omega)
          have HKX := (balloc HK2 (Nat.le_refl _) _).trans (BX.mono (by omega))
          have eG : (⟨fmul rad (fint (2 * κ + ν)), fmul Y (fint ν), 0, 0, rad, m, 0, 0, false⟩ : G) = pileG rad m Y n k := by rw [Hκ.out, Hν.out]; rfl
          have HO7 : w5.ownsRow (w.heap.size + 1) 43 7 v' (M + 1) ((ys ++ [pileG rad m Y n k]).flatMap G.cells) := by rw [List.flatMap_append, ← eG]; simpa using HO7
          obtain ⟨Av', cv', rfl, _, HArr⟩ := own_arr G.cells_len (by omega) HO7
          have CG6 := HGX.cell
          have FG6 := HGX.frozen
          have hne := own_ne HO7 HGX (by decide)
          have HY2 : Hid (ys ++ [pileG rad m Y n k] = pileTo rad m Y R n ++ pileRow rad m Y n (k + 1) ∧ (ys ++ [pileG rad m Y n k]).length = M + 1) := by
            refine ⟨?_, ?_⟩
            · rw [HY.out.1, pileRow_succ, List.append_assoc]
            · rw [List.length_append, HY.out.2]; rfl
          generalize ys ++ [pileG rad m Y n k] = zs at *
          clear BX HG6 CG FG HG2 HR2 HK2 HO2 HArr HY y2 e3 e4 eG
          go_wp2_with fail
          refine ⟨?_, ?_⟩
          · exact ⟨k + 1, κ + 1, _, zs, M + 1, by omega, by first | rfl | rw [e5], by have := Hκ.out; show _ = _; omega, by omega, by omega, HY2, own_set HO7 hne 0 _, HGX.set_ 0 _, HRX.off (by omega) _ _, bset HKX (by omega) _ _⟩
          · have := Hκ.out; simp [intOf]; omega
        · obtain rfl : k = R - n := by omega
          have d1 : decide (κ < ρ - ν) = false := decide_eq_false (by have := Hν.out; have := Hρ.out; have := Hκ.out; omega)
          have HX2 : Hid (ys = pileTo rad m Y R (n + 1) ∧ ys.length = M) := ⟨HY.out.1.trans (pileTo_succ rad m Y R n).symm, HY.out.2⟩
          have e6 : wrap64 (ν + 1) = ν + 1 := by unfold wrap64; omega
          clear HY
          go_wp2_with fail
          exact ⟨⟨n + 1, ν + 1, _, ys, M, by omega, by first | rfl | rw [e6], by have := Hν.out; show _ = _; omega, by omega, by have := Hν.out; omega, HX2, HO2, HG2, HR2, HK2⟩, by have := Hν.out; simp [intOf]; omega⟩
    · obtain rfl : n = R := by omega
      have c1 : decide (ν < ρ) = false := decide_eq_false (by have := Hν.out; have := Hρ.out; omega)
      have CG := HG.cell
      have CR := HR.cell
      have FR := HR.frozen
      obtain ⟨rfl, rfl⟩ := HX.out
      have hL : (pileTo rad m Y n n).length ≤ 24 := by rw [pileTo_len rad m Y (by omega)]; have h6 : n * (n + 1) ≤ 6 * 7 := Nat.mul_le_mul (by omega) (by omega); omega
      have HC := Lib.hid (checked_c _ wr Av _ cv HArr hL HOK.out)
      have CR := HR.cell
      clear HArr
      generalize hzl : (pileTo rad m Y n n).length = L at *
      have HZ := Lib.hid hzl
      clear hzl
      go_wp2_with fail
      refine HC.out.mono ?_
      rintro e w2 ⟨rfl, K3⟩
      have lr := HR.lt
      have HR3 := HR.below K3 lr
      have FR := HR3.frozen
      have CR3 := HR3.cell
      have HO3 := own_below HO K3
      have K4 := bthen HK K3 HK.size
      clear HR CR CG HC K3 HK HO
      go_wp2_with fail
      refine ret_cell2 (g := w.heap.size) rfl rfl (HR3.set_ 0 _) Try.underlying26 sz26 rfl ?_
      refine ⟨_, rfl, ?_, bset K4 (Nat.le_refl _) _ _⟩
      show World.ownsRow _ _ _ _ _ _ _
      rw [HZ.out]
      exact own_mono (own_set (g := w.heap.size) HO3 (fun he => by have h9 := (HO3.lt w.heap.size he).1; omega) 0 _) (show w.heap.size ≤ w.heap.size + 1 by omega)
end Go.Proofs.Ytdnhdfnghkkncaa
