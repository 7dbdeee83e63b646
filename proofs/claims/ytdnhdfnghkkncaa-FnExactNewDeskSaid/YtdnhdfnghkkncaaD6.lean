/-
  Contracts: marks that are written into grains, and read again; marks of heaps and desks.
-/
import Derived.Test.YtdnhdfnghkkncaaD5
set_option linter.unusedSimpArgs false
set_option linter.unusedVariables false
set_option maxRecDepth 100000
namespace Go.Proofs.Ytdnhdfnghkkncaa
open Go.RowKit
open Fl Ieee

def markG (k : Int) : G := ⟨mk k, mk1, mk (k + 1), mk1, fint (k + 2), fint (k + 3), fint (k + 4), fint (k + 5), (k + 6).tmod 3 == 0⟩
theorem fint_same {k : Int} (h0 : 0 ≤ k) (h1 : k ≤ 100000) : (FloatKind.f32.format.order (fint k) (fint k) == some Ordering.eq) = true := by
  have h := IsG.int (n := k) (by omega)
  have := h.feq h
  simpa using this

set_option maxHeartbeats 4000000 in
theorem markGrainS_c (gs : List G) (w : World) (base g n cap : Nat) (k : Int) (hO : w.ownsRow base 43 7 (.slice (some ⟨g, 0, none⟩) n cap) n (gs.flatMap G.cells)) (hl : gs.length = n) (hn : n ≤ 100) (h0 : 0 ≤ k) (h1 : k ≤ 1000) :
   Calls Try.prog 267 #[.slice (some ⟨g, 0, none⟩) n cap, .int .i64 k] w fun e w' => e = .returned (.int .i64 (k + 7 * n)) ∧ w'.ownsRow base 43 7 (.slice (some ⟨g, 0, none⟩) n cap) n ((setFrom (fun j => markG (k + 7 * j)) gs n).flatMap G.cells) ∧ Only g w w' := by
  have u1 := und28
  go_enter Try.func267, Try.ntmps267
  go_wp2_with fail
  go_loopw [5, 1] (fun i m wr => ∃ j : Nat, ∃ q : Int, j ≤ n ∧ i = .int .i64 j ∧ m = .int .i64 q ∧ q = k + 7 * j ∧ wr.ownsRow base 43 7 (.slice (some ⟨g, 0, none⟩) n cap) n ((setFrom (fun j => markG (k + 7 * j)) gs j).flatMap G.cells) ∧ Only g w wr) (fun i _ _ => n - (intOf i).toNat)
  case atStart => exact ⟨0, k, by omega, rfl, rfl, by omega, hO, only_refl _ _⟩
  case round =>
    obtain ⟨j, q, hj, rfl, rfl, hq, HO, HK⟩ := hrel
    have HQ := Lib.hid hq
    by_cases hlt : j < n
    · have hlen := setFrom_len (fun j => markG (k + 7 * j)) gs j
      obtain ⟨l, hg⟩ : ∃ l, (setFrom (fun j => markG (k + 7 * j)) gs j)[j]? = some l := ⟨_, List.getElem?_eq_getElem (by omega)⟩
      have hcell := fun (i : Nat) (u : Value) (hk : i < 7) (hu : l.cells[i]? = some u) => (HO.cellAt (j * 7 + i) (by omega)).trans (flat_at G.cells_len _ j l hg i u hu)
      have c0 := hcell 0 _ (by omega) rfl
      have c1 := hcell 1 _ (by omega) rfl
      have c2 := hcell 2 _ (by omega) rfl
      have c3 := hcell 3 _ (by omega) rfl
      have c4 := hcell 4 _ (by omega) rfl
      have c5 := hcell 5 _ (by omega) rfl
      have c6 := hcell 6 _ (by omega) rfl
      have hfz := HO.frozenAt
      simp only [Nat.add_zero] at c0
      have e1 : wrap64 (q + 1) = q + 1 := by unfold wrap64; omega
      have e2 : wrap64 (q + 1 + 1) = q + 2 := by unfold wrap64; omega
      have e3 : wrap64 (q + 2 + 1) = q + 3 := by unfold wrap64; omega
      have e4 : wrap64 (q + 3 + 1) = q + 4 := by unfold wrap64; omega
      have e5 : wrap64 (q + 4 + 1) = q + 5 := by unfold wrap64; omega
      have e6 : wrap64 (q + 5 + 1) = q + 6 := by unfold wrap64; omega
      have e7 : wrap64 (q + 6 + 1) = q + 7 := by unfold wrap64; omega
      have n1 := (mk_is (k := q) (by omega) (by omega)).1
      have n2 := (mk_is (k := q + 1) (by omega) (by omega)).1
      have n4 := mk1_ok
      have u28 := Try.underlying28
      have u37 := Try.underlying37
      have u288 := und288
      clear hcell hq
      have hlt3 : j * 7 + 6 < n * 7 := by omega
      go_wp2_with fail
      have o1 := own_store G.cells_len HO (x' := { l with ax := mk q, ay := mk1 }) (k := 0) (u := .complex .f32 (mk q) mk1) hg (by omega) rfl
      have g1 := set_at (y := { l with ax := mk q, ay := mk1 }) hg
      have o2 := own_store G.cells_len o1 (x' := { l with ax := mk q, ay := mk1, sx := mk (q + 1), sy := mk1 }) (k := 1) (u := .complex .f32 (mk (q + 1)) mk1) g1 (by omega) rfl
      rw [List.set_set] at o2
      have g2 := set_at (y := { l with ax := mk q, ay := mk1, sx := mk (q + 1), sy := mk1 }) hg
      have o3 := own_store G.cells_len o2 (x' := { l with ax := mk q, ay := mk1, sx := mk (q + 1), sy := mk1, rad := fint (q + 2) }) (k := 2) (u := .float .f32 (fint (q + 2))) g2 (by omega) rfl
      rw [List.set_set] at o3
      have g3 := set_at (y := { l with ax := mk q, ay := mk1, sx := mk (q + 1), sy := mk1, rad := fint (q + 2) }) hg
      have o4 := own_store G.cells_len o3 (x' := { l with ax := mk q, ay := mk1, sx := mk (q + 1), sy := mk1, rad := fint (q + 2), mass := fint (q + 3) }) (k := 3) (u := .float .f32 (fint (q + 3))) g3 (by omega) rfl
      rw [List.set_set] at o4
      have g4 := set_at (y := { l with ax := mk q, ay := mk1, sx := mk (q + 1), sy := mk1, rad := fint (q + 2), mass := fint (q + 3) }) hg
      have o5 := own_store G.cells_len o4 (x' := { l with ax := mk q, ay := mk1, sx := mk (q + 1), sy := mk1, rad := fint (q + 2), mass := fint (q + 3), turn := fint (q + 4) }) (k := 4) (u := .float .f32 (fint (q + 4))) g4 (by omega) rfl
      rw [List.set_set] at o5
      have g5 := set_at (y := { l with ax := mk q, ay := mk1, sx := mk (q + 1), sy := mk1, rad := fint (q + 2), mass := fint (q + 3), turn := fint (q + 4) }) hg
      have o6 := own_store G.cells_len o5 (x' := { l with ax := mk q, ay := mk1, sx := mk (q + 1), sy := mk1, rad := fint (q + 2), mass := fint (q + 3), turn := fint (q + 4), spin := fint (q + 5) }) (k := 5) (u := .float .f32 (fint (q + 5))) g5 (by omega) rfl
      rw [List.set_set] at o6
      have g6 := set_at (y := { l with ax := mk q, ay := mk1, sx := mk (q + 1), sy := mk1, rad := fint (q + 2), mass := fint (q + 3), turn := fint (q + 4), spin := fint (q + 5) }) hg
      have o7 := own_store G.cells_len o6 (x' := markG q) (k := 6) (u := .bool ((q + 6).tmod 3 == 0)) g6 (by omega) rfl
      rw [List.set_set] at o7
      have es : setFrom (fun j => markG (k + 7 * j)) gs (j + 1) = (setFrom (fun j => markG (k + 7 * j)) gs j).set j (markG q) := by rw [HQ.out]; rfl
      rw [← es] at o7
      exact ⟨⟨j + 1, q + 7, by omega, by go_num, by rw [e7], by have := HQ.out; omega, o7, only_set (only_set (only_set (only_set (only_set (only_set (only_set HK _ _) _ _) _ _) _ _) _ _) _ _) _ _⟩, by simp [intOf]; omega⟩
    · obtain rfl : j = n := by omega
      clear hq
      go_wp2_with fail
      go_ret
      have e := HQ.out
      subst e
      exact ⟨rfl, HO, HK⟩

set_option maxHeartbeats 4000000 in
theorem heldGrainS_c (gs : List G) (w : World) (A : Option Addr) (n cap : Nat) (k : Int) (hr : Grs w w.heap.size A n gs) (hm : ∀ (j : Nat) (l : G), gs[j]? = some l → l = markG (k + 7 * j)) (hn : n ≤ 100) (h0 : 0 ≤ k) (h1 : k ≤ 1000) :
   Calls Try.prog 268 #[.slice A n cap, .int .i64 k] w fun e w' => e = .returned (.int .i64 (k + 7 * n)) ∧ w = w' := by
  have u1 := und28
  have HR := Lib.hid hr
  have HM := Lib.hid hm
  clear hr hm
  go_enter Try.func268, Try.ntmps268
  go_wp2_with fail
  go_loop [5, 1] (fun i m => ∃ j : Nat, ∃ q : Int, j ≤ n ∧ i = .int .i64 j ∧ m = .int .i64 q ∧ Hid (q = k + 7 * j)) (fun i _ => n - (intOf i).toNat)
  case atStart => exact ⟨0, k, by omega, rfl, rfl, by show _ = _; omega⟩
  case round =>
    obtain ⟨j, q, hj, rfl, rfl, HQ⟩ := hrel
    by_cases hlt : j < n
    · obtain ⟨b, off, l, rfl, hb, hg, c0, c1, c2, c3, c4, c5, c6⟩ := HR.out.grain hlt
      have hl := HM.out j l hg
      rw [← HQ.out] at hl
      subst hl
      have hq := HQ.out
      have n1 := (mk_is (k := q) (by omega) (by omega)).1
      have n2 := (mk_is (k := q + 1) (by omega) (by omega)).1
      have n4 := mk1_ok
      have s0 : (FloatKind.f32.format.order (nar (floatOfInt .f64 q)) (nar (floatOfInt .f64 q)) == some Ordering.eq) = true := mk_same (k := q) (by omega) (by omega)
      have s1 : (FloatKind.f32.format.order (nar (floatOfInt .f64 (q + 1))) (nar (floatOfInt .f64 (q + 1))) == some Ordering.eq) = true := mk_same (k := q + 1) (by omega) (by omega)
      have s4 : (FloatKind.f32.format.order (nar 4607182418800017408) (nar 4607182418800017408) == some Ordering.eq) = true := mk1_same
      have t2 : (FloatKind.f32.format.order (floatOfInt .f32 (q + 2)) (floatOfInt .f32 (q + 2)) == some Ordering.eq) = true := fint_same (k := q + 2) (by omega) (by omega)
      have b2 : (FloatKind.f32.format.order (floatOfInt .f32 (q + 2)) (floatOfInt .f32 (q + 2)) != some Ordering.eq) = false := by rw [bne, t2]; rfl
      have t3 : (FloatKind.f32.format.order (floatOfInt .f32 (q + 3)) (floatOfInt .f32 (q + 3)) == some Ordering.eq) = true := fint_same (k := q + 3) (by omega) (by omega)
      have b3 : (FloatKind.f32.format.order (floatOfInt .f32 (q + 3)) (floatOfInt .f32 (q + 3)) != some Ordering.eq) = false := by rw [bne, t3]; rfl
      have t4 : (FloatKind.f32.format.order (floatOfInt .f32 (q + 4)) (floatOfInt .f32 (q + 4)) == some Ordering.eq) = true := fint_same (k := q + 4) (by omega) (by omega)
      have b4 : (FloatKind.f32.format.order (floatOfInt .f32 (q + 4)) (floatOfInt .f32 (q + 4)) != some Ordering.eq) = false := by rw [bne, t4]; rfl
      have t5 : (FloatKind.f32.format.order (floatOfInt .f32 (q + 5)) (floatOfInt .f32 (q + 5)) == some Ordering.eq) = true := fint_same (k := q + 5) (by omega) (by omega)
      have b5 : (FloatKind.f32.format.order (floatOfInt .f32 (q + 5)) (floatOfInt .f32 (q + 5)) != some Ordering.eq) = false := by rw [bne, t5]; rfl
      have e1 : wrap64 (q + 1) = q + 1 := by unfold wrap64; omega
      have e2 : wrap64 (q + 1 + 1) = q + 2 := by unfold wrap64; omega
      have e3 : wrap64 (q + 2 + 1) = q + 3 := by unfold wrap64; omega
      have e4 : wrap64 (q + 3 + 1) = q + 4 := by unfold wrap64; omega
      have e5 : wrap64 (q + 4 + 1) = q + 5 := by unfold wrap64; omega
      have e6 : wrap64 (q + 5 + 1) = q + 6 := by unfold wrap64; omega
      have e7 : wrap64 (q + 6 + 1) = q + 7 := by unfold wrap64; omega
      have u28 := Try.underlying28
      have u37 := Try.underlying37
      have u288 := und288
      have d0 : w.cell? ⟨b, off + j * 7, none⟩ = some (.complex .f32 (nar (floatOfInt .f64 q)) (nar 4607182418800017408)) := c0
      have d1 : w.cell? ⟨b, off + j * 7 + 1, none⟩ = some (.complex .f32 (nar (floatOfInt .f64 (q + 1))) (nar 4607182418800017408)) := c1
      have d2 : w.cell? ⟨b, off + j * 7 + 2, none⟩ = some (.float .f32 (floatOfInt .f32 (q + 2))) := c2
      have d3 : w.cell? ⟨b, off + j * 7 + 3, none⟩ = some (.float .f32 (floatOfInt .f32 (q + 3))) := c3
      have d4 : w.cell? ⟨b, off + j * 7 + 4, none⟩ = some (.float .f32 (floatOfInt .f32 (q + 4))) := c4
      have d5 : w.cell? ⟨b, off + j * 7 + 5, none⟩ = some (.float .f32 (floatOfInt .f32 (q + 5))) := c5
      have d6 : w.cell? ⟨b, off + j * 7 + 6, none⟩ = some (.bool ((q + 6).tmod 3 == 0)) := c6
      have hbb : ((q + 6).tmod 3 == 0) = ((q + 6).tmod 3 == 0) := rfl
      clear hg hq c0 c1 c2 c3 c4 c5 c6
      generalize hB : ((q + 6).tmod 3 == 0) = B at d6
      cases B
      all_goals
        go_wp2_with fail
        go_round
        case rel => exact ⟨j + 1, q + 7, by omega, by go_num, by rw [e7], by have := HQ.out; show _ = _; omega⟩
        case measure => simp [intOf]; omega
    · obtain rfl : j = n := by omega
      go_wp2_with fail
      go_ret
      have e := HQ.out
      subst e
      exact ⟨rfl, rfl⟩
end Go.Proofs.Ytdnhdfnghkkncaa
