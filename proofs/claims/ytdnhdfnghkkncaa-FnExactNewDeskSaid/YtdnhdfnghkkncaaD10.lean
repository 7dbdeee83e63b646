/-
  FnExactNewDesk's body.
-/
import Derived.Test.YtdnhdfnghkkncaaD9
set_option linter.unusedSimpArgs false
set_option linter.unusedVariables false
set_option maxRecDepth 100000
namespace Go.Proofs.Ytdnhdfnghkkncaa
open Go.RowKit

abbrev ndV (g1 c1 g2 c2 : Nat) (B : Option Addr) (c3 : Nat) : Array Value := deskV (some ⟨g1, 0, none⟩) 3 c1 r16 r1 rh r8 (some ⟨g2, 0, none⟩) 4 c2 B c3
abbrev ownNG (w : World) (base g c : Nat) (gs : List G) : Prop := w.ownsRow base 43 7 (.slice (some ⟨g, 0, none⟩) 3 c) 3 (gs.flatMap G.cells)
abbrev ownNW (w : World) (base g c : Nat) (ls : List Wl) : Prop := w.ownsRow base 31 3 (.slice (some ⟨g, 0, none⟩) 4 c) 4 (ls.flatMap Wl.cells)
def ndGm : List G := setFrom (fun j => markG (1 + 7 * j)) ndG 3
def ndWm : List Wl := setFrom (fun j => markW (1 + 7 * ((3 : Nat) : Int) + 3 * j)) ndW 4
theorem ndMark_c (w : World) (base g1 c1 g2 c2 : Nat) (B : Option Addr) (c3 : Nat) (hO : ownNG w base g1 c1 ndG) (hW : ownNW w base g2 c2 ndW) :
   Calls Try.prog 94 #[.agg (ndV g1 c1 g2 c2 B c3), .int .i64 1] w fun x w' => x = .returned (.int .i64 34) ∧ ownNG w' base g1 c1 ndGm ∧ ownNW w' base g2 c2 ndWm ∧ ∃ w1, Only g1 w w1 ∧ Only g2 w1 w' :=
  markDesk_c ndG ndW r16 r1 rh r8 w base g1 g2 3 4 c1 c2 B c3 1 hO hW ndG_len ndW_len (by omega) (by omega) (by omega) (by omega)
theorem ndHeld_c (w : World) (base g1 c1 g2 c2 : Nat) (B : Option Addr) (c3 : Nat) (hO : ownNG w base g1 c1 ndGm) (hW : ownNW w base g2 c2 ndWm) :
   Calls Try.prog 95 #[.agg (ndV g1 c1 g2 c2 B c3), .int .i64 1] w fun x w' => x = .returned (.int .i64 34) ∧ Below w.heap.size w w' :=
  heldDesk_c ndGm ndWm r16 r1 rh r8 w _ _ 3 4 c1 c2 B c3 1 (own_grs hO) (own_wls hW) (fun j l h => setFrom_only _ ndG ndG_len j l h) (fun j l h => setFrom_only _ ndW ndW_len j l h) (by omega) (by omega) (by omega) (by omega)
theorem ndEq_c (w : World) (b b' g1 c1 g2 c2 g1' c1' g2' c2' : Nat) (B B' : Option Addr) (c3 c3' : Nat) (hO : ownNG w b g1 c1 ndG) (hW : ownNW w b g2 c2 ndW) (hO' : ownNG w b' g1' c1' ndG) (hW' : ownNW w b' g2' c2' ndW) :
   Calls Try.prog 93 #[.agg (ndV g1 c1 g2 c2 B c3), .agg (ndV g1' c1' g2' c2' B' c3')] w fun x w' => x = .returned (.bool true) ∧ Below w.heap.size w w' :=
  eqDesk_c ndG ndW r16 r1 rh r8 w _ _ _ _ B B' 3 4 c1 c1' c2 c2' c3 c3' (own_grs hO) (own_grs hO') (own_wls hW) (own_wls hW') (by omega) (by omega) ndG_same ndW_same ndR_ok

set_option maxHeartbeats 1000000 in
theorem newDesk_body (w : World) : Calls Try.prog 12 #[] w fun e w' => e = .returned (.bool true) ∧ Below w.heap.size w w' := by
  have z140 := sz140
  go_enter Try.func12, Try.ntmps12
  go_wp2_with fail
  refine (specNewDesk_c _).mono ?_
  rintro e w1 ⟨g1, c1, g2, c2, g3, c3, rfl, HO1, HW1, K1⟩
  have D1 := Blk.new w1 140 (ndV g1 c1 g2 c2 (some ⟨g3, 0, none⟩) c3)
  have HO1 := HO1.alloc (.cells (ndV g1 c1 g2 c2 (some ⟨g3, 0, none⟩) c3) 140)
  have HW1 := HW1.alloc (.cells (ndV g1 c1 g2 c2 (some ⟨g3, 0, none⟩) c3) 140)
  have K1 := balloc K1 (Nat.le_refl _) (.cells (ndV g1 c1 g2 c2 (some ⟨g3, 0, none⟩) c3) 140)
  go_wp2_with fail
  generalize w1.alloc (.cells (ndV g1 c1 g2 c2 (some ⟨g3, 0, none⟩) c3) 140) = wA at *
  have la := D1.lt
  have HA1 := HO1
  have HB1 := HW1
  refine (newDesk_c _).mono ?_
  rintro e w2 ⟨g4, c4, g5, c5, rfl, HO2, HW2, K2⟩
  have D1 := (D1.below K2 la).alloc (.cells (ndV g4 c4 g5 c5 none 0) 140)
  have HO1 := (own_below HO1 K2).alloc (.cells (ndV g4 c4 g5 c5 none 0) 140)
  have HW1 := (own_below HW1 K2).alloc (.cells (ndV g4 c4 g5 c5 none 0) 140)
  have D2 := Blk.new w2 140 (ndV g4 c4 g5 c5 none 0)
  have HO2 := HO2.alloc (.cells (ndV g4 c4 g5 c5 none 0) 140)
  have HW2 := HW2.alloc (.cells (ndV g4 c4 g5 c5 none 0) 140)
  have K2a := K1.size
  have K2s := K2.size
  have KA := balloc K2 (Nat.le_refl _) (.cells (ndV g4 c4 g5 c5 none 0) 140)
  have KB := bthen K1 KA K2a
  clear K1 K2
  have C1 := D1.cell
  have C2 := D2.cell
  go_wp2_with fail
  generalize w2.alloc (.cells (ndV g4 c4 g5 c5 none 0) 140) = wB at *
  have hm1 := (HO2.lt g4 rfl).1
  have hm2 := (HW2.lt g5 rfl).1
  have hn1 : g4 ≠ w2.heap.size := fun he => own_ne HO2 D2 (by decide) (by rw [he]; rfl)
  have hn2 : g5 ≠ w2.heap.size := fun he => own_ne HW2 D2 (by decide) (by rw [he]; rfl)
  -- the first comparison
  refine (ndEq_c _ _ _ _ _ _ _ _ _ _ _ _ _ _ _ HO2 HW2 HO1 HW1).mono ?_
  rintro e w3 ⟨rfl, K3⟩
  have l1 := D1.lt
  have l2 := D2.lt
  have D1 := D1.below K3 l1
  have D2 := D2.below K3 l2
  have HO1 := own_below HO1 K3
  have HW1 := own_below HW1 K3
  have HO2 := own_below HO2 K3
  have HW2 := own_below HW2 K3
  have KA := bthen KA K3 KA.size
  have KB := bthen KB K3 KB.size
  clear K3 C1 C2
  have C2 := D2.cell
  -- marks
  go_wp2_with fail
  refine (ndMark_c _ _ _ _ _ _ _ _ HO2 HW2).mono ?_
  rintro e w4 ⟨rfl, HO3, HW3, wX, O1, O2⟩
  have sa : wA.heap.size ≤ w3.heap.size := KA.size
  have KX : Below wA.heap.size w3 w4 := (only_below O1 hm1 sa).trans (only_below O2 hm2 (Nat.le_trans sa O1.size))
  have D1 := D1.below KX la
  have D2 := (D2.only O1 hn1.symm).only O2 hn2.symm
  have KA := KA.trans KX
  have KB := bthen KB KX K2a
  clear HO1 HW1 HO2 HW2 O1 O2 KX
  have C2 := D2.cell
  go_wp2_with fail
  refine (ndHeld_c _ _ _ _ _ _ _ _ HO3 HW3).mono ?_
  rintro e w5 ⟨rfl, K5⟩
  have s4 := KA.size
  have D1 := D1.below K5 D1.lt
  have D2 := D2.below K5 D2.lt
  have HO3 := own_below HO3 K5
  have HW3 := own_below HW3 K5
  have KA := bthen KA K5 s4
  have KB := bthen KB K5 KB.size
  clear K5 C2 hm1 hm2
  go_wp2_with fail
  refine (newDesk_c _).mono ?_
  rintro e w6 ⟨g6, c6, g7, c7, rfl, HO6, HW6, K6⟩
  have s5 := KA.size
  have D1 := (D1.below K6 D1.lt).alloc (.cells (ndV g6 c6 g7 c7 none 0) 140)
  have D2 := (D2.below K6 D2.lt).alloc (.cells (ndV g6 c6 g7 c7 none 0) 140)
  have D3 := Blk.new w6 140 (ndV g6 c6 g7 c7 none 0)
  have HO3 := (own_below HO3 K6).alloc (.cells (ndV g6 c6 g7 c7 none 0) 140)
  have HW3 := (own_below HW3 K6).alloc (.cells (ndV g6 c6 g7 c7 none 0) 140)
  have HO6 := HO6.alloc (.cells (ndV g6 c6 g7 c7 none 0) 140)
  have HW6 := HW6.alloc (.cells (ndV g6 c6 g7 c7 none 0) 140)
  have KB5 := KB.size
  have KA := bthen KA (balloc K6 (Nat.le_refl _) (.cells (ndV g6 c6 g7 c7 none 0) 140)) s5
  have KB := bthen KB (balloc K6 (Nat.le_refl _) (.cells (ndV g6 c6 g7 c7 none 0) 140)) KB5
  clear K6
  have C1 := D1.cell
  have C3 := D3.cell
  go_wp2_with fail
  generalize w6.alloc (.cells (ndV g6 c6 g7 c7 none 0) 140) = wC at *
  refine (ndEq_c _ _ _ _ _ _ _ _ _ _ _ _ _ _ _ HO6 HW6 (own_below HA1 KA) (own_below HB1 KA)).mono ?_
  rintro e w7 ⟨rfl, K7⟩
  have D2 := D2.below K7 D2.lt
  have HO3 := own_below HO3 K7
  have HW3 := own_below HW3 K7
  have KB := bthen KB K7 KB.size
  clear K7 C1 C3 HO6 HW6 HA1 HB1 KA D1 D3
  have C2 := D2.cell
  go_wp2_with fail
  refine (ndHeld_c _ _ _ _ _ _ _ _ HO3 HW3).mono ?_
  rintro e w8 ⟨rfl, K8⟩
  have KB := bthen KB K8 KB.size
  clear C2
  go_wp2_with fail
  go_ret
  exact ⟨rfl, KB⟩
end Go.Proofs.Ytdnhdfnghkkncaa
