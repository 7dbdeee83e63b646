/-
  Contracts of the source of choices, more: a grain that is drawn.
-/
import Derived.Test.YtdnhdfnghkkncaaS1
set_option linter.unusedSimpArgs false
set_option linter.unusedVariables false
set_option maxRecDepth 100000
namespace Go.Proofs.Ytdnhdfnghkkncaa
open Go.RowKit
theorem SrcOk.set {w : World} {p B n c : Nat} {A : Option Addr} {xs : List Int} {at_ : Int} (h : SrcOk w p B A n c xs at_) {g : Nat} (hg : p < g) (i : Nat) (u : Value) : SrcOk (w.setCell ⟨g, i, none⟩ u) p B A n c xs at_ :=
  h.below ((Below.refl g w).setCell (Nat.le_refl _) u) hg
theorem SrcOk.lt {w : World} {p B n c : Nat} {A : Option Addr} {xs : List Int} {at_ : Int} (h : SrcOk w p B A n c xs at_) : p < w.heap.size := by
  obtain ⟨s, hs⟩ := h.src; exact hs.lt
theorem SrcOk.alloc {w : World} {p B n c : Nat} {A : Option Addr} {xs : List Int} {at_ : Int} (h : SrcOk w p B A n c xs at_) (o : Obj) : SrcOk (w.alloc o) p B A n c xs at_ :=
  h.below ((Below.refl w.heap.size w).alloc (Nat.le_refl _) o) h.lt
/-- a grain in quarters, halves and sixteenths -/
def gQ (ax ay sx sy rad mass turn spin : Int) (held : Bool) : G :=
  ⟨fdiv (fint ax) 1082130432, fdiv (fint ay) 1082130432, fdiv (fint sx) 1082130432, fdiv (fint sy) 1082130432, fdiv (fint rad) 1082130432, fdiv (fint mass) 1082130432, fdiv (fint turn) 1098907648, fdiv (fint spin) 1073741824, held⟩
/-- what is drawn of a grain -/
def Drawn (g : G) : Prop := ∃ (ax ay sx sy rad mass turn spin : Int) (held : Bool), (-16 ≤ ax ∧ ax ≤ 16) ∧ (-16 ≤ ay ∧ ay ≤ 16) ∧ (-4 ≤ sx ∧ sx ≤ 4) ∧ (-4 ≤ sy ∧ sy ≤ 4) ∧ (1 ≤ rad ∧ rad ≤ 6) ∧ (1 ≤ mass ∧ mass ≤ 8) ∧ (-8 ≤ turn ∧ turn ≤ 8) ∧ (-4 ≤ spin ∧ spin ≤ 4) ∧ g = gQ ax ay sx sy rad mass turn spin held

set_option maxHeartbeats 2000000 in
theorem drawGrain_ok {w : World} {p B n c : Nat} {A : Option Addr} {xs : List Int} {at_ : Int} (h : SrcOk w p B A n c xs at_) (h1 : at_ ≤ 50000) :
   Calls Try.prog 103 #[.pointer (some ⟨p, 0, none⟩)] w fun e w' => ∃ g : G, Drawn g ∧ e = .returned g.val ∧ SrcOk w' p B A n c xs (at_ + 9) ∧ Only p w w' := by
  have u1 := und2
  have u2 := Try.underlying37
  have z43 := sz43
  have q1 := four_num
  have q2 := four_nz
  have q3 := two_num
  have q4 := two_nz
  have q5 := sixteen_num
  have q6 := sixteen_nz
  have hp := h.lt
  have HS := Lib.hid (h.alloc (.cells #[.complex .f32 0 0, .complex .f32 0 0, .float .f32 0, .float .f32 0, .float .f32 0, .float .f32 0, .bool false] 43))
  clear h
  go_enter Try.func103, Try.ntmps103
  go_wp2_with fail
  refine (drawSmall_ok HS.out (by omega)).mono ?_
  rintro e w1 ⟨r1, a1, b1, rfl, S1, O1⟩
  have B1 := (Blk.new w 43 _).only O1 (by omega)
  have K1 := only_trans (only_alloc (only_refl p w) _) O1
  clear O1 HS
  go_wp2_with fail
  refine (drawSmall_ok S1 (by omega)).mono ?_
  rintro e w2 ⟨r2, a2, b2, rfl, S2, O2⟩
  have B2 := B1.only O2 (by omega)
  have K2 := only_trans K1 O2
  have hp2 := S2.lt
  have hw2 := B2.lt
  have hg : p < w2.heap.size := by omega
  clear O2 S1 B1 K1
  go_wp2_with fail
  refine (pick_ok 9 (S2.alloc _) (by omega) (by omega) (by omega)).mono ?_
  rintro e w3 ⟨r3, a3, b3, rfl, S3, O3⟩
  have B3 := (B2.alloc _).only O3 (by omega)
  have D3 := (Blk.new w2 43 _).only O3 (by omega)
  have K3 := only_trans (only_alloc K2 _) O3
  have n3 := (IsG.int (n := r3 - 4) (by omega)).num
  clear O3 S2 B2 K2
  go_wp2_with fail
  refine (pick_ok 9 S3 (by omega) (by omega) (by omega)).mono ?_
  rintro e w4 ⟨r4, a4, b4, rfl, S4, O4⟩
  have B4 := B3.only O4 (by omega)
  have D4 := D3.only O4 (by omega)
  have K4 := only_trans K3 O4
  have n4 := (IsG.int (n := r4 - 4) (by omega)).num
  have C4 := D4.cell
  have F4 := D4.frozen
  clear O4 S3 B3 K3 D3
  go_wp2_with fail
  refine (pick_ok 6 (S4.set hg _ _) (by omega) (by omega) (by omega)).mono ?_
  rintro e w5 ⟨r5, a5, b5, rfl, S5, O5⟩
  have B5 := (B4.far (p := ⟨w2.heap.size, _, none⟩) (Nat.ne_of_lt hw2) _).only O5 (by omega)
  have D5 := (D4.set_ 1 _).only O5 (by omega)
  have K5 := only_trans (only_new K4 (Nat.le_of_lt hw2) _ _) O5
  have n5 := (IsG.int (n := 1 + r5) (by omega)).num
  have C5 := D5.cell
  have F5 := D5.frozen
  clear O5 S4 B4 K4 D4 C4 F4
  go_wp2_with fail
  refine (pick_ok 8 (S5.set hg _ _) (by omega) (by omega) (by omega)).mono ?_
  rintro e w6 ⟨r6, a6, b6, rfl, S6, O6⟩
  have B6 := (B5.far (p := ⟨w2.heap.size, _, none⟩) (Nat.ne_of_lt hw2) _).only O6 (by omega)
  have D6 := (D5.set_ 2 _).only O6 (by omega)
  have K6 := only_trans (only_new K5 (Nat.le_of_lt hw2) _ _) O6
  have n6 := (IsG.int (n := 1 + r6) (by omega)).num
  have C6 := D6.cell
  have F6 := D6.frozen
  clear O6 S5 B5 K5 D5 C5 F5
  go_wp2_with fail
  refine (pick_ok 17 (S6.set hg _ _) (by omega) (by omega) (by omega)).mono ?_
  rintro e w7 ⟨r7, a7, b7, rfl, S7, O7⟩
  have B7 := (B6.far (p := ⟨w2.heap.size, _, none⟩) (Nat.ne_of_lt hw2) _).only O7 (by omega)
  have D7 := (D6.set_ 3 _).only O7 (by omega)
  have K7 := only_trans (only_new K6 (Nat.le_of_lt hw2) _ _) O7
  have n7 := (IsG.int (n := r7 - 8) (by omega)).num
  have C7 := D7.cell
  have F7 := D7.frozen
  clear O7 S6 B6 K6 D6 C6 F6
  go_wp2_with fail
  refine (pick_ok 9 (S7.set hg _ _) (by omega) (by omega) (by omega)).mono ?_
  rintro e w8 ⟨r8, a8, b8, rfl, S8, O8⟩
  have B8 := (B7.far (p := ⟨w2.heap.size, _, none⟩) (Nat.ne_of_lt hw2) _).only O8 (by omega)
  have D8 := (D7.set_ 4 _).only O8 (by omega)
  have K8 := only_trans (only_new K7 (Nat.le_of_lt hw2) _ _) O8
  have n8 := (IsG.int (n := r8 - 4) (by omega)).num
  have C8 := D8.cell
  have F8 := D8.frozen
  clear O8 S7 B7 K7 D7 C7 F7
  go_wp2_with fail
  refine (one_ok 6 (S8.set hg _ _) (by omega) (by omega) (by omega)).mono ?_
  rintro e w9 ⟨r9, rfl, S9, O9⟩
  have B9 := (B8.far (p := ⟨w2.heap.size, _, none⟩) (Nat.ne_of_lt hw2) _).only O9 (by omega)
  have D9 := (D8.set_ 5 _).only O9 (by omega)
  have K9 := only_trans (only_new K8 (Nat.le_of_lt hw2) _ _) O9
  have C9 := D9.cell
  have F9 := D9.frozen
  have G9 := B9.cell
  have H9 := B9.frozen
  clear O9 S8 B8 K8 D8 C8 F8
  go_wp2_with fail
  have hne : w.heap.size ≠ w2.heap.size := by omega
  refine ret_cell (g := w.heap.size) rfl rfl ((((((((B9.far (p := ⟨w2.heap.size, 6, none⟩) hne _).set_ 0 _).set_ 1 _).set_ 2 _).set_ 3 _).set_ 4 _).set_ 5 _).set_ 6 _) Try.underlying43 sz43 rfl ?_
  refine ⟨gQ r1 r2 (r3 - 4) (r4 - 4) (1 + r5) (1 + r6) (r7 - 8) (r8 - 4) r9, ⟨_, _, _, _, _, _, _, _, _, ⟨a1, b1⟩, ⟨a2, b2⟩, ⟨by omega, by omega⟩, ⟨by omega, by omega⟩, ⟨by omega, by omega⟩, ⟨by omega, by omega⟩, ⟨by omega, by omega⟩, ⟨by omega, by omega⟩, rfl⟩, rfl, ?_, ?_⟩
  · have := (((((((S9.set hg 6 (.bool r9)).set hp 0 (.complex .f32 (fdiv (fint r1) 1082130432) (fdiv (fint r2) 1082130432))).set hp 1 (.complex .f32 (fdiv (fint (r3 - 4)) 1082130432) (fdiv (fint (r4 - 4)) 1082130432))).set hp 2 (.float .f32 (fdiv (fint (1 + r5)) 1082130432))).set hp 3 (.float .f32 (fdiv (fint (1 + r6)) 1082130432))).set hp 4 (.float .f32 (fdiv (fint (r7 - 8)) 1098907648))).set hp 5 (.float .f32 (fdiv (fint (r8 - 4)) 1073741824))).set hp 6 (.bool r9)
    rwa [show at_ + 1 + 1 + 1 + 1 + 1 + 1 + 1 + 1 + 1 = at_ + 9 by omega] at this
  · exact only_new (only_new (only_new (only_new (only_new (only_new (only_new (only_new K9 (Nat.le_of_lt hw2) _ _) (Nat.le_refl _) _ _) (Nat.le_refl _) _ _) (Nat.le_refl _) _ _) (Nat.le_refl _) _ _) (Nat.le_refl _) _ _) (Nat.le_refl _) _ _) (Nat.le_refl _) _ _
end Go.Proofs.Ytdnhdfnghkkncaa
