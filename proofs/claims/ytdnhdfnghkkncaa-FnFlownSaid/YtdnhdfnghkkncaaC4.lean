/-
  MomentumOf, BoxOfHeap.
-/
import Derived.Test.YtdnhdfnghkkncaaC3
import Derived.Deep.RegionWith
set_option linter.unusedSimpArgs false
set_option linter.unusedVariables false
set_option maxRecDepth 100000
namespace Go.Proofs.Ytdnhdfnghkkncaa
open Go.RowKit

def momStep (a : Nat × Nat) (g : G) : Nat × Nat := (fadd a.1 (fmul g.sx g.mass), fadd a.2 (fmul g.sy g.mass))
def mom (gs : List G) : Nat × Nat := gs.foldl momStep (0, 0)
theorem mom_take {gs : List G} {j : Nat} {g : G} (h : gs[j]? = some g) : mom (gs.take (j + 1)) = momStep (mom (gs.take j)) g := by
  rw [take_snoc' h]; unfold mom; rw [List.foldl_append]; rfl
structure MomOk (gs : List G) : Prop where
  part : ∀ g ∈ gs, num32 (fmul g.sx g.mass) = true ∧ num32 (fmul g.sy g.mass) = true
  acc : ∀ j, num32 (mom (gs.take j)).1 = true ∧ num32 (mom (gs.take j)).2 = true

theorem mom1_c (g : G) (w : World) (h1 : num32 g.sx = true) (h2 : num32 g.sy = true) (h3 : num32 g.mass = true) :
   Calls Try.prog 140 #[g.val] w fun e w' => e = .returned (.complex .f32 (fmul g.sx g.mass) (fmul g.sy g.mass)) ∧ Below w.heap.size w w' := by
  have z43 := sz43
  go_enter Try.func140, Try.ntmps140
  go_wp2_with (go_at_call 136; refine (scale_c _ _ _ _ h1 h2 h3).mono ?_; rintro e w' ⟨rfl, rfl⟩)
  go_ret
  exact ⟨rfl, balloc (Below.refl _ _) (Nat.le_refl _) _⟩

set_option maxHeartbeats 1000000 in
theorem summed_c (gs : List G) (w : World) (A : Option Addr) (n c : Nat) (hr : Grs w w.heap.size A n gs) (hn : n ≤ 24) (hok : ∀ g ∈ gs, g.Ok) (hm : MomOk gs) :
   Calls Try.prog 139 #[.agg #[.slice A n c], .func (.func 140) #[] #[]] w fun e w' => e = .returned (.complex .f32 (mom gs).1 (mom gs).2) ∧ Below w.heap.size w w' := by
  have z43 := sz43
  have HR := Lib.hid hr
  have HN := Lib.hid hr.len
  have HOK := Lib.hid hok
  have HM := Lib.hid hm
  clear hr hok hm
  go_enter Try.func139, Try.ntmps139
  have K0 := balloc (Below.refl w.heap.size w) (Nat.le_refl _) (.cells #[.slice A n c] 26)
  go_wp2_with fail
  go_loopw [5, 11] (fun s i wr => ∃ j : Nat, ∃ a b : Nat, j ≤ n ∧ i = .int .i64 j ∧ s = .complex .f32 a b ∧ Hid (mom (gs.take j) = (a, b)) ∧ num32 a = true ∧ num32 b = true ∧ Below w.heap.size w wr) (fun _ i _ => n - (intOf i).toNat)
  case atStart => exact ⟨0, 0, 0, by omega, rfl, rfl, rfl, by decide, by decide, K0⟩
  case round =>
    obtain ⟨j, a, b, hj, rfl, rfl, hab, ha, hb, HK⟩ := hrel
    clear K0
    by_cases hlt : j < n
    · obtain ⟨bk, off, g, rfl, hbb, hg, c0, c1, c2, c3, c4, c5, c6⟩ := (HR.out.to HK).grain hlt
      have hgk := HOK.out g (List.mem_of_getElem? hg)
      obtain ⟨m1, m2⟩ := HM.out.part g (List.mem_of_getElem? hg)
      have hT : Hid (mom (gs.take (j + 1)) = (fadd a (fmul g.sx g.mass), fadd b (fmul g.sy g.mass))) := by
        show _ = _
        rw [mom_take hg, hab.out]; rfl
      have hA := HM.out.acc (j + 1)
      rw [hT.out] at hA
      obtain ⟨n1, n2⟩ := hA
      have k1 := hgk.sx
      have k2 := hgk.sy
      have k3 := hgk.mass
      clear hg hgk
      go_wp2_with fail
      refine (mom1_c g _ k1 k2 k3).mono ?_
      rintro e w1 ⟨rfl, K1⟩
      have K2 := bthen (balloc HK (Nat.le_refl _) (.cells #[.complex .f32 g.ax g.ay, .complex .f32 g.sx g.sy, .float .f32 g.rad, .float .f32 g.mass, .float .f32 g.turn, .float .f32 g.spin, .bool g.held] 43)) K1 (by have := HK.size; simp; omega)
      go_wp2_with (go_at_call 135; refine (plus_c a b (fmul g.sx g.mass) (fmul g.sy g.mass) _ ha hb m1 m2).mono ?_; rintro e w' ⟨rfl, rfl⟩)
      exact ⟨⟨j + 1, _, _, by omega, by go_num, rfl, hT, n1, n2, K2⟩, by simp [intOf]; omega⟩
    · have e : gs.take j = gs := List.take_of_length_le (by rw [HN.out]; omega)
      have HE : Hid (mom gs = (a, b)) := by show _ = _; rw [← hab.out, e]
      clear e
      go_wp2_with fail
      go_ret
      rw [HE.out]
      exact ⟨rfl, HK⟩

theorem point_c (a b : Nat) (w : World) (ha : num32 a = true) (hb : num32 b = true) : Calls Try.prog 138 #[.complex .f32 a b, .bool true] w fun e w' => e = .returned (.tuple #[.complex .f32 a b, .bool true]) ∧ Below w.heap.size w w' := by
  go_enter Try.func138, Try.ntmps138
  go_wp2_with fail
  refine (finiteC_c a b w ha hb).mono ?_
  rintro e w1 ⟨rfl, K1⟩
  go_wp2_with fail
  go_ret2
  exact ⟨rfl, K1⟩

set_option maxHeartbeats 1000000 in
theorem momentum_c (gs : List G) (w : World) (A : Option Addr) (n c : Nat) (hr : Grs w w.heap.size A n gs) (hn : n ≤ 24) (hok : ∀ g ∈ gs, g.Ok) (hm : MomOk gs) :
   Calls Try.prog 35 #[.agg #[.slice A n c]] w fun e w' => e = .returned (.tuple #[.complex .f32 (mom gs).1 (mom gs).2, .bool true]) ∧ Below w.heap.size w w' := by
  have z26 := sz26
  have HS := Lib.hid (fun W (K : Below w.heap.size w W) => summed_c gs W A n c (hr.to K) hn hok hm)
  have HV := Lib.hid (fun W (K : Below w.heap.size w W) => validHeap_c gs W A n c (hr.to K) hn hok)
  have HM := hm.acc gs.length
  rw [List.take_length] at HM
  obtain ⟨m1, m2⟩ := HM
  generalize mom gs = mm at *
  clear hr hok hm
  have K0 := balloc (Below.refl w.heap.size w) (Nat.le_refl _) (.cells #[.slice A n c] 26)
  go_enter Try.func35, Try.ntmps35
  go_wp2_with fail
  have B0 := (Blk.new w 26 #[.slice A n c]).drew1
  go_region_with (first
    | (go_at_call 139; refine (HS.out _ ?_).mono ?_; (first | exact (bthen (bdrew1 K0) K2 K0.size) | exact bdrew1 K0); rintro e w1 ⟨rfl, K1⟩; (first | (have C1 := (B2.below K1 (by have := B2.lt; omega)).cell) | (have B1 := B0.below K1 (by simp); have C1 := B1.cell)))
    | (go_at_call 105; refine (HV.out _ ?_).mono ?_; (first | exact (bthen (bdrew1 K0) K1 K0.size) | exact bdrew1 K0); rintro e w2 ⟨rfl, K2⟩; (first | (have C2 := (B1.below K2 (by have := B1.lt; omega)).cell) | (have B2 := B0.below K2 (by simp); have C2 := B2.cell)))
    | (go_at_call 138; refine (point_c _ _ _ m1 m2).mono ?_; rintro e w3 ⟨rfl, K3⟩))
  all_goals
    go_wp2_with fail
    go_ret2
    exact ⟨rfl, bthen (bthen (bthen (bdrew1 K0) K1 K0.size) K2 (Nat.le_trans K0.size K1.size)) K3 (Nat.le_trans (Nat.le_trans K0.size K1.size) K2.size)⟩
end Go.Proofs.Ytdnhdfnghkkncaa
