/-
  Contracts: the comparisons of lists, rules and desks.
-/
import Derived.Test.YtdnhdfnghkkncaaD3
set_option linter.unusedSimpArgs false
set_option linter.unusedVariables false
set_option maxRecDepth 100000
namespace Go.Proofs.Ytdnhdfnghkkncaa
open Go.RowKit

set_option maxHeartbeats 1000000 in
theorem eqGrainS_c (gs : List G) (w : World) (A B : Option Addr) (n c d : Nat) (hr : Grs w w.heap.size A n gs) (hs : Grs w w.heap.size B n gs) (hn : n ≤ 4096) (hok : ∀ g ∈ gs, g.Same) :
   Calls Try.prog 263 #[.slice A n c, .slice B n d] w fun e w' => e = .returned (.bool true) ∧ Below w.heap.size w w' := by
  have HR := Lib.hid hr
  have HS := Lib.hid hs
  have HOK := Lib.hid hok
  have z43 := sz43
  have hnn : ((n : Int) == n) = true := by simp
  clear hr hs hok
  go_enter Try.func263, Try.ntmps263
  go_wp2_with fail
  go_loopw [5] (fun i wr => ∃ j : Nat, j ≤ n ∧ i = .int .i64 j ∧ Below w.heap.size w wr) (fun i _ => n - (intOf i).toNat)
  case atStart => exact ⟨0, by omega, rfl, Below.refl _ _⟩
  case round =>
    obtain ⟨j, hj, rfl, HK⟩ := hrel
    by_cases hlt : j < n
    · obtain ⟨b, off, g, rfl, hb, hg, c0, c1, c2, c3, c4, c5, c6⟩ := (HR.out.to HK).grain hlt
      obtain ⟨b', off', g', rfl, hb', hg', d0, d1, d2, d3, d4, d5, d6⟩ := (HS.out.to HK).grain hlt
      have e : g = g' := by rw [hg] at hg'; injection hg'
      subst e
      have HX := Lib.hid (HOK.out g (List.mem_of_getElem? hg))
      clear hg hg'
      go_wp2_with fail
      go_still_tail 8, (by kernel_rfl)
      change wpList _ _ _ _ _ wr.drew
      have HKd := bdrew1 HK
      have hsz := HK.size
      go_wp2_with fail
      refine (eqGrain_c g _ HX.out).mono ?_
      rintro e w1 ⟨rfl, K1⟩
      go_wp2_with fail
      exact ⟨⟨j + 1, by omega, by go_num, bthen HKd K1 hsz⟩, by simp [intOf]; omega⟩
    · go_wp2_with fail
      go_ret
      exact ⟨rfl, HK⟩
set_option maxHeartbeats 1000000 in
theorem eqWallS_c (ls : List Wl) (w : World) (A B : Option Addr) (n c d : Nat) (hr : Wls w w.heap.size A n ls) (hs : Wls w w.heap.size B n ls) (hn : n ≤ 4096) (hok : ∀ g ∈ ls, g.Same) :
   Calls Try.prog 219 #[.slice A n c, .slice B n d] w fun e w' => e = .returned (.bool true) ∧ Below w.heap.size w w' := by
  have HR := Lib.hid hr
  have HS := Lib.hid hs
  have HOK := Lib.hid hok
  have z43 := sz31
  have hnn : ((n : Int) == n) = true := by simp
  clear hr hs hok
  go_enter Try.func219, Try.ntmps219
  go_wp2_with fail
  go_loopw [5] (fun i wr => ∃ j : Nat, j ≤ n ∧ i = .int .i64 j ∧ Below w.heap.size w wr) (fun i _ => n - (intOf i).toNat)
  case atStart => exact ⟨0, by omega, rfl, Below.refl _ _⟩
  case round =>
    obtain ⟨j, hj, rfl, HK⟩ := hrel
    by_cases hlt : j < n
    · obtain ⟨b, off, g, rfl, hb, hg, c0, c1, c2⟩ := (HR.out.to HK).wall hlt
      obtain ⟨b', off', g', rfl, hb', hg', d0, d1, d2⟩ := (HS.out.to HK).wall hlt
      have e : g = g' := by rw [hg] at hg'; injection hg'
      subst e
      have HX := Lib.hid (HOK.out g (List.mem_of_getElem? hg))
      clear hg hg'
      go_wp2_with fail
      go_still_tail 8, (by kernel_rfl)
      change wpList _ _ _ _ _ wr.drew
      have HKd := bdrew1 HK
      have hsz := HK.size
      go_wp2_with fail
      refine (eqWall_c g _ HX.out).mono ?_
      rintro e w1 ⟨rfl, K1⟩
      go_wp2_with fail
      exact ⟨⟨j + 1, by omega, by go_num, bthen HKd K1 hsz⟩, by simp [intOf]; omega⟩
    · go_wp2_with fail
      go_ret
      exact ⟨rfl, HK⟩
theorem eqBondS_c (w : World) (A B : Option Addr) (c d : Nat) : Calls Try.prog 220 #[.slice A 0 c, .slice B 0 d] w fun e w' => e = .returned (.bool true) ∧ w = w' := by
  go_enter Try.func220, Try.ntmps220
  go_wp2_with fail
  go_loop [5] (fun i => i = .int .i64 0) (fun i => 0 - (intOf i).toNat)
  case atStart => rfl
  case round =>
    subst hrel
    go_wp2_with fail
    go_ret
    exact ⟨rfl, rfl⟩
theorem eqHeap_c (gs : List G) (w : World) (A B : Option Addr) (n c d : Nat) (hr : Grs w w.heap.size A n gs) (hs : Grs w w.heap.size B n gs) (hn : n ≤ 4096) (hok : ∀ g ∈ gs, g.Same) :
   Calls Try.prog 217 #[.agg #[.slice A n c], .agg #[.slice B n d]] w fun e w' => e = .returned (.bool true) ∧ Below w.heap.size w w' := by
  have K0 := balloc (balloc (Below.refl w.heap.size w) (Nat.le_refl _) (.cells #[.slice A n c] 26)) (Nat.le_refl _) (.cells #[.slice B n d] 26)
  have H := Lib.hid (eqGrainS_c gs _ A B n c d (hr.to K0) (hs.to K0) hn hok)
  clear hr hs hok
  go_enter Try.func217, Try.ntmps217
  go_wp2_with fail
  refine H.out.mono ?_
  rintro e w1 ⟨rfl, K1⟩
  go_wp2_with fail
  go_ret
  exact ⟨rfl, bthen K0 K1 K0.size⟩
end Go.Proofs.Ytdnhdfnghkkncaa
