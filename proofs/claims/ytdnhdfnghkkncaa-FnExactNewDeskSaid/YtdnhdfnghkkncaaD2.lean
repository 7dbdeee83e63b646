/-
  Contracts: rings of four points (ringOf, l04Around) and boxes of walls (BoxOfWalls, l04Box).
-/
import Derived.Test.YtdnhdfnghkkncaaD1
import Derived.Deep.RegionLaw
import Derived.Deep.AppendLies
set_option linter.unusedSimpArgs false
set_option linter.unusedVariables false
set_option maxRecDepth 100000
namespace Go.Proofs.Ytdnhdfnghkkncaa
open Go.RowKit

/-- one element is appended to a slice of the call's own, as a step of a region that draws its order -/
theorem step_append1 {P : Program} {ops : Array Oper} {Q : Exit → Act → World → Prop} {K : Act → World → Prop} {E' : Prop} {o : Oper} {a : Act} {w : World} {T E size : Nat} (hT : ElT P T E size) (hgd : o.guard = none) {s x : Operand}
    (ho : o.op = .call { callee := .builtin .append, args := #[s, x], argTypes := #[T, T] }) {α : Type} {cs : α → List Value} {base n : Nat} {v : Value} {xs : List α} {y : α} {g c : Nat}
    (hs : a.eval s = v) (hx : a.eval x = .slice (some ⟨g, 0, none⟩) 1 c) (hown : w.ownsRow base E size v n (xs.flatMap cs)) {cells : Array Value} (hb : Blk w g E cells) (hy : cells.toList = cs y) (hl : (cs y).length = size) (h1 : (cs y).all (·.oneCell') = true)
    (hn : n ≤ 4096) (hbase : base ≤ w.heap.size)
    (h : ∀ v' w', w'.ownsRow base E size v' (n + 1) ((xs ++ [y]).flatMap cs) → w.grownBy w' v.ownBlock → K (a.put o.dst v') w') : if Region.wanted o (yielded ops a.tmps) = true then Oper.wp P o a w K Q else E' := by
  obtain ⟨b, hb64, hinfo⟩ := hT.info
  obtain ⟨i, hi, hzz⟩ := Option.map_eq_some_iff.1 hinfo
  simp only [Prod.mk.injEq] at hzz
  obtain ⟨hz1, hz2, hz3⟩ := hzz
  obtain ⟨z, hz, hzs⟩ := Option.map_eq_some_iff.1 hz3
  refine step_append_lies w hgd s x T ho base E i z size b hT.und hi hz hz1 hz2 hzs hT.pos v n _ hs hown ⟨g, 0, none⟩ 1 c (cs y) hx (by rw [hl, Nat.one_mul]) ?_ ?_ (by omega) ?_ ?_ hbase w.heap.size rfl ?_
  · intro j u hu
    have hadd : (⟨g, 0, none⟩ : Addr).add j = ⟨g, j, none⟩ := by unfold Addr.add; split <;> simp_all
    rw [hadd, hb.cell j, ← Array.getElem?_toList, hy]
    exact hu
  · intro u hu
    exact List.all_eq_true.1 h1 u hu
  · unfold maxLen; omega
  · have : (n + 1) * b ≤ 4097 * 64 := Nat.mul_le_mul (by omega) hb64
    omega
  · intro g' cap w' h2 h3 _ _
    refine h _ w' ?_ h3
    rw [List.flatMap_append]
    simpa using h2

/-- the ring of four points, its first j walls -/
def ring4 (x0 y0 x1 y1 x2 y2 x3 y3 : Nat) : List Wl := [⟨x0, y0, x1, y1, 0, 0⟩, ⟨x1, y1, x2, y2, 0, 0⟩, ⟨x2, y2, x3, y3, 0, 0⟩, ⟨x3, y3, x0, y0, 0, 0⟩]

set_option maxHeartbeats 2000000 in
theorem around4_c (x0 y0 x1 y1 x2 y2 x3 y3 : Nat) (w : World) (g : Nat) (hb : Blk w g 28 #[.complex .f32 x0 y0, .complex .f32 x1 y1, .complex .f32 x2 y2, .complex .f32 x3 y3]) :
   Calls Try.prog 262 #[.slice (some ⟨g, 0, none⟩) 4 4] w fun e w' => ∃ v, e = .returned v ∧ ownW w' w.heap.size v (ring4 x0 y0 x1 y1 x2 y2 x3 y3) ∧ Below w.heap.size w w' := by
  have z31 := sz31
  have hlt := hb.lt
  go_enter Try.func262, Try.ntmps262
  go_wp2_with fail
  have O1 : (w.alloc (.cells #[] 31)).ownsRow w.heap.size 31 3 (.slice (some ⟨w.heap.size, 0, none⟩) 0 0) 0 (((ring4 x0 y0 x1 y1 x2 y2 x3 y3).take 0).flatMap Wl.cells) := World.ownsRow_lit w #[] 0 (by omega) (by unfold maxLen; omega) rfl
  have K1 := balloc (Below.refl w.heap.size w) (Nat.le_refl _) (.cells #[] 31)
  go_loopw [4, 3] (fun i v wr => ∃ j : Nat, j ≤ 4 ∧ i = .int .i64 j ∧ wr.ownsRow w.heap.size 31 3 v j (((ring4 x0 y0 x1 y1 x2 y2 x3 y3).take j).flatMap Wl.cells) ∧ Below w.heap.size w wr) (fun i _ _ => 4 - (intOf i).toNat)
  case atStart => exact ⟨0, by omega, rfl, O1, K1⟩
  case round =>
    obtain ⟨j, hj, rfl, HO, HK⟩ := hrel
    have C := (hb.below HK hlt).cell
    obtain ⟨Av, cv, rfl, _, _⟩ := own_arr Wl.cells_len (by omega) HO
    have hs := HK.size
    have e1 : (IntKind.i64.wrap 1).tmod 4 = 1 := by decide
    have e2 : (IntKind.i64.wrap 2).tmod 4 = 2 := by decide
    have e3 : (IntKind.i64.wrap 3).tmod 4 = 3 := by decide
    have e4 : (IntKind.i64.wrap 4).tmod 4 = 0 := by decide
    obtain rfl | rfl | rfl | rfl | rfl : j = 0 ∨ j = 1 ∨ j = 2 ∨ j = 3 ∨ j = 4 := by omega
    · go_wp2_with fail
      go_region_law (refine step_append1 elW rfl rfl (y := (⟨x0, y0, x1, y1, 0, 0⟩ : Wl)) rfl rfl (own_drew1 (HO.alloc _)) (Blk.new wr 31 _).drew1 rfl rfl rfl (by omega) (by simp; omega) ?_; intro v' w5 HO6 HG6)
      all_goals
        go_wp2_with fail
        refine ⟨⟨1, by omega, by go_num, HO6, (bdrew1 (balloc HK (Nat.le_refl _) _)).trans (own_grown (own_drew1 (HO.alloc _)) HG6 (by simp; omega))⟩, by simp [intOf]⟩
    · go_wp2_with fail
      go_region_law (refine step_append1 elW rfl rfl (y := (⟨x1, y1, x2, y2, 0, 0⟩ : Wl)) rfl rfl (own_drew1 (HO.alloc _)) (Blk.new wr 31 _).drew1 rfl rfl rfl (by omega) (by simp; omega) ?_; intro v' w5 HO6 HG6)
      all_goals
        go_wp2_with fail
        refine ⟨⟨2, by omega, by go_num, HO6, (bdrew1 (balloc HK (Nat.le_refl _) _)).trans (own_grown (own_drew1 (HO.alloc _)) HG6 (by simp; omega))⟩, by simp [intOf]⟩
    · go_wp2_with fail
      go_region_law (refine step_append1 elW rfl rfl (y := (⟨x2, y2, x3, y3, 0, 0⟩ : Wl)) rfl rfl (own_drew1 (HO.alloc _)) (Blk.new wr 31 _).drew1 rfl rfl rfl (by omega) (by simp; omega) ?_; intro v' w5 HO6 HG6)
      all_goals
        go_wp2_with fail
        refine ⟨⟨3, by omega, by go_num, HO6, (bdrew1 (balloc HK (Nat.le_refl _) _)).trans (own_grown (own_drew1 (HO.alloc _)) HG6 (by simp; omega))⟩, by simp [intOf]⟩
    · go_wp2_with fail
      go_region_law (refine step_append1 elW rfl rfl (y := (⟨x3, y3, x0, y0, 0, 0⟩ : Wl)) rfl rfl (own_drew1 (HO.alloc _)) (Blk.new wr 31 _).drew1 rfl rfl rfl (by omega) (by simp; omega) ?_; intro v' w5 HO6 HG6)
      all_goals
        go_wp2_with fail
        refine ⟨⟨4, by omega, by go_num, HO6, (bdrew1 (balloc HK (Nat.le_refl _) _)).trans (own_grown (own_drew1 (HO.alloc _)) HG6 (by simp; omega))⟩, by simp [intOf]⟩
    · go_wp2_with fail
      go_ret
      exact ⟨_, rfl, HO, HK⟩

set_option maxHeartbeats 2000000 in
theorem ringOf4_c (x0 y0 x1 y1 x2 y2 x3 y3 : Nat) (w : World) (g : Nat) (hb : Blk w g 28 #[.complex .f32 x0 y0, .complex .f32 x1 y1, .complex .f32 x2 y2, .complex .f32 x3 y3]) (hok : ∀ l ∈ ring4 x0 y0 x1 y1 x2 y2 x3 y3, l.Ok) :
   Calls Try.prog 178 #[.slice (some ⟨g, 0, none⟩) 4 4] w fun e w' => ∃ v, e = .returned (.tuple #[v, .bool true]) ∧ ownW w' w.heap.size v (ring4 x0 y0 x1 y1 x2 y2 x3 y3) ∧ Below w.heap.size w w' := by
  have z31 := sz31
  have hlt := hb.lt
  have HOK := Lib.hid hok
  clear hok
  go_enter Try.func178, Try.ntmps178
  go_wp2_with fail
  have O1 : (w.alloc (.cells #[] 31)).ownsRow w.heap.size 31 3 (.slice (some ⟨w.heap.size, 0, none⟩) 0 0) 0 (((ring4 x0 y0 x1 y1 x2 y2 x3 y3).take 0).flatMap Wl.cells) := World.ownsRow_lit w #[] 0 (by omega) (by unfold maxLen; omega) rfl
  have K1 := balloc (Below.refl w.heap.size w) (Nat.le_refl _) (.cells #[] 31)
  go_loopw [10, 4, 5, 6] (fun i v _ _ wr => ∃ j : Nat, j ≤ 4 ∧ i = .int .i64 j ∧ wr.ownsRow w.heap.size 31 3 v j (((ring4 x0 y0 x1 y1 x2 y2 x3 y3).take j).flatMap Wl.cells) ∧ Below w.heap.size w wr) (fun i _ _ _ _ => 4 - (intOf i).toNat)
  case atStart => exact ⟨0, by omega, rfl, O1, K1⟩
  case round =>
    obtain ⟨j, hj, rfl, HO, HK⟩ := hrel
    have C := (hb.below HK hlt).cell
    have hs := HK.size
    obtain ⟨Av, cv, rfl, _, HAr⟩ := own_arr Wl.cells_len (by omega) HO
    have e1 : (IntKind.i64.wrap 1).tmod 4 = 1 := by decide
    have e2 : (IntKind.i64.wrap 2).tmod 4 = 2 := by decide
    have e3 : (IntKind.i64.wrap 3).tmod 4 = 3 := by decide
    have e4 : (IntKind.i64.wrap 4).tmod 4 = 0 := by decide
    obtain rfl | rfl | rfl | rfl | rfl : j = 0 ∨ j = 1 ∨ j = 2 ∨ j = 3 ∨ j = 4 := by omega
    · go_wp2_with (at_builtin; refine wpL_append1 elW rfl rfl (y := (⟨x0, y0, x1, y1, 0, 0⟩ : Wl)) rfl rfl (HO.alloc _) (Blk.newAt ?p5 31 _) rfl rfl rfl ?q5 ?r5 ?s5)
      case p5 => rfl
      case q5 => omega
      case r5 => simp; omega
      intro v' w5 HO6 HG6
      go_wp2_with fail
      refine ⟨⟨1, by omega, by go_num, HO6, (balloc HK (Nat.le_refl _) _).trans (own_grown (HO.alloc _) HG6 (by simp; omega))⟩, by simp [intOf]⟩
    · go_wp2_with (at_builtin; refine wpL_append1 elW rfl rfl (y := (⟨x1, y1, x2, y2, 0, 0⟩ : Wl)) rfl rfl (HO.alloc _) (Blk.newAt ?p6 31 _) rfl rfl rfl ?q6 ?r6 ?s6)
      case p6 => rfl
      case q6 => omega
      case r6 => simp; omega
      intro v' w5 HO6 HG6
      go_wp2_with fail
      refine ⟨⟨2, by omega, by go_num, HO6, (balloc HK (Nat.le_refl _) _).trans (own_grown (HO.alloc _) HG6 (by simp; omega))⟩, by simp [intOf]⟩
    · go_wp2_with (at_builtin; refine wpL_append1 elW rfl rfl (y := (⟨x2, y2, x3, y3, 0, 0⟩ : Wl)) rfl rfl (HO.alloc _) (Blk.newAt ?p7 31 _) rfl rfl rfl ?q7 ?r7 ?s7)
      case p7 => rfl
      case q7 => omega
      case r7 => simp; omega
      intro v' w5 HO6 HG6
      go_wp2_with fail
      refine ⟨⟨3, by omega, by go_num, HO6, (balloc HK (Nat.le_refl _) _).trans (own_grown (HO.alloc _) HG6 (by simp; omega))⟩, by simp [intOf]⟩
    · go_wp2_with (at_builtin; refine wpL_append1 elW rfl rfl (y := (⟨x3, y3, x0, y0, 0, 0⟩ : Wl)) rfl rfl (HO.alloc _) (Blk.newAt ?p8 31 _) rfl rfl rfl ?q8 ?r8 ?s8)
      case p8 => rfl
      case q8 => omega
      case r8 => simp; omega
      intro v' w5 HO6 HG6
      go_wp2_with fail
      refine ⟨⟨4, by omega, by go_num, HO6, (balloc HK (Nat.le_refl _) _).trans (own_grown (HO.alloc _) HG6 (by simp; omega))⟩, by simp [intOf]⟩
    · have HO4 : ownW wr w.heap.size (.slice Av 4 cv) (ring4 x0 y0 x1 y1 x2 y2 x3 y3) := HO
      have HAr' : Wls wr wr.heap.size Av 4 (ring4 x0 y0 x1 y1 x2 y2 x3 y3) := HAr
      have HC := Lib.hid (checkedWalls_c _ wr Av 4 cv HAr' (by omega) HOK.out)
      clear HAr HAr' HO
      go_wp2_with fail
      refine HC.out.mono ?_
      rintro e w2 ⟨rfl, K2⟩
      go_wp2_with fail
      go_ret2
      exact ⟨_, rfl, own_below HO4 K2, bthen HK K2 hs⟩

theorem box_w (a b c d : Nat) (w : World) : Calls Try.prog 216 #[.complex .f32 a b, .complex .f32 c d] w fun e w' => ∃ v, e = .returned v ∧ ownW w' w.heap.size v (ring4 a b c b c d a d) ∧ Below w.heap.size w w' := by
  have H := Lib.hid (fun W g hb => around4_c a b c b c d a d W g hb)
  go_enter Try.func216, Try.ntmps216
  go_wp2_with fail
  refine (H.out _ _ (Blk.new w 28 _)).mono ?_
  rintro e w1 ⟨v, rfl, HO, K⟩
  go_wp2_with fail
  go_ret
  exact ⟨_, rfl, own_mono HO (by simp), bthen (balloc (Below.refl _ _) (Nat.le_refl _) _) K (by simp)⟩
theorem boxOfWalls_c (a b c d : Nat) (w : World) (hok : ∀ l ∈ ring4 a b c b c d a d, l.Ok) : Calls Try.prog 65 #[.complex .f32 a b, .complex .f32 c d] w fun e w' => ∃ v, e = .returned (.tuple #[v, .bool true]) ∧ ownW w' w.heap.size v (ring4 a b c b c d a d) ∧ Below w.heap.size w w' := by
  have H := Lib.hid (fun W g hb => ringOf4_c a b c b c d a d W g hb hok)
  clear hok
  go_enter Try.func65, Try.ntmps65
  go_wp2_with fail
  refine (H.out _ _ (Blk.new w 28 _)).mono ?_
  rintro e w1 ⟨v, rfl, HO, K⟩
  go_wp2_with fail
  go_ret2
  exact ⟨_, rfl, own_mono HO (by simp), bthen (balloc (Below.refl _ _) (Nat.le_refl _) _) K (by simp)⟩
end Go.Proofs.Ytdnhdfnghkkncaa
