/-
  BoxOfHeap.
-/
import Derived.Test.YtdnhdfnghkkncaaC3
import Derived.Deep.RegionWith
set_option linter.unusedSimpArgs false
set_option linter.unusedVariables false
set_option maxRecDepth 100000
namespace Go.Proofs.Ytdnhdfnghkkncaa
open Go.RowKit

/-- x is not above any of the numbers f, and is one of a grid -/
def LowInv (f : G → Nat) (gs : List G) (x : Nat) : Prop := ∃ a, IsG 2 a x ∧ ∀ g ∈ gs, ∀ m, IsG 2 m (f g) → a ≤ m
def HighInv (f : G → Nat) (gs : List G) (x : Nat) : Prop := ∃ a, IsG 2 a x ∧ ∀ g ∈ gs, ∀ m, IsG 2 m (f g) → m ≤ a
theorem LowInv.one {f : G → Nat} {g : G} {m : Int} (h : IsG 2 m (f g)) : LowInv f [g] (f g) := ⟨m, h, fun g' hg' m' hm' => by simp at hg'; subst hg'; have := hm'.uniq h; omega⟩
theorem HighInv.one {f : G → Nat} {g : G} {m : Int} (h : IsG 2 m (f g)) : HighInv f [g] (f g) := ⟨m, h, fun g' hg' m' hm' => by simp at hg'; subst hg'; have := hm'.uniq h; omega⟩
theorem LowInv.hit {f : G → Nat} {gs : List G} {x : Nat} {g : G} {m : Int} (h : LowInv f gs x) (hg : IsG 2 m (f g)) (hl : flt (f g) x = true) : LowInv f (gs ++ [g]) (f g) := by
  obtain ⟨a, ha, hh⟩ := h
  rw [hg.lt ha] at hl
  have hl := of_decide_eq_true hl
  refine ⟨m, hg, fun g' hg' m' hm' => ?_⟩
  rcases List.mem_append.1 hg' with h1 | h1
  · have := hh g' h1 m' hm'; omega
  · simp at h1; subst h1; have := hm'.uniq hg; omega
theorem LowInv.miss {f : G → Nat} {gs : List G} {x : Nat} {g : G} {m : Int} (h : LowInv f gs x) (hg : IsG 2 m (f g)) (hl : flt (f g) x = false) : LowInv f (gs ++ [g]) x := by
  obtain ⟨a, ha, hh⟩ := h
  rw [hg.lt ha] at hl
  have hl := of_decide_eq_false hl
  refine ⟨a, ha, fun g' hg' m' hm' => ?_⟩
  rcases List.mem_append.1 hg' with h1 | h1
  · exact hh g' h1 m' hm'
  · simp at h1; subst h1; have := hm'.uniq hg; omega
theorem HighInv.hit {f : G → Nat} {gs : List G} {x : Nat} {g : G} {m : Int} (h : HighInv f gs x) (hg : IsG 2 m (f g)) (hl : fgt (f g) x = true) : HighInv f (gs ++ [g]) (f g) := by
  obtain ⟨a, ha, hh⟩ := h
  rw [hg.gt ha] at hl
  have hl := of_decide_eq_true hl
  refine ⟨m, hg, fun g' hg' m' hm' => ?_⟩
  rcases List.mem_append.1 hg' with h1 | h1
  · have := hh g' h1 m' hm'; omega
  · simp at h1; subst h1; have := hm'.uniq hg; omega
theorem HighInv.miss {f : G → Nat} {gs : List G} {x : Nat} {g : G} {m : Int} (h : HighInv f gs x) (hg : IsG 2 m (f g)) (hl : fgt (f g) x = false) : HighInv f (gs ++ [g]) x := by
  obtain ⟨a, ha, hh⟩ := h
  rw [hg.gt ha] at hl
  have hl := of_decide_eq_false hl
  refine ⟨a, ha, fun g' hg' m' hm' => ?_⟩
  rcases List.mem_append.1 hg' with h1 | h1
  · exact hh g' h1 m' hm'
  · simp at h1; subst h1; have := hm'.uniq hg; omega
abbrev bx0 (g : G) : Nat := fsub g.ax g.rad
abbrev by0 (g : G) : Nat := fsub g.ay g.rad
abbrev bx1 (g : G) : Nat := fadd g.ax g.rad
abbrev by1 (g : G) : Nat := fadd g.ay g.rad
structure BoxIs (g : G) : Prop where
  x0 : ∃ m, IsG 2 m (bx0 g)
  y0 : ∃ m, IsG 2 m (by0 g)
  x1 : ∃ m, IsG 2 m (bx1 g)
  y1 : ∃ m, IsG 2 m (by1 g)
structure Box (gs : List G) (a b c d : Nat) : Prop where
  x0 : LowInv bx0 gs a
  y0 : LowInv by0 gs b
  x1 : HighInv bx1 gs c
  y1 : HighInv by1 gs d
theorem Box.nums {gs : List G} {a b c d : Nat} (h : Box gs a b c d) : num32 a = true ∧ num32 b = true ∧ num32 c = true ∧ num32 d = true := by
  obtain ⟨⟨_, h1, _⟩, ⟨_, h2, _⟩, ⟨_, h3, _⟩, ⟨_, h4, _⟩⟩ := h
  exact ⟨h1.num, h2.num, h3.num, h4.num⟩
theorem Box.start {g : G} (h : BoxIs g) : Box [g] (bx0 g) (by0 g) (bx1 g) (by1 g) := by
  obtain ⟨⟨_, h1⟩, ⟨_, h2⟩, ⟨_, h3⟩, ⟨_, h4⟩⟩ := h
  exact ⟨LowInv.one (f := bx0) h1, LowInv.one (f := by0) h2, HighInv.one (f := bx1) h3, HighInv.one (f := by1) h4⟩
theorem Box.next {gs : List G} {a b c d : Nat} {g : G} (h : Box gs a b c d) (k : BoxIs g) :
   Box (gs ++ [g]) (if flt (bx0 g) a = true then bx0 g else a) (if flt (by0 g) b = true then by0 g else b) (if fgt (bx1 g) c = true then bx1 g else c) (if fgt (by1 g) d = true then by1 g else d) := by
  obtain ⟨⟨_, h1⟩, ⟨_, h2⟩, ⟨_, h3⟩, ⟨_, h4⟩⟩ := k
  refine ⟨?_, ?_, ?_, ?_⟩
  · split
    · exact h.x0.hit h1 (by assumption)
    · rename_i hx; exact h.x0.miss h1 (Bool.eq_false_iff.2 hx)
  · split
    · exact h.y0.hit h2 (by assumption)
    · rename_i hx; exact h.y0.miss h2 (Bool.eq_false_iff.2 hx)
  · split
    · exact h.x1.hit h3 (by assumption)
    · rename_i hx; exact h.x1.miss h3 (Bool.eq_false_iff.2 hx)
  · split
    · exact h.y1.hit h4 (by assumption)
    · rename_i hx; exact h.y1.miss h4 (Bool.eq_false_iff.2 hx)

theorem Box.next' {gs : List G} {a b c d : Nat} {g : G} {b1 b2 b3 b4 : Bool} (h : Box gs a b c d) (k : BoxIs g) (h1 : flt (bx0 g) a = b1) (h2 : flt (by0 g) b = b2) (h3 : fgt (bx1 g) c = b3) (h4 : fgt (by1 g) d = b4) :
   Box (gs ++ [g]) (bif b1 then bx0 g else a) (bif b2 then by0 g else b) (bif b3 then bx1 g else c) (bif b4 then by1 g else d) := by
  have := h.next k
  rw [h1, h2, h3, h4] at this
  cases b1 <;> cases b2 <;> cases b3 <;> cases b4 <;> exact this

set_option maxHeartbeats 4000000 in
theorem box_c (gs : List G) (w : World) (A : Option Addr) (n c : Nat) (hr : Grs w w.heap.size A n gs) (hn : n ≤ 24) (hnc : n ≤ c) (h0' : 2 ≤ n) (hok : ∀ g ∈ gs, g.Ok) (hb : ∀ g ∈ gs, BoxIs g) :
   Calls Try.prog 36 #[.agg #[.slice A n c]] w fun e w' => ∃ x0 y0 x1 y1, e = .returned (.tuple #[.complex .f32 x0 y0, .complex .f32 x1 y1, .bool true]) ∧ Box gs x0 y0 x1 y1 ∧ Below w.heap.size w w' := by
  have z43 := sz43
  have h0 : 0 < n := by omega
  have h2c : 2 ≤ c := by omega
  have HR := Lib.hid hr
  have HN := Lib.hid hr.len
  have HB := Lib.hid hb
  have HOK := Lib.hid hok
  have K0 := balloc (Below.refl w.heap.size w) (Nat.le_refl _) (.cells #[.slice A n c] 26)
  have HV := Lib.hid (validHeap_c gs _ A n c (hr.to K0) hn hok)
  clear hr hok hb
  go_enter Try.func36, Try.ntmps36
  go_wp2_with fail
  refine HV.out.mono ?_
  rintro e w1 ⟨rfl, hb1⟩
  obtain ⟨B1, l0, K1⟩ := boxed hb1
  clear hb1 K0 HV
  have C1 := B1.cell
  have hz : ((n : Int) == 0) = false := by
    cases h : ((n : Int) == 0) with
    | false => rfl
    | true => have := eq_of_beq h; omega
  obtain ⟨bk, off, g, rfl, hbb, hg, c0, c1, c2, c3, c4, c5, c6⟩ := (HR.out.to K1).grain h0
  simp only [Nat.zero_mul, Nat.add_zero] at c0 c1 c2 c3 c4 c5 c6
  have hbk : bk < w.heap.size := by
    obtain ⟨b', o', e, hb', _⟩ := HR.out.cells h0
    injection e with e
    injection e with e _ _
    omega
  have hgk := HOK.out g (List.mem_of_getElem? hg)
  have k1 := hgk.ax
  have k2 := hgk.ay
  have k3 := hgk.rad
  have HBX := Lib.hid (Box.start (HB.out g (List.mem_of_getElem? hg)))
  have HT1 : Hid (gs.take 1 = [g]) := by
    show _ = _
    rw [show (1 : Nat) = 0 + 1 from rfl, take_snoc' hg]; rfl
  clear hg hgk
  go_wp2_with fail
  have D2 := Blk.new w1 43 #[.complex .f32 g.ax g.ay, .complex .f32 g.sx g.sy, .float .f32 g.rad, .float .f32 g.mass, .float .f32 g.turn, .float .f32 g.spin, .bool g.held]
  have B2 := B1.alloc (.cells #[.complex .f32 g.ax g.ay, .complex .f32 g.sx g.sy, .float .f32 g.rad, .float .f32 g.mass, .float .f32 g.turn, .float .f32 g.spin, .bool g.held] 43)
  have K2 := balloc K1 (Nat.le_refl _) (.cells #[.complex .f32 g.ax g.ay, .complex .f32 g.sx g.sy, .float .f32 g.rad, .float .f32 g.mass, .float .f32 g.turn, .float .f32 g.spin, .bool g.held] 43)
  go_quiet (fail)
  go_wp2_with fail
  go_quiet (fail)
  go_wp2_with fail
  go_loopw [6, 7, 8, 9, 57] (fun p q r s i wr => ∃ j a b u d : Nat, j + 1 ≤ n ∧ i = .int .i64 j ∧ p = .float .f32 a ∧ q = .float .f32 b ∧ r = .float .f32 u ∧ s = .float .f32 d ∧ Hid (Box (gs.take (j + 1)) a b u d) ∧ Below w.heap.size w wr) (fun _ _ _ _ i _ => n - (intOf i).toNat)
  case atStart => exact ⟨0, _, _, _, _, by omega, rfl, rfl, rfl, rfl, rfl, by show Box _ _ _ _ _; rw [Nat.zero_add, HT1.out]; exact HBX.out, bdrew K2 _⟩
  case round =>
    obtain ⟨j, a, b, u, d, hj, rfl, rfl, rfl, rfl, rfl, HX, HK⟩ := hrel
    clear D2 B2 K2 c0 c1 c2 c3 c4 c5 c6 k1 k2 k3 HBX HT1 C1 B1
    by_cases hlt : j + 1 < n
    · obtain ⟨bk', off', g', e, hbb', hg', c0, c1, c2, c3, c4, c5, c6⟩ := (HR.out.to HK).grain hlt
      injection e with e
      injection e with e1 e2 _
      subst e1 e2
      have ee : off + (j + 1) * 7 = off + 7 + j * 7 := by omega
      rw [ee] at c0 c1 c2 c3 c4 c5 c6
      have hgk := HOK.out g' (List.mem_of_getElem? hg')
      have k1 := hgk.ax
      have k2 := hgk.ay
      have k3 := hgk.rad
      obtain ⟨m1, m2, m3, m4⟩ := HX.out.nums
      have HB2 := Lib.hid (HB.out g' (List.mem_of_getElem? hg'))
      have HT2 := Lib.hid (take_snoc' hg')
      clear hg' hgk ee
      cases h1 : flt (bx0 g') a <;> cases h2 : flt (by0 g') b <;> cases h3 : fgt (bx1 g') u <;> cases h4 : fgt (by1 g') d
      all_goals
        have HE := Lib.hid (Box.next' HX.out HB2.out h1 h2 h3 h4)
        rw [← HT2.out] at HE
        have t1 : (FloatKind.f32.format.order (fsub g'.ax g'.rad) a == some Ordering.lt) = _ := h1
        have t2 : (FloatKind.f32.format.order (fsub g'.ay g'.rad) b == some Ordering.lt) = _ := h2
        have t3 : (FloatKind.f32.format.order (fadd g'.ax g'.rad) u == some Ordering.gt) = _ := h3
        have t4 : (FloatKind.f32.format.order (fadd g'.ay g'.rad) d == some Ordering.gt) = _ := h4
        clear h1 h2 h3 h4
        go_wp2_with fail
        exact ⟨⟨j + 1, _, _, _, _, by omega, by go_num, rfl, rfl, rfl, rfl, HE, balloc HK (Nat.le_refl _) _⟩, by simp [intOf]; omega⟩
    · obtain ⟨m1, m2, m3, m4⟩ := HX.out.nums
      have et : gs.take (j + 1) = gs := List.take_of_length_le (by rw [HN.out]; omega)
      rw [et] at HX
      clear et
      go_wp2_with fail
      refine (finite4_c a b u d wr m1 m2 m3 m4).mono ?_
      rintro e w' ⟨rfl, rfl⟩
      go_wp2_with fail
      go_ret3
      exact ⟨a, b, u, d, rfl, HX.out, balloc HK (Nat.le_refl _) _⟩
end Go.Proofs.Ytdnhdfnghkkncaa
