/-
  Contracts: LowestFree, isGrain, Clone, own.
-/
import Derived.Test.YtdnhdfnghkkncaaL2
set_option linter.unusedSimpArgs false
set_option linter.unusedVariables false
set_option maxRecDepth 100000
namespace Go.Proofs.Ytdnhdfnghkkncaa
open Go.RowKit

/-- how low a grain reaches -/
abbrev lowW (g : G) : Nat := fsub g.ay g.rad
/-- one grain's part in the search for the lowest free one -/
def lowStep (p : Int × Nat) (j : Nat) (g : G) : Int × Nat := if !g.held && (decide (p.1 < 0) || flt (lowW g) p.2) then ((j : Int), lowW g) else p
def lowFrom : Int × Nat → Nat → List G → Int × Nat
  | p, _, [] => p
  | p, j, g :: gs => lowFrom (lowStep p j g) (j + 1) gs
theorem lowFrom_snoc : ∀ (p : Int × Nat) (j : Nat) (gs : List G) (g : G), lowFrom p j (gs ++ [g]) = lowStep (lowFrom p j gs) (j + gs.length) g
  | p, j, [], g => by simp [lowFrom]
  | p, j, h :: gs, g => by
    simp only [List.cons_append, lowFrom, List.length_cons]
    rw [lowFrom_snoc]
    congr 1; omega
theorem low_take {gs : List G} {j : Nat} {g : G} (h : gs[j]? = some g) : lowFrom (-1, 0) 0 (gs.take (j + 1)) = lowStep (lowFrom (-1, 0) 0 (gs.take j)) j g := by
  have hj : j < gs.length := by
    rcases Nat.lt_or_ge j gs.length with h1 | h1
    · exact h1
    · rw [List.getElem?_eq_none h1] at h; cases h
  rw [take_snoc' h, lowFrom_snoc, List.length_take, Nat.min_eq_left (Nat.le_of_lt hj), Nat.zero_add]

def LowPost (r : Int × Nat) (e : Ending) : Prop := if r.1 < 0 then e = .returned (.tuple #[.int .i64 0, .float .f32 0, .bool false]) else e = .returned (.tuple #[.int .i64 r.1, .float .f32 r.2, .bool true])
set_option maxHeartbeats 2000000 in
theorem lowest_c (gs : List G) (w : World) (A : Option Addr) (n c : Nat) (hr : Grs w w.heap.size A n gs) (hn : n ≤ 24) (hok : ∀ g ∈ gs, g.Ok) (hs : ∀ g ∈ gs, num32 (lowW g) = true) :
   Calls Try.prog 19 #[.agg #[.slice A n c]] w fun e w' => LowPost (lowFrom (-1, 0) 0 gs) e ∧ Below w.heap.size w w' := by
  have HR0 := Lib.hid hr
  have HN := Lib.hid hr.len
  have HS := Lib.hid hs
  have HOK := Lib.hid hok
  have HV := Lib.hid (validHeap_c gs (w.alloc (.cells #[.slice A n c] 26)) A n c (hr.to ((Below.refl _ _).alloc (Nat.le_refl _) _)) hn hok)
  clear hr hok hs
  go_enter Try.func19, Try.ntmps19
  go_wp2_with fail
  refine HV.out.mono ?_
  rintro e w1 ⟨rfl, hb1⟩
  obtain ⟨B1, l0, K1⟩ := boxed hb1
  clear hb1
  have C1 := B1.cell
  go_wp2_with fail
  go_loopw [16, 5, 6] (fun i best least wr => ∃ (j : Nat) (b : Int) (lw : Nat), j ≤ n ∧ i = .int .i64 j ∧ best = .int .i64 b ∧ least = .float .f32 lw ∧ Hid ((b, lw) = lowFrom (-1, 0) 0 (gs.take j)) ∧ num32 lw = true ∧ -1 ≤ b ∧ b ≤ 24 ∧ Below w.heap.size w wr) (fun i _ _ _ => n - (intOf i).toNat)
  case atStart => exact ⟨0, -1, 0, by omega, rfl, rfl, rfl, rfl, by decide, by omega, by omega, K1⟩
  case round =>
    obtain ⟨j, bb, lw, hj, rfl, rfl, rfl, HH, hlw, hb0, hb24, HK⟩ := hrel
    by_cases hlt : j < n
    · obtain ⟨b, off, g, rfl, hb, hg, c0, c1, c2, c3, c4, c5, c6⟩ := (HR0.out.below HK).grain hlt
      have HG := Lib.hid hg
      have hlg := HS.out g (List.mem_of_getElem? hg)
      have hgk := HOK.out g (List.mem_of_getElem? hg)
      have k1 := hgk.ay
      have k2 := hgk.rad
      have HT := Lib.hid (low_take hg)
      clear hg hgk C1 B1
      by_cases hheld : g.held = true
      · have HE : Hid ((bb, lw) = lowFrom (-1, 0) 0 (gs.take (j + 1))) := by
          show _ = _
          rw [HT.out, ← HH.out]; simp [lowStep, hheld]
        go_wp2_with fail
        exact ⟨⟨j + 1, _, _, by omega, by go_num, rfl, rfl, HE, hlw, hb0, hb24, balloc HK (Nat.le_refl _) _⟩, by simp [intOf]; omega⟩
      · have hh : g.held = false := by simpa using hheld
        clear hheld
        by_cases hbb : bb < 0
        · have HE : Hid (((j : Int), lowW g) = lowFrom (-1, 0) 0 (gs.take (j + 1))) := by
            show _ = _
            rw [HT.out, ← HH.out]; simp [lowStep, hh, hbb]
          have hd : decide (bb < 0) = true := by simpa using hbb
          go_wp2_with fail
          exact ⟨⟨j + 1, _, _, by omega, by go_num, rfl, rfl, HE, hlg, by omega, by omega, balloc HK (Nat.le_refl _) _⟩, by simp [intOf]; omega⟩
        · have hd : decide (bb < 0) = false := by simpa using hbb
          by_cases hfl : flt (lowW g) lw = true
          · have HE : Hid (((j : Int), lowW g) = lowFrom (-1, 0) 0 (gs.take (j + 1))) := by
              show _ = _
              rw [HT.out, ← HH.out]; simp only [lowStep, hh, hfl]; simp
            have hB : (FloatKind.f32.format.order (fsub g.ay g.rad) lw == some Ordering.lt) = true := hfl
            clear hfl
            go_wp2_with fail
            exact ⟨⟨j + 1, _, _, by omega, by go_num, rfl, rfl, HE, hlg, by omega, by omega, balloc HK (Nat.le_refl _) _⟩, by simp [intOf]; omega⟩
          · have HE : Hid ((bb, lw) = lowFrom (-1, 0) 0 (gs.take (j + 1))) := by
              show _ = _
              rw [HT.out, ← HH.out]; simp only [lowStep, hh, hfl, hd]; simp
            have hB : (FloatKind.f32.format.order (fsub g.ay g.rad) lw == some Ordering.lt) = false := by simpa using hfl
            clear hfl
            go_wp2_with fail
            exact ⟨⟨j + 1, _, _, by omega, by go_num, rfl, rfl, HE, hlw, hb0, hb24, balloc HK (Nat.le_refl _) _⟩, by simp [intOf]; omega⟩
    · have e : gs.take j = gs := List.take_of_length_le (by rw [HN.out]; omega)
      have HE : Hid ((bb, lw) = lowFrom (-1, 0) 0 gs) := by
        show _ = _
        rw [HH.out, e]
      clear e
      by_cases hbb : bb < 0
      · have hd : decide (bb < 0) = true := by simpa using hbb
        go_wp2_with fail
        go_ret3
        rw [← HE.out]
        exact ⟨by unfold LowPost; rw [if_pos hbb]; rfl, HK⟩
      · have hd : decide (bb < 0) = false := by simpa using hbb
        go_wp2_with (go_at_call 109; refine (finite_c _ _ hlw).mono ?_; rintro e w' ⟨rfl, rfl⟩)
        go_ret3
        rw [← HE.out]
        exact ⟨by unfold LowPost; rw [if_neg (by omega)]; rfl, HK⟩
end Go.Proofs.Ytdnhdfnghkkncaa
namespace Go.Proofs.Ytdnhdfnghkkncaa
open Go.RowKit
theorem isGrain_c (gs : List G) (w : World) (A : Option Addr) (n c : Nat) (i : Int) (hr : Grs w w.heap.size A n gs) (hn : n ≤ 24) (hok : ∀ g ∈ gs, g.Ok) :
   Calls Try.prog 114 #[.agg #[.slice A n c], .int .i64 i] w fun e w' => e = .returned (.bool (decide (0 ≤ i ∧ i ≤ (n : Int) - 1))) ∧ Below w.heap.size w w' := by
  have HV := Lib.hid (validHeap_c gs (w.alloc (.cells #[.slice A n c] 26)) A n c (hr.to ((Below.refl _ _).alloc (Nat.le_refl _) _)) hn hok)
  clear hr hok
  go_enter Try.func114, Try.ntmps114
  go_wp2_with fail
  refine HV.out.mono ?_
  rintro e w1 ⟨rfl, hb1⟩
  obtain ⟨B1, l0, K1⟩ := boxed hb1
  clear hb1
  have C1 := B1.cell
  go_wp2_with (first
    | (go_at_call 125; refine (sizeG_c _ _ _ _).mono ?_; rintro e w' ⟨rfl, rfl⟩)
    | (go_at_call 128; refine (within_c _ _ _ _).mono ?_; rintro e w' ⟨rfl, rfl⟩))
  go_ret
  exact ⟨by simp, K1⟩

/-- all elements of a slice are appended to one of the call's own -/
theorem wpL_appendAll {P : Program} {ops : Array Oper} {Q : Exit → Act → World → Prop} {rest : List Oper} {o : Oper} {a : Act} {w : World} {T E size : Nat} (hT : ElT P T E size) (hgd : o.guard = none) {s x : Operand}
    (ho : o.op = .call { callee := .builtin .append, args := #[s, x], argTypes := #[T, T] }) {α : Type} {cs : α → List Value} {base n m c B : Nat} {v : Value} {xs ys : List α} {ad : Addr}
    (hs : a.eval s = v) (hx : a.eval x = .slice (some ad) m c) (hown : w.ownsRow base E size v n (xs.flatMap cs)) (hy : Arr cs size w B (some ad) m ys) (hl : ∀ y, (cs y).length = size) (h1 : ∀ y, (cs y).all (·.oneCell') = true)
    (hn : n + m ≤ 4096) (hbase : base ≤ w.heap.size)
    (h : ∀ v' w', w'.ownsRow base E size v' (n + m) ((xs ++ ys).flatMap cs) → w.grownBy w' v.ownBlock → wpList P ops Q rest (a.put o.dst v') w') : wpList P ops Q (o :: rest) a w := by
  obtain ⟨b, hb64, hinfo⟩ := hT.info
  obtain ⟨i, hi, hzz⟩ := Option.map_eq_some_iff.1 hinfo
  simp only [Prod.mk.injEq] at hzz
  obtain ⟨hz1, hz2, hz3⟩ := hzz
  obtain ⟨z, hz, hzs⟩ := Option.map_eq_some_iff.1 hz3
  refine wpList_append_own w hgd s x T ho base E i z size b hT.und hi hz hz1 hz2 hzs hT.pos v n _ hs hown ad m c (ys.flatMap cs) hx (by rw [flat_len hl, hy.len]) ?_ ?_ ?_ ?_ hbase ?_
  · intro j u hu
    have hj : j < ys.length * size := by
      rw [← flat_len hl]
      rcases Nat.lt_or_ge j (ys.flatMap cs).length with h | h
      · exact h
      · rw [List.getElem?_eq_none h] at hu; cases hu
    have hpos := hT.pos
    have hi1 : j / size < ys.length := (Nat.div_lt_iff_lt_mul hpos).2 hj
    obtain ⟨b, off, e, hb, hc⟩ := hy.cells (by rw [← hy.len]; exact Nat.lt_of_le_of_lt (Nat.zero_le _) hi1)
    injection e with e
    subst e
    have hg : ys[j / size]? = some (ys[j / size]'hi1) := List.getElem?_eq_getElem _
    have hk : j % size < (cs (ys[j / size]'hi1)).length := by rw [hl]; exact Nat.mod_lt _ hpos
    have hku : (cs (ys[j / size]'hi1))[j % size]? = some ((cs (ys[j / size]'hi1))[j % size]'hk) := List.getElem?_eq_getElem _
    have hf := flat_at hl ys _ _ hg _ _ hku
    have ej : j / size * size + j % size = j := by rw [Nat.mul_comm]; exact Nat.div_add_mod j size
    rw [ej, hu] at hf
    have := hc _ _ hg _ _ hku
    rw [Nat.add_assoc, ej, ← hf] at this
    have hadd : (⟨b, off, none⟩ : Addr).add j = ⟨b, off + j, none⟩ := by unfold Addr.add; split <;> simp_all
    rw [hadd]; exact this
  · intro u hu
    obtain ⟨y, _, hyu⟩ := List.mem_flatMap.1 hu
    exact List.all_eq_true.1 (h1 y) u hyu
  · unfold maxLen; omega
  · have : (n + m) * b ≤ 4096 * 64 := Nat.mul_le_mul hn hb64
    omega
  · intro v' w' h2 h3 _
    refine h v' w' ?_ h3
    rw [List.flatMap_append]; exact h2

theorem cloneG_c (gs : List G) (w : World) (A : Option Addr) (n c : Nat) (hr : Grs w w.heap.size A n gs) (hn : n ≤ 4096) :
   Calls Try.prog 165 #[.slice A n c] w fun e w' => ∃ v, e = .returned v ∧ ownG w' w.heap.size v gs ∧ Below w.heap.size w w' := by
  have HN := Lib.hid hr.len
  have HR := Lib.hid hr
  clear hr
  rcases A with _ | ad
  · have h0 : gs = [] := by
      have h1 := HN.out
      rcases Nat.eq_zero_or_pos n with h | h
      · subst h; exact List.eq_nil_of_length_eq_zero h1
      · obtain ⟨b, off, e, _⟩ := HR.out.cells h; cases e
    subst h0
    have hq := fun (W : World) => Lib.run_eql_slice_nil (P := Try.prog) W 24 43 none n c 0 0 Try.underlying24
    go_enter Try.func165, Try.ntmps165
    go_wp2
    go_ret
    exact ⟨_, rfl, World.ownsRow_nil _ _ _ _, Below.refl _ _⟩
  · have hq := fun (W : World) => Lib.run_eql_slice_nil (P := Try.prog) W 24 43 (some ad) n c 0 0 Try.underlying24
    go_enter Try.func165, Try.ntmps165
    go_wp2_with (at_builtin; refine wpL_appendAll elG rfl rfl (xs := ([] : List G)) (base := w.heap.size) (n := 0) (cs := G.cells) rfl rfl ?c1 (HR.out.alloc (Nat.le_refl _) _) (fun _ => rfl) (fun _ => rfl) ?c2 ?c3 ?c4)
    case c1 => exact World.ownsRow_lit w #[] 0 (Nat.le_refl _) (by unfold maxLen; omega) rfl
    case c2 => omega
    case c3 => simp
    intro v' w1 HO HG
    have BX := own_grown (World.ownsRow_lit w #[] 0 (Nat.le_refl w.heap.size) (by unfold maxLen; omega) (show #[].size = 0 * 7 from rfl) : (w.alloc (.cells #[] 43)).ownsRow w.heap.size 43 7 _ 0 _) HG (by simp)
    go_wp2
    go_ret
    have e := HN.out
    subst e
    exact ⟨_, rfl, HO, (balloc (Below.refl w.heap.size w) (Nat.le_refl _) _).trans BX⟩

theorem own_c (gs : List G) (w : World) (A : Option Addr) (n c : Nat) (hr : Grs w w.heap.size A n gs) (hn : n ≤ 4096) :
   Calls Try.prog 115 #[.agg #[.slice A n c]] w fun e w' => ∃ v, e = .returned (.agg #[v]) ∧ ownG w' w.heap.size v gs ∧ Below w.heap.size w w' := by
  have z26 := sz26
  have HC := Lib.hid (fun W (K : Below w.heap.size w W) => cloneG_c gs W A n c (hr.to K) hn)
  clear hr
  go_enter Try.func115, Try.ntmps115
  go_wp2_with fail
  refine (HC.out _ (balloc (balloc (Below.refl _ _) (Nat.le_refl _) _) (Nat.le_refl _) _)).mono ?_
  rintro e w1 ⟨v, rfl, HO, hb1⟩
  obtain ⟨Av, cv, rfl, _, _⟩ := own_arr G.cells_len (by omega) HO
  have R1 := (Blk.new (w.alloc (.cells #[.slice A n c] 26)) 26 #[.slice none 0 0]).below hb1 (by simp)
  have K1 := (balloc (balloc (Below.refl w.heap.size w) (Nat.le_refl _) (.cells #[.slice A n c] 26)) (Nat.le_refl _) (.cells #[.slice none 0 0] 26)).trans (hb1.mono (by simp; omega))
  have e1 : (w.alloc (.cells #[.slice A n c] 26)).heap.size = w.heap.size + 1 := by simp
  rw [e1] at R1
  clear e1 hb1
  have CR := R1.cell
  have FR := R1.frozen
  go_wp2_with fail
  refine ret_cell (g := w.heap.size + 1) rfl rfl (R1.set_ 0 _) Try.underlying26 z26 rfl ?_
  exact ⟨_, rfl, own_mono (own_set HO (own_ne HO R1 (by decide)) 0 _) (by simp; omega), bset K1 (by omega) _ _⟩
end Go.Proofs.Ytdnhdfnghkkncaa
