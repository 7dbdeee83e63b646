/-
  Contracts: a heap in a row (R8Heap): its grains are small multiples of powers of two.
-/
import Derived.Test.YtdnhdfnghkkncaaS2
import Derived.Test.YtdnhdfnghkkncaaOwn
set_option linter.unusedSimpArgs false
set_option linter.unusedVariables false
set_option maxRecDepth 100000
namespace Go.Proofs.Ytdnhdfnghkkncaa
open Go.RowKit

/-- l00From -/
theorem from_ok {w : World} {A : Option Addr} {n c : Nat} {xs : List Int} (hb : ∀ x ∈ xs, 0 ≤ x ∧ x < 256) (h : Bys w w.heap.size A n xs) :
   Calls Try.prog 102 #[.slice A n c] w fun e w' => e = .returned (.pointer (some ⟨w.heap.size, 0, none⟩)) ∧ SrcOk w' w.heap.size w.heap.size A n c xs 0 ∧ Below w.heap.size w w' ∧ w.heap.size < w'.heap.size := by
  have HB := Lib.hid hb
  clear hb
  go_enter Try.func102, Try.ntmps102
  go_wp2
  go_ret
  exact ⟨rfl, ⟨⟨0, Blk.new w 256 _⟩, h.alloc (Nat.le_refl _) _, Nat.le_refl _, HB.out, Int.le_refl _⟩, (Below.refl _ _).alloc (Nat.le_refl _) _, by simp⟩

/-- the numbers of a grain of a row -/
structure V where
  x : Int
  y : Int
  sx : Int
  sy : Int
  rad : Int
  mass : Int
  turn : Int
  spin : Int
structure GIs (g : G) (v : V) : Prop where
  ax : IsG 2 v.x g.ax
  ay : IsG 2 v.y g.ay
  sx : IsG 2 v.sx g.sx
  sy : IsG 2 v.sy g.sy
  rad : IsG 2 v.rad g.rad
  mass : IsG 2 v.mass g.mass
  turn : IsG 4 v.turn g.turn
  spin : IsG 1 v.spin g.spin
  turnw : g.turn = fdiv (fint v.turn) 1098907648
  spinw : g.spin = fdiv (fint v.spin) 1073741824
structure V.Good (v : V) : Prop where
  y : -4 ≤ v.y ∧ v.y ≤ 4
  sx : -4 ≤ v.sx ∧ v.sx ≤ 4
  sy : -4 ≤ v.sy ∧ v.sy ≤ 4
  rad : 1 ≤ v.rad ∧ v.rad ≤ 6
  mass : 1 ≤ v.mass ∧ v.mass ≤ 8
  turn : -8 ≤ v.turn ∧ v.turn ≤ 8
  spin : -4 ≤ v.spin ∧ v.spin ≤ 4
def chain : Int → List V → Prop
  | _, [] => True
  | a, v :: vs => a + 2 ≤ v.x ∧ v.x ≤ a + 6 ∧ chain v.x vs
def lastx : Int → List V → Int
  | a, [] => a
  | _, v :: vs => lastx v.x vs
theorem chain_snoc : ∀ (a : Int) (vs : List V) (v : V), chain a vs → lastx a vs + 2 ≤ v.x → v.x ≤ lastx a vs + 6 → chain a (vs ++ [v])
  | _, [], v, _, h1, h2 => ⟨h1, h2, trivial⟩
  | _, u :: us, v, h, h1, h2 => ⟨h.1, h.2.1, chain_snoc u.x us v h.2.2 h1 h2⟩
theorem lastx_snoc : ∀ (a : Int) (vs : List V) (v : V), lastx a (vs ++ [v]) = v.x
  | _, [], v => rfl
  | _, u :: us, v => lastx_snoc u.x us v
theorem lastx_le : ∀ (a : Int) (vs : List V), chain a vs → a ≤ lastx a vs ∧ lastx a vs ≤ a + 6 * vs.length
  | _, [], _ => by simp [lastx]
  | a, u :: us, h => by
    have := lastx_le u.x us h.2.2
    have h1 := h.1
    have h2 := h.2.1
    simp only [lastx, List.length_cons]
    omega
/-- the grains of a row, with their numbers -/
structure Row (gs : List G) (vs : List V) : Prop where
  len : gs.length = vs.length
  is : ∀ (i : Nat) (g : G) (v : V), gs[i]? = some g → vs[i]? = some v → GIs g v ∧ v.Good ∧ g.held = false
  chain : chain (-16) vs
theorem Row.nil : Row [] [] := ⟨rfl, by simp, trivial⟩
theorem Row.snoc {gs : List G} {vs : List V} {g : G} {v : V} (h : Row gs vs) (hg : GIs g v) (hv : v.Good) (hh : g.held = false) (h1 : lastx (-16) vs + 2 ≤ v.x) (h2 : v.x ≤ lastx (-16) vs + 6) : Row (gs ++ [g]) (vs ++ [v]) := by
  refine ⟨by simp [h.len], fun i g' v' hi hj => ?_, chain_snoc _ _ _ h.chain h1 h2⟩
  rcases Nat.lt_trichotomy i gs.length with hlt | heq | hgt
  · rw [List.getElem?_append_left hlt] at hi
    rw [List.getElem?_append_left (by rw [← h.len]; exact hlt)] at hj
    exact h.is i g' v' hi hj
  · subst heq
    simp at hi
    rw [h.len] at hj
    simp at hj
    subst hi hj
    exact ⟨hg, hv, hh⟩
  · rw [List.getElem?_eq_none (by simp; omega)] at hi
    cases hi

/-- a source and the heap's size -/
theorem SrcOk.only {w w' : World} {p B n c : Nat} {A : Option Addr} {xs : List Int} {at_ : Int} (h : SrcOk w p B A n c xs at_) {g : Nat} (hb : Only g w w') (hp : p ≠ g) (hB : B ≤ g) : SrcOk w' p B A n c xs at_ :=
  ⟨by obtain ⟨s, hs⟩ := h.src; exact ⟨s, hs.only hb hp⟩, h.bys.only hb hB (by have := h.lt; have := h.le; omega), h.le, h.byte, h.lo⟩

set_option maxHeartbeats 2000000 in
theorem r8Heap_ok {w : World} {A : Option Addr} {n c : Nat} {xs : List Int} (N : Nat) (hN : N ≤ 64) (hb : ∀ x ∈ xs, 0 ≤ x ∧ x < 256) (h : Bys w w.heap.size A n xs) :
   Calls Try.prog 15 #[.slice A n c, .int .i64 N] w fun e w' => ∃ gs vs v, Row gs vs ∧ gs.length = N ∧ e = .returned (.agg #[v]) ∧ ownG w' w.heap.size v gs ∧ Below w.heap.size w w' := by
  have u1 := und2
  have u2 := Try.underlying37
  have z43 := sz43
  have q1 := four_num
  have q2 := four_nz
  have HB := Lib.hid hb
  have HA := Lib.hid (h.alloc (Nat.le_refl _) (.cells #[.slice none 0 0] 26))
  clear hb h
  go_enter Try.func15, Try.ntmps15
  go_wp2_with fail
  refine (from_ok HB.out (HA.out.more (by simp))).mono ?_
  rintro e w1 ⟨rfl, S1, K1, L1⟩
  obtain ⟨B1, M1, K1'⟩ := boxed K1
  clear K1 HA
  have ep : (w.alloc (.cells #[.slice none 0 0] 26)).heap.size = w.heap.size + 1 := by simp
  rw [ep] at S1 L1
  clear ep
  go_wp2_with fail
  have B2 := (B1.alloc (.cells #[] 43)).alloc (.cells #[.slice (some ⟨w1.heap.size, 0, none⟩) 0 0] 26)
  have G2 := Blk.new (w1.alloc (.cells #[] 43)) 26 #[.slice (some ⟨w1.heap.size, 0, none⟩) 0 0]
  have O2 : ((w1.alloc (.cells #[] 43)).alloc (.cells #[.slice (some ⟨w1.heap.size, 0, none⟩) 0 0] 26)).ownsRow (w.heap.size + 1 + 1) 43 7 (.slice (some ⟨w1.heap.size, 0, none⟩) 0 0) 0 (([] : List G).flatMap G.cells) :=
    (World.ownsRow_lit w1 #[] 0 (by omega) (by unfold maxLen; omega) rfl).alloc _
  have S2 := (S1.alloc (.cells #[] 43)).alloc (.cells #[.slice (some ⟨w1.heap.size, 0, none⟩) 0 0] 26)
  have K2 := (K1'.alloc K1'.size (.cells #[] 43)).alloc (by simp; omega) (.cells #[.slice (some ⟨w1.heap.size, 0, none⟩) 0 0] 26)
  have eg : (w1.alloc (.cells #[] 43)).heap.size = w1.heap.size + 1 := by simp
  rw [eg] at G2
  clear B1 S1 K1' eg
  generalize hg6 : w1.heap.size + 1 = g6 at *
  have hg6' : w.heap.size + 1 < g6 := by omega
  clear hg6
  go_loopw [1, 7] (fun i x wr => ∃ gs vs v xw, Row gs vs ∧ gs.length ≤ N ∧ i = .int .i64 ((N : Int) - gs.length) ∧ x = .float .f32 xw ∧ IsG 2 (lastx (-16) vs) xw ∧
      SrcOk wr (w.heap.size + 1) (w.heap.size + 1) A n c xs (11 * (gs.length : Int)) ∧ Blk wr g6 26 #[v] ∧ wr.ownsRow (w.heap.size + 1 + 1) 43 7 v gs.length (gs.flatMap G.cells) ∧
      Blk wr w.heap.size 26 #[.slice none 0 0] ∧ Below w.heap.size w wr) (fun i _ _ => (intOf i).toNat)
  case atStart =>
    exact ⟨[], [], _, 3229614080, Row.nil, by simp, by simp, rfl, ⟨by decide, by decide⟩, S2, G2, O2, B2, K2⟩
  case round =>
    obtain ⟨gs, vs, v, xw, hrow, hle, rfl, rfl, hxw, HS, HG, HO, HR, HK⟩ := hrel
    clear S2 G2 O2 B2 K2 HB
    obtain ⟨Av, cv, rfl, _, _⟩ := own_arr G.cells_len (by omega) HO
    by_cases hlt : gs.length < N
    · have nx := hxw.num
      have CG := HG.cell
      go_wp2_with fail
      refine (drawGrain_ok HS (by omega)).mono ?_
      rintro e w2 ⟨g, hd, rfl, S3, O3⟩
      have HG3 := HG.only O3 (by omega)
      have HO3 := own_only HO O3 (by omega)
      have HR3 := HR.only O3 (by omega)
      have HK3 := HK.trans (only_below O3 (by omega) HK.size)
      have hg8 := HG3.lt
      clear HG HO HR HK HS O3 CG
      go_wp2_with fail
      refine (pick_ok 5 (S3.alloc _) (by omega) (by omega) (by omega)).mono ?_
      rintro e w3 ⟨r1, a1, b1, rfl, S4, O4⟩
      have D4 := (Blk.new w2 43 _).only O4 (by omega)
      have HG4 := (HG3.alloc _).only O4 (by omega)
      have HO4 := own_only (HO3.alloc _) O4 (by omega)
      have HR4 := (HR3.alloc _).only O4 (by omega)
      have HK4 := (HK3.alloc HK3.size _).trans (only_below O4 (by omega) (by have := HK3.size; simp; omega))
      have hne8 := own_ne_new HO3 (Nat.le_refl w2.heap.size)
      have i1 := (IsG.int (n := 2 + r1) (by omega)).num
      have i2 := quarter (n := 2 + r1) (by omega)
      have i3 := i2.num
      have i4 := IsG.add hxw i2 (by have := lastx_le _ _ hrow.chain; have := hrow.len; omega)
      have n4 := i4.num
      have I4 := Lib.hid i4
      have I2 := Lib.hid i2
      clear HG3 HO3 HR3 HK3 S3 O4 i4 i2
      go_wp2_with fail
      refine (pick_ok 9 S4 (by omega) (by omega) (by omega)).mono ?_
      rintro e w4 ⟨r2, a2, b2, rfl, S5, O5⟩
      have D5 := D4.only O5 (by omega)
      have HG5 := HG4.only O5 (by omega)
      have HO5 := own_only HO4 O5 (by omega)
      have HR5 := HR4.only O5 (by omega)
      have HK5 := HK4.trans (only_below O5 (by omega) HK4.size)
      have j1 := (IsG.int (n := r2 - 4) (by omega)).num
      have j2 := (quarter (n := r2 - 4) (by omega)).num
      have C5 := D5.cell
      have F5 := D5.frozen
      have CG := HG5.cell
      have FG := HG5.frozen
      clear HG4 HO4 HR4 HK4 S4 O5 D4
      have hx8 : w.heap.size + 1 + 1 ≤ w4.heap.size := by have := HG5.lt; omega
      go_wp2_with (at_builtin; refine wpL_append1 elG rfl rfl (y := (⟨fadd xw (fdiv (fint (2 + r1)) 1082130432), fdiv (fint (r2 - 4)) 1082130432, g.sx, g.sy, g.rad, g.mass, g.turn, g.spin, false⟩ : G)) rfl rfl ((own_set (own_set HO5 hne8 _ _) hne8 _ _).alloc _) (Blk.newAt ?c3 43 _) rfl rfl rfl ?c1 ?c2 ?c4)
      case c1 => omega
      case c2 => simp [World.setCell]; omega
      case c3 => simp [World.setCell]
      intro v' w5 HO6 HG6
      have ez : w.heap.size + 1 < w2.heap.size := by omega
      have BX := own_grown ((own_set (own_set HO5 hne8 _ _) hne8 _ _).alloc _) HG6 (by simp; omega)
      have HGX := (((HG5.off (Nat.ne_of_lt hg8) _ _).off (Nat.ne_of_lt hg8) _ _).alloc _).grown HG6 (own_ne HO5 HG5 (by decide))
      have SX := (((S5.set ez _ _).set ez _ _).alloc _).below BX (by omega)
      have HRX := (((HR5.off (p := w2.heap.size) (by omega) _ _).off (p := w2.heap.size) (by omega) _ _).alloc _).below BX (by omega)
      have HKX := (balloc (bset (bset HK5 (p := w2.heap.size) (by omega) _ _) (p := w2.heap.size) (by omega) _ _) (Nat.le_refl _) _).trans (BX.mono (by omega))
      have HO7 : w5.ownsRow (w.heap.size + 1 + 1) 43 7 v' (gs.length + 1) ((gs ++ [(⟨fadd xw (fdiv (fint (2 + r1)) 1082130432), fdiv (fint (r2 - 4)) 1082130432, g.sx, g.sy, g.rad, g.mass, g.turn, g.spin, false⟩ : G)]).flatMap G.cells) := by
        rw [List.flatMap_append]; simpa using HO6
      clear HO6
      obtain ⟨Av', cv', rfl, _, _⟩ := own_arr G.cells_len (by omega) HO7
      have CG6 := HGX.cell
      have FG6 := HGX.frozen
      clear BX HG5 HR5 HK5 HO5 S5 D5 C5 F5 CG FG HG6
      go_wp2_with fail
      obtain ⟨dx, dy, dsx, dsy, dr, dm, dt, ds, dh, _, _, k3, k4, k5, k6, k7, k8, rfl⟩ := hd
      have e1 := hrow.len
      refine ⟨⟨_, _, _, _, hrow.snoc (g := ⟨fadd xw (fdiv (fint (2 + r1)) 1082130432), fdiv (fint (r2 - 4)) 1082130432, (gQ dx dy dsx dsy dr dm dt ds dh).sx, (gQ dx dy dsx dsy dr dm dt ds dh).sy, (gQ dx dy dsx dsy dr dm dt ds dh).rad, (gQ dx dy dsx dsy dr dm dt ds dh).mass, (gQ dx dy dsx dsy dr dm dt ds dh).turn, (gQ dx dy dsx dsy dr dm dt ds dh).spin, false⟩) (v := ⟨lastx (-16) vs + (2 + r1), r2 - 4, dsx, dsy, dr, dm, dt, ds⟩) ⟨I4.out, quarter (n := r2 - 4) (by omega), quarter (n := dsx) (by omega), quarter (n := dsy) (by omega), quarter (n := dr) (by omega), quarter (n := dm) (by omega), sixteenth (n := dt) (by omega), half_ (n := ds) (by omega), rfl, rfl⟩
        ⟨⟨by show (-4 : Int) ≤ r2 - 4; omega, by show r2 - 4 ≤ 4; omega⟩, k3, k4, k5, k6, k7, k8⟩ rfl (by show _ ≤ lastx (-16) vs + (2 + r1); omega) (by show lastx (-16) vs + (2 + r1) ≤ _; omega), ?_, ?_, rfl, ?_, ?_, HGX.set_ 0 _, ?_, HRX.off (by omega) _ _, bset HKX (by omega) _ _⟩, ?_⟩
      · simp; omega
      · simp; omega
      · rw [lastx_snoc]; exact I4.out
      · have := SX.set (g := g6) (by omega) 0 (.slice Av' (gs.length + 1) cv')
        rw [show 11 * (gs.length : Int) + 9 + 1 + 1 = 11 * ((gs.length : Int) + 1) by omega] at this
        simpa using this
      · have := own_set HO7 (own_ne HO7 HGX (by decide)) 0 (.slice Av' (gs.length + 1) cv')
        simpa using this
      · simp [intOf]; omega
    · have CG := HG.cell
      have CR := HR.cell
      have FR := HR.frozen
      go_wp2_with fail
      refine ret_cell (g := w.heap.size) rfl rfl (HR.set_ 0 _) Try.underlying26 sz26 rfl ?_
      exact ⟨gs, vs, _, hrow, by omega, rfl, own_mono (own_set (g := w.heap.size) HO (fun he => by have h9 := (HO.lt w.heap.size he).1; omega) 0 _) (show w.heap.size ≤ w.heap.size + 1 + 1 by omega), HK.setCell (Nat.le_refl _) _⟩
end Go.Proofs.Ytdnhdfnghkkncaa
