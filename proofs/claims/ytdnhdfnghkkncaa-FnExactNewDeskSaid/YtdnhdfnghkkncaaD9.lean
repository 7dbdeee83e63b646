/-
  FnExactNewDesk: desks are made, compared, marked and read again.
-/
import Derived.Test.YtdnhdfnghkkncaaD7
import Derived.Test.YtdnhdfnghkkncaaD8
set_option linter.unusedSimpArgs false
set_option linter.unusedVariables false
set_option maxRecDepth 100000
namespace Go.Proofs.Ytdnhdfnghkkncaa
open Go.RowKit
open Fl Ieee

abbrev r16 : Nat := 1098907648
abbrev r1 : Nat := 1065353216
abbrev rh : Nat := 1056964608
abbrev r8 : Nat := 1090519040
abbrev mf : Nat := 3229614080
abbrev pf : Nat := 1082130432
/-- the new desk's grains and walls -/
def ndG : List G := pileTo rh r1 halfY 2 2
def ndW : List Wl := ring4 mf mf pf mf pf pf mf pf
theorem ndG_len : ndG.length = 3 := pileTo_len rh r1 halfY (by omega)
theorem ndW_len : ndW.length = 4 := rfl

set_option maxHeartbeats 400000 in
theorem specNewDesk_c (w : World) : Calls Try.prog 91 #[] w fun e w' => ∃ g1 c1 g2 c2 g3 c3, e = .returned (.agg (deskV (some ⟨g1, 0, none⟩) 3 c1 r16 r1 rh r8 (some ⟨g2, 0, none⟩) 4 c2 (some ⟨g3, 0, none⟩) c3)) ∧
    w'.ownsRow w.heap.size 43 7 (.slice (some ⟨g1, 0, none⟩) 3 c1) 3 (ndG.flatMap G.cells) ∧ w'.ownsRow w.heap.size 31 3 (.slice (some ⟨g2, 0, none⟩) 4 c2) 4 (ndW.flatMap Wl.cells) ∧ Below w.heap.size w w' := by
  have z140 := sz140
  have z138 := sz138
  have z26 := sz26
  have H1 := Lib.hid (fun W => pileSpec_c pileHalf W 2 (by omega))
  have H2 := Lib.hid (fun W => box_w mf mf pf pf W)
  go_enter Try.func91, Try.ntmps91
  go_wp2_with fail
  refine (H1.out _).mono ?_
  rintro e w1 ⟨v, rfl, HO, K1⟩
  have ez : (w.alloc (.cells #[.slice none 0 0, .float .f32 0, .float .f32 0, .float .f32 0, .float .f32 0, .slice none 0 0, .slice none 0 0] 140)).heap.size = w.heap.size + 1 := by simp
  obtain ⟨R1, l1, KK⟩ := boxed K1
  have HO1 : w1.ownsRow w.heap.size 43 7 v 3 (ndG.flatMap G.cells) := by
    have h := own_mono HO (base' := w.heap.size) (by rw [ez]; omega)
    have e3 : (pileTo 1056964608 1065353216 halfY 2 2).length = 3 := ndG_len
    rw [e3] at h
    exact h
  clear HO K1 H1 ez
  obtain ⟨g1, c1, rfl⟩ : ∃ g1 c1, v = .slice (some ⟨g1, 0, none⟩) 3 c1 := by
    obtain ⟨g', cap, h, _⟩ := HO1.form (by omega)
    exact ⟨g', cap, h⟩
  go_wp2_with fail
  refine (H2.out _).mono ?_
  rintro e w2 ⟨v, rfl, HO, K2⟩
  have D2 := (Blk.new w1 140 #[.slice (some ⟨g1, 0, none⟩) 3 c1, .float .f32 1098907648, .float .f32 1065353216, .float .f32 1056964608, .float .f32 1090519040, .slice none 0 0, .slice none 0 0]).below K2 (by simp)
  have R2 := (R1.alloc (.cells #[.slice (some ⟨g1, 0, none⟩) 3 c1, .float .f32 1098907648, .float .f32 1065353216, .float .f32 1056964608, .float .f32 1090519040, .slice none 0 0, .slice none 0 0] 140)).below K2 (by simp; omega)
  have HO2 := own_below (HO1.alloc (.cells #[.slice (some ⟨g1, 0, none⟩) 3 c1, .float .f32 1098907648, .float .f32 1065353216, .float .f32 1056964608, .float .f32 1090519040, .slice none 0 0, .slice none 0 0] 140)) K2
  have KK2 := bthen (balloc KK (Nat.le_refl _) (.cells #[.slice (some ⟨g1, 0, none⟩) 3 c1, .float .f32 1098907648, .float .f32 1065353216, .float .f32 1056964608, .float .f32 1090519040, .slice none 0 0, .slice none 0 0] 140)) K2 (by simp; omega)
  have HW2 : w2.ownsRow w.heap.size 31 3 v 4 (ndW.flatMap Wl.cells) := own_mono HO (base' := w.heap.size) (by simp; omega)
  clear HO K2 R1 HO1 KK H2
  obtain ⟨g2, c2, rfl⟩ : ∃ g2 c2, v = .slice (some ⟨g2, 0, none⟩) 4 c2 := by
    obtain ⟨g', cap, h, _⟩ := HW2.form (by omega)
    exact ⟨g', cap, h⟩
  have C2 := D2.cell
  have F2 := D2.frozen
  have l2 := D2.lt
  have lr := R2.lt
  have hne1 : w.heap.size ≠ w1.heap.size := by omega
  have HB := ((R2.off hne1 5 (.slice (some ⟨g2, 0, none⟩) 4 c2)).off hne1 6 (.slice (some ⟨w2.heap.size, 0, none⟩) 0 0)).alloc (.cells #[] 58)
  have m1 := own_ne HO2 D2 (by decide)
  have m2 := own_ne HW2 D2 (by decide)
  have HO3 := (own_set (own_set HO2 m1 5 (.slice (some ⟨g2, 0, none⟩) 4 c2)) m1 6 (.slice (some ⟨w2.heap.size, 0, none⟩) 0 0)).alloc (.cells #[] 58)
  have HW3 := (own_set (own_set HW2 m2 5 (.slice (some ⟨g2, 0, none⟩) 4 c2)) m2 6 (.slice (some ⟨w2.heap.size, 0, none⟩) 0 0)).alloc (.cells #[] 58)
  have KK3 := balloc (bset (bset KK2 (p := w1.heap.size) (by omega) 5 (.slice (some ⟨g2, 0, none⟩) 4 c2)) (p := w1.heap.size) (by omega) 6 (.slice (some ⟨w2.heap.size, 0, none⟩) 0 0)) (Nat.le_refl _) (.cells #[] 58)
  clear R2 HO2 HW2 KK2 hne1 m1 m2
  go_wp2_with (refine wpL_store_blk (g := w.heap.size) (cells := deskV (some ⟨g1, 0, none⟩) 3 c1 r16 r1 rh r8 (some ⟨g2, 0, none⟩) 4 c2 (some ⟨w2.heap.size, 0, none⟩) 0) rfl rfl rfl rfl rfl sz140 HB rfl rfl ?_; intro w3 R3 O3 s3)
  go_wp2_with fail
  refine ret_cell (g := w.heap.size) rfl rfl R3 Try.underlying140 sz140 rfl ?_
  exact ⟨g1, c1, g2, c2, w2.heap.size, 0, rfl, own_other HO3 O3 (own_ne HO3 HB (by decide)), own_other HW3 O3 (own_ne HW3 HB (by decide)), KK3.trans (only_below O3 (Nat.le_refl _) KK3.size)⟩

theorem isMf : IsG 0 (-4) mf := ⟨by decide, by decide⟩
theorem isPf : IsG 0 4 pf := ⟨by decide, by decide⟩
theorem wall_ok {a b c d : Int} {l : Wl} (h1 : IsG 0 a l.fx) (h2 : IsG 0 b l.fy) (h3 : IsG 0 c l.tx) (h4 : IsG 0 d l.ty) (hv : l.vx = 0) (hw : l.vy = 0) (ha : -10 ≤ a ∧ a ≤ 10) (hb : -10 ≤ b ∧ b ≤ 10) (hc : -10 ≤ c ∧ c ≤ 10) (hd : -10 ≤ d ∧ d ≤ 10) (hp : 0 < (c - a) * (c - a) + (d - b) * (d - b)) (hs : (c - a) * (c - a) + (d - b) * (d - b) ≤ 1000) : l.Ok := by
  have s1 := IsG.sub h3 h1 (by omega)
  have s2 := IsG.sub h4 h2 (by omega)
  obtain ⟨p1, p2⟩ := IsG.pow s1 s2 (by omega) (by omega)
  refine ⟨h1.num, h2.num, h3.num, h4.num, by rw [hv]; decide, by rw [hw]; decide, p1, ?_⟩
  rw [p2.gt (isG0 _)]
  exact decide_eq_true hp
theorem ndW_ok : ∀ l ∈ ndW, l.Ok := by
  simp only [ndW, ring4, List.mem_cons, List.not_mem_nil, or_false, forall_eq_or_imp, forall_eq]
  exact ⟨wall_ok isMf isMf isPf isMf rfl rfl (by omega) (by omega) (by omega) (by omega) (by omega) (by omega), wall_ok isPf isMf isPf isPf rfl rfl (by omega) (by omega) (by omega) (by omega) (by omega) (by omega),
    wall_ok isPf isPf isMf isPf rfl rfl (by omega) (by omega) (by omega) (by omega) (by omega) (by omega), wall_ok isMf isPf isMf isMf rfl rfl (by omega) (by omega) (by omega) (by omega) (by omega) (by omega)⟩
theorem nilZero : (#[Value.slice none 0 0, .float .f32 0, .float .f32 0, .float .f32 0, .float .f32 0, .slice none 0 0, .slice none 0 0] : Array Value).size = 7 := rfl

set_option maxHeartbeats 400000 in
theorem newDesk_c (w : World) : Calls Try.prog 92 #[] w fun e w' => ∃ g1 c1 g2 c2, e = .returned (.agg (deskV (some ⟨g1, 0, none⟩) 3 c1 r16 r1 rh r8 (some ⟨g2, 0, none⟩) 4 c2 none 0)) ∧
    w'.ownsRow w.heap.size 43 7 (.slice (some ⟨g1, 0, none⟩) 3 c1) 3 (ndG.flatMap G.cells) ∧ w'.ownsRow w.heap.size 31 3 (.slice (some ⟨g2, 0, none⟩) 4 c2) 4 (ndW.flatMap Wl.cells) ∧ Below w.heap.size w w' := by
  have z140 := sz140
  have z138 := sz138
  have z26 := sz26
  have H1 := Lib.hid (fun W => pile_c pileHalf W 2 (by omega) (by omega))
  have H2 := Lib.hid (fun W => boxOfWalls_c mf mf pf pf W ndW_ok)
  go_enter Try.func92, Try.ntmps92
  go_wp2_with fail
  refine (H1.out _).mono ?_
  rintro e w1 ⟨v, rfl, HO, K1⟩
  have ez : (w.alloc (.cells #[.slice none 0 0, .float .f32 0, .float .f32 0, .float .f32 0, .float .f32 0, .slice none 0 0, .slice none 0 0] 140)).heap.size = w.heap.size + 1 := by simp
  obtain ⟨R1, l1, KK⟩ := boxed K1
  have HO1 : w1.ownsRow w.heap.size 43 7 v 3 (ndG.flatMap G.cells) := by
    have h := own_mono HO (base' := w.heap.size) (by rw [ez]; omega)
    have e3 : (pileTo 1056964608 1065353216 halfY 2 2).length = 3 := ndG_len
    rw [e3] at h
    exact h
  clear HO K1 H1 ez
  obtain ⟨g1, c1, rfl⟩ : ∃ g1 c1, v = .slice (some ⟨g1, 0, none⟩) 3 c1 := by
    obtain ⟨g', cap, h, _⟩ := HO1.form (by omega)
    exact ⟨g', cap, h⟩
  go_wp2_with fail
  refine (H2.out _).mono ?_
  rintro e w2 ⟨v, rfl, HO, K2⟩
  have D2 := (Blk.new w1 26 #[.slice (some ⟨g1, 0, none⟩) 3 c1]).below K2 (by simp)
  have R2 := (R1.alloc (.cells #[.slice (some ⟨g1, 0, none⟩) 3 c1] 26)).below K2 (by simp; omega)
  have HO2 := own_below (HO1.alloc (.cells #[.slice (some ⟨g1, 0, none⟩) 3 c1] 26)) K2
  have KK2 := bthen (balloc KK (Nat.le_refl _) (.cells #[.slice (some ⟨g1, 0, none⟩) 3 c1] 26)) K2 (by simp; omega)
  have HW2 : w2.ownsRow w.heap.size 31 3 v 4 (ndW.flatMap Wl.cells) := own_mono HO (base' := w.heap.size) (by simp; omega)
  clear HO K2 R1 HO1 KK H2
  obtain ⟨g2, c2, rfl⟩ : ∃ g2 c2, v = .slice (some ⟨g2, 0, none⟩) 4 c2 := by
    obtain ⟨g', cap, h, _⟩ := HW2.form (by omega)
    exact ⟨g', cap, h⟩
  have C2 := D2.cell
  go_wp2_with (refine wpL_store_blk (g := w.heap.size) (cells := deskV (some ⟨g1, 0, none⟩) 3 c1 r16 r1 rh r8 (some ⟨g2, 0, none⟩) 4 c2 none 0) rfl rfl rfl rfl rfl sz140 R2 rfl rfl ?_; intro w3 R3 O3 s3)
  go_wp2_with fail
  refine ret_cell (g := w.heap.size) rfl rfl R3 Try.underlying140 sz140 rfl ?_
  exact ⟨g1, c1, g2, c2, rfl, own_other HO2 O3 (own_ne HO2 R2 (by decide)), own_other HW2 O3 (own_ne HW2 R2 (by decide)), KK2.trans (only_below O3 (Nat.le_refl _) KK2.size)⟩

set_option maxHeartbeats 400000 in
theorem markDesk_c (gs : List G) (ls : List Wl) (q0 q1 q2 q3 : Nat) (w : World) (base g1 g2 n m c d : Nat) (B : Option Addr) (e : Nat) (k : Int) (hO : w.ownsRow base 43 7 (.slice (some ⟨g1, 0, none⟩) n c) n (gs.flatMap G.cells)) (hW : w.ownsRow base 31 3 (.slice (some ⟨g2, 0, none⟩) m d) m (ls.flatMap Wl.cells))
   (hl : gs.length = n) (hm : ls.length = m) (hn : n ≤ 50) (hmm : m ≤ 50) (h0 : 0 ≤ k) (h1 : k ≤ 100) :
   Calls Try.prog 94 #[.agg (deskV (some ⟨g1, 0, none⟩) n c q0 q1 q2 q3 (some ⟨g2, 0, none⟩) m d B e), .int .i64 k] w fun x w' => x = .returned (.int .i64 (k + 7 * n + 3 * m)) ∧
     w'.ownsRow base 43 7 (.slice (some ⟨g1, 0, none⟩) n c) n ((setFrom (fun j => markG (k + 7 * j)) gs n).flatMap G.cells) ∧ w'.ownsRow base 31 3 (.slice (some ⟨g2, 0, none⟩) m d) m ((setFrom (fun j => markW (k + 7 * n + 3 * j)) ls m).flatMap Wl.cells) ∧ ∃ w1, Only g1 w w1 ∧ Only g2 w1 w' := by
  have z26 := sz26
  have hne := own_apart hO hW (by decide)
  have HO0 := hO.alloc (.cells (deskV (some ⟨g1, 0, none⟩) n c q0 q1 q2 q3 (some ⟨g2, 0, none⟩) m d B e) 140)
  have HW0 := hW.alloc (.cells (deskV (some ⟨g1, 0, none⟩) n c q0 q1 q2 q3 (some ⟨g2, 0, none⟩) m d B e) 140)
  have B0 := Blk.new w 140 (deskV (some ⟨g1, 0, none⟩) n c q0 q1 q2 q3 (some ⟨g2, 0, none⟩) m d B e)
  have O0 := only_alloc (only_refl g1 w) (.cells (deskV (some ⟨g1, 0, none⟩) n c q0 q1 q2 q3 (some ⟨g2, 0, none⟩) m d B e) 140)
  have H1 := Lib.hid (markHeap_c gs _ base g1 n c k HO0 hl (by omega) h0 (by omega))
  have H2 := Lib.hid (fun W hO => markWallS_c ls W base g2 m d (k + 7 * n) hO hm (by omega) (by omega) (by omega))
  have hg1 : g1 ≠ w.heap.size := fun he => own_ne HO0 B0 (by decide) (by rw [he]; rfl)
  have hg2 : g2 ≠ w.heap.size := fun he => own_ne HW0 B0 (by decide) (by rw [he]; rfl)
  clear hO hW
  go_enter Try.func94, Try.ntmps94
  go_wp2_with fail
  refine H1.out.mono ?_
  rintro x w1 ⟨rfl, HO1, O1⟩
  have HW1 := own_other HW0 O1 (by show some g2 ≠ some g1; intro he; injection he with he; exact hne he.symm)
  have B1 := B0.only O1 hg1.symm
  have OO := only_trans O0 O1
  clear HO0 HW0 B0 O0 O1 H1
  have C1 := B1.cell
  go_wp2_with fail
  refine (H2.out w1 HW1).mono ?_
  rintro x w2 ⟨rfl, HW2, O2⟩
  have HO2 := own_other HO1 O2 (by show some g1 ≠ some g2; intro he; injection he with he; exact hne he)
  have B2 := B1.only O2 hg2.symm
  clear HO1 HW1 B1 C1 H2
  have C2 := B2.cell
  go_wp2_with fail
  refine (markBondS_c _ _ _ _).mono ?_
  rintro x w' ⟨rfl, rfl⟩
  go_wp2_with fail
  go_ret
  exact ⟨rfl, HO2, HW2, w1, OO, O2⟩

set_option maxHeartbeats 400000 in
theorem heldDesk_c (gs : List G) (ls : List Wl) (q0 q1 q2 q3 : Nat) (w : World) (A W : Option Addr) (n m c d : Nat) (B : Option Addr) (e : Nat) (k : Int) (hg : Grs w w.heap.size A n gs) (hw : Wls w w.heap.size W m ls)
   (hgm : ∀ (j : Nat) (l : G), gs[j]? = some l → l = markG (k + 7 * j)) (hwm : ∀ (j : Nat) (l : Wl), ls[j]? = some l → l = markW (k + 7 * n + 3 * j)) (hn : n ≤ 50) (hmm : m ≤ 50) (h0 : 0 ≤ k) (h1 : k ≤ 100) :
   Calls Try.prog 95 #[.agg (deskV A n c q0 q1 q2 q3 W m d B e), .int .i64 k] w fun x w' => x = .returned (.int .i64 (k + 7 * n + 3 * m)) ∧ Below w.heap.size w w' := by
  have z26 := sz26
  have K0 := balloc (Below.refl w.heap.size w) (Nat.le_refl _) (.cells (deskV A n c q0 q1 q2 q3 W m d B e) 140)
  have B0 := Blk.new w 140 (deskV A n c q0 q1 q2 q3 W m d B e)
  have H1 := Lib.hid (heldHeap_c gs _ A n c k (hg.to K0) hgm (by omega) h0 (by omega))
  have H2 := Lib.hid (fun Wd (K : Below w.heap.size w Wd) => heldWallS_c ls Wd W m d (k + 7 * n) (hw.to K) hwm (by omega) (by omega) (by omega))
  have e1 : decide (k + 7 * (n : Int) < 0) = false := decide_eq_false (by omega)
  have e2 : decide (k + 7 * (n : Int) + 3 * (m : Int) < 0) = false := decide_eq_false (by omega)
  clear hg hw hgm hwm
  go_enter Try.func95, Try.ntmps95
  go_wp2_with fail
  refine H1.out.mono ?_
  rintro x w1 ⟨rfl, K1⟩
  have B1 := B0.below K1 (by simp)
  have KK := bthen K0 K1 K0.size
  clear K0 B0 K1 H1
  have C1 := B1.cell
  go_wp2_with fail
  refine (H2.out w1 KK).mono ?_
  rintro x w' ⟨rfl, rfl⟩
  go_wp2_with fail
  refine (heldBondS_c _ _ _ _).mono ?_
  rintro x w' ⟨rfl, rfl⟩
  go_wp2_with fail
  go_ret
  exact ⟨rfl, KK⟩

/-! ### the law's own walk -/
def sameB (x : Nat) : Bool := num64 x && (x == 0 || !(FloatKind.f64.format.order x 0 == some Ordering.eq))
theorem sameF_of {x : Nat} (h : sameB x = true) : SameF x := by
  unfold sameB at h
  simp only [Bool.and_eq_true, Bool.or_eq_true, Bool.not_eq_true', beq_iff_eq] at h
  exact ⟨h.1, h.2⟩
theorem ndG_sameB : (ndG.all fun g => sameB (wid g.ax) && sameB (wid g.ay) && sameB (wid g.sx) && sameB (wid g.sy) && sameB (wid g.rad) && sameB (wid g.mass) && sameB (wid g.turn) && sameB (wid g.spin)) = true := by kernel_rfl
theorem ndW_sameB : (ndW.all fun l => sameB (wid l.fx) && sameB (wid l.fy) && sameB (wid l.tx) && sameB (wid l.ty) && sameB (wid l.vx) && sameB (wid l.vy)) = true := by kernel_rfl
theorem ndG_same : ∀ g ∈ ndG, g.Same := by
  intro g hg
  have h := List.all_eq_true.1 ndG_sameB g hg
  simp only [Bool.and_eq_true] at h
  obtain ⟨⟨⟨⟨⟨⟨⟨a, b⟩, c⟩, d⟩, e⟩, f⟩, i⟩, j⟩ := h
  exact ⟨pileTo_ok pileHalf (by omega) (Nat.le_refl _) g hg, sameF_of a, sameF_of b, sameF_of c, sameF_of d, sameF_of e, sameF_of f, sameF_of i, sameF_of j⟩
theorem ndW_same : ∀ l ∈ ndW, l.Same := by
  intro l hl
  have h := List.all_eq_true.1 ndW_sameB l hl
  have k := ndW_ok l hl
  simp only [Bool.and_eq_true] at h
  obtain ⟨⟨⟨⟨⟨a, b⟩, c⟩, d⟩, e⟩, f⟩ := h
  exact ⟨k.fx, k.fy, k.tx, k.ty, k.vx, k.vy, sameF_of a, sameF_of b, sameF_of c, sameF_of d, sameF_of e, sameF_of f⟩
theorem ndR_ok : RulesOk r16 r1 rh r8 := ⟨by decide, by decide, by decide, by decide, sameF_of (by kernel_rfl), sameF_of (by kernel_rfl), sameF_of (by kernel_rfl), sameF_of (by kernel_rfl)⟩
theorem own_grs {w : World} {base n : Nat} {A : Option Addr} {c : Nat} {gs : List G} (h : w.ownsRow base 43 7 (.slice A n c) n (gs.flatMap G.cells)) : Grs w w.heap.size A n gs := by
  obtain ⟨A', c', e, _, h'⟩ := own_arr G.cells_len (by omega) h
  injection e with e1 _ _
  rw [e1]; exact h'
theorem own_wls {w : World} {base n : Nat} {A : Option Addr} {c : Nat} {ls : List Wl} (h : w.ownsRow base 31 3 (.slice A n c) n (ls.flatMap Wl.cells)) : Wls w w.heap.size A n ls := by
  obtain ⟨A', c', e, _, h'⟩ := own_arr Wl.cells_len (by omega) h
  injection e with e1 _ _
  rw [e1]; exact h'
theorem setFrom_only {α : Type} (f : Nat → α) (xs : List α) {n : Nat} (hn : xs.length = n) (j : Nat) (x : α) (h : (setFrom f xs n)[j]? = some x) : x = f j := by
  have hj : j < n := by
    rcases Nat.lt_or_ge j n with h1 | h1
    · exact h1
    · rw [List.getElem?_eq_none (by rw [setFrom_len]; omega)] at h; cases h
  have := setFrom_at f xs n j hj (by omega)
  rw [h] at this
  injection this
end Go.Proofs.Ytdnhdfnghkkncaa
