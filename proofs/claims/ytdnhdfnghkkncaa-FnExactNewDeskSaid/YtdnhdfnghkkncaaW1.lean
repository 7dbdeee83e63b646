/-
  Contracts of the small functions on numbers, complex numbers and grains: on words that are numbers.
-/
import Derived.Test.YtdnhdfnghkkncaaBase
set_option linter.unusedSimpArgs false
set_option maxRecDepth 100000
namespace Go.Proofs.Ytdnhdfnghkkncaa
open Go.RowKit

abbrev flt (x y : Nat) : Bool := FloatKind.f32.format.order x y == some .lt
abbrev fgt (x y : Nat) : Bool := FloatKind.f32.format.order x y == some .gt
abbrev feq (x y : Nat) : Bool := FloatKind.f32.format.order x y == some .eq

theorem self_sub {x : Nat} (hx : num32 x = true) : num32 (fsub x x) = true ∧ feq (fsub x x) 0 = true := by
  have h0 : Fl.sc Ieee.single x - Fl.sc Ieee.single x = 0 := by omega
  obtain ⟨r, h1, h2, h3⟩ := Fl.sub_num Ieee.single (by decide) hx hx (by rw [h0]; exact Nat.two_pow_pos _)
  have e : fsub x x = r := by unfold fsub; rw [h1]; rfl
  rw [e]
  refine ⟨h2, ?_⟩
  have : Ieee.single.order r 0 = some .eq := by
    rw [Fl.order_num Ieee.single h2 (by decide), h3, h0]
    decide
  show (Ieee.single.order r 0 == some .eq) = true
  rw [this]; rfl

theorem finite_c (x : Nat) (w : World) (hx : num32 x = true) : Calls Try.prog 109 #[.float .f32 x] w fun e w' => e = .returned (.bool true) ∧ w = w' := by
  obtain ⟨h1, h2⟩ := self_sub hx
  go_enter Try.func109, Try.ntmps109
  go_wp2
  go_ret
  exact ⟨rfl, rfl⟩

theorem finite1_c (x : Nat) (w : World) (hx : num32 x = true) : Calls Try.prog 241 #[.float .f32 x] w fun e w' => e = .returned (.bool false) ∧ w = w' := by
  go_enter Try.func241, Try.ntmps241
  go_wp2_with (go_at_call 109; refine (finite_c _ _ hx).mono ?_; rintro e w' ⟨rfl, rfl⟩)
  go_ret
  exact ⟨rfl, rfl⟩

abbrev F32s (w : World) (B : Nat) (A : Option Addr) (n : Nat) (xs : List Nat) : Prop := Arr (fun x => [Value.float .f32 x]) 1 w B A n xs

theorem indexF32_no (F : Nat) (xs : List Nat) (w : World) (B : Nat) (A : Option Addr) (n c : Nat) (hr : F32s w B A n xs) (hn : n ≤ 4096)
   (hin : ∀ args w, (callFunc F args).run Try.prog w = .ok (.enter F args) w)
   (hf : ∀ x ∈ xs, Calls Try.prog F #[.float .f32 x] w fun e w' => e = .returned (.bool false) ∧ w = w') :
   Calls Try.prog 277 #[.slice A n c, .func (.func F) #[] #[]] w fun e w' => e = .returned (.int .i64 (-1)) ∧ w = w' := by
  have HF := Lib.hid hf
  clear hf
  go_enter Try.func277, Try.ntmps277
  go_wp2
  go_loop [8, 4, 5] (fun i r k => ∃ j : Nat, j ≤ n ∧ i = .int .i64 j ∧ r = .int .i64 0) (fun i _ _ => n - (intOf i).toNat)
  case atStart => exact ⟨0, by omega, rfl, rfl⟩
  case round =>
    obtain ⟨j, hj, rfl, rfl⟩ := hrel
    by_cases hlt : j < n
    · obtain ⟨b, off, x, rfl, hb, hxx, hcell⟩ := hr.one hlt
      have HX := Lib.hid (HF.out x (List.mem_of_getElem? hxx))
      clear hxx
      go_wp2_with (refine (HX.out).mono ?_; rintro e w' ⟨rfl, rfl⟩)
      go_round
      case rel => exact ⟨j + 1, by omega, by go_num, rfl⟩
      case measure => simp [intOf]; omega
    · go_wp2
      go_ret
      exact ⟨rfl, rfl⟩

theorem in241 : ∀ args w, (callFunc 241 args).run Try.prog w = .ok (.enter 241 args) w := fun _ _ => by kernel_rfl

theorem containsF32_no (F : Nat) (xs : List Nat) (w : World) (B : Nat) (A : Option Addr) (n c : Nat) (hr : F32s w B A n xs) (hn : n ≤ 4096)
   (hin : ∀ args w, (callFunc F args).run Try.prog w = .ok (.enter F args) w)
   (hf : ∀ x ∈ xs, Calls Try.prog F #[.float .f32 x] w fun e w' => e = .returned (.bool false) ∧ w = w') :
   Calls Try.prog 240 #[.slice A n c, .func (.func F) #[] #[]] w fun e w' => e = .returned (.bool false) ∧ w = w' := by
  have HC := Lib.hid (indexF32_no F xs w B A n c hr hn hin hf)
  clear hf hin
  go_enter Try.func240, Try.ntmps240
  go_wp2_with (go_at_call 277; refine HC.out.mono ?_; rintro e w' ⟨rfl, rfl⟩)
  go_ret
  exact ⟨rfl, rfl⟩

/-- areFinite -/
theorem areFinite_c (xs : List Nat) (w : World) (B : Nat) (A : Option Addr) (n c : Nat) (hr : F32s w B A n xs) (hn : n ≤ 4096) (hx : ∀ x ∈ xs, num32 x = true) :
   Calls Try.prog 141 #[.slice A n c] w fun e w' => e = .returned (.bool true) ∧ w = w' := by
  have HC := Lib.hid (containsF32_no 241 xs w B A n c hr hn in241 (fun x h => finite1_c x w (hx x h)))
  clear hx
  go_enter Try.func141, Try.ntmps141
  go_wp2_with (go_at_call 240; refine HC.out.mono ?_; rintro e w' ⟨rfl, rfl⟩)
  go_ret
  exact ⟨rfl, rfl⟩

/-- a new block of floats reads as their list -/
theorem f32_lit (w : World) (xs : List Nat) : F32s (w.alloc (.cells (xs.map (Value.float .f32)).toArray 37)) (w.alloc (.cells (xs.map (Value.float .f32)).toArray 37)).heap.size (some ⟨w.heap.size, 0, none⟩) xs.length xs := by
  refine ⟨rfl, fun _ => ⟨w.heap.size, 0, rfl, by simp, fun i x hx k u hu => ?_⟩⟩
  rw [(Blk.new w 37 _).cell]
  match k, hu with
  | 0, hu =>
    simp at hu
    subst hu
    simp [hx]
  | k + 1, hu => simp at hu

theorem finite4_c (a b c d : Nat) (w : World) (ha : num32 a = true) (hb : num32 b = true) (hc : num32 c = true) (hd : num32 d = true) :
    Calls Try.prog 141 #[.slice (some ⟨w.heap.size, 0, none⟩) 4 4] (w.alloc (.cells #[.float .f32 a, .float .f32 b, .float .f32 c, .float .f32 d] 37)) fun e w' => e = .returned (.bool true) ∧ (w.alloc (.cells #[.float .f32 a, .float .f32 b, .float .f32 c, .float .f32 d] 37)) = w' :=
  areFinite_c [a, b, c, d] _ _ _ _ _ (f32_lit w [a, b, c, d]) (by decide) (by simp [ha, hb, hc, hd])
theorem finite2_c (a b : Nat) (w : World) (ha : num32 a = true) (hb : num32 b = true) :
    Calls Try.prog 141 #[.slice (some ⟨w.heap.size, 0, none⟩) 2 2] (w.alloc (.cells #[.float .f32 a, .float .f32 b] 37)) fun e w' => e = .returned (.bool true) ∧ (w.alloc (.cells #[.float .f32 a, .float .f32 b] 37)) = w' :=
  areFinite_c [a, b] _ _ _ _ _ (f32_lit w [a, b]) (by decide) (by simp [ha, hb])
theorem finite3_c (a b c : Nat) (w : World) (ha : num32 a = true) (hb : num32 b = true) (hc : num32 c = true) :
    Calls Try.prog 141 #[.slice (some ⟨w.heap.size, 0, none⟩) 3 3] (w.alloc (.cells #[.float .f32 a, .float .f32 b, .float .f32 c] 37)) fun e w' => e = .returned (.bool true) ∧ (w.alloc (.cells #[.float .f32 a, .float .f32 b, .float .f32 c] 37)) = w' :=
  areFinite_c [a, b, c] _ _ _ _ _ (f32_lit w [a, b, c]) (by decide) (by simp [ha, hb, hc])

theorem finiteC_c (a b : Nat) (w : World) (ha : num32 a = true) (hb : num32 b = true) : Calls Try.prog 110 #[.complex .f32 a b] w fun e w' => e = .returned (.bool true) ∧ Below w.heap.size w w' := by
  go_enter Try.func110, Try.ntmps110
  go_wp2_with (go_at_call 141; refine (finite2_c a b _ ha hb).mono ?_; rintro e w' ⟨rfl, rfl⟩)
  go_ret
  exact ⟨rfl, (Below.refl _ _).alloc (Nat.le_refl _) _⟩

/-- a valid grain -/
structure G.Ok (g : G) : Prop where
  ax : num32 g.ax = true
  ay : num32 g.ay = true
  sx : num32 g.sx = true
  sy : num32 g.sy = true
  rad : num32 g.rad = true
  mass : num32 g.mass = true
  turn : num32 g.turn = true
  spin : num32 g.spin = true
  radp : fgt g.rad 0 = true
  massp : fgt g.mass 0 = true

theorem validGrain_c (g : G) (w : World) (h : g.Ok) : Calls Try.prog 234 #[.agg #[.complex .f32 g.ax g.ay, .complex .f32 g.sx g.sy, .float .f32 g.rad, .float .f32 g.mass, .float .f32 g.turn, .float .f32 g.spin, .bool g.held]] w
    fun e w' => e = .returned (.bool true) ∧ Below w.heap.size w w' := by
  obtain ⟨h1, h2, h3, h4, h5, h6, h7, h8, h9, h10⟩ := h
  go_enter Try.func234, Try.ntmps234
  go_wp2_with fail
  refine (finiteC_c _ _ _ h1 h2).mono ?_
  rintro e w1 ⟨rfl, hb1⟩
  obtain ⟨B1, L1, K1⟩ := boxed hb1
  clear hb1
  have C1 := B1.cell
  go_wp2_with fail
  refine (finiteC_c _ _ _ h3 h4).mono ?_
  rintro e w2 ⟨rfl, hb2⟩
  have C2 := (B1.below hb2 L1).cell
  have K2 := bthen K1 hb2 (by omega)
  have L2 : w.heap.size < w2.heap.size := Nat.lt_of_lt_of_le L1 hb2.size
  clear C1 B1 K1 hb2
  go_wp2_with fail
  refine (finite4_c _ _ _ _ _ h5 h6 h7 h8).mono ?_
  rintro e w3 ⟨rfl, rfl⟩
  go_wp2
  go_ret
  exact ⟨rfl, K2.alloc (Nat.le_of_lt L2) _⟩
end Go.Proofs.Ytdnhdfnghkkncaa
namespace Go.Proofs.Ytdnhdfnghkkncaa
open Go.RowKit

abbrev G.val (g : G) : Value := .agg #[.complex .f32 g.ax g.ay, .complex .f32 g.sx g.sy, .float .f32 g.rad, .float .f32 g.mass, .float .f32 g.turn, .float .f32 g.spin, .bool g.held]

theorem validGrain1_c (g : G) (w : World) (h : g.Ok) : Calls Try.prog 233 #[g.val] w fun e w' => e = .returned (.bool false) ∧ Below w.heap.size w w' := by
  have H := Lib.hid h
  clear h
  go_enter Try.func233, Try.ntmps233
  go_wp2_with fail
  refine (validGrain_c g _ H.out).mono ?_
  rintro e w1 ⟨rfl, hb1⟩
  obtain ⟨B1, L1, K1⟩ := boxed hb1
  clear hb1
  go_wp2
  go_ret
  exact ⟨rfl, K1⟩

/-- slices.IndexFunc over grains, where the function says no of each (it may lay memory). -/
theorem indexG_no (F : Nat) (cap : Array Value) (gs : List G) (w : World) (B : Nat) (A : Option Addr) (n c : Nat) (hr : Grs w B A n gs) (hn : n ≤ 4096) (hB : B ≤ w.heap.size)
   (hin : ∀ args w, (callFunc F args).run Try.prog w = .ok (.enter F args) w)
   (hf : ∀ g ∈ gs, ∀ w1, Below w.heap.size w w1 → Calls Try.prog F (#[g.val] ++ cap) w1 fun e w' => e = .returned (.bool false) ∧ Below w1.heap.size w1 w') :
   Calls Try.prog 255 #[.slice A n c, .func (.func F) #[] cap] w fun e w' => e = .returned (.int .i64 (-1)) ∧ Below w.heap.size w w' := by
  have HF := Lib.hid hf
  have HR := Lib.hid hr
  clear hf hr
  go_enter Try.func255, Try.ntmps255
  go_wp2
  go_loopw [8, 4, 5] (fun i r k wr => ∃ j : Nat, j ≤ n ∧ i = .int .i64 j ∧ r = .int .i64 0 ∧ Below w.heap.size w wr) (fun i _ _ _ => n - (intOf i).toNat)
  case atStart => exact ⟨0, by omega, rfl, rfl, Below.refl _ _⟩
  case round =>
    obtain ⟨j, hj, rfl, rfl, hbw⟩ := hrel
    by_cases hlt : j < n
    · obtain ⟨b, off, g, rfl, hb, hg, c0, c1, c2, c3, c4, c5, c6⟩ := (HR.out.below (hbw.mono hB)).grain hlt
      have HX := Lib.hid (HF.out g (List.mem_of_getElem? hg) _ hbw)
      have HW := Lib.hid hbw
      clear hg hbw
      go_wp2_with (refine (HX.out).mono ?_; rintro e w' ⟨rfl, hb2⟩)
      go_roundw
      case rel => exact ⟨j + 1, by omega, by go_num, rfl, bthen HW.out hb2 HW.out.size⟩
      case measure => simp [intOf]; omega
    · go_wp2
      go_ret
      exact ⟨rfl, hbw⟩

theorem containsG_no (F : Nat) (cap : Array Value) (gs : List G) (w : World) (B : Nat) (A : Option Addr) (n c : Nat) (hr : Grs w B A n gs) (hn : n ≤ 4096) (hB : B ≤ w.heap.size)
   (hin : ∀ args w, (callFunc F args).run Try.prog w = .ok (.enter F args) w)
   (hf : ∀ g ∈ gs, ∀ w1, Below w.heap.size w w1 → Calls Try.prog F (#[g.val] ++ cap) w1 fun e w' => e = .returned (.bool false) ∧ Below w1.heap.size w1 w') :
   Calls Try.prog 197 #[.slice A n c, .func (.func F) #[] cap] w fun e w' => e = .returned (.bool false) ∧ Below w.heap.size w w' := by
  have HC := Lib.hid (indexG_no F cap gs w B A n c hr hn hB hin hf)
  clear hf hin
  go_enter Try.func197, Try.ntmps197
  go_wp2_with (go_at_call 255; refine HC.out.mono ?_; rintro e w' ⟨rfl, hb⟩)
  go_ret
  exact ⟨rfl, hb⟩
theorem in233 : ∀ args w, (callFunc 233 args).run Try.prog w = .ok (.enter 233 args) w := fun _ _ => by kernel_rfl

theorem validHeap_c (gs : List G) (w : World) (A : Option Addr) (n c : Nat) (hr : Grs w w.heap.size A n gs) (hn : n ≤ 24) (hok : ∀ g ∈ gs, g.Ok) :
   Calls Try.prog 105 #[.agg #[.slice A n c]] w fun e w' => e = .returned (.bool true) ∧ Below w.heap.size w w' := by
  have HC := Lib.hid (containsG_no 233 #[] gs (w.alloc (.cells #[.slice A n c] 26)) w.heap.size A n c (hr.alloc (Nat.le_refl _) _) (by omega) (by simp) in233 (fun g h w1 _ => validGrain1_c g w1 (hok g h)))
  clear hr hok
  go_enter Try.func105, Try.ntmps105
  go_wp2_with (go_at_call 197; refine HC.out.mono ?_; rintro e w1 ⟨rfl, hb1⟩)
  obtain ⟨B1, L1, K1⟩ := boxed hb1
  go_ret
  exact ⟨rfl, K1⟩
end Go.Proofs.Ytdnhdfnghkkncaa
