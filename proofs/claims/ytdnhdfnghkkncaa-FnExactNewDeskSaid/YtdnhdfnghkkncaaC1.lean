/-
  Products of complex words, roots of zero, the greater of two numbers in 64 bits; LongOf, r8Apart, r8Gap; a turn flown there and back.
-/
import Derived.Test.YtdnhdfnghkkncaaP1
import Derived.Laws.Externs
import Derived.KernelRfl
set_option linter.unusedSimpArgs false
set_option linter.unusedVariables false
set_option maxRecDepth 100000
namespace Go.Proofs.Ytdnhdfnghkkncaa
open Go.RowKit
open Fl Ieee

/-! ### complex products -/
def cre (a b c d : Nat) : Nat := nar (dsub (dmul (wid a) (wid c)) (dmul (wid b) (wid d)))
def cim (a b c d : Nat) : Nat := nar (dadd (dmul (wid a) (wid d)) (dmul (wid b) (wid c)))
structure CmulOk (a b c d : Nat) : Prop where
  ha : num32 a = true
  hb : num32 b = true
  hc : num32 c = true
  hd : num32 d = true
  h1 : num64 (dmul (wid a) (wid c)) = true
  h2 : num64 (dmul (wid b) (wid d)) = true
  h3 : num64 (dmul (wid a) (wid d)) = true
  h4 : num64 (dmul (wid b) (wid c)) = true
  n1 : narOk (dsub (dmul (wid a) (wid c)) (dmul (wid b) (wid d))) = true
  n2 : narOk (dadd (dmul (wid a) (wid d)) (dmul (wid b) (wid c))) = true
theorem run_cmul {P : Program} (w : World) (t : TypeId) {a b c d : Nat} (h : CmulOk a b c d) : (binOp .mul t (.complex .f32 a b) (.complex .f32 c d)).run P w = .ok (.complex .f32 (cre a b c d) (cim a b c d)) w := by
  have wa := wid_some h.ha
  have wb := wid_some h.hb
  have wc := wid_some h.hc
  have wd := wid_some h.hd
  have na := (wid_num h.ha).1
  have nb := (wid_num h.hb).1
  have nc := (wid_num h.hc).1
  have nd := (wid_num h.hd).1
  have p1 : floatBits .mul .f64 (wid a) (wid c) = some (dmul (wid a) (wid c)) := some_getD (mul_some na nc)
  have p2 : floatBits .mul .f64 (wid b) (wid d) = some (dmul (wid b) (wid d)) := some_getD (mul_some nb nd)
  have p3 : floatBits .mul .f64 (wid a) (wid d) = some (dmul (wid a) (wid d)) := some_getD (mul_some na nd)
  have p4 : floatBits .mul .f64 (wid b) (wid c) = some (dmul (wid b) (wid c)) := some_getD (mul_some nb nc)
  have s1 : floatBits .sub .f64 (dmul (wid a) (wid c)) (dmul (wid b) (wid d)) = some (dsub (dmul (wid a) (wid c)) (dmul (wid b) (wid d))) := some_getD (sub_some h.h1 h.h2)
  have s2 : floatBits .add .f64 (dmul (wid a) (wid d)) (dmul (wid b) (wid c)) = some (dadd (dmul (wid a) (wid d)) (dmul (wid b) (wid c))) := some_getD (add_some h.h3 h.h4)
  have m1 : floatToFloatBits .f64 (dsub (dmul (wid a) (wid c)) (dmul (wid b) (wid d))) .f32 = some (cre a b c d) := some_getD (Option.isSome_iff_exists.1 h.n1)
  have m2 : floatToFloatBits .f64 (dadd (dmul (wid a) (wid d)) (dmul (wid b) (wid c))) .f32 = some (cim a b c d) := some_getD (Option.isSome_iff_exists.1 h.n2)
  simp [binOp, Op.complexOp, Op.Complex.conv, Op.Complex.product, Op.Complex.mul, Op.Complex.sub, Op.Complex.add, run_floatToFloat w wa, run_floatToFloat w wb, run_floatToFloat w wc, run_floatToFloat w wd, run_carith w p1, run_carith w p2, run_carith w p3, run_carith w p4,
    run_carith w s1, run_carith w s2, run_floatToFloat w m1, run_floatToFloat w m2]
theorem IsG.cmul {g k : Nat} {n m p q : Int} {a b c d : Nat} (ha : IsG g n a) (hb : IsG g m b) (hc : IsG k p c) (hd : IsG k q d) (hg : g + k ≤ 149) (h1 : (n * p).natAbs ≤ 4194304) (h2 : (m * q).natAbs ≤ 4194304) (h3 : (n * q).natAbs ≤ 4194304) (h4 : (m * p).natAbs ≤ 4194304) :
   CmulOk a b c d ∧ IsG (g + k) (n * p - m * q) (cre a b c d) ∧ IsG (g + k) (n * q + m * p) (cim a b c d) := by
  have e : h53 = 9007199254740992 := rfl
  have p1 := IsD.mul (ha.wid (by omega)) (hc.wid (by omega)) (by rw [dK_eq]; omega) (by omega)
  have p2 := IsD.mul (hb.wid (by omega)) (hd.wid (by omega)) (by rw [dK_eq]; omega) (by omega)
  have p3 := IsD.mul (ha.wid (by omega)) (hd.wid (by omega)) (by rw [dK_eq]; omega) (by omega)
  have p4 := IsD.mul (hb.wid (by omega)) (hc.wid (by omega)) (by rw [dK_eq]; omega) (by omega)
  have s1 := IsD.sub p1 p2 (by omega)
  have s2 := IsD.add p3 p4 (by omega)
  obtain ⟨n1, g1⟩ := s1.nar (by omega) (by omega)
  obtain ⟨n2, g2⟩ := s2.nar (by omega) (by omega)
  exact ⟨⟨ha.num, hb.num, hc.num, hd.num, p1.1, p2.1, p3.1, p4.1, n1, n2⟩, g1, g2⟩

/-! ### the greater of two numbers -/
def dmax (x y : Nat) : Nat := match double.order x y with | some .lt => y | some .gt => x | _ => if (FloatKind.f64.decode x).neg then y else x
@[go_sem] theorem run_dmax {P : Program} (w : World) (ts : Array TypeId) (t : TypeId) {x y : Nat} (hx : num64 x = true) (hy : num64 y = true) : (Builtin.max_ ts t #[.float .f64 x, .float .f64 y]).run P w = .ok (.float .f64 (dmax x y)) w := by
  have h := order_num double hx hy
  unfold dmax
  have h' : FloatKind.f64.format.order x y = some (compare (sc double x) (sc double y)) := h
  rw [h]
  cases hc : compare (sc double x) (sc double y) <;> rw [hc] at h' <;> simp [Builtin.max_, Builtin.max2, h']

/-! ### the root of zero -/
theorem sqrt_zero {x : Nat} (hx : num64 x = true) (h0 : sc double x = 0) : ∃ r, double.sqrt x = some r ∧ num64 r = true ∧ sc double r = 0 := by
  obtain ⟨s, m, p, h1, h2, h3, h4⟩ := (isNum_iff double x).1 hx
  have hm : m = 0 := by
    rw [h4] at h0
    have : (sg s (m * 2 ^ (p - double.leastPlace).toNat)).natAbs = 0 := by rw [h0]; rfl
    rw [sg_natAbs'] at this
    rcases Nat.eq_zero_or_pos m with h | h
    · exact h
    · have := Nat.mul_pos h (Nat.two_pow_pos (p - double.leastPlace).toNat); omega
  subst hm
  refine ⟨double.nearest s 0 p, ?_, ?_⟩
  · unfold Format.sqrt
    rw [h1]
    simp [Datum.root, Format.write]
  · have e : double.nearest s 0 p = double.nearest s 0 (double.leastPlace - (0 : Nat)) := by
      have := nearest_shift double s 0 (p - double.leastPlace).toNat double.leastPlace
      rw [Nat.zero_mul] at this
      rw [show double.leastPlace - (0 : Nat) = double.leastPlace by simp, this]
      congr 1; omega
    rw [e]
    obtain ⟨i1, i2⟩ := sc_nearestD double (by decide) s 0 0 (Nat.two_pow_pos _)
    exact ⟨i1, by rw [i2, rndD_z, sg_zero]⟩

theorem run_sqrt {P : Program} (w : World) {x r : Nat} (h : double.sqrt x = some r) : (Extern.MathSqrt.sqrt #[.float .f64 x]).run P w = .ok (.float .f64 r) w := by
  have h' : FloatKind.f64.format.sqrt x = some r := h
  change Sem.run P (match FloatKind.f64.format.sqrt x with
    | some r => pure (Value.float .f64 r)
    | none => do pure (Value.float .f64 (← choose (.nanBits .f64 x x)))) w = _
  rw [h']
  rfl
theorem call_sqrt (w : World) {x r : Nat} (h : double.sqrt x = some r) : (callFunc 247 #[.float .f64 x]).run Try.prog w = .ok (.value (.float .f64 r)) w := by
  rw [run_callFunc_extern (fn := Try.f247) (e := Extern.MathSqrt.sqrt) Try.func247 (by kernel_rfl) (by kernel_rfl) (by kernel_rfl) (by kernel_rfl)]
  rw [run_sqrt w h]; rfl
theorem sqrt_c (w : World) {x r : Nat} (h : double.sqrt x = some r) : Calls Try.prog 156 #[.float .f64 x] w fun e w' => e = .returned (.float .f64 r) ∧ w = w' := by
  have hq := fun (W : World) => call_sqrt W h
  clear h
  go_enter Try.func156, Try.ntmps156
  go_wp2
  go_ret
  exact ⟨rfl, rfl⟩
/-- LongOf, where the root is known -/
theorem long_c (w : World) {a b r : Nat} (h : PowOk a b) (hr : double.sqrt (wpow a b) = some r) (hn : narOk r = true) : Calls Try.prog 49 #[.complex .f32 a b] w fun e w' => e = .returned (.float .f32 (nar r)) ∧ w = w' := by
  have u1 : (Try.prog.underlying 63).isSome = true := by rw [Try.underlying63]; rfl
  have u2 := Try.underlying37
  have H := Lib.hid h
  have HR := Lib.hid hr
  clear h hr
  go_enter Try.func49, Try.ntmps49
  go_wp2_with (first | (go_at_call 157; refine (widePower_c _ _ _ H.out).mono ?_; rintro e w' ⟨rfl, rfl⟩) | (go_at_call 156; refine (sqrt_c _ HR.out).mono ?_; rintro e w' ⟨rfl, rfl⟩))
  go_ret
  exact ⟨rfl, rfl⟩

/-- where two points are the same numbers, they are nothing apart -/
theorem apart_zero {g k : Nat} {n m : Int} {a b c d : Nat} (ha : IsG g n a) (hc : IsG g n c) (hb : IsG g m b) (hd : IsG g m d) (hg : g ≤ 70) :
    ∃ r z, PowOk (fsub a c) (fsub b d) ∧ double.sqrt (wpow (fsub a c) (fsub b d)) = some r ∧ narOk r = true ∧ num32 (nar r) = true ∧ z = wid (nar r) ∧ num64 z = true ∧ (FloatKind.f64.format.order z 4562254508917369340 == some Ordering.gt) = false := by
  have p := (IsG.sub ha hc (by omega)).eq_ (m := 0) (by omega)
  have q := (IsG.sub hb hd (by omega)).eq_ (m := 0) (by omega)
  obtain ⟨h1, _⟩ := IsG.pow p q hg (by omega)
  have h2 := IsG.wpow p q hg (by simp)
  have h3 : sc double (wpow (fsub a c) (fsub b d)) = 0 := by rw [h2.2]; simp
  obtain ⟨r, hr, hr1, hr2⟩ := sqrt_zero h2.1 h3
  have hD : IsD 0 0 r := ⟨hr1, by rw [hr2]; simp⟩
  obtain ⟨n1, n2⟩ := hD.nar (by omega) (by omega)
  have w1 := n2.wid (by omega)
  refine ⟨r, _, h1, hr, n1, n2.num, rfl, w1.1, ?_⟩
  have hc : num64 4562254508917369340 = true := by decide
  have h5 := order_num double w1.1 hc
  have h6 : FloatKind.f64.format.order (wid (nar r)) 4562254508917369340 = some (compare (sc double (wid (nar r))) (sc double 4562254508917369340)) := h5
  have h7 : sc double (wid (nar r)) = 0 := by rw [w1.2]; simp
  rw [h6, h7]
  have h8 : compare (0 : Int) (sc double 4562254508917369340) = .lt := by kernel_rfl
  rw [h8]; rfl
theorem apart_c (w : World) {a b c d r : Nat} (ha : num32 a = true) (hb : num32 b = true) (hc : num32 c = true) (hd : num32 d = true) (h : PowOk (fsub a c) (fsub b d)) (hr : double.sqrt (wpow (fsub a c) (fsub b d)) = some r) (hn : narOk r = true) (hm : num32 (nar r) = true) :
   Calls Try.prog 32 #[.complex .f32 a b, .complex .f32 c d] w fun e w' => e = .returned (.float .f64 (wid (nar r))) ∧ w = w' := by
  have u1 : (Try.prog.underlying 37).isSome = true := by rw [Try.underlying37]; rfl
  have u2 := Try.underlying63
  have H := Lib.hid h
  have HR := Lib.hid hr
  clear h hr
  go_enter Try.func32, Try.ntmps32
  go_wp2_with (go_at_call 49; refine (long_c _ H.out HR.out hn).mono ?_; rintro e w' ⟨rfl, rfl⟩)
  go_ret
  exact ⟨rfl, rfl⟩
theorem gap_c (w : World) {x y : Nat} (hx : num64 x = true) (hy : num64 y = true) (h1 : num64 (dsub x y) = true) (h2 : num64 (dsub y x) = true) :
   Calls Try.prog 33 #[.float .f64 x, .float .f64 y] w fun e w' => e = .returned (.float .f64 (dmax (dsub x y) (dsub y x))) ∧ w = w' := by
  go_enter Try.func33, Try.ntmps33
  go_wp2
  go_ret
  exact ⟨rfl, rfl⟩

/-! ### a turn flown there and back -/
def turnFly (T S h : Nat) : Nat := fadd T (fdiv (fmul S h) 1086918619)
def turnOk (T S : Nat) : Bool :=
  let F := turnFly T S 1056964608
  let B := turnFly F S 3204448256
  num32 (fmul S 1056964608) && num32 (fdiv (fmul S 1056964608) 1086918619) && num32 F && num32 (fmul S 3204448256) && num32 (fdiv (fmul S 3204448256) 1086918619) && num32 B &&
  num64 (dsub (wid B) (wid T)) && num64 (dsub (wid T) (wid B)) && !(FloatKind.f64.format.order (dmax (dsub (wid B) (wid T)) (dsub (wid T) (wid B))) 4562254508917369340 == some .gt)
def tos (n : Nat) : List Int := (List.range (2 * n + 1)).map (fun i : Nat => (Int.ofNat i) - (n : Int))
theorem mem_tos {n : Nat} {x : Int} (h1 : -(n : Int) ≤ x) (h2 : x ≤ n) : x ∈ tos n := by
  unfold tos
  rw [List.mem_map]
  exact ⟨(x + n).toNat, List.mem_range.2 (by omega), by simp only [Int.ofNat_eq_natCast]; omega⟩
theorem turn_all : ((tos 8).all fun dt => (tos 4).all fun ds => turnOk (fdiv (fint dt) 1098907648) (fdiv (fint ds) 1073741824)) = true := by kernel_rfl
theorem GIs.turnOk {g : G} {v : V} (h : GIs g v) (hv : v.Good) : turnOk g.turn g.spin = true := by
  rw [h.turnw, h.spinw]
  have a := hv.turn
  have b := hv.spin
  exact List.all_eq_true.1 (List.all_eq_true.1 turn_all v.turn (mem_tos (by simp; omega) (by simp; omega))) v.spin (mem_tos (by simp; omega) (by simp; omega))
end Go.Proofs.Ytdnhdfnghkkncaa
