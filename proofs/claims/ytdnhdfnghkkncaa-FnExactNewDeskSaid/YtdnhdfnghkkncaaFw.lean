/-
  The operations on float words that the program uses, as plain functions of the words; on which words they are defined; exact results on small multiples of a power of two. No program in sight.
-/
import Derived.Test.YtdnhdfnghkkncaaFl
import Derived.WalkLawsBesides
set_option linter.unusedSimpArgs false
namespace Go.Proofs.Ytdnhdfnghkkncaa
open Fl Ieee

def num32 (x : Nat) : Bool := isNum single x
def num64 (x : Nat) : Bool := isNum double x
def fadd (x y : Nat) : Nat := (single.add x y).getD 0
def fsub (x y : Nat) : Nat := (single.sub x y).getD 0
def fmul (x y : Nat) : Nat := (single.mul x y).getD 0
def fdiv (x y : Nat) : Nat := (single.div x y).getD 0
def dadd (x y : Nat) : Nat := (double.add x y).getD 0
def dsub (x y : Nat) : Nat := (double.sub x y).getD 0
def dmul (x y : Nat) : Nat := (double.mul x y).getD 0
def ddiv (x y : Nat) : Nat := (double.div x y).getD 0
def dsqrt (x : Nat) : Nat := (double.sqrt x).getD 0
def wid (x : Nat) : Nat := (floatToFloatBits .f32 x .f64).getD 0
def nar (x : Nat) : Nat := (floatToFloatBits .f64 x .f32).getD 0
def narOk (x : Nat) : Bool := (floatToFloatBits .f64 x .f32).isSome
abbrev fint (n : Int) : Nat := floatOfInt .f32 n
abbrev dint (n : Int) : Nat := floatOfInt .f64 n
/-- not a zero -/
def nz32 (x : Nat) : Bool := !(single.read x).isZero
def nz64 (x : Nat) : Bool := !(double.read x).isZero

theorem some_getD {o : Option Nat} (h : ∃ r, o = some r) : o = some (o.getD 0) := by
  obtain ⟨r, rfl⟩ := h; rfl

theorem num_read {f : Format} {x : Nat} (h : isNum f x = true) : ∃ s m p, f.read x = .number s m p := by
  obtain ⟨s, m, p, h1, _⟩ := (isNum_iff f x).1 h
  exact ⟨s, m, p, h1⟩

theorem add_some {f : Format} {x y : Nat} (hx : isNum f x = true) (hy : isNum f y = true) : ∃ r, f.add x y = some r := by
  obtain ⟨s, m, p, h⟩ := num_read hx
  obtain ⟨t, n, q, g⟩ := num_read hy
  unfold Format.add
  rw [h, g]; exact ⟨_, rfl⟩
theorem sub_some {f : Format} {x y : Nat} (hx : isNum f x = true) (hy : isNum f y = true) : ∃ r, f.sub x y = some r := by
  obtain ⟨s, m, p, h⟩ := num_read hx
  obtain ⟨t, n, q, g⟩ := num_read hy
  unfold Format.sub
  rw [h, g]; exact ⟨_, rfl⟩
theorem mul_some {f : Format} {x y : Nat} (hx : isNum f x = true) (hy : isNum f y = true) : ∃ r, f.mul x y = some r := by
  obtain ⟨s, m, p, h⟩ := num_read hx
  obtain ⟨t, n, q, g⟩ := num_read hy
  unfold Format.mul
  rw [h, g]; exact ⟨_, rfl⟩
theorem div_some {f : Format} {x y : Nat} (hx : isNum f x = true) (hy : isNum f y = true) (hz : (!(f.read y).isZero) = true) : ∃ r, f.div x y = some r := by
  obtain ⟨s, m, p, h⟩ := num_read hx
  obtain ⟨t, n, q, g⟩ := num_read hy
  unfold Format.div
  rw [h, g]
  rw [g] at hz
  have hn : n ≠ 0 := by rintro rfl; simp [Datum.isZero] at hz
  simp [Datum.quotient, hn]

section
variable {P : Program} (w : World) (t : TypeId) {x y : Nat}
@[go_sem] theorem run_fadd (hx : num32 x = true) (hy : num32 y = true) : (binOp .add t (.float .f32 x) (.float .f32 y)).run P w = .ok (.float .f32 (fadd x y)) w :=
  run_float_arith w .add t .f32 x y _ (some_getD (add_some hx hy))
@[go_sem] theorem run_fsub (hx : num32 x = true) (hy : num32 y = true) : (binOp .sub t (.float .f32 x) (.float .f32 y)).run P w = .ok (.float .f32 (fsub x y)) w :=
  run_float_arith w .sub t .f32 x y _ (some_getD (sub_some hx hy))
@[go_sem] theorem run_fmul (hx : num32 x = true) (hy : num32 y = true) : (binOp .mul t (.float .f32 x) (.float .f32 y)).run P w = .ok (.float .f32 (fmul x y)) w :=
  run_float_arith w .mul t .f32 x y _ (some_getD (mul_some hx hy))
@[go_sem] theorem run_fdiv (hx : num32 x = true) (hy : num32 y = true) (hz : nz32 y = true) : (binOp .quo t (.float .f32 x) (.float .f32 y)).run P w = .ok (.float .f32 (fdiv x y)) w :=
  run_float_arith w .quo t .f32 x y _ (some_getD (div_some hx hy hz))
@[go_sem] theorem run_dadd (hx : num64 x = true) (hy : num64 y = true) : (binOp .add t (.float .f64 x) (.float .f64 y)).run P w = .ok (.float .f64 (dadd x y)) w :=
  run_float_arith w .add t .f64 x y _ (some_getD (add_some hx hy))
@[go_sem] theorem run_dsub (hx : num64 x = true) (hy : num64 y = true) : (binOp .sub t (.float .f64 x) (.float .f64 y)).run P w = .ok (.float .f64 (dsub x y)) w :=
  run_float_arith w .sub t .f64 x y _ (some_getD (sub_some hx hy))
@[go_sem] theorem run_dmul (hx : num64 x = true) (hy : num64 y = true) : (binOp .mul t (.float .f64 x) (.float .f64 y)).run P w = .ok (.float .f64 (dmul x y)) w :=
  run_float_arith w .mul t .f64 x y _ (some_getD (mul_some hx hy))
@[go_sem] theorem run_ddiv (hx : num64 x = true) (hy : num64 y = true) (hz : nz64 y = true) : (binOp .quo t (.float .f64 x) (.float .f64 y)).run P w = .ok (.float .f64 (ddiv x y)) w :=
  run_float_arith w .quo t .f64 x y _ (some_getD (div_some hx hy hz))

theorem wid_some (hx : num32 x = true) : floatToFloatBits .f32 x .f64 = some (wid x) := by
  obtain ⟨s, m, p, h, h2, _⟩ := wide_num hx
  refine some_getD ⟨double.write (.number s m p), ?_⟩
  unfold floatToFloatBits
  rw [if_neg (by decide)]
  show (match single.read x with | .nan _ _ => none | .infinity s => some (double.write (.infinity s)) | .number s m e => if (double.read (double.write (.number s m e))).isInfinity then none else some (double.write (.number s m e))) = _
  rw [h]
  simp only [not_inf_of_isNum h2]
  rfl
@[go_sem] theorem run_wid (src dst : TypeId) (hs : (P.underlying src).isSome = true) (hd : P.underlying dst = some (.float .f64)) (hx : num32 x = true) : (convert src dst (.float .f32 x)).run P w = .ok (.float .f64 (wid x)) w :=
  run_convert_float_float w src dst .f32 .f64 x _ hs hd (wid_some hx)
@[go_sem] theorem run_nar (src dst : TypeId) (hs : (P.underlying src).isSome = true) (hd : P.underlying dst = some (.float .f32)) (hx : narOk x = true) : (convert src dst (.float .f64 x)).run P w = .ok (.float .f32 (nar x)) w :=
  run_convert_float_float w src dst .f64 .f32 x _ hs hd (some_getD (Option.isSome_iff_exists.1 hx))
end

/-! ### exact results -/
/-- the word x is the number 'n / 2 ^ g' -/
def IsG (g : Nat) (n : Int) (x : Nat) : Prop := num32 x = true ∧ sc single x = n * ((2 ^ (149 - g) : Nat) : Int)

theorem IsG.num {g : Nat} {n : Int} {x : Nat} (h : IsG g n x) : num32 x = true := h.1

theorem lp32 : single.leastPlace = -149 := by decide
theorem lp64 : double.leastPlace = -1074 := by decide
theorem top32 : top single = 276 := by decide
theorem top64 : top double = 2097 := by decide

theorem rnd_exact (f : Format) (n : Int) (t : Nat) (h : n.natAbs ≤ 2 ^ (f.fractionBits + 1)) : rnd f (n * ((2 ^ t : Nat) : Int)) = n * ((2 ^ t : Nat) : Int) := by
  unfold rnd
  have hp : 0 < ((2 ^ t : Nat) : Int) := by exact_mod_cast Nat.two_pow_pos _
  have e : (n * ((2 ^ t : Nat) : Int)).natAbs = n.natAbs * 2 ^ t := by rw [Int.natAbs_mul, Int.natAbs_natCast]
  rw [e, rndN_exact f _ _ h, ← e, sg_natAbs]

theorem small_lt (n : Int) (t : Nat) (ht : t ≤ 149) (h : n.natAbs ≤ 16777216) : (n * ((2 ^ t : Nat) : Int)).natAbs < 2 ^ top single := by
  rw [Int.natAbs_mul, Int.natAbs_natCast]
  have h1 : n.natAbs * 2 ^ t ≤ 2 ^ 24 * 2 ^ 149 := Nat.mul_le_mul h (Nat.pow_le_pow_right (by omega) ht)
  rw [← Nat.pow_add] at h1
  exact Nat.lt_of_le_of_lt h1 (Nat.pow_lt_pow_right (by omega) (show 24 + 149 < top single by decide))
theorem h24 {n : Nat} (h : n ≤ 16777216) : n ≤ 2 ^ (single.fractionBits + 1) := h

theorem IsG.add {g : Nat} {n m : Int} {x y : Nat} (hx : IsG g n x) (hy : IsG g m y) (h : (n + m).natAbs ≤ 16777216) : IsG g (n + m) (fadd x y) := by
  have e : sc single x + sc single y = (n + m) * ((2 ^ (149 - g) : Nat) : Int) := by rw [hx.2, hy.2, Int.add_mul]
  obtain ⟨r, h1, h2, h3⟩ := add_num single (by decide) hx.1 hy.1 (by rw [e]; exact small_lt _ _ (by omega) h)
  unfold fadd
  rw [h1]
  refine ⟨h2, ?_⟩
  show sc single r = _
  rw [h3, e, rnd_exact single _ _ (h24 h)]

theorem IsG.sub {g : Nat} {n m : Int} {x y : Nat} (hx : IsG g n x) (hy : IsG g m y) (h : (n - m).natAbs ≤ 16777216) : IsG g (n - m) (fsub x y) := by
  have e : sc single x - sc single y = (n - m) * ((2 ^ (149 - g) : Nat) : Int) := by rw [hx.2, hy.2, Int.sub_mul]
  obtain ⟨r, h1, h2, h3⟩ := sub_num single (by decide) hx.1 hy.1 (by rw [e]; exact small_lt _ _ (by omega) h)
  unfold fsub
  rw [h1]
  refine ⟨h2, ?_⟩
  show sc single r = _
  rw [h3, e, rnd_exact single _ _ (h24 h)]

theorem IsG.mul {g k : Nat} {n m : Int} {x y : Nat} (hx : IsG g n x) (hy : IsG k m y) (hg : g + k ≤ 149) (h : (n * m).natAbs ≤ 16777216) : IsG (g + k) (n * m) (fmul x y) := by
  have e : sc single x * sc single y = (n * m) * ((2 ^ (149 - (g + k)) : Nat) : Int) * ((2 ^ 149 : Nat) : Int) := by
    rw [hx.2, hy.2]
    have : (2 : Nat) ^ (149 - g) * 2 ^ (149 - k) = 2 ^ (149 - (g + k)) * 2 ^ 149 := by rw [← Nat.pow_add, ← Nat.pow_add]; congr 1; omega
    have h2 : ((2 ^ (149 - g) : Nat) : Int) * ((2 ^ (149 - k) : Nat) : Int) = ((2 ^ (149 - (g + k)) : Nat) : Int) * ((2 ^ 149 : Nat) : Int) := by exact_mod_cast this
    rw [Int.mul_assoc (n * m), ← h2]
    generalize ((2 ^ (149 - g) : Nat) : Int) = a
    generalize ((2 ^ (149 - k) : Nat) : Int) = b
    grind
  have en : (sc single x * sc single y).natAbs = ((n * m) * ((2 ^ (149 - (g + k)) : Nat) : Int)).natAbs * 2 ^ 149 := by rw [e, Int.natAbs_mul, Int.natAbs_natCast]
  have hs := small_lt (n * m) (149 - (g + k)) (by omega) h
  obtain ⟨r, h1, h2, h3⟩ := mul_num single (by decide) hx.1 hy.1 149 (by rw [lp32]; rfl) (by
    rw [en, Nat.pow_add]; exact Nat.mul_lt_mul_of_pos_right hs (Nat.two_pow_pos _))
  unfold fmul
  rw [h1]
  refine ⟨h2, ?_⟩
  show sc single r = _
  rw [h3, en, rndD_mul]
  have hrn : rndN single ((n * m) * ((2 ^ (149 - (g + k)) : Nat) : Int)).natAbs = ((n * m) * ((2 ^ (149 - (g + k)) : Nat) : Int)).natAbs := by
    rw [Int.natAbs_mul, Int.natAbs_natCast]; exact rndN_exact single _ _ (h24 h)
  rw [hrn]
  have hneg : (sc single x * sc single y < 0) ↔ (n * m * ((2 ^ (149 - (g + k)) : Nat) : Int) < 0) := by
    rw [e]
    have hp : 0 < ((2 ^ 149 : Nat) : Int) := by decide
    constructor
    · intro h; rcases Int.lt_or_le (n * m * ((2 ^ (149 - (g + k)) : Nat) : Int)) 0 with h5 | h5
      · exact h5
      · have := Int.mul_nonneg h5 (Int.le_of_lt hp); omega
    · intro h; exact Int.mul_neg_of_neg_of_pos h hp
  rw [decide_eq_decide.2 hneg, sg_natAbs]

/-- the same number on a finer grid -/
theorem IsG.fine {g k : Nat} {n : Int} {x : Nat} (hx : IsG g n x) (hk : g + k ≤ 149) : IsG (g + k) (n * ((2 ^ k : Nat) : Int)) x := by
  refine ⟨hx.1, ?_⟩
  rw [hx.2, Int.mul_assoc]
  congr 1
  have : (2 : Nat) ^ (149 - g) = 2 ^ k * 2 ^ (149 - (g + k)) := by rw [← Nat.pow_add]; congr 1; omega
  exact_mod_cast this

theorem IsG.int {n : Int} (h : n.natAbs ≤ 16777216) : IsG 0 n (fint n) := by
  have := ofInt_num single (by decide) n 149 (by rw [lp32]; rfl) (h24 h) (by rw [top32]; decide)
  exact this

/-- how two numbers of one grid compare -/
theorem IsG.order {g : Nat} {n m : Int} {x y : Nat} (hx : IsG g n x) (hy : IsG g m y) : single.order x y = some (compare n m) := by
  rw [order_num single hx.1 hy.1, hx.2, hy.2]
  have hp : 0 < ((2 ^ (149 - g) : Nat) : Int) := by exact_mod_cast Nat.two_pow_pos _
  congr 1
  generalize ((2 ^ (149 - g) : Nat) : Int) = c at hp
  rcases Int.lt_trichotomy n m with h | h | h
  · rw [Int.compare_eq_lt.2 h, Int.compare_eq_lt.2 (Int.mul_lt_mul_of_pos_right h hp)]
  · subst h; simp
  · rw [Int.compare_eq_gt.2 h, Int.compare_eq_gt.2 (Int.mul_lt_mul_of_pos_right h hp)]

theorem IsG.eq_ {g : Nat} {n m : Int} {x : Nat} (hx : IsG g n x) (h : n = m) : IsG g m x := h ▸ hx

/-- division by '2 ^ k' (y: the word of that power) -/
theorem IsG.half {g : Nat} {n : Int} {x y : Nat} (k : Nat) (hx : IsG g n x) (hy : single.read y = .number false single.binade ((k : Int) - single.fractionBits)) (hg : g + k ≤ 149) (h : n.natAbs ≤ 16777216) : IsG (g + k) n (fdiv x y) := by
  have e : sc single x = n * ((2 ^ (149 - (g + k)) : Nat) : Int) * ((2 ^ k : Nat) : Int) := by
    rw [hx.2, Int.mul_assoc]; congr 1
    have : (2 : Nat) ^ (149 - g) = 2 ^ (149 - (g + k)) * 2 ^ k := by rw [← Nat.pow_add]; congr 1; omega
    exact_mod_cast this
  have en : (sc single x).natAbs = (n * ((2 ^ (149 - (g + k)) : Nat) : Int)).natAbs * 2 ^ k := by rw [e, Int.natAbs_mul, Int.natAbs_natCast]
  have hs := small_lt n (149 - (g + k)) (by omega) h
  obtain ⟨r, h1, h2, h3⟩ := div_pow single (by decide) hx.1 k hy (by
    rw [en, Nat.pow_add]; exact Nat.mul_lt_mul_of_pos_right hs (Nat.two_pow_pos _))
  unfold fdiv
  rw [h1]
  refine ⟨h2, ?_⟩
  show sc single r = _
  rw [h3, en, rndD_mul]
  have hrn : rndN single (n * ((2 ^ (149 - (g + k)) : Nat) : Int)).natAbs = (n * ((2 ^ (149 - (g + k)) : Nat) : Int)).natAbs := by
    rw [Int.natAbs_mul, Int.natAbs_natCast]; exact rndN_exact single _ _ (h24 h)
  rw [hrn]
  have hneg : (sc single x < 0) ↔ (n * ((2 ^ (149 - (g + k)) : Nat) : Int) < 0) := by
    rw [e]
    have hp : 0 < ((2 ^ k : Nat) : Int) := by exact_mod_cast Nat.two_pow_pos _
    constructor
    · intro h; rcases Int.lt_or_le (n * ((2 ^ (149 - (g + k)) : Nat) : Int)) 0 with h5 | h5
      · exact h5
      · have := Int.mul_nonneg h5 (Int.le_of_lt hp); omega
    · intro h; exact Int.mul_neg_of_neg_of_pos h hp
  rw [decide_eq_decide.2 hneg, sg_natAbs]

theorem IsG.nz {g : Nat} {n : Int} {x : Nat} (hx : IsG g n x) (h : n ≠ 0) : nz32 x = true := by
  obtain ⟨s, m, p, h1, _, _, h3⟩ := (isNum_iff single x).1 hx.1
  unfold nz32
  rw [h1]
  rcases Nat.eq_zero_or_pos m with h0 | h0
  · subst h0
    rw [hx.2] at h3
    rw [Nat.zero_mul, sg_zero] at h3
    have hp : ((2 ^ (149 - g) : Nat) : Int) ≠ 0 := by have := Nat.two_pow_pos (149 - g); omega
    rcases Int.mul_eq_zero.1 h3 with h5 | h5
    · exact absurd h5 h
    · exact absurd h5 hp
  · have : m ≠ 0 := by omega
    cases m with
    | zero => omega
    | succ m => rfl
end Go.Proofs.Ytdnhdfnghkkncaa
