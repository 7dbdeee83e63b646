/-
  Float words, more: how great numbers are; squares and sums in 64 bits; roots. No program in sight.
-/
import Derived.Test.YtdnhdfnghkkncaaFw
set_option linter.unusedSimpArgs false
namespace Go.Proofs.Ytdnhdfnghkkncaa
open Fl Ieee

theorem read_le {f : Format} {x : Nat} {s : Bool} {m : Nat} {p : Int} (h : f.read x = .number s m p) : p ≤ f.leastPlace + (2 ^ f.exponentBits - 2 : Nat) := by
  unfold Format.read at h
  simp only at h
  split at h
  · injection h with _ _ h4; omega
  · split at h
    · rename_i hr
      injection h with _ _ h4
      have hb := bin_pos f
      generalize x % f.signWeight = R at *
      have h1 : R / f.binade < 2 ^ f.exponentBits - 1 := by
        unfold Format.infRung at hr
        exact (Nat.div_lt_iff_lt_mul hb).2 hr
      omega
    · split at h <;> cases h

/-- every number of a format is less than this -/
theorem sc_lt {f : Format} (he : 2 ≤ f.exponentBits) {x : Nat} (h : isNum f x = true) : (sc f x).natAbs < 2 ^ (top f + 2) := by
  have h4 : 2 ^ 2 ≤ 2 ^ f.exponentBits := Nat.pow_le_pow_right (by omega) he
  have e : top f + 2 = f.fractionBits + 1 + (2 ^ f.exponentBits - 2) := by unfold top; omega
  obtain ⟨s, m, p, h1, h2, h3, h4⟩ := (isNum_iff f x).1 h
  have hp := read_le h1
  rw [h4, sg_natAbs', e, Nat.pow_add]
  have h5 : 2 ^ (p - f.leastPlace).toNat ≤ 2 ^ (2 ^ f.exponentBits - 2) := Nat.pow_le_pow_right (by omega) (by omega)
  exact Nat.lt_of_lt_of_le (Nat.mul_lt_mul_of_pos_right h3 (Nat.two_pow_pos _)) (Nat.mul_le_mul_left _ h5)


theorem wid_num {x : Nat} (hx : num32 x = true) : num64 (wid x) = true ∧ sc double (wid x) = sc single x * ((2 ^ dK : Nat) : Int) := by
  obtain ⟨s, m, p, h, h2, h3⟩ := wide_num hx
  have e : wid x = double.write (.number s m p) := by
    have := wid_some hx
    have h5 : floatToFloatBits .f32 x .f64 = some (double.write (.number s m p)) := by
      unfold floatToFloatBits
      rw [if_neg (by decide)]
      show (match single.read x with | .nan _ _ => none | .infinity s => some (double.write (.infinity s)) | .number s m e => if (double.read (double.write (.number s m e))).isInfinity then none else some (double.write (.number s m e))) = _
      rw [h]
      simp only [not_inf_of_isNum h2]
      rfl
    rw [h5] at this
    injection this with this
    exact this.symm
  rw [e]
  exact ⟨h2, h3⟩

/-- a float64 made a float32, where it is not too great -/
theorem nar_num {x : Nat} (hx : num64 x = true) (hs : (sc double x).natAbs < 2 ^ (top single + dK)) :
    narOk x = true ∧ num32 (nar x) = true ∧ sc single (nar x) = sg (decide (sc double x < 0)) (rndD single dK (sc double x).natAbs) := by
  obtain ⟨s, m, p, h, h2, h3⟩ := narrow_num hx hs
  have h5 : floatToFloatBits .f64 x .f32 = some (single.write (.number s m p)) := by
    unfold floatToFloatBits
    rw [if_neg (by decide)]
    show (match double.read x with | .nan _ _ => none | .infinity s => some (single.write (.infinity s)) | .number s m e => if (single.read (single.write (.number s m e))).isInfinity then none else some (single.write (.number s m e))) = _
    rw [h]
    simp only [not_inf_of_isNum h2]
    rfl
  unfold narOk nar
  rw [h5]
  exact ⟨rfl, h2, h3⟩

/-! ### values in 64 bits -/
/-- the word x is the number 'n / 2 ^ g' -/
def IsD (g : Nat) (n : Int) (x : Nat) : Prop := num64 x = true ∧ sc double x = n * ((2 ^ (149 + dK - g) : Nat) : Int)

theorem top64_eq : top double = 149 + dK + 1023 := by rw [dK_eq]; decide
theorem lp64' : ((149 + dK : Nat) : Int) = - double.leastPlace := by rw [dK_eq]; decide

theorem IsG.wid {g : Nat} {n : Int} {x : Nat} (h : IsG g n x) (hg : g ≤ 149) : IsD g n (wid x) := by
  obtain ⟨h1, h2⟩ := wid_num h.1
  refine ⟨h1, ?_⟩
  rw [h2, h.2, Int.mul_assoc]
  congr 1
  have : (2 : Nat) ^ (149 - g) * 2 ^ dK = 2 ^ (149 + dK - g) := by rw [← Nat.pow_add]; congr 1; omega
  exact_mod_cast this

def h53 : Nat := 9007199254740992
theorem h53_eq : h53 = 2 ^ (double.fractionBits + 1) := by decide

theorem small_ltD (n : Int) (t : Nat) (ht : t ≤ 149 + dK) (h : n.natAbs ≤ h53) : (n * ((2 ^ t : Nat) : Int)).natAbs < 2 ^ top double := by
  rw [Int.natAbs_mul, Int.natAbs_natCast]
  rw [h53_eq] at h
  have h1 : n.natAbs * 2 ^ t ≤ 2 ^ (double.fractionBits + 1) * 2 ^ (149 + dK) := Nat.mul_le_mul h (Nat.pow_le_pow_right (by omega) ht)
  rw [← Nat.pow_add] at h1
  exact Nat.lt_of_le_of_lt h1 (Nat.pow_lt_pow_right (by omega) (by rw [dK_eq]; decide))

theorem IsD.add {g : Nat} {n m : Int} {x y : Nat} (hx : IsD g n x) (hy : IsD g m y) (h : (n + m).natAbs ≤ h53) : IsD g (n + m) (dadd x y) := by
  have e : sc double x + sc double y = (n + m) * ((2 ^ (149 + dK - g) : Nat) : Int) := by rw [hx.2, hy.2, Int.add_mul]
  obtain ⟨r, h1, h2, h3⟩ := add_num double (by decide) hx.1 hy.1 (by rw [e]; exact small_ltD _ _ (by omega) h)
  unfold dadd
  rw [h1]
  refine ⟨h2, ?_⟩
  show sc double r = _
  rw [h3, e, rnd_exact double _ _ (by rw [h53_eq] at h; exact h)]

theorem IsD.sub {g : Nat} {n m : Int} {x y : Nat} (hx : IsD g n x) (hy : IsD g m y) (h : (n - m).natAbs ≤ h53) : IsD g (n - m) (dsub x y) := by
  have e : sc double x - sc double y = (n - m) * ((2 ^ (149 + dK - g) : Nat) : Int) := by rw [hx.2, hy.2, Int.sub_mul]
  obtain ⟨r, h1, h2, h3⟩ := sub_num double (by decide) hx.1 hy.1 (by rw [e]; exact small_ltD _ _ (by omega) h)
  unfold dsub
  rw [h1]
  refine ⟨h2, ?_⟩
  show sc double r = _
  rw [h3, e, rnd_exact double _ _ (by rw [h53_eq] at h; exact h)]

theorem neg_iff {n : Int} {t : Nat} : (n * ((2 ^ t : Nat) : Int) < 0) ↔ n < 0 := by
  have hp : 0 < ((2 ^ t : Nat) : Int) := by exact_mod_cast Nat.two_pow_pos _
  constructor
  · intro h; rcases Int.lt_or_le n 0 with h5 | h5
    · exact h5
    · have := Int.mul_nonneg h5 (Int.le_of_lt hp); omega
  · intro h; exact Int.mul_neg_of_neg_of_pos h hp

theorem IsD.mul {g k : Nat} {n m : Int} {x y : Nat} (hx : IsD g n x) (hy : IsD k m y) (hg : g + k ≤ 149 + dK) (h : (n * m).natAbs ≤ h53) : IsD (g + k) (n * m) (dmul x y) := by
  have e : sc double x * sc double y = (n * m) * ((2 ^ (149 + dK - (g + k)) : Nat) : Int) * ((2 ^ (149 + dK) : Nat) : Int) := by
    rw [hx.2, hy.2]
    have : (2 : Nat) ^ (149 + dK - g) * 2 ^ (149 + dK - k) = 2 ^ (149 + dK - (g + k)) * 2 ^ (149 + dK) := by rw [← Nat.pow_add, ← Nat.pow_add]; congr 1; omega
    have h2 : ((2 ^ (149 + dK - g) : Nat) : Int) * ((2 ^ (149 + dK - k) : Nat) : Int) = ((2 ^ (149 + dK - (g + k)) : Nat) : Int) * ((2 ^ (149 + dK) : Nat) : Int) := by exact_mod_cast this
    rw [Int.mul_assoc (n * m), ← h2]
    generalize ((2 ^ (149 + dK - g) : Nat) : Int) = a
    generalize ((2 ^ (149 + dK - k) : Nat) : Int) = b
    grind
  have en : (sc double x * sc double y).natAbs = ((n * m) * ((2 ^ (149 + dK - (g + k)) : Nat) : Int)).natAbs * 2 ^ (149 + dK) := by rw [e, Int.natAbs_mul, Int.natAbs_natCast]
  have hs := small_ltD (n * m) (149 + dK - (g + k)) (by omega) h
  have hs2 := Nat.mul_lt_mul_of_pos_right hs (Nat.two_pow_pos (149 + dK))
  rw [← en, ← Nat.pow_add] at hs2
  obtain ⟨r, h1, h2, h3⟩ := mul_num double (by decide) hx.1 hy.1 (149 + dK) lp64' hs2
  unfold dmul
  rw [h1]
  refine ⟨h2, ?_⟩
  show sc double r = _
  rw [h3, en, rndD_mul]
  have hrn : rndN double ((n * m) * ((2 ^ (149 + dK - (g + k)) : Nat) : Int)).natAbs = ((n * m) * ((2 ^ (149 + dK - (g + k)) : Nat) : Int)).natAbs := by
    rw [Int.natAbs_mul, Int.natAbs_natCast]; exact rndN_exact double _ _ (by rw [h53_eq] at h; exact h)
  rw [hrn]
  have hneg : (sc double x * sc double y < 0) ↔ (n * m * ((2 ^ (149 + dK - (g + k)) : Nat) : Int) < 0) := by
    rw [e, neg_iff]
  rw [decide_eq_decide.2 hneg, sg_natAbs]

/-- narrowing is exact on small numbers -/
theorem IsD.nar {g : Nat} {n : Int} {x : Nat} (hx : IsD g n x) (hg : g ≤ 149) (h : n.natAbs ≤ 16777216) : narOk x = true ∧ IsG g n (nar x) := by
  have e : sc double x = n * ((2 ^ (149 - g) : Nat) : Int) * ((2 ^ dK : Nat) : Int) := by
    rw [hx.2, Int.mul_assoc]; congr 1
    have : (2 : Nat) ^ (149 + dK - g) = 2 ^ (149 - g) * 2 ^ dK := by rw [← Nat.pow_add]; congr 1; omega
    exact_mod_cast this
  have en : (sc double x).natAbs = (n * ((2 ^ (149 - g) : Nat) : Int)).natAbs * 2 ^ dK := by rw [e, Int.natAbs_mul, Int.natAbs_natCast]
  have hs := small_lt n (149 - g) (by omega) h
  obtain ⟨h1, h2, h3⟩ := nar_num hx.1 (by rw [en, Nat.pow_add]; exact Nat.mul_lt_mul_of_pos_right hs (Nat.two_pow_pos _))
  refine ⟨h1, h2, ?_⟩
  rw [h3, en, rndD_mul]
  have hrn : rndN single (n * ((2 ^ (149 - g) : Nat) : Int)).natAbs = (n * ((2 ^ (149 - g) : Nat) : Int)).natAbs := by
    rw [Int.natAbs_mul, Int.natAbs_natCast]; exact rndN_exact single _ _ (h24 h)
  rw [hrn]
  have hneg : (sc double x < 0) ↔ (n * ((2 ^ (149 - g) : Nat) : Int) < 0) := by rw [e, neg_iff]
  rw [decide_eq_decide.2 hneg, sg_natAbs]

theorem IsD.order {g : Nat} {n m : Int} {x y : Nat} (hx : IsD g n x) (hy : IsD g m y) : double.order x y = some (compare n m) := by
  rw [order_num double hx.1 hy.1, hx.2, hy.2]
  have hp : 0 < ((2 ^ (149 + dK - g) : Nat) : Int) := by exact_mod_cast Nat.two_pow_pos _
  congr 1
  generalize ((2 ^ (149 + dK - g) : Nat) : Int) = c at hp
  rcases Int.lt_trichotomy n m with h | h | h
  · rw [Int.compare_eq_lt.2 h, Int.compare_eq_lt.2 (Int.mul_lt_mul_of_pos_right h hp)]
  · subst h; simp
  · rw [Int.compare_eq_gt.2 h, Int.compare_eq_gt.2 (Int.mul_lt_mul_of_pos_right h hp)]

/-- the power of a point: the sum of the squares, in 64 bits -/
def wpow (a b : Nat) : Nat := dadd (dmul (wid a) (wid a)) (dmul (wid b) (wid b))
def fpow (a b : Nat) : Nat := nar (wpow a b)

theorem IsG.wpow {g : Nat} {n m : Int} {x y : Nat} (hx : IsG g n x) (hy : IsG g m y) (hg : g ≤ 70) (h : (n * n + m * m).natAbs ≤ h53) :
    IsD (g + g) (n * n + m * m) (wpow x y) := by
  have h1 : 0 ≤ n * n := by
    rcases Int.le_total 0 n with h | h
    · exact Int.mul_nonneg h h
    · exact Int.mul_nonneg_of_nonpos_of_nonpos h h
  have h2 : 0 ≤ m * m := by
    rcases Int.le_total 0 m with h | h
    · exact Int.mul_nonneg h h
    · exact Int.mul_nonneg_of_nonpos_of_nonpos h h
  exact IsD.add (IsD.mul (hx.wid (by omega)) (hx.wid (by omega)) (by rw [dK_eq]; omega) (by omega)) (IsD.mul (hy.wid (by omega)) (hy.wid (by omega)) (by rw [dK_eq]; omega) (by omega)) h
end Go.Proofs.Ytdnhdfnghkkncaa
namespace Go.Proofs.Ytdnhdfnghkkncaa
open Fl Ieee
/-- the power of a point can be computed and narrowed -/
structure PowOk (a b : Nat) : Prop where
  ha : num32 a = true
  hb : num32 b = true
  h1 : num64 (dmul (wid a) (wid a)) = true
  h2 : num64 (dmul (wid b) (wid b)) = true
  h3 : narOk (wpow a b) = true
  h4 : num32 (fpow a b) = true
theorem sq_nonneg (n : Int) : 0 ≤ n * n := by
  rcases Int.le_total 0 n with h | h
  · exact Int.mul_nonneg h h
  · exact Int.mul_nonneg_of_nonpos_of_nonpos h h
theorem IsG.pow {g : Nat} {n m : Int} {x y : Nat} (hx : IsG g n x) (hy : IsG g m y) (hg : g ≤ 70) (h : n * n + m * m ≤ 16777216) :
    PowOk x y ∧ IsG (g + g) (n * n + m * m) (fpow x y) := by
  have h1 := sq_nonneg n
  have h2 := sq_nonneg m
  have h5 : (n * n).natAbs ≤ h53 := by unfold h53; omega
  have h6 : (m * m).natAbs ≤ h53 := by unfold h53; omega
  have h7 : (n * n + m * m).natAbs ≤ h53 := by unfold h53; omega
  have p1 := IsD.mul (hx.wid (by omega)) (hx.wid (by omega)) (by rw [dK_eq]; omega) h5
  have p2 := IsD.mul (hy.wid (by omega)) (hy.wid (by omega)) (by rw [dK_eq]; omega) h6
  obtain ⟨p3, p4⟩ := (IsD.add p1 p2 h7).nar (by omega) (by omega)
  exact ⟨⟨hx.1, hy.1, p1.1, p2.1, p3, p4.1⟩, p4⟩
end Go.Proofs.Ytdnhdfnghkkncaa
