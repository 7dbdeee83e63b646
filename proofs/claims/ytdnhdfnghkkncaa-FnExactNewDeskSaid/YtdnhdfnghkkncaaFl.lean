/-
  Floating-point words as scaled integers: what sums, differences, products, comparisons and conversions of numbers come to. No program in sight.
-/
import Derived.Laws.FloatArith
set_option linter.unusedSimpArgs false
namespace Go.Proofs.Ytdnhdfnghkkncaa
namespace Fl
open Ieee

/-! ### Words and rungs -/
theorem sw_pos (f : Format) : 0 < f.signWeight := Nat.two_pow_pos _
theorem bin_pos (f : Format) : 0 < f.binade := Nat.two_pow_pos _

theorem word_div (f : Format) (neg : Bool) {R : Nat} (h : R < f.signWeight) : (f.word neg R / f.signWeight % 2 == 1) = neg := by
  have := sw_pos f
  cases neg
  · simp [Format.word, Nat.div_eq_of_lt h]
  · simp [Format.word, Nat.add_div_left, Nat.div_eq_of_lt h, this]
theorem word_mod (f : Format) (neg : Bool) {R : Nat} (h : R < f.signWeight) : f.word neg R % f.signWeight = R := by
  cases neg
  · simp [Format.word, Nat.mod_eq_of_lt h]
  · simp [Format.word, Nat.mod_eq_of_lt h]

/-- the scaled value of a rung -/
def rv (f : Format) (R : Nat) : Nat := if R < f.binade then R else (f.binade + R % f.binade) * 2 ^ (R / f.binade - 1)

def isNum (f : Format) (x : Nat) : Bool := match f.read x with | .number .. => true | _ => false
/-- the value of a word, in units of the least place -/
def sc (f : Format) (x : Nat) : Int := match f.read x with | .number s m p => signed s m (p - f.leastPlace).toNat | _ => 0

def sg (neg : Bool) (n : Nat) : Int := if neg then -(n : Int) else n
theorem signed_eq (neg : Bool) (m u : Nat) : signed neg m u = sg neg (m * 2 ^ u) := by
  simp [signed, sg, Nat.shiftLeft_eq]

theorem read_word (f : Format) (neg : Bool) {R : Nat} (h : R < f.infRung) :
    ∃ m p, f.read (f.word neg R) = .number neg m p ∧ f.leastPlace ≤ p ∧ m * 2 ^ (p - f.leastPlace).toNat = rv f R := by
  have hs : R < f.signWeight := Nat.lt_trans h f.infRung_lt
  unfold Format.read
  simp only [word_div f neg hs, word_mod f neg hs]
  unfold rv
  split
  · exact ⟨_, _, rfl, Int.le_refl _, by simp⟩
  · try rw [if_pos h]
    refine ⟨_, _, rfl, by omega, ?_⟩
    rw [show (f.leastPlace + ((R / f.binade - 1 : Nat) : Int) - f.leastPlace).toNat = R / f.binade - 1 by omega]

theorem sc_word (f : Format) (neg : Bool) {R : Nat} (h : R < f.infRung) : isNum f (f.word neg R) = true ∧ sc f (f.word neg R) = sg neg (rv f R) := by
  obtain ⟨m, p, hr, hp, hv⟩ := read_word f neg h
  simp [isNum, sc, hr, signed_eq, hv]

theorem rv_cell (f : Format) {k kept : Nat} (h : kept ≤ 2 * f.binade) (hk : k = 0 ∨ f.binade ≤ kept) : rv f (k * f.binade + kept) = kept * 2 ^ k := by
  have hb := bin_pos f
  unfold rv
  rcases Nat.lt_or_ge kept f.binade with h1 | h1
  · have h0 : k = 0 := hk.resolve_right (by omega)
    subst h0
    simp [h1]
  · rw [if_neg (by have := Nat.le_mul_of_pos_left f.binade (show 0 < k + 1 by omega); have : (k + 1) * f.binade = k * f.binade + f.binade := by rw [Nat.add_mul]; simp
                   omega)]
    rcases Nat.lt_or_eq_of_le h with h2 | h2
    · have e : k * f.binade + kept = (kept - f.binade) + f.binade * (k + 1) := by
        rw [Nat.mul_add, Nat.mul_comm k]; omega
      rw [e, Nat.add_mul_mod_self_left, Nat.add_mul_div_left _ _ hb, Nat.mod_eq_of_lt (by omega), Nat.div_eq_of_lt (by omega)]
      rw [show f.binade + (kept - f.binade) = kept by omega, show 0 + (k + 1) - 1 = k by omega]
    · have e : k * f.binade + kept = 0 + f.binade * (k + 2) := by
        rw [Nat.mul_add, Nat.mul_comm k]; omega
      rw [e, Nat.add_mul_mod_self_left, Nat.add_mul_div_left _ _ hb, Nat.zero_mod, Nat.zero_div]
      rw [h2, show 0 + (k + 2) - 1 = k + 1 by omega, Nat.pow_succ]
      grind

/-! ### cut -/
theorem cut_zero (neg : Bool) (n : Nat) : Toward.even.cut neg n 0 = n := by
  simp [Toward.cut, Nat.mod_one]

/-- 'even' with a plain power -/
def cutE (n drop : Nat) : Nat := n / 2 ^ drop + (decide (2 ^ drop < 2 * (n % 2 ^ drop)) || (2 ^ drop == 2 * (n % 2 ^ drop) && n / 2 ^ drop % 2 == 1)).toNat

theorem cut_even (neg : Bool) (n drop : Nat) : Toward.even.cut neg n drop = cutE n drop := by
  unfold Toward.cut cutE
  simp only [Nat.shiftLeft_eq, Nat.one_mul]
  rcases Nat.le_total drop (n.log2 + 2) with h | h
  · rw [Nat.min_eq_left h]
  · rw [Nat.min_eq_right h]
    have h1 : n < 2 ^ (n.log2 + 1) := Nat.lt_log2_self
    have h2 : 2 ^ (n.log2 + 2) ≤ 2 ^ drop := Nat.pow_le_pow_right (by omega) h
    have h3 : 2 ^ (n.log2 + 2) = 2 * 2 ^ (n.log2 + 1) := by rw [Nat.pow_succ 2 (n.log2 + 1), Nat.mul_comm]
    rw [Nat.div_eq_of_lt (show n < 2 ^ (n.log2 + 2) by omega), Nat.div_eq_of_lt (show n < 2 ^ drop by omega), Nat.mod_eq_of_lt (show n < 2 ^ (n.log2 + 2) by omega), Nat.mod_eq_of_lt (show n < 2 ^ drop by omega)]
    have a1 : ¬ 2 ^ (n.log2 + 2) < 2 * n := by omega
    have a2 : ¬ 2 ^ drop < 2 * n := by omega
    simp [a1, a2]

theorem cutE_shift (n d drop : Nat) : cutE (n * 2 ^ d) (drop + d) = cutE n drop := by
  unfold cutE
  have hp : 0 < 2 ^ d := Nat.two_pow_pos _
  have e : 2 ^ (drop + d) = 2 ^ drop * 2 ^ d := Nat.pow_add ..
  rw [e, Nat.mul_div_mul_right _ _ hp, Nat.mul_mod_mul_right]
  have e2 : 2 * (n % 2 ^ drop * 2 ^ d) = 2 * (n % 2 ^ drop) * 2 ^ d := by rw [Nat.mul_assoc]
  rw [e2]
  congr 2
  congr 1
  · rw [decide_eq_decide]; exact Nat.mul_lt_mul_right hp
  · congr 1
    rw [Bool.eq_iff_iff]; simp [Nat.mul_right_cancel_iff hp]
theorem cutE_mul (n d : Nat) : cutE (n * 2 ^ d) d = n := by
  have := cutE_shift n d 0
  rw [Nat.zero_add] at this
  rw [this]
  simp [cutE, Nat.mod_one]

theorem cutE_zero (n : Nat) : cutE n 0 = n := by simpa using cutE_mul n 0

/-- twice the error is at most the gap -/
theorem cutE_err (n d : Nat) : 2 * (cutE n d * 2 ^ d) ≤ 2 * n + 2 ^ d ∧ 2 * n ≤ 2 * (cutE n d * 2 ^ d) + 2 ^ d := by
  have h := Nat.div_add_mod n (2 ^ d)
  have hl := Nat.mod_lt n (Nat.two_pow_pos d)
  unfold cutE
  generalize n / 2 ^ d = q at *
  generalize n % 2 ^ d = r at *
  generalize hg : (2 : Nat) ^ d = g at *
  have e1 : (q + 1) * g = g * q + g := by rw [Nat.mul_comm, Nat.mul_add, Nat.mul_one]
  have e0 : (q + 0) * g = g * q := by rw [Nat.mul_comm]; rfl
  cases hb : (decide (g < 2 * r) || (g == 2 * r && q % 2 == 1))
  · simp only [Bool.toNat_false, e0]
    have : ¬ g < 2 * r := by intro hh; simp [hh] at hb
    omega
  · simp only [Bool.toNat_true, e1]
    have : g ≤ 2 * r := by
      rcases Nat.lt_or_ge g (2 * r) with h | h
      · omega
      · simp [Nat.not_lt.2 h] at hb; omega
    omega

theorem cutE_mono {a b d : Nat} (h : a ≤ b) : cutE a d ≤ cutE b d := by
  rcases Nat.lt_or_ge (a / 2 ^ d) (b / 2 ^ d) with hq | hq
  · unfold cutE
    have : (decide (2 ^ d < 2 * (a % 2 ^ d)) || (2 ^ d == 2 * (a % 2 ^ d) && a / 2 ^ d % 2 == 1)).toNat ≤ 1 := Bool.toNat_le _
    omega
  · have he : a / 2 ^ d = b / 2 ^ d := Nat.le_antisymm (Nat.div_le_div_right h) hq
    have h1 := Nat.div_add_mod a (2 ^ d)
    have h2 := Nat.div_add_mod b (2 ^ d)
    rw [he] at h1
    have hm : a % 2 ^ d ≤ b % 2 ^ d := by omega
    unfold cutE
    rw [he]
    refine Nat.add_le_add_left ?_ _
    generalize ha : (decide (2 ^ d < 2 * (a % 2 ^ d)) || (2 ^ d == 2 * (a % 2 ^ d) && b / 2 ^ d % 2 == 1)) = x
    generalize hb : (decide (2 ^ d < 2 * (b % 2 ^ d)) || (2 ^ d == 2 * (b % 2 ^ d) && b / 2 ^ d % 2 == 1)) = y
    cases x <;> cases y <;> simp at ha hb ⊢
    omega

/-! ### nearest -/
theorem log2_shift (m d : Nat) (h : m ≠ 0) : (m * 2 ^ d).log2 = m.log2 + d := by
  have hp := Nat.two_pow_pos d
  have h1 : 2 ^ m.log2 ≤ m := Nat.log2_self_le h
  have h2 : m < 2 ^ (m.log2 + 1) := Nat.lt_log2_self
  have h3 : m * 2 ^ d ≠ 0 := by
    have := Nat.mul_pos (Nat.pos_of_ne_zero h) hp
    omega
  refine (Nat.log2_eq_iff h3).2 ⟨?_, ?_⟩
  · rw [Nat.pow_add]; exact Nat.mul_le_mul_right _ h1
  · rw [show m.log2 + d + 1 = m.log2 + 1 + d by omega, Nat.pow_add]; exact Nat.mul_lt_mul_of_pos_right h2 hp

theorem nearest_eq (f : Format) (neg : Bool) (mag : Nat) (place : Int) (h : mag ≠ 0) :
    f.nearest neg mag place = f.word neg (min ((max (place + mag.log2 - f.fractionBits) f.leastPlace - f.leastPlace).toNat * f.binade +
      cutE (mag * 2 ^ (place - max (place + mag.log2 - f.fractionBits) f.leastPlace).toNat) (max (place + mag.log2 - f.fractionBits) f.leastPlace - place).toNat) f.infRung) := by
  unfold Format.nearest
  rw [if_neg h]
  simp only [cut_even, Nat.shiftLeft_eq]

theorem nearest_shift (f : Format) (neg : Bool) (mag d : Nat) (place : Int) : f.nearest neg (mag * 2 ^ d) place = f.nearest neg mag (place + d) := by
  by_cases h : mag = 0
  · subst h; simp [Format.nearest]
  · have hp := Nat.two_pow_pos d
    have h3 : mag * 2 ^ d ≠ 0 := by
      have := Nat.mul_pos (Nat.pos_of_ne_zero h) hp
      omega
    rw [nearest_eq f neg _ _ h3, nearest_eq f neg _ _ h, log2_shift _ _ h]
    have e : place + ((mag.log2 + d : Nat) : Int) - f.fractionBits = place + d + mag.log2 - f.fractionBits := by omega
    rw [e]
    generalize max (place + d + mag.log2 - f.fractionBits) f.leastPlace = last
    congr 2
    congr 1
    rw [Nat.mul_assoc, ← Nat.pow_add]
    rcases Int.lt_or_le last (place + d) with h1 | h1
    · have a1 : (last - (place + d)).toNat = 0 := by omega
      rw [a1, cutE_zero]
      have a2 : d + (place - last).toNat = (place + d - last).toNat + (last - place).toNat := by omega
      rw [a2, Nat.pow_add, ← Nat.mul_assoc, cutE_mul]
    · have a1 : (place + d - last).toNat = 0 := by omega
      have a2 : (place - last).toNat = 0 := by omega
      have a3 : (last - place).toNat = (last - (place + d)).toNat + d := by omega
      rw [a1, a2, a3, Nat.add_zero, cutE_shift]
      simp

/-- what 'nearest' has rounded to: the scaled value is 'kept * 2 ^ k' -/
theorem nearest_cell (f : Format) (neg : Bool) (S : Nat) (h : S ≠ 0) :
    ∃ k, k = S.log2 - f.fractionBits ∧ cutE S k ≤ 2 * f.binade ∧ (k = 0 ∨ f.binade ≤ cutE S k) ∧
      f.nearest neg S f.leastPlace = f.word neg (min (k * f.binade + cutE S k) f.infRung) := by
  refine ⟨S.log2 - f.fractionBits, rfl, ?_, ?_, ?_⟩
  · generalize hk : S.log2 - f.fractionBits = k
    have h2 : S < 2 ^ (S.log2 + 1) := Nat.lt_log2_self
    have h3 : 2 ^ (S.log2 + 1) ≤ 2 ^ (f.fractionBits + 1 + k) := Nat.pow_le_pow_right (by omega) (by omega)
    have h4 : S ≤ (2 * f.binade) * 2 ^ k := by
      have : 2 ^ (f.fractionBits + 1 + k) = (2 * f.binade) * 2 ^ k := by
        rw [Nat.pow_add, Nat.pow_succ, Nat.mul_comm _ 2]; rfl
      omega
    have := cutE_mono (d := k) h4
    rwa [cutE_mul] at this
  · generalize hk : S.log2 - f.fractionBits = k
    rcases Nat.eq_zero_or_pos k with h0 | h0
    · exact .inl h0
    · refine .inr ?_
      have h1 : 2 ^ S.log2 ≤ S := Nat.log2_self_le h
      have h4 : f.binade * 2 ^ k ≤ S := by
        have : f.binade * 2 ^ k = 2 ^ (f.fractionBits + k) := (Nat.pow_add ..).symm
        rw [this, show f.fractionBits + k = S.log2 by omega]; exact h1
      have := cutE_mono (d := k) h4
      rwa [cutE_mul] at this
  · rw [nearest_eq f neg S _ h]
    have e1 : (max (f.leastPlace + S.log2 - f.fractionBits) f.leastPlace - f.leastPlace).toNat = S.log2 - f.fractionBits := by omega
    have e2 : (f.leastPlace - max (f.leastPlace + S.log2 - f.fractionBits) f.leastPlace).toNat = 0 := by omega
    rw [e1, e2]
    simp

/-- the scaled value of the nearest word -/
def rndN (f : Format) (S : Nat) : Nat := cutE S (S.log2 - f.fractionBits) * 2 ^ (S.log2 - f.fractionBits)

theorem sc_nearest (f : Format) (neg : Bool) (S : Nat) (hS : (S.log2 - f.fractionBits) * f.binade + cutE S (S.log2 - f.fractionBits) < f.infRung) :
    isNum f (f.nearest neg S f.leastPlace) = true ∧ sc f (f.nearest neg S f.leastPlace) = sg neg (rndN f S) := by
  by_cases h : S = 0
  · subst h
    have h0 : 0 < f.infRung := Nat.lt_of_le_of_lt (Nat.zero_le _) hS
    have := sc_word f neg h0
    simp only [Format.nearest, if_pos]
    simpa [rndN, cutE, rv, bin_pos f] using this
  · obtain ⟨k, rfl, h1, h2, h3⟩ := nearest_cell f neg S h
    rw [h3, Nat.min_eq_left (Nat.le_of_lt hS)]
    have := sc_word f neg hS
    rw [rv_cell f h1 h2] at this
    exact this

/-- below this scaled value nothing overflows -/
def top (f : Format) : Nat := f.fractionBits + 2 ^ f.exponentBits - 3

theorem no_over (f : Format) (he : 2 ≤ f.exponentBits) (S : Nat) (hS : S < 2 ^ (Fl.top f)) : (S.log2 - f.fractionBits) * f.binade + cutE S (S.log2 - f.fractionBits) < f.infRung := by
  have hb := bin_pos f
  have h4 : 2 ^ 2 ≤ 2 ^ f.exponentBits := Nat.pow_le_pow_right (by omega) he
  by_cases h : S = 0
  · subst h
    simp [cutE, Format.infRung]
    exact Nat.mul_pos (by omega) hb
  · obtain ⟨k, hk, h1, _, _⟩ := nearest_cell f false S h
    rw [← hk]
    have hl : S.log2 < Fl.top f := (Nat.log2_lt h).2 hS
    unfold Fl.top at hl
    have hk2 : k + 4 ≤ 2 ^ f.exponentBits := by omega
    have : (k + 4) * f.binade ≤ 2 ^ f.exponentBits * f.binade := Nat.mul_le_mul_right _ hk2
    unfold Format.infRung
    rw [Nat.sub_mul, Nat.add_mul] at *
    omega

theorem rndN_exact (f : Format) (n t : Nat) (h : n ≤ 2 ^ (f.fractionBits + 1)) : rndN f (n * 2 ^ t) = n * 2 ^ t := by
  unfold rndN
  by_cases hn : n = 0
  · subst hn; simp [cutE]
  · have ht := log2_shift n t hn
    rw [ht]
    have hl : n.log2 ≤ f.fractionBits + 1 := by
      have h1 : 2 ^ n.log2 ≤ n := Nat.log2_self_le hn
      exact (Nat.pow_le_pow_iff_right (by omega)).1 (Nat.le_trans h1 h)
    generalize hk : n.log2 + t - f.fractionBits = k
    rcases Nat.lt_or_ge t k with h1 | h1
    · -- then n = 2 ^ (fb + 1)
      have e1 : n.log2 = f.fractionBits + 1 := by omega
      have e2 : n = 2 ^ (f.fractionBits + 1) := Nat.le_antisymm h (by have := Nat.log2_self_le hn; rwa [e1] at this)
      have e3 : k = t + 1 := by omega
      rw [e2, e3, ← Nat.pow_add, show f.fractionBits + 1 + t = f.fractionBits + (t + 1) by omega, Nat.pow_add, cutE_mul]
    · rw [show t = (t - k) + k by omega, Nat.pow_add, ← Nat.mul_assoc, cutE_mul]

theorem rndN_err (f : Format) (S : Nat) : 2 * rndN f S ≤ 2 * S + 2 ^ (S.log2 - f.fractionBits) ∧ 2 * S ≤ 2 * rndN f S + 2 ^ (S.log2 - f.fractionBits) := cutE_err S _

/-- the error in parts of the value: at most 1 part in '2 ^ (fb + 1)', or nothing -/
theorem rndN_rel (f : Format) (S : Nat) : 2 ^ (f.fractionBits + 1) * rndN f S ≤ 2 ^ (f.fractionBits + 1) * S + S ∧ 2 ^ (f.fractionBits + 1) * S ≤ 2 ^ (f.fractionBits + 1) * rndN f S + S := by
  by_cases h : S = 0
  · subst h; simp [rndN, cutE]
  · rcases Nat.lt_or_ge f.fractionBits S.log2 with h1 | h1
    · have he := rndN_err f S
      have h2 : 2 ^ S.log2 ≤ S := Nat.log2_self_le h
      have h3 : 2 ^ f.fractionBits * 2 ^ (S.log2 - f.fractionBits) = 2 ^ S.log2 := by rw [← Nat.pow_add]; congr 1; omega
      generalize 2 ^ (S.log2 - f.fractionBits) = g at *
      have hp : 0 < 2 ^ f.fractionBits := Nat.two_pow_pos _
      rw [Nat.pow_succ]
      generalize 2 ^ f.fractionBits = b at *
      have a1 := Nat.mul_le_mul_left b he.1
      have a2 := Nat.mul_le_mul_left b he.2
      rw [Nat.mul_add] at a1 a2
      constructor <;> grind
    · have : rndN f S = S := by
        unfold rndN
        rw [show S.log2 - f.fractionBits = 0 by omega, cutE_zero]; simp
      rw [this]; omega

theorem rndN_mono (f : Format) {a b : Nat} (h : a ≤ b) : rndN f a ≤ rndN f b := by
  by_cases ha : a = 0
  · subst ha; simp [rndN, cutE]
  · have hb : b ≠ 0 := by omega
    have hl : a.log2 ≤ b.log2 := by
      have h1 : 2 ^ a.log2 ≤ a := Nat.log2_self_le ha
      have h2 : b < 2 ^ (b.log2 + 1) := Nat.lt_log2_self
      have := (Nat.pow_lt_pow_iff_right (show 1 < 2 by omega)).1 (Nat.lt_of_le_of_lt (Nat.le_trans h1 h) h2)
      omega
    unfold rndN
    generalize hka : a.log2 - f.fractionBits = ka
    generalize hkb : b.log2 - f.fractionBits = kb
    rcases Nat.lt_or_ge ka kb with hk | hk
    · -- a rounds to at most 2 ^ (fb + 1 + ka), b to at least 2 ^ (fb + kb)
      have h2 : a < 2 ^ (a.log2 + 1) := Nat.lt_log2_self
      have h3 : a ≤ 2 ^ (f.fractionBits + 1) * 2 ^ ka := by
        rw [← Nat.pow_add]
        exact Nat.le_of_lt (Nat.lt_of_lt_of_le h2 (Nat.pow_le_pow_right (by omega) (by omega)))
      have h4 : 2 ^ f.fractionBits * 2 ^ kb ≤ b := by
        rw [← Nat.pow_add, show f.fractionBits + kb = b.log2 by omega]; exact Nat.log2_self_le hb
      have c1 := cutE_mono (d := ka) h3
      have c2 := cutE_mono (d := kb) h4
      rw [cutE_mul] at c1 c2
      have d1 := Nat.mul_le_mul_right (2 ^ ka) c1
      have d2 := Nat.mul_le_mul_right (2 ^ kb) c2
      refine Nat.le_trans d1 (Nat.le_trans ?_ d2)
      rw [← Nat.pow_add, ← Nat.pow_add]
      exact Nat.pow_le_pow_right (by omega) (by omega)
    · have : ka = kb := by omega
      subst this
      exact Nat.mul_le_mul_right _ (cutE_mono h)
end Fl
end Go.Proofs.Ytdnhdfnghkkncaa
namespace Go.Proofs.Ytdnhdfnghkkncaa
namespace Fl
open Ieee

/-! ### rounding 'M / 2 ^ d' units of the least place -/
def rndD (f : Format) (d M : Nat) : Nat := cutE M (M.log2 - d - f.fractionBits + d) * 2 ^ (M.log2 - d - f.fractionBits)

theorem rndD_zero (f : Format) (M : Nat) : rndD f 0 M = rndN f M := by simp [rndD, rndN]

theorem rndD_mul (f : Format) (d N : Nat) : rndD f d (N * 2 ^ d) = rndN f N := by
  by_cases h : N = 0
  · subst h; simp [rndD, rndN, cutE]
  · unfold rndD rndN
    rw [log2_shift N d h, show N.log2 + d - d = N.log2 by omega, cutE_shift]

theorem cellD (f : Format) (neg : Bool) (d M : Nat) (h : M ≠ 0) :
    ∃ k, k = M.log2 - d - f.fractionBits ∧ cutE M (k + d) ≤ 2 * f.binade ∧ (k = 0 ∨ f.binade ≤ cutE M (k + d)) ∧
      f.nearest neg M (f.leastPlace - d) = f.word neg (min (k * f.binade + cutE M (k + d)) f.infRung) := by
  refine ⟨M.log2 - d - f.fractionBits, rfl, ?_, ?_, ?_⟩
  · generalize hk : M.log2 - d - f.fractionBits = k
    have h2 : M < 2 ^ (M.log2 + 1) := Nat.lt_log2_self
    have h3 : 2 ^ (M.log2 + 1) ≤ 2 ^ (f.fractionBits + 1 + (k + d)) := Nat.pow_le_pow_right (by omega) (by omega)
    have h4 : M ≤ (2 * f.binade) * 2 ^ (k + d) := by
      have : 2 ^ (f.fractionBits + 1 + (k + d)) = (2 * f.binade) * 2 ^ (k + d) := by
        rw [Nat.pow_add, Nat.pow_succ, Nat.mul_comm _ 2]; rfl
      omega
    have := cutE_mono (d := k + d) h4
    rwa [cutE_mul] at this
  · generalize hk : M.log2 - d - f.fractionBits = k
    rcases Nat.eq_zero_or_pos k with h0 | h0
    · exact .inl h0
    · refine .inr ?_
      have h1 : 2 ^ M.log2 ≤ M := Nat.log2_self_le h
      have h4 : f.binade * 2 ^ (k + d) ≤ M := by
        have : f.binade * 2 ^ (k + d) = 2 ^ (f.fractionBits + (k + d)) := (Nat.pow_add ..).symm
        rw [this, show f.fractionBits + (k + d) = M.log2 by omega]; exact h1
      have := cutE_mono (d := k + d) h4
      rwa [cutE_mul] at this
  · rw [nearest_eq f neg M _ h]
    have e1 : (max (f.leastPlace - d + M.log2 - f.fractionBits) f.leastPlace - f.leastPlace).toNat = M.log2 - d - f.fractionBits := by omega
    have e2 : (f.leastPlace - d - max (f.leastPlace - d + M.log2 - f.fractionBits) f.leastPlace).toNat = 0 := by omega
    have e3 : (max (f.leastPlace - d + M.log2 - f.fractionBits) f.leastPlace - (f.leastPlace - d)).toNat = M.log2 - d - f.fractionBits + d := by omega
    rw [e1, e2, e3]
    simp

theorem no_overD (f : Format) (he : 2 ≤ f.exponentBits) (d M : Nat) (hM : M < 2 ^ (Fl.top f + d)) : (M.log2 - d - f.fractionBits) * f.binade + cutE M (M.log2 - d - f.fractionBits + d) < f.infRung := by
  have hb := bin_pos f
  have h4 : 2 ^ 2 ≤ 2 ^ f.exponentBits := Nat.pow_le_pow_right (by omega) he
  by_cases h : M = 0
  · subst h
    simp [cutE, Format.infRung]
    exact Nat.mul_pos (by omega) hb
  · obtain ⟨k, hk, h1, _, _⟩ := cellD f false d M h
    rw [← hk]
    have hl : M.log2 < Fl.top f + d := (Nat.log2_lt h).2 hM
    unfold Fl.top at hl
    have hk2 : k + 4 ≤ 2 ^ f.exponentBits := by omega
    have : (k + 4) * f.binade ≤ 2 ^ f.exponentBits * f.binade := Nat.mul_le_mul_right _ hk2
    unfold Format.infRung
    rw [Nat.sub_mul, Nat.add_mul] at *
    omega

theorem infRung_pos (f : Format) (he : 2 ≤ f.exponentBits) : 0 < f.infRung := by
  have h4 : 2 ^ 2 ≤ 2 ^ f.exponentBits := Nat.pow_le_pow_right (by omega) he
  exact Nat.mul_pos (by omega) (bin_pos f)

theorem sc_nearestD (f : Format) (he : 2 ≤ f.exponentBits) (neg : Bool) (d M : Nat) (hM : M < 2 ^ (Fl.top f + d)) :
    isNum f (f.nearest neg M (f.leastPlace - d)) = true ∧ sc f (f.nearest neg M (f.leastPlace - d)) = sg neg (rndD f d M) := by
  by_cases h : M = 0
  · subst h
    have := sc_word f neg (infRung_pos f he)
    simp only [Format.nearest, if_pos]
    simpa [rndD, cutE, rv, bin_pos f] using this
  · have hS := no_overD f he d M hM
    obtain ⟨k, rfl, h1, h2, h3⟩ := cellD f neg d M h
    rw [h3, Nat.min_eq_left (Nat.le_of_lt hS)]
    have := sc_word f neg hS
    rw [rv_cell f h1 h2] at this
    exact this

/-- the error of 'rndD', in parts of the value, where the value is not subnormal: at most 1 part in '2 ^ (fb + 1)' -/
theorem rndD_err (f : Format) (d M : Nat) : 2 * (rndD f d M * 2 ^ d) ≤ 2 * M + 2 ^ (M.log2 - d - f.fractionBits + d) ∧ 2 * M ≤ 2 * (rndD f d M * 2 ^ d) + 2 ^ (M.log2 - d - f.fractionBits + d) := by
  have := cutE_err M (M.log2 - d - f.fractionBits + d)
  unfold rndD
  rw [Nat.mul_assoc, ← Nat.pow_add]
  exact this

/-! ### the reading of a word that is a number -/
theorem isNum_iff (f : Format) (x : Nat) : isNum f x = true ↔ ∃ s m p, f.read x = .number s m p ∧ f.leastPlace ≤ p ∧ m < 2 ^ (f.fractionBits + 1) ∧ sc f x = sg s (m * 2 ^ (p - f.leastPlace).toNat) := by
  constructor
  · intro h
    unfold isNum at h
    unfold sc
    have hb := bin_pos f
    have e2 : 2 ^ (f.fractionBits + 1) = f.binade + f.binade := by rw [Nat.pow_succ, Nat.mul_two]; rfl
    cases hr : f.read x with
    | infinity s => simp [hr] at h
    | nan s t => simp [hr] at h
    | number s m p =>
      refine ⟨s, m, p, rfl, ?_, ?_, signed_eq ..⟩
      · unfold Format.read at hr
        simp only at hr
        split at hr
        · injection hr with _ _ h3; omega
        · split at hr
          · injection hr with _ _ h3; omega
          · split at hr <;> cases hr
      · unfold Format.read at hr
        simp only at hr
        split at hr
        · injection hr with _ h2 _; omega
        · split at hr
          · injection hr with _ h2 _
            have := Nat.mod_lt (x % f.signWeight) hb
            omega
          · split at hr <;> cases hr
  · rintro ⟨s, m, p, h, _⟩
    simp [isNum, h]

def rnd (f : Format) (S : Int) : Int := sg (decide (S < 0)) (rndN f S.natAbs)

theorem sg_natAbs (n : Int) : sg (decide (n < 0)) n.natAbs = n := by
  unfold sg; split <;> simp_all <;> omega

theorem sg_zero (b : Bool) : sg b 0 = 0 := by cases b <;> rfl
theorem sg_natAbs' (b : Bool) (n : Nat) : (sg b n).natAbs = n := by cases b <;> simp [sg]
theorem rndN_zero (f : Format) : rndN f 0 = 0 := by simp [rndN, cutE]
theorem rndD_z (f : Format) (d : Nat) : rndD f d 0 = 0 := by simp [rndD, cutE]

theorem sg_mul (s : Bool) (a b : Nat) : sg s (a * b) = sg s a * b := by cases s <;> simp [sg, Int.neg_mul]
theorem sg_not (s : Bool) (a : Nat) : sg (!s) a = - sg s a := by cases s <;> simp [sg]

theorem sum_core (f : Format) (he : 2 ≤ f.exponentBits) {s t : Bool} {m n : Nat} {i j : Int} (hi : f.leastPlace ≤ i) (hj : f.leastPlace ≤ j) (A B : Int)
    (hA : A = sg s (m * 2 ^ (i - f.leastPlace).toNat)) (hB : B = sg t (n * 2 ^ (j - f.leastPlace).toNat)) (hS : (A + B).natAbs < 2 ^ (Fl.top f)) :
    ∃ r, ((Datum.number s m i).sum (Datum.number t n j)).map f.write = some r ∧ isNum f r = true ∧ sc f r = rnd f (A + B) := by
  simp only [Datum.sum, Option.map_some, Format.write]
  refine ⟨_, rfl, ?_⟩
  simp only [signed_eq]
  generalize hT : sg s (m * 2 ^ (i - min i j).toNat) + sg t (n * 2 ^ (j - min i j).toNat) = T
  have hd : f.leastPlace ≤ min i j := by omega
  have e : A + B = T * ((2 ^ (min i j - f.leastPlace).toNat : Nat) : Int) := by
    rw [← hT, hA, hB, Int.add_mul, ← sg_mul, ← sg_mul, Nat.mul_assoc, Nat.mul_assoc, ← Nat.pow_add, ← Nat.pow_add]
    rw [show (i - min i j).toNat + (min i j - f.leastPlace).toNat = (i - f.leastPlace).toNat by omega, show (j - min i j).toNat + (min i j - f.leastPlace).toNat = (j - f.leastPlace).toNat by omega]
  have en : (A + B).natAbs = T.natAbs * 2 ^ (min i j - f.leastPlace).toNat := by rw [e, Int.natAbs_mul, Int.natAbs_natCast]
  have epl : min i j = f.leastPlace + ((min i j - f.leastPlace).toNat : Nat) := by omega
  generalize hneg : (if T = 0 then s && t else decide (T < 0)) = neg
  have key := sc_nearestD f he neg 0 ((A + B).natAbs) (by simpa using hS)
  rw [show f.leastPlace - ((0 : Nat) : Int) = f.leastPlace by omega, rndD_zero] at key
  rw [en, nearest_shift, ← epl] at key
  refine ⟨key.1, key.2.trans ?_⟩
  unfold rnd
  rw [en]
  by_cases hT0 : T = 0
  · subst hT0; simp [rndN_zero, sg_zero]
  · rw [if_neg hT0] at hneg
    subst hneg
    congr 1
    rw [decide_eq_decide, e]
    have hp : 0 < ((2 ^ (min i j - f.leastPlace).toNat : Nat) : Int) := by exact_mod_cast Nat.two_pow_pos _
    constructor
    · intro h; exact Int.mul_neg_of_neg_of_pos h hp
    · intro h
      rcases Int.lt_or_le T 0 with h1 | h1
      · exact h1
      · have := Int.mul_nonneg h1 (Int.le_of_lt hp); omega

theorem add_num (f : Format) (he : 2 ≤ f.exponentBits) {x y : Nat} (hx : isNum f x = true) (hy : isNum f y = true) (hS : (sc f x + sc f y).natAbs < 2 ^ (Fl.top f)) :
    ∃ r, f.add x y = some r ∧ isNum f r = true ∧ sc f r = rnd f (sc f x + sc f y) := by
  obtain ⟨s, m, i, h1, h2, _, h3⟩ := (isNum_iff f x).1 hx
  obtain ⟨t, n, j, g1, g2, _, g3⟩ := (isNum_iff f y).1 hy
  unfold Format.add
  rw [h1, g1]
  exact sum_core f he h2 g2 _ _ h3 g3 hS

theorem sub_num (f : Format) (he : 2 ≤ f.exponentBits) {x y : Nat} (hx : isNum f x = true) (hy : isNum f y = true) (hS : (sc f x - sc f y).natAbs < 2 ^ (Fl.top f)) :
    ∃ r, f.sub x y = some r ∧ isNum f r = true ∧ sc f r = rnd f (sc f x - sc f y) := by
  obtain ⟨s, m, i, h1, h2, _, h3⟩ := (isNum_iff f x).1 hx
  obtain ⟨t, n, j, g1, g2, _, g3⟩ := (isNum_iff f y).1 hy
  unfold Format.sub
  rw [h1, g1]
  have g3' : - sc f y = sg (!t) (n * 2 ^ (j - f.leastPlace).toNat) := by rw [sg_not, g3]
  have := sum_core f he h2 g2 _ _ h3 g3' (by rwa [← Int.sub_eq_add_neg])
  rw [← Int.sub_eq_add_neg] at this
  exact this

theorem mul_num (f : Format) (he : 2 ≤ f.exponentBits) {x y : Nat} (hx : isNum f x = true) (hy : isNum f y = true) (d : Nat) (hd : (d : Int) = - f.leastPlace)
    (hS : (sc f x * sc f y).natAbs < 2 ^ (Fl.top f + d)) :
    ∃ r, f.mul x y = some r ∧ isNum f r = true ∧ sc f r = sg (decide (sc f x * sc f y < 0)) (rndD f d (sc f x * sc f y).natAbs) := by
  obtain ⟨s, m, i, h1, h2, _, h3⟩ := (isNum_iff f x).1 hx
  obtain ⟨t, n, j, g1, g2, _, g3⟩ := (isNum_iff f y).1 hy
  unfold Format.mul
  rw [h1, g1]
  simp only [Datum.product, Option.map_some, Format.write]
  refine ⟨_, rfl, ?_⟩
  have en : (sc f x * sc f y).natAbs = m * n * 2 ^ ((i - f.leastPlace).toNat + (j - f.leastPlace).toNat) := by
    rw [Int.natAbs_mul, h3, g3, sg_natAbs', sg_natAbs', Nat.pow_add]
    grind
  have key := sc_nearestD f he (s ^^ t) d _ hS
  rw [en, nearest_shift] at key
  rw [show f.leastPlace - (d : Int) + (((i - f.leastPlace).toNat + (j - f.leastPlace).toNat : Nat) : Int) = i + j by omega] at key
  refine ⟨key.1, key.2.trans ?_⟩
  rw [en]
  by_cases h0 : (sc f x * sc f y) = 0
  · have : (sc f x * sc f y).natAbs = 0 := by omega
    rw [en] at this
    rw [this, rndD_z, sg_zero, sg_zero]
  · congr 1
    rw [h3, g3] at h0 ⊢
    generalize m * 2 ^ (i - f.leastPlace).toNat = a at *
    generalize n * 2 ^ (j - f.leastPlace).toNat = b at *
    have ha : a ≠ 0 := by rintro rfl; simp [sg_zero] at h0
    have hb : b ≠ 0 := by rintro rfl; simp [sg_zero] at h0
    have hab : 0 < (a : Int) * b := Int.mul_pos (by omega) (by omega)
    cases s <;> cases t <;> simp [sg, Int.neg_mul, Int.mul_neg] <;> omega
end Fl
end Go.Proofs.Ytdnhdfnghkkncaa
namespace Go.Proofs.Ytdnhdfnghkkncaa
namespace Fl
open Ieee

theorem order_num (f : Format) {x y : Nat} (hx : isNum f x = true) (hy : isNum f y = true) : f.order x y = some (compare (sc f x) (sc f y)) := by
  obtain ⟨s, m, i, h1, h2, _, h3⟩ := (isNum_iff f x).1 hx
  obtain ⟨t, n, j, g1, g2, _, g3⟩ := (isNum_iff f y).1 hy
  unfold Format.order
  rw [h1, g1]
  simp only [Datum.order, signed_eq]
  have hd : f.leastPlace ≤ min i j := by omega
  have e1 : sc f x = sg s (m * 2 ^ (i - min i j).toNat) * ((2 ^ (min i j - f.leastPlace).toNat : Nat) : Int) := by
    rw [h3, ← sg_mul, Nat.mul_assoc, ← Nat.pow_add, show (i - min i j).toNat + (min i j - f.leastPlace).toNat = (i - f.leastPlace).toNat by omega]
  have e2 : sc f y = sg t (n * 2 ^ (j - min i j).toNat) * ((2 ^ (min i j - f.leastPlace).toNat : Nat) : Int) := by
    rw [g3, ← sg_mul, Nat.mul_assoc, ← Nat.pow_add, show (j - min i j).toNat + (min i j - f.leastPlace).toNat = (j - f.leastPlace).toNat by omega]
  rw [e1, e2]
  have hp : 0 < ((2 ^ (min i j - f.leastPlace).toNat : Nat) : Int) := by exact_mod_cast Nat.two_pow_pos _
  generalize sg s (m * 2 ^ (i - min i j).toNat) = a
  generalize sg t (n * 2 ^ (j - min i j).toNat) = b
  generalize ((2 ^ (min i j - f.leastPlace).toNat : Nat) : Int) = c at hp
  congr 1
  rcases Int.lt_trichotomy a b with h | h | h
  · rw [Int.compare_eq_lt.2 h, Int.compare_eq_lt.2 (Int.mul_lt_mul_of_pos_right h hp)]
  · subst h; simp
  · rw [Int.compare_eq_gt.2 h, Int.compare_eq_gt.2 (Int.mul_lt_mul_of_pos_right h hp)]

/-- a whole number made a float -/
theorem ofInt_num (f : Format) (he : 2 ≤ f.exponentBits) (n : Int) (L : Nat) (hL : (L : Int) = - f.leastPlace) (hn : n.natAbs ≤ 2 ^ (f.fractionBits + 1)) (ht : f.fractionBits + 1 + L < top f) :
    isNum f (f.write (.number (decide (n < 0)) n.natAbs 0)) = true ∧ sc f (f.write (.number (decide (n < 0)) n.natAbs 0)) = n * ((2 ^ L : Nat) : Int) := by
  simp only [Format.write]
  have hlt : n.natAbs * 2 ^ L < 2 ^ (top f + 0) := by
    have h1 : n.natAbs * 2 ^ L ≤ 2 ^ (f.fractionBits + 1 + L) := by rw [Nat.pow_add]; exact Nat.mul_le_mul_right _ hn
    exact Nat.lt_of_le_of_lt h1 (Nat.pow_lt_pow_right (by omega) ht)
  have key := sc_nearestD f he (decide (n < 0)) 0 (n.natAbs * 2 ^ L) hlt
  rw [nearest_shift, rndD_zero, rndN_exact f _ _ hn, show f.leastPlace - ((0 : Nat) : Int) + (L : Int) = 0 by omega] at key
  refine ⟨key.1, key.2.trans ?_⟩
  rw [sg_mul, sg_natAbs]

theorem not_inf_of_isNum {f : Format} {x : Nat} (h : isNum f x = true) : (f.read x).isInfinity = false := by
  obtain ⟨s, m, i, h1, _⟩ := (isNum_iff f x).1 h
  rw [h1]; rfl

theorem sg_of (s : Bool) (n : Nat) (S : Int) (h : S = sg s n) (h0 : S ≠ 0) : s = decide (S < 0) := by
  subst h
  cases s <;> simp [sg] at h0 ⊢ <;> omega

/-- how much finer the units of float64 are: 1074 - 149 -/
@[irreducible] def dK : Nat := 925
theorem dK_eq : dK = 925 := by unfold dK; rfl

/-- a float32 made a float64: the same value -/
theorem wide_num {x : Nat} (hx : isNum single x = true) :
    ∃ s m p, single.read x = .number s m p ∧ isNum double (double.write (.number s m p)) = true ∧ sc double (double.write (.number s m p)) = sc single x * ((2 ^ dK : Nat) : Int) := by
  obtain ⟨s, m, p, h1, h2, h2', h3⟩ := (isNum_iff single x).1 hx
  have hl : single.leastPlace = -149 := by decide
  have hl2 : double.leastPlace = -1074 := by decide
  rw [hl] at h2 h3
  refine ⟨s, m, p, h1, ?_⟩
  simp only [Format.write]
  have hp : p ≤ 104 := by
    unfold Format.read at h1
    simp only at h1
    split at h1
    · injection h1 with _ _ h4; rw [hl] at h4; omega
    · split at h1
      · rename_i hr
        injection h1 with _ _ h4
        rw [hl] at h4
        have e1 : single.infRung = 255 * 8388608 := by decide
        have e2 : single.binade = 8388608 := by decide
        rw [e1] at hr
        rw [e2] at h4
        generalize x % single.signWeight = R at *
        have : R / 8388608 ≤ 254 := by omega
        omega
      · split at h1 <;> cases h1
  have hm : m ≤ 2 ^ (double.fractionBits + 1) := by
    have : m < 2 ^ 24 := h2'
    have e : (2 : Nat) ^ 24 ≤ 2 ^ (double.fractionBits + 1) := by decide
    omega
  have hlt : m * 2 ^ (p + 1074).toNat < 2 ^ (top double + 0) := by
    have h5 : m < 2 ^ 24 := h2'
    obtain ⟨e, he⟩ : ∃ e : Nat, e = 1178 := ⟨_, rfl⟩
    have h6 : 2 ^ (p + 1074).toNat ≤ 2 ^ e := Nat.pow_le_pow_right (by omega) (by omega)
    have h7 : (2 : Nat) ^ 24 * 2 ^ e < 2 ^ (top double + 0) := by
      rw [← Nat.pow_add]; exact Nat.pow_lt_pow_right (by omega) (by rw [he]; decide)
    exact Nat.lt_of_le_of_lt (Nat.mul_le_mul (Nat.le_of_lt h5) h6) h7
  have key := sc_nearestD double (by decide) s 0 (m * 2 ^ (p + 1074).toNat) hlt
  rw [nearest_shift, rndD_zero, rndN_exact double _ _ hm, hl2, show (-1074 : Int) - ((0 : Nat) : Int) + ((p + 1074).toNat : Int) = p by omega] at key
  refine ⟨key.1, key.2.trans ?_⟩
  rw [h3, ← sg_mul, Nat.mul_assoc, ← Nat.pow_add, show (p - -149).toNat + dK = (p + 1074).toNat by rw [dK_eq]; omega]

/-- a float64 made a float32, where it is not too great -/
theorem narrow_num {x : Nat} (hx : isNum double x = true) (hs : (sc double x).natAbs < 2 ^ (top single + dK)) :
    ∃ s m p, double.read x = .number s m p ∧ isNum single (single.write (.number s m p)) = true ∧ sc single (single.write (.number s m p)) = sg (decide (sc double x < 0)) (rndD single dK (sc double x).natAbs) := by
  obtain ⟨s, m, p, h1, h2, h2', h3⟩ := (isNum_iff double x).1 hx
  have hl : single.leastPlace = -149 := by decide
  have hl2 : double.leastPlace = -1074 := by decide
  rw [hl2] at h2 h3
  refine ⟨s, m, p, h1, ?_⟩
  simp only [Format.write]
  have key := sc_nearestD single (by decide) s dK _ hs
  have en : (sc double x).natAbs = m * 2 ^ (p - -1074).toNat := by rw [h3, sg_natAbs']
  rw [en, nearest_shift, hl, show (-149 : Int) - (dK : Int) + ((p - -1074).toNat : Int) = p by rw [dK_eq]; omega] at key
  refine ⟨key.1, key.2.trans ?_⟩
  rw [en]
  by_cases h0 : sc double x = 0
  · have : (sc double x).natAbs = 0 := by omega
    rw [en] at this
    rw [this, rndD_z, sg_zero, sg_zero]
  · congr 1
    exact sg_of s _ _ h3 h0

/-! ### division -/
theorem div_num (f : Format) {x y : Nat} (hx : isNum f x = true) (hy : isNum f y = true) (h0 : sc f y ≠ 0) :
    ∃ s m i t n j, f.read x = .number s m i ∧ f.read y = .number t n j ∧ n ≠ 0 ∧ f.leastPlace ≤ i ∧ f.leastPlace ≤ j ∧ m < 2 ^ (f.fractionBits + 1) ∧ n < 2 ^ (f.fractionBits + 1) ∧
      sc f x = sg s (m * 2 ^ (i - f.leastPlace).toNat) ∧ sc f y = sg t (n * 2 ^ (j - f.leastPlace).toNat) ∧
      f.div x y = some (f.nearest (s ^^ t) (2 * ((m * 2 ^ (f.fractionBits + 2 + n.log2 - m.log2)) / n) + ((m * 2 ^ (f.fractionBits + 2 + n.log2 - m.log2)) % n != 0).toNat) (i - j - (f.fractionBits + 2 + n.log2 - m.log2 : Nat) - 1)) := by
  obtain ⟨s, m, i, h1, h2, h2', h3⟩ := (isNum_iff f x).1 hx
  obtain ⟨t, n, j, g1, g2, g2', g3⟩ := (isNum_iff f y).1 hy
  have hn : n ≠ 0 := by rintro rfl; rw [g3] at h0; simp [sg_zero] at h0
  refine ⟨s, m, i, t, n, j, h1, g1, hn, h2, g2, h2', g2', h3, g3, ?_⟩
  unfold Format.div
  rw [h1, g1]
  simp only [Datum.quotient, if_neg hn, Option.map_some, Format.write, Nat.shiftLeft_eq]

/-- A quotient by a power of two. -/
theorem div_pow (f : Format) (he : 2 ≤ f.exponentBits) {x y : Nat} (hx : isNum f x = true) (h : Nat) (hy : f.read y = .number false f.binade ((h : Int) - f.fractionBits)) (hlt : (sc f x).natAbs < 2 ^ (top f + h)) :
    ∃ r, f.div x y = some r ∧ isNum f r = true ∧ sc f r = sg (decide (sc f x < 0)) (rndD f h (sc f x).natAbs) := by
  obtain ⟨s, m, i, h1, h2, h2', h3⟩ := (isNum_iff f x).1 hx
  unfold Format.div
  rw [h1, hy]
  have hb := bin_pos f
  simp only [Datum.quotient, if_neg (Nat.ne_of_gt hb), Option.map_some, Format.write, Nat.shiftLeft_eq, Bool.bne_false]
  refine ⟨_, rfl, ?_⟩
  have hlb : f.binade.log2 = f.fractionBits := Nat.log2_two_pow
  have hlm : m.log2 ≤ f.fractionBits := by
    by_cases h0 : m = 0
    · subst h0; simp
    · have := (Nat.log2_lt h0).2 h2'; omega
  rw [hlb]
  have e1 : m * 2 ^ (f.fractionBits + 2 + f.fractionBits - m.log2) = (m * 2 ^ (f.fractionBits + 2 - m.log2)) * f.binade := by
    unfold Format.binade
    rw [Nat.mul_assoc, ← Nat.pow_add]; congr 2; omega
  rw [e1, Nat.mul_div_cancel _ hb, Nat.mul_mod_left]
  simp only [bne_self_eq_false, Bool.toNat_false, Nat.add_zero]
  have e2 : 2 * (m * 2 ^ (f.fractionBits + 2 - m.log2)) = m * 2 ^ (f.fractionBits + 3 - m.log2) := by
    rw [show f.fractionBits + 3 - m.log2 = f.fractionBits + 2 - m.log2 + 1 by omega, Nat.pow_succ]; grind
  rw [e2, nearest_shift]
  rw [show i - ((h : Int) - f.fractionBits) - ((f.fractionBits + 2 + f.fractionBits - m.log2 : Nat) : Int) - 1 + ((f.fractionBits + 3 - m.log2 : Nat) : Int) = i - h by omega]
  have en : (sc f x).natAbs = m * 2 ^ (i - f.leastPlace).toNat := by rw [h3, sg_natAbs']
  have key := sc_nearestD f he s h _ hlt
  rw [en, nearest_shift, show f.leastPlace - (h : Int) + ((i - f.leastPlace).toNat : Int) = i - h by omega] at key
  refine ⟨key.1, key.2.trans ?_⟩
  rw [en]
  by_cases h0 : sc f x = 0
  · have : (sc f x).natAbs = 0 := by omega
    rw [en] at this
    rw [this, rndD_z, sg_zero, sg_zero]
  · congr 1
    exact sg_of s _ _ h3 h0
end Fl
end Go.Proofs.Ytdnhdfnghkkncaa
