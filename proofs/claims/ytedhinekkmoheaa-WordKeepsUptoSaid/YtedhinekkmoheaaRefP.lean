/- Plain laws: the reference's sums of bits are the fields, moves and turns. No program in sight. -/
import Derived.Test.YtedhinekkmoheaaWordP
namespace Go.Proofs.Ytedhinekkmoheaa.WP

theorem two_pos (k : Nat) : 0 < (2 : Nat) ^ k := Nat.pos_of_ne_zero (by simp)
/-- one bit more of a field -/
theorem fieldN_step (w lo k : Nat) : fieldN w lo (k + 1) = fieldN w lo k + w / 2 ^ (lo + k) % 2 * 2 ^ k := by
  unfold fieldN
  rw [Nat.pow_succ, Nat.mod_mul, Nat.div_div_eq_div_mul, ← Nat.pow_add, Nat.mul_comm (2 ^ k)]
/-- the word with the k lowest bits of v from lo on, as a sum -/
def setA (w lo k v : Nat) : Nat := w % 2 ^ lo + 2 ^ lo * (v % 2 ^ k) + 2 ^ (lo + k) * (w / 2 ^ (lo + k))
theorem setA_zero (w lo v : Nat) : setA w lo 0 v = w := by
  unfold setA; rw [Nat.pow_zero, Nat.mod_one, Nat.mul_zero, Nat.add_zero, Nat.add_zero]; exact Nat.mod_add_div w (2 ^ lo)
theorem setA_step (w lo k v : Nat) : setA w lo (k + 1) v + w / 2 ^ (lo + k) % 2 * 2 ^ (lo + k) = setA w lo k v + v / 2 ^ k % 2 * 2 ^ (lo + k) := by
  unfold setA
  have h1 : v % 2 ^ (k + 1) = v % 2 ^ k + 2 ^ k * (v / 2 ^ k % 2) := by rw [Nat.pow_succ, Nat.mod_mul]
  have h2 : w / 2 ^ (lo + k) = w / 2 ^ (lo + k) % 2 + 2 * (w / 2 ^ (lo + (k + 1))) := by
    rw [show lo + (k + 1) = (lo + k) + 1 by omega, Nat.pow_succ, ← Nat.div_div_eq_div_mul]; omega
  have h3 : (2 : Nat) ^ (lo + (k + 1)) = 2 ^ (lo + k) * 2 := by rw [show lo + (k + 1) = (lo + k) + 1 by omega, Nat.pow_succ]
  have h4 : (2 : Nat) ^ lo * 2 ^ k = 2 ^ (lo + k) := (Nat.pow_add 2 lo k).symm
  generalize w / 2 ^ (lo + (k + 1)) = q at *
  rw [h1, h3, Nat.mul_add, ← Nat.mul_assoc, h4]
  generalize hb : w / 2 ^ (lo + k) % 2 = b at *
  rw [h2]
  generalize (2 : Nat) ^ (lo + k) = P at *
  generalize v / 2 ^ k % 2 = c at *
  rw [Nat.mul_add P, Nat.mul_assoc P 2 q, Nat.mul_comm b P, Nat.mul_comm c P]
  omega
theorem testBit_add_mul (a b i : Nat) (ha : a < 2 ^ i) (j : Nat) : (a + 2 ^ i * b).testBit j = if j < i then a.testBit j else b.testBit (j - i) := by
  rw [Nat.add_comm]; exact Nat.testBit_two_pow_mul_add b ha j
theorem setA_eq (w lo k v : Nat) (hw : w < 4294967296) (h : lo + k ≤ 32) : setA w lo k v = setN w lo k v := by
  apply Nat.eq_of_testBit_eq; intro i
  rw [testBit_setN _ _ _ _ _ hw h]
  unfold setA
  have b1 : w % 2 ^ lo < 2 ^ lo := Nat.mod_lt _ (two_pos lo)
  have b2 : w % 2 ^ lo + 2 ^ lo * (v % 2 ^ k) < 2 ^ (lo + k) := by
    have h5 : v % 2 ^ k + 1 ≤ 2 ^ k := Nat.mod_lt _ (two_pos k)
    have h6 : 2 ^ lo * (v % 2 ^ k + 1) ≤ 2 ^ lo * 2 ^ k := Nat.mul_le_mul_left _ h5
    rw [← Nat.pow_add, Nat.mul_add] at h6
    omega
  rw [testBit_add_mul _ _ _ b2, testBit_add_mul _ _ _ b1, Nat.testBit_mod_two_pow, Nat.testBit_mod_two_pow, Nat.testBit_div_two_pow]
  by_cases h1 : i < lo + k
  · by_cases h2 : i < lo
    · simp [h1, h2]; intro; omega
    · have h3 : lo ≤ i := by omega
      have h4 : i - lo < k := by omega
      simp [h1, h2, h3, h4]
  · simp [h1, show i - (lo + k) + (lo + k) = i by omega]
/-- turned to the right by k, as sums of j bits -/
def rotP (w k j : Nat) : Nat := if j ≤ k then (w % 2 ^ j) * 2 ^ (32 - k) else (w % 2 ^ k) * 2 ^ (32 - k) + w / 2 ^ k % 2 ^ (j - k)
theorem rotP_zero (w k : Nat) : rotP w k 0 = 0 := by unfold rotP; simp [Nat.mod_one]
theorem rotP_step (w k j : Nat) (hk : k ≤ 31) (hj : j < 32) : rotP w k (j + 1) = rotP w k j + w / 2 ^ j % 2 * 2 ^ ((j + 32 - k) % 32) := by
  have h1 : w % 2 ^ (j + 1) = w % 2 ^ j + 2 ^ j * (w / 2 ^ j % 2) := by rw [Nat.pow_succ, Nat.mod_mul]
  unfold rotP
  by_cases c : j + 1 ≤ k
  · rw [if_pos c, if_pos (by omega), h1, Nat.add_mul, Nat.mul_comm (2 ^ j), Nat.mul_assoc, ← Nat.pow_add, show (j + 32 - k) % 32 = j + (32 - k) by omega]
  · by_cases c2 : j = k
    · subst c2
      rw [if_neg c, if_pos (Nat.le_refl _), show j + 1 - j = 1 by omega, show (j + 32 - j) % 32 = 0 by omega, Nat.pow_one, Nat.pow_zero, Nat.mul_one]
    · rw [if_neg c, if_neg (by omega), show (j + 32 - k) % 32 = j - k by omega, show j + 1 - k = (j - k) + 1 by omega, Nat.pow_succ, Nat.mod_mul, Nat.div_div_eq_div_mul, ← Nat.pow_add, show k + (j - k) = j by omega]
      rw [Nat.mul_comm (2 ^ (j - k))]; omega
theorem rotP_full (w k : Nat) (hw : w < 4294967296) (hk : k ≤ 31) : rotP w k 32 = rotN w ((32 - k) % 32) := by
  unfold rotP
  have hw' : w / 2 ^ k < 2 ^ (32 - k) := by
    rw [Nat.div_lt_iff_lt_mul (two_pos k), ← Nat.pow_add, show 32 - k + k = 32 by omega]; exact hw
  rw [if_neg (by omega), Nat.mod_eq_of_lt hw']
  apply Nat.eq_of_testBit_eq; intro i
  rw [testBit_rotN _ _ _ hw (by omega), Nat.add_comm, Nat.mul_comm, testBit_add_mul _ _ _ hw', Nat.testBit_div_two_pow, Nat.testBit_mod_two_pow]
  by_cases h0 : k = 0
  · subst h0
    rw [show (32 - 0) % 32 = 0 by decide, if_pos (Nat.zero_le _)]
    by_cases h1 : i < 32
    · simp [h1]
    · simp [h1]
  · rw [show (32 - k) % 32 = 32 - k by omega]
    by_cases h1 : i < 32 - k
    · rw [if_pos h1, if_neg (by omega)]; congr 1; omega
    · rw [if_neg h1, if_pos (by omega)]
      congr 1
      have : (i - (32 - k) < k) ↔ i < 32 := by omega
      simp [this]
/-- moved to the left by one more -/
theorem left_step (w k : Nat) : 2 * (w * 2 ^ k % 4294967296) % 4294967296 = w * 2 ^ (k + 1) % 4294967296 := by
  rw [Nat.pow_succ, Nat.mul_comm 2, Nat.mod_mul_mod, Nat.mul_assoc]
end Go.Proofs.Ytedhinekkmoheaa.WP
