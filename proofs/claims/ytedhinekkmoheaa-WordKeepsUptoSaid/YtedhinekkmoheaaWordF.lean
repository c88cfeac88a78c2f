/- WordFields, the walk: for every word, field and value the law's function returns true, and what was in memory stays. -/
import Derived.Test.YtedhinekkmoheaaWordH
import Derived.BigQuiet
import Derived.Deep.QuietTactic
namespace Go.Proofs.Ytedhinekkmoheaa
open Go.RowKit WP

theorem fieldI_bd (w lo n : Int) (h : n ≤ 32) : 0 ≤ fieldI w lo n ∧ fieldI w lo n ≤ 4294967295 := by
  have := fieldN_lt w.toNat lo.toNat n.toNat (by omega)
  unfold fieldI; omega
theorem setI_bd (w lo n v : Int) (h1 : 0 ≤ w) (h2 : w ≤ 4294967295) (h3 : 0 ≤ n) (h4 : 0 ≤ lo) (h : lo + n ≤ 32) : 0 ≤ setI w lo n v ∧ setI w lo n v ≤ 4294967295 := by
  have := setN_lt w.toNat lo.toNat n.toNat v.toNat (by omega) (by omega)
  unfold setI; omega
theorem rotR_bd (w n : Int) (h1 : 0 ≤ w) (h2 : w ≤ 4294967295) : 0 ≤ rotR w n ∧ rotR w n ≤ 4294967295 := by
  have := rotN_lt w.toNat (-n % 32).toNat (by omega) (by omega)
  unfold rotR rotI; omega
theorem f_moves (w lo n : Int) (h1 : 0 ≤ w) (h3 : 1 ≤ n) (h4 : 0 ≤ lo) (h : lo + n ≤ 32) : rightI (leftI w (32 - lo - n)) (32 - lo - n + lo) = fieldI w lo n := by
  obtain ⟨w, rfl⟩ := Int.eq_ofNat_of_zero_le h1
  obtain ⟨n, rfl⟩ := Int.eq_ofNat_of_zero_le (show 0 ≤ n by omega)
  obtain ⟨lo, rfl⟩ := Int.eq_ofNat_of_zero_le h4
  unfold rightI leftI fieldI
  have e1 : min ((32 : Int) - lo - n).toNat 32 = 32 - lo - n := by omega
  have e2 : min ((32 : Int) - lo - n + lo).toNat 32 = 32 - lo - n + lo := by omega
  have e3 : ∀ k : Nat, ((2 : Int) ^ k) = ((2 ^ k : Nat) : Int) := by intro k; simp
  rw [e1, e2, e3, e3, ← Int.natCast_mul]
  have := field_moves w lo n (by omega)
  simp only [Int.toNat_natCast]
  rw [← this]
  simp
theorem f_back (w lo n v : Int) (h1 : 0 ≤ w) (h2 : w ≤ 4294967295) (h3 : 1 ≤ n) (h4 : 0 ≤ lo) (h : lo + n ≤ 32) : setI (setI w lo n v) lo n (fieldI w lo n) = w := by
  unfold setI fieldI
  simp only [Int.toNat_natCast]
  rw [set_back _ _ _ _ (by omega) (by omega)]; omega
theorem f_set (w lo n v : Int) (h1 : 0 ≤ w) (h2 : w ≤ 4294967295) (h3 : 1 ≤ n) (h4 : 0 ≤ lo) (h : lo + n ≤ 32) : fieldI (setI w lo n v) lo n = fieldI v 0 n := by
  unfold setI fieldI
  simp only [Int.toNat_natCast]
  rw [field_set _ _ _ _ (by omega) (by omega)]; rfl
theorem f_set_lo (w lo n v : Int) (h1 : 0 ≤ w) (h2 : w ≤ 4294967295) (h3 : 1 ≤ n) (h4 : 0 ≤ lo) (h : lo + n ≤ 32) : fieldI (setI w lo n v) 0 lo = fieldI w 0 lo := by
  unfold setI fieldI
  simp only [Int.toNat_natCast]
  rw [show (0 : Int).toNat = 0 from rfl, field_set_lo _ _ _ _ (by omega) (by omega)]
theorem f_set_hi (w lo n v u : Int) (h1 : 0 ≤ w) (h2 : w ≤ 4294967295) (h3 : 1 ≤ n) (h4 : 0 ≤ lo) (h : lo + n ≤ 32) : fieldI (setI w lo n v) (lo + n) u = fieldI w (lo + n) u := by
  unfold setI fieldI
  simp only [Int.toNat_natCast]
  rw [show (lo + n).toNat = lo.toNat + n.toNat by omega, field_set_hi _ _ _ _ _ (by omega) (by omega)]
theorem f_rot (w a b : Int) (h1 : 0 ≤ w) (h2 : w ≤ 4294967295) (h : (a + b) % 32 = 0) : rotR (rotR w a) b = w := by
  unfold rotR rotI
  simp only [Int.toNat_natCast]
  rw [rot_rot _ _ _ (by omega) (by omega) (by omega) (by omega)]; omega
theorem f_rot_low (w lo : Int) (h1 : 0 ≤ w) (h2 : w ≤ 4294967295) (h3 : 0 ≤ lo) (h4 : lo ≤ 31) : fieldI (rotR w lo) 0 1 = fieldI w lo 1 := by
  unfold rotR rotI fieldI
  simp only [Int.toNat_natCast]
  by_cases h : lo = 0
  · subst h
    rw [show (-(0:Int) % 32).toNat = 0 from rfl, rotN_zero _ (by omega)]
  · rw [show (0 : Int).toNat = 0 from rfl, show (1 : Int).toNat = 1 from rfl, rot_low _ _ (by omega) (by omega) (by omega)]
    congr 2; omega
/-- the lowest n bits with a sign -/
theorem ext_val (w n : Int) (h1 : 0 ≤ w) (h2 : w ≤ 4294967295) (h3 : 1 ≤ n) (h4 : n ≤ 32) :
    ∃ b : Int, (b = 0 ∨ b = 1) ∧ b = fieldI w (n - 1) 1 ∧ extI w n = fieldI w 0 n - b * 2 ^ n.toNat ∧ 0 ≤ fieldI w 0 n ∧ (b = 0 → fieldI w 0 n < 2 ^ (n - 1).toNat) ∧ (b = 1 → 2 ^ (n - 1).toNat ≤ fieldI w 0 n) ∧ fieldI w 0 n < 2 ^ n.toNat := by
  obtain ⟨w, rfl⟩ := Int.eq_ofNat_of_zero_le h1
  obtain ⟨n, rfl⟩ := Int.eq_ofNat_of_zero_le (show 0 ≤ n by omega)
  have e3 : ∀ k : Nat, ((2 : Int) ^ k) = ((2 ^ k : Nat) : Int) := by intro k; simp
  refine ⟨fieldI w (n - 1) 1, ?_, rfl, ?_⟩
  · have := fieldN_lt w (n - 1) 1 (by omega)
    unfold fieldI fieldN
    simp only [Int.toNat_natCast, Int.toNat_one]
    omega
  obtain ⟨m, rfl⟩ : ∃ m, n = m + 1 := ⟨n - 1, by omega⟩
  unfold extI fieldI fieldN wrap32
  have t1 : (((m + 1 : Nat) : Int) - 1).toNat = m := by omega
  have t2 : ((32 : Int) - ((m + 1 : Nat) : Int)).toNat = 31 - m := by omega
  simp only [t1, t2, Int.toNat_natCast, Int.toNat_one, Int.toNat_zero, e3, Nat.pow_zero, Nat.div_one]
  rw [← Int.natCast_mul]
  have p1 : (2 : Nat) ^ (m + 1) = 2 * 2 ^ m := by rw [Nat.pow_succ]; omega
  have p2 : (2 : Nat) ^ m * 2 ^ (31 - m) = 2147483648 := by rw [← Nat.pow_add, show m + (31 - m) = 31 by omega]
  rw [p1]
  generalize (2 : Nat) ^ m = p at *
  generalize (2 : Nat) ^ (31 - m) = q at *
  have hp : 0 < p := by rcases Nat.eq_zero_or_pos p with h | h; (rw [h] at p2; omega); exact h
  have hq : 0 < q := by rcases Nat.eq_zero_or_pos q with h | h; (rw [h] at p2; omega); exact h
  have m1 : w * q % 4294967296 = (w % (2 * p)) * q := by
    have : 4294967296 = (2 * p) * q := by rw [Nat.mul_assoc, p2]
    rw [this, Nat.mul_mod_mul_right]
  have d1 : w % (2 * p) = w % p + p * (w / p % 2) := by rw [Nat.mul_comm 2 p]; exact Nat.mod_mul
  have d2 : w / p % 2 = 0 ∨ w / p % 2 = 1 := by omega
  have d3 : w % p < p := Nat.mod_lt _ hp
  have m2 : ((w * q : Nat) : Int) % 4294967296 = (((w % (2 * p)) * q : Nat) : Int) := by rw [← m1]; omega
  rw [m2]
  have p2' : q * p = 2147483648 := by rw [Nat.mul_comm]; exact p2
  rcases d2 with d2 | d2
  · rw [d2] at d1 ⊢
    rw [d1]
    have l1 : (w % p) * q < 2147483648 := by rw [← p2]; exact Nat.mul_lt_mul_of_pos_right d3 hq
    refine ⟨?_, by omega, by omega, by omega, by omega⟩
    have : (((w % p + p * 0) * q : Nat) : Int) = (((w % p) * q : Nat) : Int) := by simp
    rw [this]
    have e : ((((w % p) * q : Nat) : Int) + 2147483648) % 4294967296 - 2147483648 = (((w % p) * q : Nat) : Int) := by omega
    rw [e, ← Int.natCast_ediv, Nat.mul_div_cancel _ hq]; simp
  · rw [d2] at d1 ⊢
    rw [d1]
    have l1 : (w % p) * q < 2147483648 := by rw [← p2]; exact Nat.mul_lt_mul_of_pos_right d3 hq
    refine ⟨?_, by omega, by omega, by omega, by omega⟩
    have : (((w % p + p * 1) * q : Nat) : Int) = (((w % p) * q : Nat) : Int) + 2147483648 := by
      rw [Nat.mul_one, Nat.add_mul, p2]; simp
    rw [this]
    have e : ((((w % p) * q : Nat) : Int) + 2147483648 + 2147483648) % 4294967296 - 2147483648 = ((w % p : Nat) : Int) * (q : Int) - (p : Int) * (q : Int) := by
      rw [← Int.natCast_mul, ← Int.natCast_mul, p2]; omega
    rw [e, ← Int.sub_mul, Int.mul_ediv_cancel _ (by omega)]
    simp; omega
theorem f_ext_low (w n : Int) (h1 : 0 ≤ w) (h2 : w ≤ 4294967295) (h3 : 1 ≤ n) (h4 : n ≤ 32) : fieldI (extI w n % 4294967296) 0 n = fieldI w 0 n := by
  obtain ⟨b, hb, _, he, h0, _, _, hlt⟩ := ext_val w n h1 h2 h3 h4
  rw [he]
  have e3 : ∀ k : Nat, ((2 : Int) ^ k) = ((2 ^ k : Nat) : Int) := by intro k; simp
  generalize hx : fieldI w 0 n = x at *
  have hdvd : (2 : Nat) ^ n.toNat ∣ 4294967296 := (Nat.pow_dvd_pow 2 (show n.toNat ≤ 32 by omega) : 2 ^ n.toNat ∣ 2 ^ 32)
  unfold fieldI fieldN
  rw [show (0 : Int).toNat = 0 from rfl, Nat.pow_zero, Nat.div_one]
  rw [e3] at hlt ⊢
  generalize (2 : Nat) ^ n.toNat = p at *
  obtain ⟨c, hc⟩ := hdvd
  have hp : 0 < p := by rcases Nat.eq_zero_or_pos p with h | h; (rw [h] at hc; omega); exact h
  rw [Int.natCast_emod, Int.toNat_of_nonneg (by omega)]
  have hc' : (4294967296 : Int) = (p : Int) * (c : Int) := by rw [← Int.natCast_mul, ← hc]; rfl
  rw [hc', Int.emod_emod_of_dvd _ (Int.dvd_mul_right _ _)]
  rw [Int.sub_mul_emod_self_right]
  exact Int.emod_eq_of_lt h0 hlt
theorem f_ext_sign (w n : Int) (h1 : 0 ≤ w) (h2 : w ≤ 4294967295) (h3 : 1 ≤ n) (h4 : n ≤ 32) : (decide (extI w n < 0) == (fieldI w (n - 1) 1 == 1)) = true := by
  obtain ⟨b, hb, hf, he, h0, _, _, hlt⟩ := ext_val w n h1 h2 h3 h4
  rw [← hf, he]
  rcases hb with rfl | rfl
  · simp; omega
  · simp; omega
theorem f_ext_arith (w n : Int) (h3 : 1 ≤ n) (h4 : n ≤ 32) : arithI (leftI w (32 - n)) (32 - n) = extI w n % 4294967296 := by
  unfold arithI leftI extI
  rw [show min (32 - n).toNat 32 = (32 - n).toNat by omega]
theorem f_ext_bd (w n : Int) (h1 : 0 ≤ w) (h2 : w ≤ 4294967295) (h3 : 1 ≤ n) (h4 : n ≤ 32) : -2147483648 ≤ extI w n ∧ extI w n ≤ 2147483647 := by
  unfold extI
  have hp : (1 : Int) ≤ 2 ^ (32 - n).toNat := by
    have e3 : ((2 : Int) ^ (32 - n).toNat) = ((2 ^ (32 - n).toNat : Nat) : Int) := by simp
    rw [e3]; have := @Nat.one_le_two_pow (32 - n).toNat; omega
  have hb : ∀ x : Int, -2147483648 ≤ wrap32 x ∧ wrap32 x ≤ 2147483647 := by intro x; unfold wrap32; omega
  have hx := hb (w * 2 ^ (32 - n).toNat % 4294967296)
  generalize wrap32 (w * 2 ^ (32 - n).toNat % 4294967296) = x at *
  generalize (2 : Int) ^ (32 - n).toNat = p at *
  constructor
  · exact (Int.le_ediv_iff_mul_le (by omega)).2 (by have : -2147483648 * p ≤ -2147483648 * 1 := Int.mul_le_mul_of_nonpos_left (by omega) hp; omega)
  · by_cases h : 0 ≤ x
    · have := Int.ediv_le_self p h; omega
    · have := Int.ediv_neg_of_neg_of_pos (show x < 0 by omega) (show 0 < p by omega); omega
end Go.Proofs.Ytedhinekkmoheaa
