/- Plain laws on words of 32 bits: fields, moves, turns, by their bits. No program in sight. -/
namespace Go.Proofs.YtiknookfnameiaaGreatDoor.WP
/-! plain laws on words: fields, moves, turns -/
def maskN (lo n : Nat) : Nat := (2 ^ n - 1) * 2 ^ lo
def fieldN (w lo n : Nat) : Nat := w / 2 ^ lo % 2 ^ n
def setN (w lo n v : Nat) : Nat := (w &&& (4294967295 - maskN lo n)) ||| ((v * 2 ^ lo % 4294967296) &&& maskN lo n)
def rotN (w s : Nat) : Nat := (w * 2 ^ s % 4294967296) ||| (w / 2 ^ (32 - s))

theorem testBit_maskN (lo n i : Nat) : (maskN lo n).testBit i = (decide (lo ≤ i) && decide (i < lo + n)) := by
  unfold maskN
  rw [Nat.testBit_mul_two_pow, Nat.testBit_two_pow_sub_one]
  by_cases h : lo ≤ i <;> simp [h]
  omega
theorem lt32_of_testBit {x : Nat} (h : ∀ i, 32 ≤ i → x.testBit i = false) : x < 4294967296 :=
  Nat.lt_pow_two_of_testBit (n := 32) x h
theorem testBit_hi {x : Nat} (h : x < 4294967296) {i : Nat} (hi : 32 ≤ i) : x.testBit i = false :=
  Nat.testBit_lt_two_pow (Nat.lt_of_lt_of_le h (Nat.pow_le_pow_right (by decide) hi : 2 ^ 32 ≤ 2 ^ i))
theorem maskN_lt (lo n : Nat) (h : lo + n ≤ 32) : maskN lo n < 4294967296 :=
  lt32_of_testBit fun i hi => by rw [testBit_maskN]; simp; omega
theorem testBit_not (m i : Nat) (h : m < 4294967296) : (4294967295 - m).testBit i = (decide (i < 32) && !m.testBit i) := by
  have := Nat.testBit_two_pow_sub_succ (n := 32) h i
  rw [← this]; congr 1; omega
theorem testBit_fieldN (w lo n i : Nat) : (fieldN w lo n).testBit i = (decide (i < n) && w.testBit (i + lo)) := by
  unfold fieldN; rw [Nat.testBit_mod_two_pow, Nat.testBit_div_two_pow]
theorem testBit_setN (w lo n v i : Nat) (hw : w < 4294967296) (h : lo + n ≤ 32) :
    (setN w lo n v).testBit i = if lo ≤ i ∧ i < lo + n then v.testBit (i - lo) else w.testBit i := by
  have e : (4294967296 : Nat) = 2 ^ 32 := by decide
  unfold setN
  rw [e, Nat.testBit_or, Nat.testBit_and, Nat.testBit_and, testBit_not _ _ (maskN_lt lo n h), testBit_maskN, Nat.testBit_mod_two_pow, Nat.testBit_mul_two_pow]
  by_cases h1 : lo ≤ i <;> by_cases h2 : i < lo + n <;> by_cases h3 : i < 32 <;> simp [h1, h2, h3]
  all_goals first | omega | exact testBit_hi hw (by omega)
theorem testBit_rotN (w s i : Nat) (hw : w < 4294967296) (hs : s ≤ 32) :
    (rotN w s).testBit i = if s ≤ i then (decide (i < 32) && w.testBit (i - s)) else w.testBit (i + (32 - s)) := by
  have e : (4294967296 : Nat) = 2 ^ 32 := by decide
  unfold rotN
  rw [e, Nat.testBit_or, Nat.testBit_mod_two_pow, Nat.testBit_mul_two_pow, Nat.testBit_div_two_pow]
  by_cases h1 : s ≤ i <;> by_cases h3 : i < 32 <;> simp [h1, h3]
  · intro h; rw [testBit_hi hw (by omega)] at h; cases h
  · exact testBit_hi hw (by omega)
theorem field_prog (w lo n : Nat) : (w &&& maskN lo n) / 2 ^ lo = fieldN w lo n := by
  apply Nat.eq_of_testBit_eq; intro i
  rw [Nat.testBit_div_two_pow, Nat.testBit_and, testBit_maskN, testBit_fieldN]
  by_cases h : i < n <;> simp [h]
  · intro _; omega
  · intro _; omega
theorem fieldN_lt (w lo n : Nat) (h : n ≤ 32) : fieldN w lo n < 4294967296 :=
  lt32_of_testBit fun i hi => by rw [testBit_fieldN]; simp; omega
theorem setN_lt (w lo n v : Nat) (hw : w < 4294967296) (h : lo + n ≤ 32) : setN w lo n v < 4294967296 :=
  lt32_of_testBit fun i hi => by rw [testBit_setN _ _ _ _ _ hw h, if_neg (by omega), testBit_hi hw hi]
theorem rotN_lt (w s : Nat) (hw : w < 4294967296) (h : s ≤ 32) : rotN w s < 4294967296 :=
  lt32_of_testBit fun i hi => by rw [testBit_rotN _ _ _ hw h, if_pos (by omega)]; simp; omega

/-- (1) a field is the word moved up, then down -/
theorem field_moves (w lo n : Nat) (h : lo + n ≤ 32) :
    (w * 2 ^ (32 - lo - n) % 4294967296) / 2 ^ (32 - lo - n + lo) = fieldN w lo n := by
  have e : (4294967296 : Nat) = 2 ^ 32 := by decide
  apply Nat.eq_of_testBit_eq; intro i
  rw [e, Nat.testBit_div_two_pow, Nat.testBit_mod_two_pow, Nat.testBit_mul_two_pow, testBit_fieldN]
  by_cases h1 : i < n <;> simp [h1]
  · have h2 : i + (32 - lo - n + lo) < 32 := by omega
    have h3 : 32 ≤ i + (32 - lo - n + lo) + n + lo := by omega
    have h4 : i + (32 - lo - n + lo) - (32 - lo - n) = i + lo := by omega
    simp only [h2, h3, h4, decide_true, Bool.true_and]
  · intro _; omega
theorem set_back (w lo n v : Nat) (hw : w < 4294967296) (h : lo + n ≤ 32) : setN (setN w lo n v) lo n (fieldN w lo n) = w := by
  apply Nat.eq_of_testBit_eq; intro i
  rw [testBit_setN _ _ _ _ _ (setN_lt w lo n v hw h) h, testBit_setN _ _ _ _ _ hw h, testBit_fieldN]
  by_cases h1 : lo ≤ i ∧ i < lo + n
  · simp [h1]
    have h2 : i - lo < n := by omega
    simp [h2]
  · simp [h1]
theorem field_set (w lo n v : Nat) (hw : w < 4294967296) (h : lo + n ≤ 32) : fieldN (setN w lo n v) lo n = fieldN v 0 n := by
  apply Nat.eq_of_testBit_eq; intro i
  rw [testBit_fieldN, testBit_setN _ _ _ _ _ hw h, testBit_fieldN]
  by_cases h1 : i < n <;> simp [h1]
  intro _; omega
theorem field_set_lo (w lo n v : Nat) (hw : w < 4294967296) (h : lo + n ≤ 32) : fieldN (setN w lo n v) 0 lo = fieldN w 0 lo := by
  apply Nat.eq_of_testBit_eq; intro i
  rw [testBit_fieldN, testBit_setN _ _ _ _ _ hw h, testBit_fieldN]
  by_cases h1 : i < lo <;> simp [h1]
  intro _; omega
theorem field_set_hi (w lo n v u : Nat) (hw : w < 4294967296) (h : lo + n ≤ 32) : fieldN (setN w lo n v) (lo + n) u = fieldN w (lo + n) u := by
  apply Nat.eq_of_testBit_eq; intro i
  rw [testBit_fieldN, testBit_setN _ _ _ _ _ hw h, testBit_fieldN]
  by_cases h1 : i < u <;> simp [h1]
  intro _; omega
theorem rot_rot (w s t : Nat) (hw : w < 4294967296) (hs : s ≤ 32) (ht : t ≤ 32) (h : s + t = 32 ∨ s + t = 0 ∨ s + t = 64) : rotN (rotN w s) t = w := by
  apply Nat.eq_of_testBit_eq; intro i
  rw [testBit_rotN _ _ _ (rotN_lt w s hw hs) ht, testBit_rotN _ _ _ hw hs, testBit_rotN _ _ _ hw hs]
  by_cases hi : i < 32
  · rcases h with h | h | h
    · by_cases h1 : t ≤ i
      · rw [if_pos h1, if_neg (by omega), decide_eq_true hi, Bool.true_and]; congr 1; omega
      · rw [if_neg h1, if_pos (by omega), decide_eq_true (show i + (32 - t) < 32 by omega), Bool.true_and]; congr 1; omega
    · rw [if_pos (by omega), if_pos (by omega), decide_eq_true hi, decide_eq_true (show i - t < 32 by omega), Bool.true_and, Bool.true_and]; congr 1; omega
    · rw [if_neg (by omega), if_neg (by omega)]; congr 1; omega
  · rw [testBit_hi (x := w) hw (i := i) (by omega), if_pos (by omega), decide_eq_false hi, Bool.false_and]
theorem rot_low (w s : Nat) (hw : w < 4294967296) (hs : s ≤ 32) (h0 : 0 < s) : fieldN (rotN w s) 0 1 = fieldN w (32 - s) 1 := by
  apply Nat.eq_of_testBit_eq; intro i
  rw [testBit_fieldN, testBit_rotN _ _ _ hw hs, testBit_fieldN]
  by_cases h1 : i < 1 <;> simp [h1]
  intro _; omega
theorem rotN_zero (w : Nat) (hw : w < 4294967296) : rotN w 0 = w := by
  apply Nat.eq_of_testBit_eq; intro i
  rw [testBit_rotN _ _ _ hw (by omega), if_pos (by omega)]
  by_cases h : i < 32 <;> simp [h]
  exact testBit_hi hw (by omega)
end Go.Proofs.YtiknookfnameiaaGreatDoor.WP
