/- The contracts of the reference's functions on numbers (layer 1): two, bit, may, Field, SetField, Extend, Left, Right, Signed, half, wrapped, Arith, Rotate, Add, Div, Less, Overlap. -/
import Derived.Test.YtedhinekkmoheaaWordT
import Derived.Test.YtedhinekkmoheaaRefP
namespace Go.Proofs.Ytedhinekkmoheaa
open Go.RowKit WP

def twoI (n : Int) : Int := ((2 ^ n.toNat : Nat) : Int)
theorem twoI_bd (n : Int) (h : n ≤ 62) : 1 ≤ twoI n ∧ twoI n ≤ 4611686018427387904 := by
  unfold twoI
  have h1 : (2 : Nat) ^ n.toNat ≤ 2 ^ 62 := Nat.pow_le_pow_right (by decide) (by omega)
  have h2 := two_pos n.toNat
  omega
theorem twoI_le (n : Int) (m : Nat) (h : n ≤ m) : twoI n ≤ ((2 ^ m : Nat) : Int) := by
  unfold twoI
  have h1 : (2 : Nat) ^ n.toNat ≤ 2 ^ m := Nat.pow_le_pow_right (by decide) (by omega)
  omega
theorem twoI_succ (k : Nat) : twoI ((k : Int) + 1) = 2 * twoI k := by
  unfold twoI
  rw [show ((k : Int) + 1).toNat = k + 1 by omega, Int.toNat_natCast, Nat.pow_succ]; omega
theorem two_any (n : Int) (w : World) (h1 : 0 ≤ n) (h2 : n ≤ 62) :
    Calls Try.prog 41 #[.int .i64 n] w fun e w' => e = .returned (.int .i64 (twoI n)) ∧ w = w' := by
  obtain ⟨n, rfl⟩ := Int.eq_ofNat_of_zero_le h1
  go_enter Try.func41, Try.ntmps41
  go_wp2
  go_loop [3, 4] (fun p i => ∃ k : Nat, k ≤ n ∧ i = .int .i64 k ∧ p = .int .i64 (twoI k)) (fun _ i => n - (intOf i).toNat)
  case atStart => exact ⟨0, by omega, rfl, rfl⟩
  case round =>
    obtain ⟨k, hk, rfl, rfl⟩ := hrel
    by_cases hlt : k < n
    · have ht := Lib.hid (twoI_succ k)
      have hb : twoI k ≤ 2305843009213693952 := twoI_le k 61 (by omega)
      have hb0 := (twoI_bd k (by omega)).1
      go_wp2
      go_round
      case rel => exact ⟨k + 1, by omega, by go_num, congrArg (Value.int .i64) (by rw [← ht.out]; rfl)⟩
      case measure => simp [intOf]; omega
    · obtain rfl : k = n := by omega
      go_wp2
      go_ret
      exact ⟨rfl, rfl⟩
def bitI (w i : Int) : Int := ((w.toNat / 2 ^ i.toNat % 2 : Nat) : Int)
theorem bitI_bd (w i : Int) : 0 ≤ bitI w i ∧ bitI w i ≤ 1 := by unfold bitI; omega
theorem bit_any (x i : Int) (w : World) (x1 : 0 ≤ x) (x2 : x ≤ 4294967295) (h1 : 0 ≤ i) (h2 : i ≤ 62) :
    Calls Try.prog 63 #[.int .u32 x, .int .i64 i] w fun e w' => e = .returned (.int .i64 (bitI x i)) ∧ w = w' := by
  obtain ⟨b1, b2⟩ := twoI_bd i h2
  have d1 : 0 ≤ x / twoI i := Int.ediv_nonneg x1 (by omega)
  have d2 : x / twoI i ≤ 4294967295 := Int.le_trans (Int.ediv_le_self _ x1) x2
  have hfin : x / twoI i % 2 = bitI x i := by
    obtain ⟨x, rfl⟩ := Int.eq_ofNat_of_zero_le x1
    unfold bitI twoI
    rw [Int.toNat_natCast, ← Int.natCast_ediv]; omega
  have hz : (twoI i == 0) = false := by rw [beq_eq_false_iff_ne]; omega
  go_enter Try.func63, Try.ntmps63
  have hfin := Lib.hid hfin
  go_wp2_with (go_at_call 41; refine (two_any _ _ (by omega) (by omega)).mono ?_; rintro e w' ⟨rfl, rfl⟩)
  go_ret
  exact ⟨ret1 hfin.out, rfl⟩
theorem rmay_yes (lo n : Int) (w : World) (h1 : 1 ≤ n) (h2 : n ≤ 32) (h3 : 0 ≤ lo) (h4 : lo ≤ 31) (h5 : lo + n ≤ 32) :
    Calls Try.prog 62 #[.int .i64 lo, .int .i64 n] w fun e w' => e = .returned (.bool true) ∧ w = w' := by
  go_enter Try.func62, Try.ntmps62
  go_wp2; go_ret; exact ⟨by first | rfl | (simp; done) | (simp; omega), rfl⟩
theorem rmay_no (lo n : Int) (w : World) (b1 : -9223372036854775808 ≤ n) (b2 : n ≤ 9223372036854775807) (b3 : -9223372036854775808 ≤ lo) (b4 : lo ≤ 9223372036854775807) (h : n < 1 ∨ 32 < n ∨ lo < 0 ∨ 31 < lo ∨ 32 < lo + n) :
    Calls Try.prog 62 #[.int .i64 lo, .int .i64 n] w fun e w' => e = .returned (.bool false) ∧ w = w' := by
  have hmay : (n < 1) ∨ (1 ≤ n ∧ 32 < n) ∨ (1 ≤ n ∧ n ≤ 32 ∧ lo < 0) ∨ (1 ≤ n ∧ n ≤ 32 ∧ 0 ≤ lo ∧ 31 < lo) ∨ (1 ≤ n ∧ n ≤ 32 ∧ 0 ≤ lo ∧ lo ≤ 31 ∧ 32 < lo + n) := by omega
  clear h
  rcases hmay with c | ⟨c1, c⟩ | ⟨c1, c2, c⟩ | ⟨c1, c2, c3, c⟩ | ⟨c1, c2, c3, c4, c⟩
  all_goals
    go_enter Try.func62, Try.ntmps62
    go_wp2; go_ret; exact ⟨by first | rfl | (simp; done) | (simp; omega), rfl⟩
theorem fieldI_step (x lo : Int) (k : Nat) (h : 0 ≤ lo) : fieldI x lo ((k : Int) + 1) = fieldI x lo k + bitI x (lo + k) * twoI k := by
  unfold fieldI bitI twoI
  rw [show ((k : Int) + 1).toNat = k + 1 by omega, show (lo + (k : Int)).toNat = lo.toNat + k by omega, Int.toNat_natCast, fieldN_step, ← Int.natCast_mul]; omega
theorem bit_two_bd (b t : Int) (M : Int) (b1 : 0 ≤ b) (b2 : b ≤ 1) (t1 : 1 ≤ t) (t2 : t ≤ M) : 0 ≤ b * t ∧ b * t ≤ M := by
  have : b = 0 ∨ b = 1 := by omega
  rcases this with rfl | rfl <;> simp <;> omega
theorem rfield_yes (x lo n : Int) (w : World) (x1 : 0 ≤ x) (x2 : x ≤ 4294967295) (h1 : 1 ≤ n) (h3 : 0 ≤ lo) (h5 : lo + n ≤ 32) :
    Calls Try.prog 49 #[.int .u32 x, .int .i64 lo, .int .i64 n] w fun e w' => e = .returned (.int .u32 (fieldI x lo n)) ∧ w = w' := by
  obtain ⟨n, rfl⟩ := Int.eq_ofNat_of_zero_le (show 0 ≤ n by omega)
  go_enter Try.func49, Try.ntmps49
  go_wp2_with (go_at_call 62; refine (rmay_yes _ _ _ (by omega) (by omega) (by omega) (by omega) (by omega)).mono ?_; rintro e w' ⟨rfl, rfl⟩)
  go_loop [7, 8] (fun r i => ∃ k : Nat, k ≤ n ∧ i = .int .i64 k ∧ r = .int .i64 (fieldI x lo k)) (fun _ i => n - (intOf i).toNat)
  case atStart => exact ⟨0, by omega, rfl, congrArg (Value.int .i64) (by simp [fieldI, fieldN, Nat.mod_one])⟩
  case round =>
    obtain ⟨k, hk, rfl, rfl⟩ := hrel
    obtain ⟨f1, f2⟩ := fieldI_bd x lo k (by omega)
    by_cases hlt : k < n
    · have hst := Lib.hid (fieldI_step x lo k h3)
      obtain ⟨b1, b2⟩ := bitI_bd x (lo + k)
      obtain ⟨t1, _⟩ := twoI_bd k (by omega)
      have t2 : twoI k ≤ 4294967296 := twoI_le k 32 (by omega)
      obtain ⟨p1, p2⟩ := bit_two_bd _ _ 4294967296 b1 b2 t1 t2
      go_wp2_with (first
        | (go_at_call 63; refine (bit_any _ _ _ (by omega) (by omega) (by omega) (by omega)).mono ?_; rintro e w' ⟨rfl, rfl⟩)
        | (go_at_call 41; refine (two_any _ _ (by omega) (by omega)).mono ?_; rintro e w' ⟨rfl, rfl⟩))
      go_round
      case rel => exact ⟨k + 1, by omega, by go_num, congrArg (Value.int .i64) (by rw [← hst.out]; rfl)⟩
      case measure => simp [intOf]; omega
    · obtain rfl : k = n := by omega
      have hm : fieldI x lo k % 4294967296 = fieldI x lo k := by omega
      go_wp2
      go_ret
      exact ⟨rfl, rfl⟩
theorem rfield_no (x lo n : Int) (w : World) (b1 : -9223372036854775808 ≤ n) (b2 : n ≤ 9223372036854775807) (b3 : -9223372036854775808 ≤ lo) (b4 : lo ≤ 9223372036854775807) (h : n < 1 ∨ 32 < n ∨ lo < 0 ∨ 31 < lo ∨ 32 < lo + n) :
    Calls Try.prog 49 #[.int .u32 x, .int .i64 lo, .int .i64 n] w fun e w' => e = .returned (.int .u32 0) ∧ w = w' := by
  have H := Lib.hid h; clear h
  go_enter Try.func49, Try.ntmps49
  go_wp2_with (go_at_call 62; refine (rmay_no _ _ _ b1 b2 b3 b4 H.out).mono ?_; rintro e w' ⟨rfl, rfl⟩)
  go_ret
  exact ⟨rfl, rfl⟩
theorem setI_zero (x lo v : Int) (x1 : 0 ≤ x) (x2 : x ≤ 4294967295) (h : lo ≤ 32) : setI x lo 0 v = x := by
  unfold setI
  rw [Int.toNat_zero, ← setA_eq _ _ _ _ (by omega) (by omega), setA_zero]; omega
theorem setI_step (x lo v : Int) (k : Nat) (x1 : 0 ≤ x) (x2 : x ≤ 4294967295) (h3 : 0 ≤ lo) (h : lo + k + 1 ≤ 32) : setI x lo ((k : Int) + 1) v = setI x lo k v + (bitI v k - bitI x (lo + k)) * twoI (lo + k) := by
  unfold setI bitI twoI
  have h1 := setA_step x.toNat lo.toNat k v.toNat
  rw [setA_eq _ _ _ _ (by omega) (by omega), setA_eq _ _ _ _ (by omega) (by omega)] at h1
  rw [show ((k : Int) + 1).toNat = k + 1 by omega, show (lo + (k : Int)).toNat = lo.toNat + k by omega, Int.toNat_natCast, Int.sub_mul, ← Int.natCast_mul, ← Int.natCast_mul]
  omega
theorem diff_two_bd (b c t : Int) (M : Int) (b1 : 0 ≤ b) (b2 : b ≤ 1) (c1 : 0 ≤ c) (c2 : c ≤ 1) (t1 : 1 ≤ t) (t2 : t ≤ M) : -M ≤ (b - c) * t ∧ (b - c) * t ≤ M := by
  have hb : b = 0 ∨ b = 1 := by omega
  have hc : c = 0 ∨ c = 1 := by omega
  rcases hb with rfl | rfl <;> rcases hc with rfl | rfl <;> simp <;> omega
theorem rset_yes (x lo n v : Int) (w : World) (x1 : 0 ≤ x) (x2 : x ≤ 4294967295) (v1 : 0 ≤ v) (v2 : v ≤ 4294967295) (h1 : 1 ≤ n) (h3 : 0 ≤ lo) (h5 : lo + n ≤ 32) :
    Calls Try.prog 50 #[.int .u32 x, .int .i64 lo, .int .i64 n, .int .u32 v] w fun e w' => e = .returned (.int .u32 (setI x lo n v)) ∧ w = w' := by
  obtain ⟨n, rfl⟩ := Int.eq_ofNat_of_zero_le (show 0 ≤ n by omega)
  have h0 := Lib.hid (setI_zero x lo v x1 x2 (by omega))
  go_enter Try.func50, Try.ntmps50
  go_wp2_with (go_at_call 62; refine (rmay_yes _ _ _ (by omega) (by omega) (by omega) (by omega) (by omega)).mono ?_; rintro e w' ⟨rfl, rfl⟩)
  go_loop [9, 10] (fun r i => ∃ k : Nat, k ≤ n ∧ i = .int .i64 k ∧ r = .int .i64 (setI x lo k v)) (fun _ i => n - (intOf i).toNat)
  case atStart => exact ⟨0, by omega, rfl, congrArg (Value.int .i64) h0.out.symm⟩
  case round =>
    obtain ⟨k, hk, rfl, rfl⟩ := hrel
    obtain ⟨f1, f2⟩ := setI_bd x lo k v x1 x2 (by omega) h3 (by omega)
    by_cases hlt : k < n
    · have hst := Lib.hid (setI_step x lo v k x1 x2 h3 (by omega))
      obtain ⟨b1, b2⟩ := bitI_bd x (lo + k)
      obtain ⟨c1, c2⟩ := bitI_bd v k
      obtain ⟨t1, _⟩ := twoI_bd (lo + k) (by omega)
      have t2 : twoI (lo + k) ≤ 4294967296 := twoI_le (lo + k) 32 (by omega)
      obtain ⟨p1, p2⟩ := diff_two_bd _ _ _ 4294967296 c1 c2 b1 b2 t1 t2
      go_wp2_with (first
        | (go_at_call 63; refine (bit_any _ _ _ (by omega) (by omega) (by omega) (by omega)).mono ?_; rintro e w' ⟨rfl, rfl⟩)
        | (go_at_call 41; refine (two_any _ _ (by omega) (by omega)).mono ?_; rintro e w' ⟨rfl, rfl⟩))
      go_round
      case rel => exact ⟨k + 1, by omega, by go_num, congrArg (Value.int .i64) (by rw [← hst.out]; rfl)⟩
      case measure => simp [intOf]; omega
    · obtain rfl : k = n := by omega
      have hm : setI x lo k v % 4294967296 = setI x lo k v := by omega
      go_wp2
      go_ret
      exact ⟨rfl, rfl⟩
theorem rset_no (x lo n v : Int) (w : World) (b1 : -9223372036854775808 ≤ n) (b2 : n ≤ 9223372036854775807) (b3 : -9223372036854775808 ≤ lo) (b4 : lo ≤ 9223372036854775807) (h : n < 1 ∨ 32 < n ∨ lo < 0 ∨ 31 < lo ∨ 32 < lo + n) :
    Calls Try.prog 50 #[.int .u32 x, .int .i64 lo, .int .i64 n, .int .u32 v] w fun e w' => e = .returned (.int .u32 x) ∧ w = w' := by
  have H := Lib.hid h; clear h
  go_enter Try.func50, Try.ntmps50
  go_wp2_with (go_at_call 62; refine (rmay_no _ _ _ b1 b2 b3 b4 H.out).mono ?_; rintro e w' ⟨rfl, rfl⟩)
  go_ret
  exact ⟨rfl, rfl⟩
end Go.Proofs.Ytedhinekkmoheaa
