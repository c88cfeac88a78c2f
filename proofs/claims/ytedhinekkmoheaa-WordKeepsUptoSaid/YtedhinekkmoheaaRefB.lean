/- The contracts of the reference's functions on numbers, the second part: Extend, Left, Right, Signed, half, wrapped, Arith, Rotate, Add, Div, Less, Overlap. -/
import Derived.Test.YtedhinekkmoheaaRefA
namespace Go.Proofs.Ytedhinekkmoheaa
open Go.RowKit WP

theorem ext_ref (x n : Int) (h1 : 0 ≤ x) (h2 : x ≤ 4294967295) (h3 : 1 ≤ n) (h4 : n ≤ 32) : fieldI x 0 (n - 1) - bitI x (n - 1) * twoI (n - 1) = extI x n := by
  obtain ⟨b, hb, hf, he, _, _, _, _⟩ := ext_val x n h1 h2 h3 h4
  obtain ⟨m, rfl⟩ : ∃ m : Nat, n = (m : Int) + 1 := ⟨(n - 1).toNat, by omega⟩
  have hs := fieldI_step x 0 m (Int.le_refl 0)
  rw [Int.zero_add] at hs
  have hbit : bitI x m = b := by
    rw [hf]; unfold bitI fieldI fieldN
    rw [show ((m : Int) + 1 - 1).toNat = m by omega, Int.toNat_natCast, Int.toNat_one, Nat.pow_one]
  have h2p : (2 : Int) ^ ((m : Int) + 1).toNat = 2 * twoI m := by
    unfold twoI; rw [show ((m : Int) + 1).toNat = m + 1 by omega, Int.toNat_natCast, Int.pow_succ]; simp; omega
  rw [he, show (m : Int) + 1 - 1 = m by omega, hs, hbit, h2p]
  rcases hb with rfl | rfl <;> omega
theorem rextend_yes (x n : Int) (w : World) (h1 : 0 ≤ x) (h2 : x ≤ 4294967295) (h3 : 1 ≤ n) (h4 : n ≤ 32) :
    Calls Try.prog 51 #[.int .u32 x, .int .i64 n] w fun e w' => e = .returned (.int .i32 (extI x n)) ∧ w = w' := by
  have hfin := ext_ref x n h1 h2 h3 h4
  obtain ⟨g1, g2⟩ := f_ext_bd x n h1 h2 h3 h4
  obtain ⟨c1, c2⟩ := bitI_bd x (n - 1)
  obtain ⟨s1, _⟩ := twoI_bd (n - 1) (by omega)
  have s2 : twoI (n - 1) ≤ 4294967296 := twoI_le (n - 1) 32 (by omega)
  obtain ⟨q1, q2⟩ := bit_two_bd _ _ 4294967296 c1 c2 s1 s2
  obtain ⟨e1, e2⟩ := fieldI_bd x 0 (n - 1) (by omega)
  obtain ⟨m, hm⟩ : ∃ m : Nat, n = (m : Int) + 1 := ⟨(n - 1).toNat, by omega⟩
  have hm1 : (m : Int) = n - 1 := by omega
  have hm1 := Lib.hid hm1
  have hm2 : (m : Int) ≤ n - 1 := by omega
  have hm3 : n - 1 ≤ (m : Int) := by omega
  clear hm
  go_enter Try.func51, Try.ntmps51
  go_wp2
  go_loop [5, 6] (fun r i => ∃ k : Nat, k ≤ m ∧ i = .int .i64 k ∧ r = .int .i64 (fieldI x 0 k)) (fun _ i => m - (intOf i).toNat)
  case atStart => exact ⟨0, by omega, rfl, congrArg (Value.int .i64) (by simp [fieldI, fieldN, Nat.mod_one])⟩
  case round =>
    obtain ⟨k, hk, rfl, rfl⟩ := hrel
    obtain ⟨f1, f2⟩ := fieldI_bd x 0 k (by omega)
    by_cases hlt : k < m
    · have hst : fieldI x 0 ((k : Int) + 1) = fieldI x 0 k + bitI x k * twoI k := by
        have := fieldI_step x 0 k (Int.le_refl 0); rwa [Int.zero_add] at this
      have hst' := Lib.hid hst
      clear hst
      obtain ⟨b1, b2⟩ := bitI_bd x k
      obtain ⟨t1, _⟩ := twoI_bd k (by omega)
      have t2 : twoI k ≤ 4294967296 := twoI_le k 32 (by omega)
      obtain ⟨p1, p2⟩ := bit_two_bd _ _ 4294967296 b1 b2 t1 t2
      have hfin' := Lib.hid hfin
      clear hfin
      go_wp2_with (first
        | (go_at_call 63; refine (bit_any _ _ _ (by omega) (by omega) (by omega) (by omega)).mono ?_; rintro e w' ⟨rfl, rfl⟩)
        | (go_at_call 41; refine (two_any _ _ (by omega) (by omega)).mono ?_; rintro e w' ⟨rfl, rfl⟩))
      go_round
      case rel => exact ⟨k + 1, by omega, by go_num, congrArg (Value.int .i64) (by rw [← hst'.out]; rfl)⟩
      case measure => simp [intOf]; omega
    · have hkm : (k : Int) = n - 1 := by omega
      have hkr : fieldI x 0 (k : Int) = fieldI x 0 (n - 1) := by rw [hkm]
      clear hkm
      go_wp2_with (first
        | (go_at_call 63; refine (bit_any _ _ _ (by omega) (by omega) (by omega) (by omega)).mono ?_; rintro e w' ⟨rfl, rfl⟩)
        | (go_at_call 41; refine (two_any _ _ (by omega) (by omega)).mono ?_; rintro e w' ⟨rfl, rfl⟩))
      go_ret
      exact ⟨rfl, rfl⟩
theorem rextend_no (x n : Int) (w : World) (b1 : -9223372036854775808 ≤ n) (b2 : n ≤ 9223372036854775807) (h : n < 1 ∨ 32 < n):
    Calls Try.prog 51 #[.int .u32 x, .int .i64 n] w fun e w' => e = .returned (.int .i32 0) ∧ w = w' := by
  rcases h with h | h
  · go_enter Try.func51, Try.ntmps51
    go_wp2; go_ret; exact ⟨rfl, rfl⟩
  · have h' : ¬ n < 1 := by omega
    go_enter Try.func51, Try.ntmps51
    go_wp2; go_ret; exact ⟨rfl, rfl⟩
theorem twoI_32 : twoI 32 = 4294967296 := by decide
theorem twoI_31 : twoI 31 = 2147483648 := by decide
theorem leftI_step (x : Int) (k : Nat) (h1 : 0 ≤ x) (hk : k < 32) : 2 * leftI x k % 4294967296 = leftI x ((k : Int) + 1) := by
  obtain ⟨x, rfl⟩ := Int.eq_ofNat_of_zero_le h1
  unfold leftI
  rw [show min ((k : Int)).toNat 32 = k by omega, show min ((k : Int) + 1).toNat 32 = k + 1 by omega]
  have e3 : ∀ k : Nat, ((2 : Int) ^ k) = ((2 ^ k : Nat) : Int) := by intro k; simp
  rw [e3, e3, ← Int.natCast_mul, ← Int.natCast_mul]
  have := left_step x k
  omega
theorem rleft_any (x n : Int) (w : World) (h1 : 0 ≤ x) (h2 : x ≤ 4294967295) (h3 : 0 ≤ n) (h4 : n ≤ 4294967295) :
    Calls Try.prog 52 #[.int .u32 x, .int .u32 n] w fun e w' => e = .returned (.int .u32 (leftI x n)) ∧ w = w' := by
  have t32 := twoI_32
  go_enter Try.func52, Try.ntmps52
  go_wp2
  go_loop [5, 6] (fun r i => ∃ k : Nat, k ≤ 32 ∧ (k : Int) ≤ n ∧ i = .int .u32 k ∧ r = .int .i64 (leftI x k)) (fun _ i => 32 - (intOf i).toNat)
  case atStart => exact ⟨0, by omega, by omega, rfl, congrArg (Value.int .i64) (by simp [leftI]; omega)⟩
  case round =>
    obtain ⟨k, hk, hkn, rfl, rfl⟩ := hrel
    have f1 : 0 ≤ leftI x k := by unfold leftI; omega
    have f2 : leftI x k ≤ 4294967295 := by unfold leftI; omega
    by_cases hlt : (k : Int) < n ∧ k < 32
    · obtain ⟨l1, l2⟩ := hlt
      have hst := Lib.hid (leftI_step x k h1 l2)
      go_wp2_with (go_at_call 41; refine (two_any _ _ (by omega) (by omega)).mono ?_; rintro e w' ⟨rfl, rfl⟩)
      go_round
      case rel => exact ⟨k + 1, by omega, by omega, by go_num, congrArg (Value.int .i64) (by rw [hst.out]; rfl)⟩
      case measure => simp [intOf]; omega
    · have hfin : leftI x k = leftI x n := by
        unfold leftI; congr 3; omega
      have hm : leftI x n % 4294967296 = leftI x n := by unfold leftI; omega
      have hcase : (¬ (k : Int) < n) ∨ ((k : Int) < n ∧ ¬ k < 32) := by omega
      clear hlt
      rcases hcase with c | ⟨c1, c⟩
      all_goals
        go_wp2
        go_ret
        exact ⟨ret1 (by first | rfl | assumption | (rw [hfin]) | (rw [hfin, hm])), rfl⟩
theorem rightI_step (x : Int) (k : Nat) (h1 : 0 ≤ x) (hk : k < 32) : rightI x k / 2 = rightI x ((k : Int) + 1) := by
  unfold rightI
  rw [show min ((k : Int)).toNat 32 = k by omega, show min ((k : Int) + 1).toNat 32 = k + 1 by omega, Int.pow_succ, Int.ediv_ediv_of_nonneg (Int.le_of_lt (Int.pow_pos (by decide)))]
theorem rightI_bd (x n : Int) (h1 : 0 ≤ x) (h2 : x ≤ 4294967295) : 0 ≤ rightI x n ∧ rightI x n ≤ 4294967295 := by
  unfold rightI
  exact ⟨Int.ediv_nonneg h1 (Int.le_of_lt (Int.pow_pos (by decide))), Int.le_trans (Int.ediv_le_self _ h1) h2⟩
theorem rright_any (x n : Int) (w : World) (h1 : 0 ≤ x) (h2 : x ≤ 4294967295) (h3 : 0 ≤ n) (h4 : n ≤ 4294967295) :
    Calls Try.prog 53 #[.int .u32 x, .int .u32 n] w fun e w' => e = .returned (.int .u32 (rightI x n)) ∧ w = w' := by
  go_enter Try.func53, Try.ntmps53
  go_wp2
  go_loop [5, 6] (fun r i => ∃ k : Nat, k ≤ 32 ∧ (k : Int) ≤ n ∧ i = .int .u32 k ∧ r = .int .i64 (rightI x k)) (fun _ i => 32 - (intOf i).toNat)
  case atStart => exact ⟨0, by omega, by omega, rfl, congrArg (Value.int .i64) (by simp [rightI])⟩
  case round =>
    obtain ⟨k, hk, hkn, rfl, rfl⟩ := hrel
    obtain ⟨f1, f2⟩ := rightI_bd x k h1 h2
    by_cases hlt : (k : Int) < n ∧ k < 32
    · obtain ⟨l1, l2⟩ := hlt
      have hst := Lib.hid (rightI_step x k h1 l2)
      go_wp2
      go_round
      case rel => exact ⟨k + 1, by omega, by omega, by go_num, congrArg (Value.int .i64) (by rw [hst.out]; rfl)⟩
      case measure => simp [intOf]; omega
    · have hfin : rightI x k = rightI x n := by
        unfold rightI; congr 2; omega
      have hm : rightI x n % 4294967296 = rightI x n := by obtain ⟨g1, g2⟩ := rightI_bd x n h1 h2; omega
      have hcase : (¬ (k : Int) < n) ∨ ((k : Int) < n ∧ ¬ k < 32) := by omega
      clear hlt
      rcases hcase with c | ⟨c1, c⟩
      all_goals
        go_wp2
        go_ret
        exact ⟨ret1 (by first | rfl | assumption | (rw [hfin]) | (rw [hfin, hm])), rfl⟩
theorem wrap32_lo (x : Int) (h1 : 0 ≤ x) (h2 : x < 2147483648) : wrap32 x = x := by unfold wrap32; omega
theorem wrap32_hi (x : Int) (h1 : 2147483648 ≤ x) (h2 : x ≤ 4294967295) : wrap32 x = x - 4294967296 := by unfold wrap32; omega
theorem wrap32_bd (x : Int) : -2147483648 ≤ wrap32 x ∧ wrap32 x ≤ 2147483647 := by unfold wrap32; omega
theorem rsigned_any (x : Int) (w : World) (h1 : 0 ≤ x) (h2 : x ≤ 4294967295) :
    Calls Try.prog 64 #[.int .u32 x] w fun e w' => e = .returned (.int .i64 (wrap32 x)) ∧ w = w' := by
  have t32 := twoI_32
  have t31 := twoI_31
  by_cases c : x < 2147483648
  · have hw := Lib.hid (wrap32_lo x h1 c)
    go_enter Try.func64, Try.ntmps64
    go_wp2_with (go_at_call 41; refine (two_any _ _ (by omega) (by omega)).mono ?_; rintro e w' ⟨rfl, rfl⟩)
    go_ret
    exact ⟨ret1 (by rw [hw.out]; try rfl), rfl⟩
  · have hw := Lib.hid (wrap32_hi x (by omega) h2)
    go_enter Try.func64, Try.ntmps64
    go_wp2_with (go_at_call 41; refine (two_any _ _ (by omega) (by omega)).mono ?_; rintro e w' ⟨rfl, rfl⟩)
    go_ret
    exact ⟨ret1 (by rw [hw.out]; try rfl), rfl⟩
theorem rhalf_any (n : Int) (w : World) (h1 : -4611686018427387904 ≤ n) (h2 : n ≤ 4611686018427387904) :
    Calls Try.prog 65 #[.int .i64 n] w fun e w' => e = .returned (.int .i64 (n / 2)) ∧ w = w' := by
  have key : ∀ q : Int, (2 * q).tdiv 2 = q := fun q => Int.mul_tdiv_cancel_left q (by decide)
  have keym : ∀ q : Int, (2 * q).tmod 2 = 0 := fun q => Int.mul_tmod_right 2 q
  by_cases c : n % 2 = 0
  · obtain ⟨q, rfl⟩ : ∃ q, n = 2 * q := ⟨n / 2, by omega⟩
    have hq : 2 * q / 2 = q := by omega
    have hq' := Lib.hid hq
    have k1 := key q
    have k2 := keym q
    clear key keym c hq
    by_cases s : 0 ≤ q
    all_goals
      go_enter Try.func65, Try.ntmps65
      go_wp2
      go_ret
      exact ⟨ret1 (by first | rfl | exact hq'.out.symm | (rw [hq'.out]; try first | rfl | exact k1)), rfl⟩
  · obtain ⟨q, rfl⟩ : ∃ q, n = 2 * q + 1 := ⟨n / 2, by omega⟩
    have hq : (2 * q + 1) / 2 = q := by omega
    have hq' := Lib.hid hq
    have k1 := key q
    have k2 : ((2 * q + 1).tmod 2 != 0) = true := by
      rw [bne_iff_ne]; intro h
      have := Int.tmod_add_mul_tdiv (2 * q + 1) 2
      omega
    have k3 : ((2 * q + 1) % 2 != 0) = true := by rw [bne_iff_ne]; omega
    have k4 : 2 * q + 1 - 1 = 2 * q := by omega
    have k5 : 2 * q / 2 = q := by omega
    clear key keym c hq
    by_cases s : 0 ≤ q
    all_goals
      go_enter Try.func65, Try.ntmps65
      go_wp2
      go_ret
      exact ⟨ret1 (by first | rfl | exact hq'.out.symm | (rw [hq'.out]; try first | rfl | exact k1 | exact k5 | (simp [k1, k5]))), rfl⟩
theorem rwrapped_any (n : Int) (w : World) (h1 : -4611686018427387904 ≤ n) (h2 : n ≤ 4611686018427387904) :
    Calls Try.prog 66 #[.int .i64 n] w fun e w' => e = .returned (.int .u32 (n % 4294967296)) ∧ w = w' := by
  have t32 := twoI_32
  by_cases c : 0 ≤ n
  · have b1 : 0 ≤ n % 4294967296 := by omega
    have b2 : n % 4294967296 ≤ 4294967295 := by omega
    go_enter Try.func66, Try.ntmps66
    go_wp2_with (go_at_call 41; refine (two_any _ _ (by omega) (by omega)).mono ?_; rintro e w' ⟨rfl, rfl⟩)
    go_ret
    exact ⟨ret1 (by first | rfl | (simp)), rfl⟩
  · obtain ⟨r, hr⟩ : ∃ r, n.tmod 4294967296 = r := ⟨_, rfl⟩
    have hr2 : r = -(-n % 4294967296) := by
      rw [← hr, ← Int.tmod_eq_emod_of_nonneg (show 0 ≤ -n by omega), Int.neg_tmod]; omega
    have b1 : -4294967295 ≤ r := by omega
    have b2 : r ≤ 0 := by omega
    have hfin : (r < 0 → n % 4294967296 = r + 4294967296) ∧ (r = 0 → n % 4294967296 = 0) := by omega
    have hfin := Lib.hid hfin
    clear hr2
    by_cases c2 : r < 0
    · have e1 := Lib.hid (hfin.out.1 c2)
      go_enter Try.func66, Try.ntmps66
      go_wp2_with (go_at_call 41; refine (two_any _ _ (by omega) (by omega)).mono ?_; rintro e w' ⟨rfl, rfl⟩)
      go_ret
      exact ⟨ret1 (by rw [e1.out]; try first | rfl | (simp)), rfl⟩
    · have e1 := Lib.hid (hfin.out.2 (by omega))
      have c3 := Lib.hid (show r = 0 by omega)
      go_enter Try.func66, Try.ntmps66
      go_wp2_with (go_at_call 41; refine (two_any _ _ (by omega) (by omega)).mono ?_; rintro e w' ⟨rfl, rfl⟩)
      go_ret
      exact ⟨ret1 (by rw [e1.out]; first | rfl | exact c3.out | (simp [c3.out])), rfl⟩
theorem arith_step (x : Int) (k : Nat) : wrap32 x / 2 ^ k / 2 = wrap32 x / 2 ^ (k + 1) := by
  rw [Int.pow_succ, Int.ediv_ediv_of_nonneg (Int.le_of_lt (Int.pow_pos (by decide)))]
def arP (x : Int) (k : Nat) : Int := wrap32 x / 2 ^ k
theorem arP_bd (x : Int) (k : Nat) : -2147483648 ≤ arP x k ∧ arP x k ≤ 2147483647 := by
  unfold arP
  have hx := wrap32_bd x
  have hp : (1 : Int) ≤ 2 ^ k := by
    have e3 : ((2 : Int) ^ k) = ((2 ^ k : Nat) : Int) := by simp
    rw [e3]; have := two_pos k; omega
  generalize wrap32 x = y at *
  generalize (2 : Int) ^ k = p at *
  constructor
  · exact (Int.le_ediv_iff_mul_le (by omega)).2 (by have : -2147483648 * p ≤ -2147483648 * 1 := Int.mul_le_mul_of_nonpos_left (by omega) hp; omega)
  · by_cases h : 0 ≤ y
    · have := Int.ediv_le_self p h; omega
    · have := Int.ediv_neg_of_neg_of_pos (show y < 0 by omega) (show 0 < p by omega); omega
theorem rarith_any (x n : Int) (w : World) (h1 : 0 ≤ x) (h2 : x ≤ 4294967295) (h3 : 0 ≤ n) (h4 : n ≤ 4294967295) :
    Calls Try.prog 54 #[.int .u32 x, .int .u32 n] w fun e w' => e = .returned (.int .u32 (arithI x n)) ∧ w = w' := by
  go_enter Try.func54, Try.ntmps54
  go_wp2_with (go_at_call 64; refine (rsigned_any _ _ h1 h2).mono ?_; rintro e w' ⟨rfl, rfl⟩)
  go_loop [5, 6] (fun r i => ∃ k : Nat, k ≤ 32 ∧ (k : Int) ≤ n ∧ i = .int .u32 k ∧ r = .int .i64 (arP x k)) (fun _ i => 32 - (intOf i).toNat)
  case atStart => exact ⟨0, by omega, by omega, rfl, congrArg (Value.int .i64) (by simp [arP])⟩
  case round =>
    obtain ⟨k, hk, hkn, rfl, rfl⟩ := hrel
    obtain ⟨f1, f2⟩ := arP_bd x k
    by_cases hlt : (k : Int) < n ∧ k < 32
    · obtain ⟨l1, l2⟩ := hlt
      have hst := Lib.hid (arith_step x k)
      go_wp2_with (go_at_call 65; refine (rhalf_any _ _ (by omega) (by omega)).mono ?_; rintro e w' ⟨rfl, rfl⟩)
      go_round
      case rel => exact ⟨k + 1, by omega, by omega, by go_num, congrArg (Value.int .i64) hst.out⟩
      case measure => simp [intOf]; omega
    · have hfin : arP x k % 4294967296 = arithI x n := by
        unfold arP arithI; congr 3; omega
      have hfin := Lib.hid hfin
      have hcase : (¬ (k : Int) < n) ∨ ((k : Int) < n ∧ ¬ k < 32) := by omega
      clear hlt
      rcases hcase with c | ⟨c1, c⟩
      all_goals
        go_wp2_with (go_at_call 66; refine (rwrapped_any _ _ (by omega) (by omega)).mono ?_; rintro e w' ⟨rfl, rfl⟩)
        go_ret
        exact ⟨ret1 (by first | rfl | exact hfin.out), rfl⟩
end Go.Proofs.Ytedhinekkmoheaa
