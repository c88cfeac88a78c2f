/- The contracts of the reference's functions on numbers, the third part: Rotate, Add, Div, Less, Overlap, Same. -/
import Derived.Test.YtedhinekkmoheaaRefB
import Derived.Test.YtedhinekkmoheaaWordL
namespace Go.Proofs.Ytedhinekkmoheaa
open Go.RowKit WP

def rotPI (x K : Int) (j : Nat) : Int := ((rotP x.toNat K.toNat j : Nat) : Int)
theorem rotPI_step (x K : Int) (j : Nat) (k1 : 0 ≤ K) (k2 : K ≤ 31) (hj : j < 32) : rotPI x K (j + 1) = rotPI x K j + bitI x j * twoI (((j : Int) - K) % 32) := by
  unfold rotPI bitI twoI
  rw [rotP_step _ _ _ (by omega) hj, show (((j : Int) - K) % 32).toNat = (j + 32 - K.toNat) % 32 by omega, Int.toNat_natCast, ← Int.natCast_mul]; omega
theorem rotPI_full (x n K : Int) (x1 : 0 ≤ x) (x2 : x ≤ 4294967295) (hK : K = n % 32) : rotPI x K 32 = rotR x n := by
  unfold rotPI rotR rotI
  rw [rotP_full _ _ (by omega) (by omega), show (32 - K.toNat) % 32 = (-n % 32).toNat by omega]
set_option maxHeartbeats 400000 in
theorem rrotate_at (x n K : Int) (w : World) (x1 : 0 ≤ x) (x2 : x ≤ 4294967295) (b1 : -9223372036854775808 ≤ n) (b2 : n ≤ 9223372036854775807) (hK : K = n % 32)
    (hc : (n.tmod 32 = K) ∨ (n.tmod 32 < 0 ∧ n.tmod 32 + 32 = K)) :
    Calls Try.prog 55 #[.int .u32 x, .int .i64 n] w fun e w' => e = .returned (.int .u32 (rotR x n)) ∧ w = w' := by
  have k1 : 0 ≤ K := by omega
  have k2 : K ≤ 31 := by omega
  have hfull := Lib.hid (rotPI_full x n K x1 x2 hK)
  obtain ⟨r1, r2⟩ := rotR_bd x n x1 x2
  have hm : rotR x n % 4294967296 = rotR x n := by omega
  rcases hc with hK' | ⟨ht, hkt⟩
  case' inl => clear hK
  case' inr =>
    clear hK
    obtain ⟨t, hK'⟩ : ∃ t, n.tmod 32 = t := ⟨_, rfl⟩
    rw [hK'] at ht hkt
    have hkt' : t + 32 = K := hkt
    clear hkt
  all_goals
    go_enter Try.func55, Try.ntmps55
    go_wp2
    go_loop [6, 7] (fun r i => ∃ j : Nat, j ≤ 32 ∧ i = .int .i64 j ∧ r = .int .i64 (rotPI x K j) ∧ 0 ≤ rotPI x K j ∧ rotPI x K j ≤ j * 4294967296) (fun _ i => 32 - (intOf i).toNat)
    case atStart => exact ⟨0, by omega, rfl, congrArg (Value.int .i64) (by unfold rotPI; rw [rotP_zero]; rfl), by unfold rotPI; omega, by unfold rotPI; rw [rotP_zero]; decide⟩
    case round =>
      obtain ⟨j, hj, rfl, rfl, p1, p2⟩ := hrel
      by_cases hlt : j < 32
      · have hst := rotPI_step x K j k1 k2 hlt
        obtain ⟨c1, c2⟩ := bitI_bd x j
        obtain ⟨t1, _⟩ := twoI_bd (((j : Int) - K) % 32) (by omega)
        have t2 : twoI (((j : Int) - K) % 32) ≤ 4294967296 := twoI_le _ 32 (by omega)
        obtain ⟨q1, q2⟩ := bit_two_bd _ _ 4294967296 c1 c2 t1 t2
        have hb1 : 0 ≤ rotPI x K (j + 1) := by rw [hst]; omega
        have hb2 : rotPI x K (j + 1) ≤ ((j + 1 : Nat) : Int) * 4294967296 := by rw [hst]; omega
        have hst' := Lib.hid hst; have hb1 := Lib.hid hb1; have hb2' := Lib.hid hb2
        clear hst hb2
        go_wp2_with (first
          | (go_at_call 63; refine (bit_any _ _ _ (by omega) (by omega) (by omega) (by omega)).mono ?_; rintro e w' ⟨rfl, rfl⟩)
          | (go_at_call 41; refine (two_any _ _ (by omega) (by omega)).mono ?_; rintro e w' ⟨rfl, rfl⟩))
        go_round
        case rel => exact ⟨j + 1, by omega, by go_num, congrArg (Value.int .i64) (by rw [hst'.out]; try rfl), hb1.out, hb2'.out⟩
        case measure => simp [intOf]; omega
      · obtain rfl : j = 32 := by omega
        have hfe := hfull.out
        go_wp2
        go_ret
        exact ⟨ret1 (by first | rfl | exact hm | (rw [hfe, hm]) | (rw [hfe])), rfl⟩
theorem rrotate_any (x n : Int) (w : World) (x1 : 0 ≤ x) (x2 : x ≤ 4294967295) (b1 : -9223372036854775808 ≤ n) (b2 : n ≤ 9223372036854775807) :
    Calls Try.prog 55 #[.int .u32 x, .int .i64 n] w fun e w' => e = .returned (.int .u32 (rotR x n)) ∧ w = w' :=
  rrotate_at x n (n % 32) w x1 x2 b1 b2 rfl (by have := tmod_32 n; omega)
theorem radd_any (x y c : Int) (w : World) (h1 : 0 ≤ x) (h2 : x ≤ 4294967295) (h3 : 0 ≤ y) (h4 : y ≤ 4294967295) (h5 : 0 ≤ c) (h6 : c ≤ 4294967295):
    Calls Try.prog 56 #[.int .u32 x, .int .u32 y, .int .u32 c] w fun e w' => e = .returned (.tuple #[.int .u32 ((x + y + c % 2) % 4294967296), .int .u32 ((x + y + c % 2) / 4294967296)]) ∧ w = w' := by
  have t32 := twoI_32
  by_cases hc : x + y + c % 2 < 4294967296
  · have e1 : (x + y + c % 2) % 4294967296 = x + y + c % 2 := by omega
    have e2 : (x + y + c % 2) / 4294967296 = 0 := by omega
    have e1' := Lib.hid e1; have e2' := Lib.hid e2
    clear e1 e2
    go_enter Try.func56, Try.ntmps56
    go_wp2_with (go_at_call 41; refine (two_any _ _ (by omega) (by omega)).mono ?_; rintro e w' ⟨rfl, rfl⟩)
    go_ret2
    exact ⟨by rw [e1'.out, e2'.out]; rfl, rfl⟩
  · have e1 : (x + y + c % 2) % 4294967296 = x + y + c % 2 - 4294967296 := by omega
    have e2 : (x + y + c % 2) / 4294967296 = 1 := by omega
    have e1' := Lib.hid e1; have e2' := Lib.hid e2
    clear e1 e2
    go_enter Try.func56, Try.ntmps56
    go_wp2_with (go_at_call 41; refine (two_any _ _ (by omega) (by omega)).mono ?_; rintro e w' ⟨rfl, rfl⟩)
    go_ret2
    exact ⟨by rw [e1'.out, e2'.out]; rfl, rfl⟩
theorem rdiv_yes (x n : Int) (w : World) (h1 : 0 ≤ x) (h2 : x ≤ 4294967295) (h3 : 1 ≤ n) (h4 : n ≤ 4294967295):
    Calls Try.prog 57 #[.int .u32 x, .int .u32 n] w fun e w' => e = .returned (.int .u32 (x / n)) ∧ w = w' := by
  have hz : (n == 0) = false := by rw [beq_eq_false_iff_ne]; omega
  have d1 : 0 ≤ x / n := Int.ediv_nonneg h1 (by omega)
  have d2 : x / n ≤ 4294967295 := Int.le_trans (Int.ediv_le_self _ h1) h2
  have d3 := Lib.hid (show x / n % 4294967296 = x / n by omega)
  go_enter Try.func57, Try.ntmps57
  go_wp2; go_ret; exact ⟨ret1 (by first | rfl | exact d3.out), rfl⟩
theorem rdiv_no (x : Int) (w : World) :
    Calls Try.prog 57 #[.int .u32 x, .int .u32 0] w fun e w' => e = .returned (.int .u32 4294967295) ∧ w = w' := by
  go_enter Try.func57, Try.ntmps57
  go_wp2; go_ret; exact ⟨rfl, rfl⟩
theorem rless_any (x n : Int) (w : World) (h1 : 0 ≤ x) (h2 : x ≤ 4294967295) (h3 : 0 ≤ n) (h4 : n ≤ 4294967295) :
    Calls Try.prog 58 #[.int .u32 x, .int .u32 n] w fun e w' => e = .returned (.bool (decide (wrap32 x < wrap32 n))) ∧ w = w' := by
  go_enter Try.func58, Try.ntmps58
  go_wp2_with (go_at_call 64; refine (rsigned_any _ _ (by omega) (by omega)).mono ?_; rintro e w' ⟨rfl, rfl⟩)
  go_ret; exact ⟨rfl, rfl⟩
set_option maxHeartbeats 1000000 in
theorem roverlap_any (a n b m : Int) (w : World) (a1 : 0 ≤ a) (a2 : a ≤ 4294967295) (n1 : 0 ≤ n) (n2 : n ≤ 4294967295) (b1 : 0 ≤ b) (b2 : b ≤ 4294967295) (m1 : 0 ≤ m) (m2 : m ≤ 4294967295) :
    Calls Try.prog 59 #[.int .u32 a, .int .u32 n, .int .u32 b, .int .u32 m] w fun e w' => e = .returned (.bool (overB a n b m)) ∧ w = w' := by
  by_cases c1 : 0 < n <;> by_cases c2 : 0 < m <;> by_cases c3 : a < b <;> by_cases c4 : a < b + m <;> by_cases c5 : b < a + n
  all_goals try (exfalso; omega)
  all_goals
    go_enter Try.func59, Try.ntmps59
    go_wp2
    all_goals
      go_ret
      refine ⟨ret_bool ?_, rfl⟩
      unfold overB
      first
        | (simp only [decide_eq_decide]; omega)
        | (simp; omega)
        | (rw [eq_comm, decide_eq_true_eq]; omega)
        | (rw [eq_comm, decide_eq_false_iff_not]; omega)
end Go.Proofs.Ytedhinekkmoheaa
