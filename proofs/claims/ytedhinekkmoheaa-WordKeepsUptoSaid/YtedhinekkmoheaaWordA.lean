/- The contracts of the functions of package word that only reckon: mask, Field, SetField, Left, Right, Rotate, Extend, Arith, Add, Div, Less, Overlap. -/
import Derived.Test.YtedhinekkmoheaaProg
import Derived.Test.YtedhinekkmoheaaWordP
import Derived.Test.YtedhinekkmoheaaBase
import Derived.WalkKit
import Derived.WalkSpells
import Derived.WalkLawsBesides
import Derived.Lib.Hide
namespace Go.Proofs.Ytedhinekkmoheaa
open Go.RowKit WP

def fieldI (w lo n : Int) : Int := ((fieldN w.toNat lo.toNat n.toNat : Nat) : Int)
def setI (w lo n v : Int) : Int := ((setN w.toNat lo.toNat n.toNat v.toNat : Nat) : Int)
def maskI (lo n : Int) : Int := ((maskN lo.toNat n.toNat : Nat) : Int)
def rotI (w s : Int) : Int := ((rotN w.toNat s.toNat : Nat) : Int)
def leftI (x n : Int) : Int := x * 2 ^ min n.toNat 32 % 4294967296
def rightI (x n : Int) : Int := x / 2 ^ min n.toNat 32
def arithI (x n : Int) : Int := wrap32 x / 2 ^ min n.toNat 32 % 4294967296
/-- turned to the right -/
def rotR (x n : Int) : Int := rotI x (-n % 32)
def extI (x n : Int) : Int := wrap32 (x * 2 ^ (32 - n).toNat % 4294967296) / 2 ^ (32 - n).toNat


theorem mask_calc (lo n : Int) (h1 : 1 ≤ n) (h2 : n ≤ 32) (h3 : 0 ≤ lo) (h4 : lo + n ≤ 32) :
    IntKind.u64.wrap (IntKind.u64.wrap (IntKind.u64.wrap (2 ^ n.toNat) - 1) * 2 ^ lo.toNat) % 4294967296 = maskI lo n := by
  obtain ⟨n, rfl⟩ := Int.eq_ofNat_of_zero_le (show 0 ≤ n by omega)
  obtain ⟨lo, rfl⟩ := Int.eq_ofNat_of_zero_le h3
  simp only [Int.toNat_natCast, maskI, IntKind.wrap_u64]
  have a1 : (2 : Nat) ^ n ≤ 2 ^ 32 := Nat.pow_le_pow_right (by decide) (by omega)
  have a2 : 1 ≤ (2 : Nat) ^ n := Nat.one_le_two_pow
  have a3 := maskN_lt lo n (by omega)
  unfold maskN at a3 ⊢
  have e1 : ((2 : Int) ^ n) = ((2 ^ n : Nat) : Int) := by simp
  have e2 : ((2 : Int) ^ lo) = ((2 ^ lo : Nat) : Int) := by simp
  rw [e1, e2]
  generalize (2 : Nat) ^ n = p at *
  generalize hq : (2 : Nat) ^ lo = q at *
  have e3 : ((p : Int) % 18446744073709551616 - 1) % 18446744073709551616 = ((p - 1 : Nat) : Int) := by omega
  rw [e3, ← Int.natCast_mul]
  omega

theorem maskI_bounds (lo n : Int) (h1 : 0 ≤ n) (h3 : 0 ≤ lo) (h4 : lo + n ≤ 32) : 0 ≤ maskI lo n ∧ maskI lo n ≤ 4294967295 := by
  have := maskN_lt lo.toNat n.toNat (by omega)
  unfold maskI; omega

theorem mask_yes (lo n : Int) (w : World) (h1 : 1 ≤ n) (h2 : n ≤ 32) (h3 : 0 ≤ lo) (h4 : lo + n ≤ 32) :
    Calls Try.prog 34 #[.int .i64 lo, .int .i64 n] w fun e w' => e = .returned (.tuple #[.int .u32 (maskI lo n), .bool true]) ∧ w = w' := by
  have hm := Lib.hid (mask_calc lo n h1 h2 h3 h4)
  go_enter Try.func34, Try.ntmps34
  go_wp2
  go_ret2
  refine ⟨?_, rfl⟩
  rw [← hm.out]
  rfl

/-- may it be a field? -/
def mayI (lo n : Int) : Prop := 1 ≤ n ∧ n ≤ 32 ∧ 0 ≤ lo ∧ lo ≤ 31 ∧ lo + n ≤ 32

theorem mask_no (lo n : Int) (w : World) (b1 : -9223372036854775808 ≤ n) (b2 : n ≤ 9223372036854775807) (b3 : -9223372036854775808 ≤ lo) (b4 : lo ≤ 9223372036854775807) (h : n < 1 ∨ 32 < n ∨ lo < 0 ∨ 31 < lo ∨ 32 < lo + n) :
    Calls Try.prog 34 #[.int .i64 lo, .int .i64 n] w fun e w' => e = .returned (.tuple #[.int .u32 0, .bool false]) ∧ w = w' := by
  by_cases c1 : n < 1
  · clear h; go_enter Try.func34, Try.ntmps34
    go_wp2; go_ret2; exact ⟨rfl, rfl⟩
  by_cases c2 : 32 < n
  · clear h; go_enter Try.func34, Try.ntmps34
    go_wp2; go_ret2; exact ⟨rfl, rfl⟩
  by_cases c3 : lo < 0
  · clear h; go_enter Try.func34, Try.ntmps34
    go_wp2; go_ret2; exact ⟨rfl, rfl⟩
  by_cases c4 : 31 < lo
  · clear h; go_enter Try.func34, Try.ntmps34
    go_wp2; go_ret2; exact ⟨rfl, rfl⟩
  have c5 : 32 < lo + n := by omega
  clear h; go_enter Try.func34, Try.ntmps34
  go_wp2; go_ret2; exact ⟨rfl, rfl⟩

theorem field_calc (x lo n : Int) (h1 : 0 ≤ x) (h2 : x ≤ 4294967295) (h3 : 1 ≤ n) (h4 : 0 ≤ lo) (h5 : lo + n ≤ 32) :
    bits .and .u32 x (maskI lo n) / 2 ^ lo.toNat = fieldI x lo n := by
  have hb := maskI_bounds lo n (by omega) h4 h5
  rw [u32_and x _ h1 (by omega) hb.1 (by omega)]
  unfold maskI fieldI
  rw [Int.toNat_natCast, ← field_prog]
  simp

theorem field_yes (x lo n : Int) (w : World) (h1 : 0 ≤ x) (h2 : x ≤ 4294967295) (h3 : 1 ≤ n) (h4 : 0 ≤ lo) (h5 : lo + n ≤ 32) :
    Calls Try.prog 9 #[.int .u32 x, .int .i64 lo, .int .i64 n] w fun e w' => e = .returned (.int .u32 (fieldI x lo n)) ∧ w = w' := by
  have hm := field_calc x lo n h1 h2 h3 h4 h5
  go_enter Try.func9, Try.ntmps9
  go_wp2_with (go_at_call 34; refine (mask_yes _ _ _ (by omega) (by omega) (by omega) (by omega)).mono ?_; rintro e w' ⟨rfl, rfl⟩)
  go_ret
  exact ⟨rfl, rfl⟩

theorem field_no (x lo n : Int) (w : World) (b1 : -9223372036854775808 ≤ n) (b2 : n ≤ 9223372036854775807) (b3 : -9223372036854775808 ≤ lo) (b4 : lo ≤ 9223372036854775807) (h : n < 1 ∨ 32 < n ∨ lo < 0 ∨ 31 < lo ∨ 32 < lo + n) :
    Calls Try.prog 9 #[.int .u32 x, .int .i64 lo, .int .i64 n] w fun e w' => e = .returned (.int .u32 0) ∧ w = w' := by
  have H := Lib.hid h; clear h
  go_enter Try.func9, Try.ntmps9
  go_wp2_with (go_at_call 34; refine (mask_no _ _ _ (by omega) (by omega) (by omega) (by omega) H.out).mono ?_; rintro e w' ⟨rfl, rfl⟩)
  go_ret
  exact ⟨rfl, rfl⟩

theorem set_calc (x lo n v : Int) (h1 : 0 ≤ x) (h2 : x ≤ 4294967295) (v1 : 0 ≤ v) (v2 : v ≤ 4294967295) (h3 : 1 ≤ n) (h4 : 0 ≤ lo) (h5 : lo + n ≤ 32) :
    bits .or .u32 (bits .andNot .u32 x (maskI lo n)) (bits .and .u32 (v * 2 ^ lo.toNat % 4294967296) (maskI lo n)) = setI x lo n v := by
  have hb := maskI_bounds lo n (by omega) h4 h5
  rw [u32_andNot x _ h1 (by omega) hb.1 (by omega), u32_and _ _ (by omega) (by omega) hb.1 (by omega)]
  have l1 : (maskI lo n).toNat < 4294967296 := by omega
  have l2 : x.toNat < 4294967296 := by omega
  rw [u32_or_nat _ _ (Nat.lt_of_le_of_lt Nat.and_le_left l2) (Nat.lt_of_le_of_lt Nat.and_le_right l1)]
  unfold setI setN
  have e : (v * 2 ^ lo.toNat % 4294967296).toNat = v.toNat * 2 ^ lo.toNat % 4294967296 := by
    obtain ⟨v, rfl⟩ := Int.eq_ofNat_of_zero_le v1
    have e2 : ((2 : Int) ^ lo.toNat) = ((2 ^ lo.toNat : Nat) : Int) := by simp
    rw [e2, ← Int.natCast_mul, Int.toNat_natCast]; omega
  rw [e]; simp [maskI]

theorem set_yes (x lo n v : Int) (w : World) (h1 : 0 ≤ x) (h2 : x ≤ 4294967295) (v1 : 0 ≤ v) (v2 : v ≤ 4294967295) (h3 : 1 ≤ n) (h4 : 0 ≤ lo) (h5 : lo + n ≤ 32) :
    Calls Try.prog 10 #[.int .u32 x, .int .i64 lo, .int .i64 n, .int .u32 v] w fun e w' => e = .returned (.int .u32 (setI x lo n v)) ∧ w = w' := by
  have hm := set_calc x lo n v h1 h2 v1 v2 h3 h4 h5
  have h6 : lo ≤ 31 := by omega
  go_enter Try.func10, Try.ntmps10
  go_wp2_with (go_at_call 34; refine (mask_yes _ _ _ (by omega) (by omega) (by omega) (by omega)).mono ?_; rintro e w' ⟨rfl, rfl⟩)
  go_ret
  exact ⟨rfl, rfl⟩

theorem set_no (x lo n v : Int) (w : World) (b1 : -9223372036854775808 ≤ n) (b2 : n ≤ 9223372036854775807) (b3 : -9223372036854775808 ≤ lo) (b4 : lo ≤ 9223372036854775807) (h : n < 1 ∨ 32 < n ∨ lo < 0 ∨ 31 < lo ∨ 32 < lo + n) :
    Calls Try.prog 10 #[.int .u32 x, .int .i64 lo, .int .i64 n, .int .u32 v] w fun e w' => e = .returned (.int .u32 x) ∧ w = w' := by
  have H := Lib.hid h; clear h
  go_enter Try.func10, Try.ntmps10
  go_wp2_with (go_at_call 34; refine (mask_no _ _ _ (by omega) (by omega) (by omega) (by omega) H.out).mono ?_; rintro e w' ⟨rfl, rfl⟩)
  go_ret
  exact ⟨rfl, rfl⟩

theorem right_any (x n : Int) (w : World) (h1 : 0 ≤ n) (h2 : n ≤ 4294967295) :
    Calls Try.prog 11 #[.int .u32 x, .int .u32 n] w fun e w' => e = .returned (.int .u32 (rightI x n)) ∧ w = w' := by
  go_enter Try.func11, Try.ntmps11
  go_wp2
  go_ret
  exact ⟨rfl, rfl⟩
theorem left_any (x n : Int) (w : World) (h1 : 0 ≤ n) (h2 : n ≤ 4294967295) :
    Calls Try.prog 12 #[.int .u32 x, .int .u32 n] w fun e w' => e = .returned (.int .u32 (leftI x n)) ∧ w = w' := by
  go_enter Try.func12, Try.ntmps12
  go_wp2
  go_ret
  exact ⟨rfl, rfl⟩

theorem rotl_and (n s : Int) (h3 : -31 ≤ n) (h4 : n ≤ 31) (hs : s = n % 32) : bits .and .u64 (IntKind.u64.wrap n) 31 = s := by
  rw [IntKind.wrap_u64]
  have := bits_mask .u64 64 (by decide) (fun m a b => by rw [IntKind.wrap_u64]; omega) 5 (by decide) (n % 18446744073709551616) (by omega) (by omega)
  have e : (2 ^ 5 - 1 : Int) = 31 := by decide
  rw [e] at this
  rw [this]
  have e : (2 ^ 5 : Int) = 32 := by decide
  rw [e]; omega
theorem rotl_calc (x s : Int) (h1 : 0 ≤ x) (h2 : x ≤ 4294967295) (h3 : 0 ≤ s) (h4 : s ≤ 31) :
    bits .or .u32 (x * 2 ^ s.toNat % 4294967296) (x / 2 ^ (32 - s).toNat) = rotI x s := by
  obtain ⟨x, rfl⟩ := Int.eq_ofNat_of_zero_le h1
  obtain ⟨s, rfl⟩ := Int.eq_ofNat_of_zero_le h3
  have e2 : ((2 : Int) ^ s) = ((2 ^ s : Nat) : Int) := by simp
  have e3 : ((2 : Int) ^ (32 - s)) = ((2 ^ (32 - s) : Nat) : Int) := by simp
  have e4 : ((32 : Int) - (s : Int)).toNat = 32 - s := by omega
  simp only [e4, Int.toNat_natCast, e2, e3, rotI, rotN]
  have e5 : ((x : Int) / ((2 ^ (32 - s) : Nat) : Int)) = ((x / 2 ^ (32 - s) : Nat) : Int) := (Int.natCast_ediv x _).symm
  have e6 : ((x : Int) * ((2 ^ s : Nat) : Int) % 4294967296) = ((x * 2 ^ s % 4294967296 : Nat) : Int) := by rw [← Int.natCast_mul]; omega
  rw [e5, e6, u32_or_nat _ _ (by omega) (Nat.lt_of_le_of_lt (Nat.div_le_self _ _) (by omega))]
theorem rotl_any (x n : Int) (w : World) (h1 : 0 ≤ x) (h2 : x ≤ 4294967295) (h3 : -31 ≤ n) (h4 : n ≤ 31):
    Calls Try.prog 35 #[.int .u32 x, .int .i64 n] w fun e w' => e = .returned (.int .u32 (rotI x (n % 32))) ∧ w = w' := by
  obtain ⟨s, hs⟩ : ∃ s, s = n % 32 := ⟨_, rfl⟩
  have ha := rotl_and n s h3 h4 hs
  have s1 : 0 ≤ s := by omega
  have s2 : s ≤ 31 := by omega
  have hc := rotl_calc x s h1 h2 s1 s2
  rw [← hs]; clear hs
  go_enter Try.func35, Try.ntmps35
  go_wp2
  go_ret
  exact ⟨rfl, rfl⟩
theorem tmod_32 (n : Int) : (0 ≤ n ∧ n.tmod 32 = n % 32) ∨ (n < 0 ∧ n.tmod 32 = -(-n % 32)) := by
  by_cases h : 0 ≤ n
  · exact Or.inl ⟨h, Int.tmod_eq_emod_of_nonneg h⟩
  · refine Or.inr ⟨by omega, ?_⟩
    rw [← Int.tmod_eq_emod_of_nonneg (show 0 ≤ -n by omega), Int.neg_tmod]; omega
theorem rotate_any (x n : Int) (w : World) (h1 : 0 ≤ x) (h2 : x ≤ 4294967295) (b1 : -9223372036854775808 ≤ n) (b2 : n ≤ 9223372036854775807):
    Calls Try.prog 13 #[.int .u32 x, .int .i64 n] w fun e w' => e = .returned (.int .u32 (rotR x n)) ∧ w = w' := by
  unfold rotR
  have k0 := tmod_32 n
  have k1 : -31 ≤ -(n.tmod 32) ∧ -(n.tmod 32) ≤ 31 := by omega
  have k2 : -(n.tmod 32) % 32 = -n % 32 := by omega
  clear k0
  rw [← k2]; clear k2
  obtain ⟨k1, k1'⟩ := k1
  go_enter Try.func13, Try.ntmps13
  go_wp2_with (go_at_call 35; refine (rotl_any _ _ _ h1 h2 (by omega) (by omega)).mono ?_; rintro e w' ⟨rfl, rfl⟩)
  go_ret
  exact ⟨rfl, rfl⟩
theorem extend_yes (x n : Int) (w : World) (h1 : 0 ≤ x) (h2 : x ≤ 4294967295) (h3 : 1 ≤ n) (h4 : n ≤ 32):
    Calls Try.prog 14 #[.int .u32 x, .int .i64 n] w fun e w' => e = .returned (.int .i32 (extI x n)) ∧ w = w' := by
  go_enter Try.func14, Try.ntmps14
  go_wp2
  go_ret
  exact ⟨rfl, rfl⟩
theorem extend_no (x n : Int) (w : World) (b1 : -9223372036854775808 ≤ n) (b2 : n ≤ 9223372036854775807) (h : n < 1 ∨ 32 < n):
    Calls Try.prog 14 #[.int .u32 x, .int .i64 n] w fun e w' => e = .returned (.int .i32 0) ∧ w = w' := by
  rcases h with h | h
  · go_enter Try.func14, Try.ntmps14
    go_wp2; go_ret; exact ⟨rfl, rfl⟩
  · have h' : ¬ n < 1 := by omega
    go_enter Try.func14, Try.ntmps14
    go_wp2; go_ret; exact ⟨rfl, rfl⟩
theorem arith_any (x n : Int) (w : World) (h1 : 0 ≤ x) (h2 : x ≤ 4294967295) (h3 : 0 ≤ n) (h4 : n ≤ 4294967295):
    Calls Try.prog 15 #[.int .u32 x, .int .u32 n] w fun e w' => e = .returned (.int .u32 (arithI x n)) ∧ w = w' := by
  go_enter Try.func15, Try.ntmps15
  go_wp2; go_ret; exact ⟨rfl, rfl⟩
theorem less_any (x n : Int) (w : World) :
    Calls Try.prog 18 #[.int .u32 x, .int .u32 n] w fun e w' => e = .returned (.bool (decide (wrap32 x < wrap32 n))) ∧ w = w' := by
  go_enter Try.func18, Try.ntmps18
  go_wp2; go_ret; exact ⟨rfl, rfl⟩
theorem div_yes (x n : Int) (w : World) (h1 : 0 ≤ x) (h2 : x ≤ 4294967295) (h3 : 1 ≤ n) (h4 : n ≤ 4294967295):
    Calls Try.prog 17 #[.int .u32 x, .int .u32 n] w fun e w' => e = .returned (.int .u32 (x / n)) ∧ w = w' := by
  have hz : (n == 0) = false := by rw [beq_eq_false_iff_ne]; omega
  go_enter Try.func17, Try.ntmps17
  go_wp2; go_ret; exact ⟨rfl, rfl⟩
theorem div_no (x : Int) (w : World) :
    Calls Try.prog 17 #[.int .u32 x, .int .u32 0] w fun e w' => e = .returned (.int .u32 4294967295) ∧ w = w' := by
  go_enter Try.func17, Try.ntmps17
  go_wp2; go_ret; exact ⟨rfl, rfl⟩
theorem add_any (x y c : Int) (w : World) (h1 : 0 ≤ x) (h2 : x ≤ 4294967295) (h3 : 0 ≤ y) (h4 : y ≤ 4294967295) (h5 : 0 ≤ c) (h6 : c ≤ 4294967295):
    Calls Try.prog 16 #[.int .u32 x, .int .u32 y, .int .u32 c] w fun e w' => e = .returned (.tuple #[.int .u32 ((x + y + c % 2) % 4294967296), .int .u32 ((x + y + c % 2) / 4294967296)]) ∧ w = w' := by
  have hb : bits .and .u32 c 1 = c % 2 := by
    have := bits_mask .u32 32 (by decide) (fun m a b => by rw [IntKind.wrap_u32]; omega) 1 (by decide) c h5 (by omega)
    simpa using this
  have hc1 : 0 ≤ c % 2 := by omega
  have hc2 : c % 2 ≤ 1 := by omega
  go_enter Try.func16, Try.ntmps16
  go_wp2
  go_ret2
  exact ⟨rfl, rfl⟩
end Go.Proofs.Ytedhinekkmoheaa
