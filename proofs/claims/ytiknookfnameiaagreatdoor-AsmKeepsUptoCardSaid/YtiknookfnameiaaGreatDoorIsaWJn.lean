/- The contracts of the functions of package word that only reckon: mask, Field, SetField, Left, Right, Rotate, Extend, Arith, Add, Div, Less, Overlap. -/
import Derived.Test.YtiknookfnameiaaGreatDoorProg
import Derived.Test.YtiknookfnameiaaGreatDoorJn00
import Derived.WalkKit
import Derived.WalkSpells
import Derived.WalkLawsBesides
import Derived.Lib.Hide
namespace Go.Proofs.YtiknookfnameiaaGreatDoor
open Go.RowKit WP

def fieldI (w lo n : Int) : Int := ((fieldN w.toNat lo.toNat n.toNat : Nat) : Int)
def setI (w lo n v : Int) : Int := ((setN w.toNat lo.toNat n.toNat v.toNat : Nat) : Int)
def maskI (lo n : Int) : Int := ((maskN lo.toNat n.toNat : Nat) : Int)
def rotI (w s : Int) : Int := ((rotN w.toNat s.toNat : Nat) : Int)
def leftI (x n : Int) : Int := x * 2 ^ min n.toNat 32 % 4294967296
def rightI (x n : Int) : Int := x / 2 ^ min n.toNat 32
def arithI (x n : Int) : Int := wrap32 x / 2 ^ min n.toNat 32 % 4294967296
/-- turned to the right -/
def rotR (x n : Int) : Int := rotI x (-n % 32)
def extI (x n : Int) : Int := wrap32 (x * 2 ^ (32 - n).toNat % 4294967296) / 2 ^ (32 - n).toNat


theorem mask_calc (lo n : Int) (h1 : 1 ≤ n) (h2 : n ≤ 32) (h3 : 0 ≤ lo) (h4 : lo + n ≤ 32) :
    IntKind.u64.wrap (IntKind.u64.wrap (IntKind.u64.wrap (2 ^ n.toNat) - 1) * 2 ^ lo.toNat) % 4294967296 = maskI lo n := by
  obtain ⟨n, rfl⟩ := Int.eq_ofNat_of_zero_le (show 0 ≤ n by omega)
  obtain ⟨lo, rfl⟩ := Int.eq_ofNat_of_zero_le h3
  simp only [Int.toNat_natCast, maskI, IntKind.wrap_u64]
  have a1 : (2 : Nat) ^ n ≤ 2 ^ 32 := Nat.pow_le_pow_right (by decide) (by omega)
  have a2 : 1 ≤ (2 : Nat) ^ n := Nat.one_le_two_pow
  have a3 := maskN_lt lo n (by omega)
  unfold maskN at a3 ⊢
  have e1 : ((2 : Int) ^ n) = ((2 ^ n : Nat) : Int) := by simp
  have e2 : ((2 : Int) ^ lo) = ((2 ^ lo : Nat) : Int) := by simp
  rw [e1, e2]
  generalize (2 : Nat) ^ n = p at *
  generalize hq : (2 : Nat) ^ lo = q at *
  have e3 : ((p : Int) % 18446744073709551616 - 1) % 18446744073709551616 = ((p - 1 : Nat) : Int) := by omega
  rw [e3, ← Int.natCast_mul]
  omega

theorem maskI_bounds (lo n : Int) (h1 : 0 ≤ n) (h3 : 0 ≤ lo) (h4 : lo + n ≤ 32) : 0 ≤ maskI lo n ∧ maskI lo n ≤ 4294967295 := by
  have := maskN_lt lo.toNat n.toNat (by omega)
  unfold maskI; omega

theorem mask_yes (lo n : Int) (w : World) (h1 : 1 ≤ n) (h2 : n ≤ 32) (h3 : 0 ≤ lo) (h4 : lo + n ≤ 32) :
    Calls Tryz.prog 75 #[.int .i64 lo, .int .i64 n] w fun e w' => e = .returned (.tuple #[.int .u32 (maskI lo n), .bool true]) ∧ w = w' := by
  have hm := Lib.hid (mask_calc lo n h1 h2 h3 h4)
  go_enter Tryz.func75, Tryz.ntmps75
  go_wp2
  go_ret2
  refine ⟨?_, rfl⟩
  rw [← hm.out]
  rfl

/-- may it be a field? -/
def mayI (lo n : Int) : Prop := 1 ≤ n ∧ n ≤ 32 ∧ 0 ≤ lo ∧ lo ≤ 31 ∧ lo + n ≤ 32

theorem field_calc (x lo n : Int) (h1 : 0 ≤ x) (h2 : x ≤ 4294967295) (h3 : 1 ≤ n) (h4 : 0 ≤ lo) (h5 : lo + n ≤ 32) :
    bits .and .u32 x (maskI lo n) / 2 ^ lo.toNat = fieldI x lo n := by
  have hb := maskI_bounds lo n (by omega) h4 h5
  rw [u32_and x _ h1 (by omega) hb.1 (by omega)]
  unfold maskI fieldI
  rw [Int.toNat_natCast, ← field_prog]
  simp

theorem field_yes (x lo n : Int) (w : World) (h1 : 0 ≤ x) (h2 : x ≤ 4294967295) (h3 : 1 ≤ n) (h4 : 0 ≤ lo) (h5 : lo + n ≤ 32) :
    Calls Tryz.prog 50 #[.int .u32 x, .int .i64 lo, .int .i64 n] w fun e w' => e = .returned (.int .u32 (fieldI x lo n)) ∧ w = w' := by
  have hm := field_calc x lo n h1 h2 h3 h4 h5
  go_enter Tryz.func50, Tryz.ntmps50
  go_wp2_with (go_at_call 75; refine (mask_yes _ _ _ (by omega) (by omega) (by omega) (by omega)).mono ?_; rintro e w' ⟨rfl, rfl⟩)
  go_ret
  exact ⟨rfl, rfl⟩

theorem set_calc (x lo n v : Int) (h1 : 0 ≤ x) (h2 : x ≤ 4294967295) (v1 : 0 ≤ v) (v2 : v ≤ 4294967295) (h3 : 1 ≤ n) (h4 : 0 ≤ lo) (h5 : lo + n ≤ 32) :
    bits .or .u32 (bits .andNot .u32 x (maskI lo n)) (bits .and .u32 (v * 2 ^ lo.toNat % 4294967296) (maskI lo n)) = setI x lo n v := by
  have hb := maskI_bounds lo n (by omega) h4 h5
  rw [u32_andNot x _ h1 (by omega) hb.1 (by omega), u32_and _ _ (by omega) (by omega) hb.1 (by omega)]
  have l1 : (maskI lo n).toNat < 4294967296 := by omega
  have l2 : x.toNat < 4294967296 := by omega
  rw [u32_or_nat _ _ (Nat.lt_of_le_of_lt Nat.and_le_left l2) (Nat.lt_of_le_of_lt Nat.and_le_right l1)]
  unfold setI setN
  have e : (v * 2 ^ lo.toNat % 4294967296).toNat = v.toNat * 2 ^ lo.toNat % 4294967296 := by
    obtain ⟨v, rfl⟩ := Int.eq_ofNat_of_zero_le v1
    have e2 : ((2 : Int) ^ lo.toNat) = ((2 ^ lo.toNat : Nat) : Int) := by simp
    rw [e2, ← Int.natCast_mul, Int.toNat_natCast]; omega
  rw [e]; simp [maskI]

theorem set_yes (x lo n v : Int) (w : World) (h1 : 0 ≤ x) (h2 : x ≤ 4294967295) (v1 : 0 ≤ v) (v2 : v ≤ 4294967295) (h3 : 1 ≤ n) (h4 : 0 ≤ lo) (h5 : lo + n ≤ 32) :
    Calls Tryz.prog 49 #[.int .u32 x, .int .i64 lo, .int .i64 n, .int .u32 v] w fun e w' => e = .returned (.int .u32 (setI x lo n v)) ∧ w = w' := by
  have hm := set_calc x lo n v h1 h2 v1 v2 h3 h4 h5
  have h6 : lo ≤ 31 := by omega
  go_enter Tryz.func49, Tryz.ntmps49
  go_wp2_with (go_at_call 75; refine (mask_yes _ _ _ (by omega) (by omega) (by omega) (by omega)).mono ?_; rintro e w' ⟨rfl, rfl⟩)
  go_ret
  exact ⟨rfl, rfl⟩

theorem extend_yes (x n : Int) (w : World) (h1 : 0 ≤ x) (h2 : x ≤ 4294967295) (h3 : 1 ≤ n) (h4 : n ≤ 32):
    Calls Tryz.prog 52 #[.int .u32 x, .int .i64 n] w fun e w' => e = .returned (.int .i32 (extI x n)) ∧ w = w' := by
  go_enter Tryz.func52, Tryz.ntmps52
  go_wp2
  go_ret
  exact ⟨rfl, rfl⟩
theorem fieldI_bd (w lo n : Int) (h : n ≤ 32) : 0 ≤ fieldI w lo n ∧ fieldI w lo n ≤ 4294967295 := by
  have := fieldN_lt w.toNat lo.toNat n.toNat (by omega)
  unfold fieldI; omega
theorem setI_bd (w lo n v : Int) (h1 : 0 ≤ w) (h2 : w ≤ 4294967295) (h3 : 0 ≤ n) (h4 : 0 ≤ lo) (h : lo + n ≤ 32) : 0 ≤ setI w lo n v ∧ setI w lo n v ≤ 4294967295 := by
  have := setN_lt w.toNat lo.toNat n.toNat v.toNat (by omega) (by omega)
  unfold setI; omega
theorem ext_val (w n : Int) (h1 : 0 ≤ w) (h2 : w ≤ 4294967295) (h3 : 1 ≤ n) (h4 : n ≤ 32) :
    ∃ b : Int, (b = 0 ∨ b = 1) ∧ b = fieldI w (n - 1) 1 ∧ extI w n = fieldI w 0 n - b * 2 ^ n.toNat ∧ 0 ≤ fieldI w 0 n ∧ (b = 0 → fieldI w 0 n < 2 ^ (n - 1).toNat) ∧ (b = 1 → 2 ^ (n - 1).toNat ≤ fieldI w 0 n) ∧ fieldI w 0 n < 2 ^ n.toNat := by
  obtain ⟨w, rfl⟩ := Int.eq_ofNat_of_zero_le h1
  obtain ⟨n, rfl⟩ := Int.eq_ofNat_of_zero_le (show 0 ≤ n by omega)
  have e3 : ∀ k : Nat, ((2 : Int) ^ k) = ((2 ^ k : Nat) : Int) := by intro k; simp
  refine ⟨fieldI w (n - 1) 1, ?_, rfl, ?_⟩
  · have := fieldN_lt w (n - 1) 1 (by omega)
    unfold fieldI fieldN
    simp only [Int.toNat_natCast, Int.toNat_one]
    omega
  obtain ⟨m, rfl⟩ : ∃ m, n = m + 1 := ⟨n - 1, by omega⟩
  unfold extI fieldI fieldN wrap32
  have t1 : (((m + 1 : Nat) : Int) - 1).toNat = m := by omega
  have t2 : ((32 : Int) - ((m + 1 : Nat) : Int)).toNat = 31 - m := by omega
  simp only [t1, t2, Int.toNat_natCast, Int.toNat_one, Int.toNat_zero, e3, Nat.pow_zero, Nat.div_one]
  rw [← Int.natCast_mul]
  have p1 : (2 : Nat) ^ (m + 1) = 2 * 2 ^ m := by rw [Nat.pow_succ]; omega
  have p2 : (2 : Nat) ^ m * 2 ^ (31 - m) = 2147483648 := by rw [← Nat.pow_add, show m + (31 - m) = 31 by omega]
  rw [p1]
  generalize (2 : Nat) ^ m = p at *
  generalize (2 : Nat) ^ (31 - m) = q at *
  have hp : 0 < p := by rcases Nat.eq_zero_or_pos p with h | h; (rw [h] at p2; omega); exact h
  have hq : 0 < q := by rcases Nat.eq_zero_or_pos q with h | h; (rw [h] at p2; omega); exact h
  have m1 : w * q % 4294967296 = (w % (2 * p)) * q := by
    have : 4294967296 = (2 * p) * q := by rw [Nat.mul_assoc, p2]
    rw [this, Nat.mul_mod_mul_right]
  have d1 : w % (2 * p) = w % p + p * (w / p % 2) := by rw [Nat.mul_comm 2 p]; exact Nat.mod_mul
  have d2 : w / p % 2 = 0 ∨ w / p % 2 = 1 := by omega
  have d3 : w % p < p := Nat.mod_lt _ hp
  have m2 : ((w * q : Nat) : Int) % 4294967296 = (((w % (2 * p)) * q : Nat) : Int) := by rw [← m1]; omega
  rw [m2]
  have p2' : q * p = 2147483648 := by rw [Nat.mul_comm]; exact p2
  rcases d2 with d2 | d2
  · rw [d2] at d1 ⊢
    rw [d1]
    have l1 : (w % p) * q < 2147483648 := by rw [← p2]; exact Nat.mul_lt_mul_of_pos_right d3 hq
    refine ⟨?_, by omega, by omega, by omega, by omega⟩
    have : (((w % p + p * 0) * q : Nat) : Int) = (((w % p) * q : Nat) : Int) := by simp
    rw [this]
    have e : ((((w % p) * q : Nat) : Int) + 2147483648) % 4294967296 - 2147483648 = (((w % p) * q : Nat) : Int) := by omega
    rw [e, ← Int.natCast_ediv, Nat.mul_div_cancel _ hq]; simp
  · rw [d2] at d1 ⊢
    rw [d1]
    have l1 : (w % p) * q < 2147483648 := by rw [← p2]; exact Nat.mul_lt_mul_of_pos_right d3 hq
    refine ⟨?_, by omega, by omega, by omega, by omega⟩
    have : (((w % p + p * 1) * q : Nat) : Int) = (((w % p) * q : Nat) : Int) + 2147483648 := by
      rw [Nat.mul_one, Nat.add_mul, p2]; simp
    rw [this]
    have e : ((((w % p) * q : Nat) : Int) + 2147483648 + 2147483648) % 4294967296 - 2147483648 = ((w % p : Nat) : Int) * (q : Int) - (p : Int) * (q : Int) := by
      rw [← Int.natCast_mul, ← Int.natCast_mul, p2]; omega
    rw [e, ← Int.sub_mul, Int.mul_ediv_cancel _ (by omega)]
    simp; omega
theorem f_ext_bd (w n : Int) (h1 : 0 ≤ w) (h2 : w ≤ 4294967295) (h3 : 1 ≤ n) (h4 : n ≤ 32) : -2147483648 ≤ extI w n ∧ extI w n ≤ 2147483647 := by
  unfold extI
  have hp : (1 : Int) ≤ 2 ^ (32 - n).toNat := by
    have e3 : ((2 : Int) ^ (32 - n).toNat) = ((2 ^ (32 - n).toNat : Nat) : Int) := by simp
    rw [e3]; have := @Nat.one_le_two_pow (32 - n).toNat; omega
  have hb : ∀ x : Int, -2147483648 ≤ wrap32 x ∧ wrap32 x ≤ 2147483647 := by intro x; unfold wrap32; omega
  have hx := hb (w * 2 ^ (32 - n).toNat % 4294967296)
  generalize wrap32 (w * 2 ^ (32 - n).toNat % 4294967296) = x at *
  generalize (2 : Int) ^ (32 - n).toNat = p at *
  constructor
  · exact (Int.le_ediv_iff_mul_le (by omega)).2 (by have : -2147483648 * p ≤ -2147483648 * 1 := Int.mul_le_mul_of_nonpos_left (by omega) hp; omega)
  · by_cases h : 0 ≤ x
    · have := Int.ediv_le_self p h; omega
    · have := Int.ediv_neg_of_neg_of_pos (show x < 0 by omega) (show 0 < p by omega); omega

end Go.Proofs.YtiknookfnameiaaGreatDoor
