/- The contracts of RotateLeft32 and of sha's right. -/
import Derived.Test.YtemanjahkohcpaaDoorProg
import Derived.Test.YtemanjahkohcpaaDoorBase
import Derived.Test.YtemanjahkohcpaaDoorWordP
import Derived.WalkKit
import Derived.WalkSpells
import Derived.WalkLawsBesides
import Derived.Lib.Hide
namespace Go.Proofs.YtemanjahkohcpaaDoor
open Go.RowKit WP
def rotI (w s : Int) : Int := ((rotN w.toNat s.toNat : Nat) : Int)
theorem rotl_and (n s : Int) (_h3 : -31 ≤ n) (_h4 : n ≤ 31) (hs : s = n % 32) : bits .and .u64 (IntKind.u64.wrap n) 31 = s := by
  rw [IntKind.wrap_u64]
  have := bits_mask .u64 64 (by decide) (fun m a b => by rw [IntKind.wrap_u64]; omega) 5 (by decide) (n % 18446744073709551616) (by omega) (by omega)
  have e : (2 ^ 5 - 1 : Int) = 31 := by decide
  rw [e] at this
  rw [this]
  have e : (2 ^ 5 : Int) = 32 := by decide
  rw [e]; omega
theorem rotl_calc (x s : Int) (h1 : 0 ≤ x) (h2 : x ≤ 4294967295) (h3 : 0 ≤ s) (h4 : s ≤ 31) :
    bits .or .u32 (x * 2 ^ s.toNat % 4294967296) (x / 2 ^ (32 - s).toNat) = rotI x s := by
  obtain ⟨x, rfl⟩ := Int.eq_ofNat_of_zero_le h1
  obtain ⟨s, rfl⟩ := Int.eq_ofNat_of_zero_le h3
  have e2 : ((2 : Int) ^ s) = ((2 ^ s : Nat) : Int) := by simp
  have e3 : ((2 : Int) ^ (32 - s)) = ((2 ^ (32 - s) : Nat) : Int) := by simp
  have e4 : ((32 : Int) - (s : Int)).toNat = 32 - s := by omega
  simp only [e4, Int.toNat_natCast, e2, e3, rotI, rotN]
  have e5 : ((x : Int) / ((2 ^ (32 - s) : Nat) : Int)) = ((x / 2 ^ (32 - s) : Nat) : Int) := (Int.natCast_ediv x _).symm
  have e6 : ((x : Int) * ((2 ^ s : Nat) : Int) % 4294967296) = ((x * 2 ^ s % 4294967296 : Nat) : Int) := by rw [← Int.natCast_mul]; omega
  rw [e5, e6, u32_or_nat _ _ (by omega) (Nat.lt_of_le_of_lt (Nat.div_le_self _ _) (by omega))]
theorem rotl_any (x n : Int) (w : World) (h1 : 0 ≤ x) (h2 : x ≤ 4294967295) (h3 : -31 ≤ n) (h4 : n ≤ 31):
    Calls Tryd.prog 93 #[.int .u32 x, .int .i64 n] w fun e w' => e = .returned (.int .u32 (rotI x (n % 32))) ∧ w = w' := by
  obtain ⟨s, hs⟩ : ∃ s, s = n % 32 := ⟨_, rfl⟩
  have ha := rotl_and n s h3 h4 hs
  have s1 : 0 ≤ s := by omega
  have s2 : s ≤ 31 := by omega
  have hc := rotl_calc x s h1 h2 s1 s2
  rw [← hs]; clear hs
  go_enter Tryd.func93, Tryd.ntmps93
  go_wp2
  go_ret
  exact ⟨rfl, rfl⟩
theorem rotI_bd (x s : Int) (h1 : 0 ≤ x) (h2 : x ≤ 4294967295) (h3 : 0 ≤ s) (h4 : s ≤ 31) : 0 ≤ rotI x s ∧ rotI x s ≤ 4294967295 := by
  have := rotN_lt x.toNat s.toNat (by omega) (by omega)
  unfold rotI; omega
/-- turned to the right -/
def sr (x n : Int) : Int := rotI x (-n % 32)
theorem sr_bd (x n : Int) (h1 : 0 ≤ x) (h2 : x ≤ 4294967295) : 0 ≤ sr x n ∧ sr x n ≤ 4294967295 := rotI_bd _ _ h1 h2 (by omega) (by omega)
theorem sright_any (x n : Int) (w : World) (h1 : 0 ≤ x) (h2 : x ≤ 4294967295) (h3 : 0 ≤ n) (h4 : n ≤ 31) :
    Calls Tryd.prog 76 #[.int .u32 x, .int .i64 n] w fun e w' => e = .returned (.int .u32 (sr x n)) ∧ w' = w := by
  go_enter Tryd.func76, Tryd.ntmps76
  go_wp2_with (go_at_call 93; refine (rotl_any _ _ _ h1 h2 (by omega) (by omega)).mono ?_; rintro e w' ⟨rfl, rfl⟩)
  go_ret
  exact ⟨rfl, rfl⟩
end Go.Proofs.YtemanjahkohcpaaDoor
