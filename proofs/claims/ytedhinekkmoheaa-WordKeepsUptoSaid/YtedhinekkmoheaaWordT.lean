/- WordSums, the walk. -/
import Derived.Test.YtedhinekkmoheaaWordS
import Derived.Test.YtedhinekkmoheaaWordG
namespace Go.Proofs.Ytedhinekkmoheaa
open Go.RowKit WP

def overB (a n b m : Int) : Bool := decide (0 < n ∧ 0 < m ∧ a < b + m ∧ b < a + n)
set_option maxHeartbeats 1000000 in
theorem overlap_any (a n b m : Int) (w : World) (a1 : 0 ≤ a) (a2 : a ≤ 4294967295) (n1 : 0 ≤ n) (n2 : n ≤ 4294967295) (b1 : 0 ≤ b) (b2 : b ≤ 4294967295) (m1 : 0 ≤ m) (m2 : m ≤ 4294967295) :
    Calls Try.prog 19 #[.int .u32 a, .int .u32 n, .int .u32 b, .int .u32 m] w fun e w' => e = .returned (.bool (overB a n b m)) ∧ w = w' := by
  by_cases c1 : 4294967296 < a + n <;> by_cases c2 : 4294967296 < b + m <;> by_cases c3 : a < b <;> by_cases c4 : a + n < b + m
  all_goals
    go_enter Try.func19, Try.ntmps19
    go_wp2
    all_goals
      go_ret
      refine ⟨ret_bool ?_, rfl⟩
      unfold overB
      simp only [decide_eq_decide]
      first | omega | (simp; omega)
end Go.Proofs.Ytedhinekkmoheaa
