/- Whole contracts (both ways of a question in one) of Field, SetField, Extend, Div, of the program and of the reference. -/
import Derived.Test.YtedhinekkmoheaaRefI
import Derived.Test.YtedhinekkmoheaaWordT
namespace Go.Proofs.Ytedhinekkmoheaa
open Go.RowKit WP
def okF (lo n : Int) : Bool := decide (1 ≤ n ∧ 0 ≤ lo ∧ lo + n ≤ 32)
def fieldA (x lo n : Int) : Int := if okF lo n then fieldI x lo n else 0
def setA' (x lo n v : Int) : Int := if okF lo n then setI x lo n v else x
def extA (x n : Int) : Int := if decide (1 ≤ n ∧ n ≤ 32) then extI x n else 0
def divA (x n : Int) : Int := if decide (1 ≤ n) then x / n else 4294967295
section
variable (w : World)
theorem field_all (x lo n : Int) (h1 : 0 ≤ x) (h2 : x ≤ 4294967295) (b1 : -9223372036854775808 ≤ n) (b2 : n ≤ 9223372036854775807) (b3 : -9223372036854775808 ≤ lo) (b4 : lo ≤ 9223372036854775807) :
    Calls Try.prog 9 #[.int .u32 x, .int .i64 lo, .int .i64 n] w fun e w' => e = .returned (.int .u32 (fieldA x lo n)) ∧ w = w' := by
  unfold fieldA okF
  by_cases h : 1 ≤ n ∧ 0 ≤ lo ∧ lo + n ≤ 32
  · rw [decide_eq_true h, if_pos rfl]; exact field_yes x lo n w h1 h2 h.1 h.2.1 h.2.2
  · rw [decide_eq_false h, if_neg (by decide)]; exact field_no x lo n w b1 b2 b3 b4 (by omega)
theorem rfield_all (x lo n : Int) (h1 : 0 ≤ x) (h2 : x ≤ 4294967295) (b1 : -9223372036854775808 ≤ n) (b2 : n ≤ 9223372036854775807) (b3 : -9223372036854775808 ≤ lo) (b4 : lo ≤ 9223372036854775807) :
    Calls Try.prog 49 #[.int .u32 x, .int .i64 lo, .int .i64 n] w fun e w' => e = .returned (.int .u32 (fieldA x lo n)) ∧ w = w' := by
  unfold fieldA okF
  by_cases h : 1 ≤ n ∧ 0 ≤ lo ∧ lo + n ≤ 32
  · rw [decide_eq_true h, if_pos rfl]; exact rfield_yes x lo n w h1 h2 h.1 h.2.1 h.2.2
  · rw [decide_eq_false h, if_neg (by decide)]; exact rfield_no x lo n w b1 b2 b3 b4 (by omega)
theorem set_all (x lo n v : Int) (h1 : 0 ≤ x) (h2 : x ≤ 4294967295) (v1 : 0 ≤ v) (v2 : v ≤ 4294967295) (b1 : -9223372036854775808 ≤ n) (b2 : n ≤ 9223372036854775807) (b3 : -9223372036854775808 ≤ lo) (b4 : lo ≤ 9223372036854775807) :
    Calls Try.prog 10 #[.int .u32 x, .int .i64 lo, .int .i64 n, .int .u32 v] w fun e w' => e = .returned (.int .u32 (setA' x lo n v)) ∧ w = w' := by
  unfold setA' okF
  by_cases h : 1 ≤ n ∧ 0 ≤ lo ∧ lo + n ≤ 32
  · rw [decide_eq_true h, if_pos rfl]; exact set_yes x lo n v w h1 h2 v1 v2 h.1 h.2.1 h.2.2
  · rw [decide_eq_false h, if_neg (by decide)]; exact set_no x lo n v w b1 b2 b3 b4 (by omega)
theorem rset_all (x lo n v : Int) (h1 : 0 ≤ x) (h2 : x ≤ 4294967295) (v1 : 0 ≤ v) (v2 : v ≤ 4294967295) (b1 : -9223372036854775808 ≤ n) (b2 : n ≤ 9223372036854775807) (b3 : -9223372036854775808 ≤ lo) (b4 : lo ≤ 9223372036854775807) :
    Calls Try.prog 50 #[.int .u32 x, .int .i64 lo, .int .i64 n, .int .u32 v] w fun e w' => e = .returned (.int .u32 (setA' x lo n v)) ∧ w = w' := by
  unfold setA' okF
  by_cases h : 1 ≤ n ∧ 0 ≤ lo ∧ lo + n ≤ 32
  · rw [decide_eq_true h, if_pos rfl]; exact rset_yes x lo n v w h1 h2 v1 v2 h.1 h.2.1 h.2.2
  · rw [decide_eq_false h, if_neg (by decide)]; exact rset_no x lo n v w b1 b2 b3 b4 (by omega)
theorem extend_all (x n : Int) (h1 : 0 ≤ x) (h2 : x ≤ 4294967295) (b1 : -9223372036854775808 ≤ n) (b2 : n ≤ 9223372036854775807) :
    Calls Try.prog 14 #[.int .u32 x, .int .i64 n] w fun e w' => e = .returned (.int .i32 (extA x n)) ∧ w = w' := by
  unfold extA
  by_cases h : 1 ≤ n ∧ n ≤ 32
  · rw [decide_eq_true h, if_pos rfl]; exact extend_yes x n w h1 h2 h.1 h.2
  · rw [decide_eq_false h, if_neg (by decide)]; exact extend_no x n w b1 b2 (by omega)
theorem rextend_all (x n : Int) (h1 : 0 ≤ x) (h2 : x ≤ 4294967295) (b1 : -9223372036854775808 ≤ n) (b2 : n ≤ 9223372036854775807) :
    Calls Try.prog 51 #[.int .u32 x, .int .i64 n] w fun e w' => e = .returned (.int .i32 (extA x n)) ∧ w = w' := by
  unfold extA
  by_cases h : 1 ≤ n ∧ n ≤ 32
  · rw [decide_eq_true h, if_pos rfl]; exact rextend_yes x n w h1 h2 h.1 h.2
  · rw [decide_eq_false h, if_neg (by decide)]; exact rextend_no x n w b1 b2 (by omega)
theorem div_all (x n : Int) (h1 : 0 ≤ x) (h2 : x ≤ 4294967295) (h3 : 0 ≤ n) (h4 : n ≤ 4294967295) :
    Calls Try.prog 17 #[.int .u32 x, .int .u32 n] w fun e w' => e = .returned (.int .u32 (divA x n)) ∧ w = w' := by
  unfold divA
  by_cases h : 1 ≤ n
  · rw [decide_eq_true h, if_pos rfl]; exact div_yes x n w h1 h2 h h4
  · rw [decide_eq_false h, if_neg (by decide)]; obtain rfl : n = 0 := by omega
    exact div_no x w
theorem rdiv_all (x n : Int) (h1 : 0 ≤ x) (h2 : x ≤ 4294967295) (h3 : 0 ≤ n) (h4 : n ≤ 4294967295) :
    Calls Try.prog 57 #[.int .u32 x, .int .u32 n] w fun e w' => e = .returned (.int .u32 (divA x n)) ∧ w = w' := by
  unfold divA
  by_cases h : 1 ≤ n
  · rw [decide_eq_true h, if_pos rfl]; exact rdiv_yes x n w h1 h2 h h4
  · rw [decide_eq_false h, if_neg (by decide)]; obtain rfl : n = 0 := by omega
    exact rdiv_no x w
end
theorem numbers_any (w : World) : Calls Try.prog 32 #[] w fun e w' => e = .returned (.bool true) ∧ w = w' := by
  go_enter Try.func32, Try.ntmps32
  go_wp2
  go_ret
  exact ⟨rfl, rfl⟩
end Go.Proofs.Ytedhinekkmoheaa
