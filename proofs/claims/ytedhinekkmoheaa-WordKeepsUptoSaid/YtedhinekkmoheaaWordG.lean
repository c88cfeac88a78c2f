/- WordFields, the walk: for every word, field and value the law's function returns true, and what was in memory stays. -/
import Derived.Test.YtedhinekkmoheaaWordF
namespace Go.Proofs.Ytedhinekkmoheaa
open Go.RowKit WP
theorem hex7 : ((hexS 7).toList == [48, 48, 48, 48, 48, 48, 48, 55]) = true := by decide +kernel
theorem field_1234 : fieldI 4660 8 8 = 18 := by decide
theorem head_any (w : World) : Calls Try.prog 8 #[] w fun e w' => e = .returned (.bool true) ∧ Below w.heap.size w w' := by
  have hf := field_1234
  have hh := hex7
  go_enter Try.func8, Try.ntmps8
  go_wp2_with (first
    | (go_at_call 16; refine (add_any _ _ _ _ (by omega) (by omega) (by omega) (by omega) (by omega) (by omega)).mono ?_; rintro e w' ⟨rfl, rfl⟩)
    | (go_at_call 9; refine (field_yes _ _ _ _ (by omega) (by omega) (by omega) (by omega) (by omega)).mono ?_; rintro e w' ⟨rfl, rfl⟩)
    | (go_at_call 31; refine (hex_any _ _ (by omega) (by omega)).mono ?_; rintro e w1 ⟨rfl, hb⟩))

  go_ret
  exact ⟨rfl, hb⟩

set_option maxRecDepth 100000 in
set_option maxHeartbeats 1000000 in
theorem fields_yes (x lo n v : Int) (w : World) (h1 : 0 ≤ x) (h2 : x ≤ 4294967295) (v1 : 0 ≤ v) (v2 : v ≤ 4294967295) (h3 : 1 ≤ n) (h4 : 0 ≤ lo) (h5 : lo + n ≤ 32) :
    Calls Try.prog 3 #[.agg #[.int .u32 x, .int .i64 lo, .int .i64 n, .int .u32 v]] w fun e w' => e = .returned (.bool true) ∧ Below w.heap.size w w' := by
  have b0 := fieldI_bd x lo n (by omega)
  have b1 := setI_bd x lo n v h1 h2 (by omega) h4 h5
  have b2 := rotR_bd x lo h1 h2
  have b3 := f_ext_bd x n h1 h2 h3 (by omega)
  obtain ⟨b0a, b0b⟩ := b0
  obtain ⟨b1a, b1b⟩ := b1
  obtain ⟨b2a, b2b⟩ := b2
  obtain ⟨b3a, b3b⟩ := b3
  have e1 := f_moves x lo n h1 h3 h4 h5
  have e2 := f_back x lo n v h1 h2 h3 h4 h5
  have e3 := f_set x lo n v h1 h2 h3 h4 h5
  have e4 := f_set_lo x lo n v h1 h2 h3 h4 h5
  have e5 := f_set_hi x lo n v (32 - lo - n) h1 h2 h3 h4 h5
  have e6 := f_rot x lo (32 - lo) h1 h2 (by omega)
  have e7 := f_rot x lo (-lo) h1 h2 (by omega)
  have e8 := f_rot_low x lo h1 h2 h4 (by omega)
  have e9 := f_ext_low x n h1 h2 h3 (by omega)
  have e10 := f_ext_sign x n h1 h2 h3 (by omega)
  have e11 := f_ext_arith x n h3 (by omega)
  have b4a : 0 ≤ leftI x (32 - n) := by unfold leftI; omega
  have b4b : leftI x (32 - n) ≤ 4294967295 := by unfold leftI; omega
  have h6 : lo ≤ 31 := by omega
  have h7 : n ≤ 32 := by omega
  go_enter Try.func3, Try.ntmps3
  go_wp2_with fail
  go_quiet (fail)
  go_wp2_with (first
    | (go_at_call 8; refine (head_any _).mono ?_; rintro e w1 ⟨rfl, hb⟩)
    | (go_at_call 9; refine (field_yes _ _ _ _ (by omega) (by omega) (by omega) (by omega) (by omega)).mono ?_; rintro e w' ⟨rfl, rfl⟩)
    | (go_at_call 10; refine (set_yes _ _ _ _ _ (by omega) (by omega) (by omega) (by omega) (by omega) (by omega) (by omega)).mono ?_; rintro e w' ⟨rfl, rfl⟩)
    | (go_at_call 12; refine (left_any _ _ _ (by omega) (by omega)).mono ?_; rintro e w' ⟨rfl, rfl⟩)
    | (go_at_call 11; refine (right_any _ _ _ (by omega) (by omega)).mono ?_; rintro e w' ⟨rfl, rfl⟩)
    | (go_at_call 13; refine (rotate_any _ _ _ (by omega) (by omega) (by omega) (by omega)).mono ?_; rintro e w' ⟨rfl, rfl⟩)
    | (go_at_call 14; refine (extend_yes _ _ _ (by omega) (by omega) (by omega) (by omega)).mono ?_; rintro e w' ⟨rfl, rfl⟩)
    | (go_at_call 15; refine (arith_any _ _ _ (by omega) (by omega) (by omega) (by omega)).mono ?_; rintro e w' ⟨rfl, rfl⟩))
  all_goals
    go_ret
    refine ⟨rfl, ?_⟩
    exact (below_drewN ((Below.refl _ _).alloc (Nat.le_refl _) _) _).trans (hb.mono (by simp))
set_option maxRecDepth 100000 in
set_option maxHeartbeats 1000000 in
theorem fields_no (x lo n v : Int) (w : World) (b1 : -9223372036854775808 ≤ n) (b2 : n ≤ 9223372036854775807) (b3 : -9223372036854775808 ≤ lo) (b4 : lo ≤ 9223372036854775807) (h : n < 1 ∨ 32 < n ∨ lo < 0 ∨ 31 < lo ∨ 32 < lo + n) :
    Calls Try.prog 3 #[.agg #[.int .u32 x, .int .i64 lo, .int .i64 n, .int .u32 v]] w fun e w' => e = .returned (.bool true) ∧ Below w.heap.size w w' := by
  have hmay : n < 1 ∨ (¬ n < 1 ∧ 32 < n) ∨ (¬ n < 1 ∧ ¬ 32 < n ∧ lo < 0) ∨ (¬ n < 1 ∧ ¬ 32 < n ∧ ¬ lo < 0 ∧ 31 < lo) ∨ (¬ n < 1 ∧ ¬ 32 < n ∧ ¬ lo < 0 ∧ ¬ 31 < lo ∧ 32 - lo < n) := by omega
  have H := Lib.hid h; clear h
  rcases hmay with c | ⟨c1, c⟩ | ⟨c1, c2, c⟩ | ⟨c1, c2, c3, c⟩ | ⟨c1, c2, c3, c4, c⟩
  all_goals
    go_enter Try.func3, Try.ntmps3
    go_wp2_with fail
    go_quiet (fail)
    go_wp2_with (first
      | (go_at_call 8; refine (head_any _).mono ?_; rintro e w1 ⟨rfl, hb⟩)
      | (go_at_call 9; refine (field_no _ _ _ _ b1 b2 b3 b4 H.out).mono ?_; rintro e w' ⟨rfl, rfl⟩)
      | (go_at_call 10; refine (set_no _ _ _ _ _ b1 b2 b3 b4 H.out).mono ?_; rintro e w' ⟨rfl, rfl⟩))
    go_ret
    refine ⟨rfl, ?_⟩
    exact (below_drewN ((Below.refl _ _).alloc (Nat.le_refl _) _) _).trans (hb.mono (by simp))
end Go.Proofs.Ytedhinekkmoheaa
