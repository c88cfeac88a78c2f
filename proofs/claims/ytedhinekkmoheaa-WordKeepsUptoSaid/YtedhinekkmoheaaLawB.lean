/- The contract of the law's sums. -/
import Derived.Test.YtedhinekkmoheaaLawA
namespace Go.Proofs.Ytedhinekkmoheaa
open Go.RowKit WP
/-- .. of a callee that draws nothing: a contract 'e = .returned v ∧ w = w''. -/
theorem quiet_eq {P : Program} {f : FuncId} {args : Array Value} {w : World} {n : Nat} {v : Value}
    (h : Calls P f args (w.drewN n) fun e w' => e = .returned v ∧ w.drewN n = w') : Calls P f args (w.drewN n) fun e w'' => e = .returned v ∧ ∃ m, w'' = w.drewN m :=
  h.mono fun _ _ ⟨he, hm⟩ => ⟨he, n, hm.symm⟩
set_option linter.unusedSectionVars false
section
variable (A B C D N M : Int) (vL vP vB : Value) (s : ByteArray) (w : World)
    (A1 : 0 ≤ A) (A2 : A ≤ 4294967295) (B1 : 0 ≤ B) (B2 : B ≤ 4294967295) (C1 : 0 ≤ C) (C2 : C ≤ 4294967295) (D1 : 0 ≤ D) (D2 : D ≤ 4294967295)
    (N1 : -9223372036854775808 ≤ N) (N2 : N ≤ 9223372036854775807) (M1 : -9223372036854775808 ≤ M) (M2 : M ≤ 9223372036854775807)
include A1 A2 B1 B2 C1 C2 D1 D2 N1 N2 M1 M2
set_option maxRecDepth 100000 in
set_option maxHeartbeats 1000000 in
theorem lsums_7 :
    Calls Try.prog 45 #[.agg #[.int .i64 7, .int .u32 A, .int .u32 B, .int .u32 C, .int .u32 D, .int .i64 N, .int .i64 M, vL, vP, vB, .string s]] w fun e w' => e = .returned (.bool true) ∧ Below w.heap.size w w' := by
  go_enter Try.func45, Try.ntmps45
  go_wp2_with fail
  go_quiet (first
    | (go_at_call 9; exact quiet_eq (field_all _ _ _ _ (by omega) (by omega) (by omega) (by omega) (by omega) (by omega)))
    | (go_at_call 49; exact quiet_eq (rfield_all _ _ _ _ (by omega) (by omega) (by omega) (by omega) (by omega) (by omega))))
  go_wp2
  go_ret
  exact ⟨ret_bool (by simp), by first | exact below_drewN ((Below.refl _ _).alloc (Nat.le_refl _) _) _ | exact below_drewN (below_drewN ((Below.refl _ _).alloc (Nat.le_refl _) _) _) _ | exact (Below.refl _ _).alloc (Nat.le_refl _) _⟩
set_option maxRecDepth 100000 in
set_option maxHeartbeats 1000000 in
theorem lsums_8 :
    Calls Try.prog 45 #[.agg #[.int .i64 8, .int .u32 A, .int .u32 B, .int .u32 C, .int .u32 D, .int .i64 N, .int .i64 M, vL, vP, vB, .string s]] w fun e w' => e = .returned (.bool true) ∧ Below w.heap.size w w' := by
  go_enter Try.func45, Try.ntmps45
  go_wp2_with fail
  go_quiet (first
    | (go_at_call 10; exact quiet_eq (set_all _ _ _ _ _ (by omega) (by omega) (by omega) (by omega) (by omega) (by omega) (by omega) (by omega)))
    | (go_at_call 50; exact quiet_eq (rset_all _ _ _ _ _ (by omega) (by omega) (by omega) (by omega) (by omega) (by omega) (by omega) (by omega))))
  go_wp2
  go_ret
  exact ⟨ret_bool (by simp), by first | exact below_drewN ((Below.refl _ _).alloc (Nat.le_refl _) _) _ | exact below_drewN (below_drewN ((Below.refl _ _).alloc (Nat.le_refl _) _) _) _ | exact (Below.refl _ _).alloc (Nat.le_refl _) _⟩
set_option maxRecDepth 100000 in
set_option maxHeartbeats 1000000 in
theorem lsums_9 :
    Calls Try.prog 45 #[.agg #[.int .i64 9, .int .u32 A, .int .u32 B, .int .u32 C, .int .u32 D, .int .i64 N, .int .i64 M, vL, vP, vB, .string s]] w fun e w' => e = .returned (.bool true) ∧ Below w.heap.size w w' := by
  go_enter Try.func45, Try.ntmps45
  go_wp2_with fail
  go_quiet (first
    | (go_at_call 14; exact quiet_eq (extend_all _ _ _ (by omega) (by omega) (by omega) (by omega)))
    | (go_at_call 51; exact quiet_eq (rextend_all _ _ _ (by omega) (by omega) (by omega) (by omega))))
  go_wp2
  go_ret
  exact ⟨ret_bool (by simp), by first | exact below_drewN ((Below.refl _ _).alloc (Nat.le_refl _) _) _ | exact below_drewN (below_drewN ((Below.refl _ _).alloc (Nat.le_refl _) _) _) _ | exact (Below.refl _ _).alloc (Nat.le_refl _) _⟩
set_option maxRecDepth 100000 in
set_option maxHeartbeats 1000000 in
theorem lsums_11 :
    Calls Try.prog 45 #[.agg #[.int .i64 11, .int .u32 A, .int .u32 B, .int .u32 C, .int .u32 D, .int .i64 N, .int .i64 M, vL, vP, vB, .string s]] w fun e w' => e = .returned (.bool true) ∧ Below w.heap.size w w' := by
  go_enter Try.func45, Try.ntmps45
  go_wp2_with fail
  go_quiet (first
    | (go_at_call 13; exact quiet_eq (rotate_any _ _ _ (by omega) (by omega) (by omega) (by omega)))
    | (go_at_call 55; exact quiet_eq (rrotate_any _ _ _ (by omega) (by omega) (by omega) (by omega))))
  go_wp2
  go_ret
  exact ⟨ret_bool (by simp), by first | exact below_drewN ((Below.refl _ _).alloc (Nat.le_refl _) _) _ | exact below_drewN (below_drewN ((Below.refl _ _).alloc (Nat.le_refl _) _) _) _ | exact (Below.refl _ _).alloc (Nat.le_refl _) _⟩
set_option maxRecDepth 100000 in
set_option maxHeartbeats 1000000 in
theorem lsums_13 :
    Calls Try.prog 45 #[.agg #[.int .i64 13, .int .u32 A, .int .u32 B, .int .u32 C, .int .u32 D, .int .i64 N, .int .i64 M, vL, vP, vB, .string s]] w fun e w' => e = .returned (.bool true) ∧ Below w.heap.size w w' := by
  go_enter Try.func45, Try.ntmps45
  go_wp2_with fail
  go_quiet (first
    | (go_at_call 17; exact quiet_eq (div_all _ _ _ (by omega) (by omega) (by omega) (by omega)))
    | (go_at_call 57; exact quiet_eq (rdiv_all _ _ _ (by omega) (by omega) (by omega) (by omega)))
    | (go_at_call 18; exact quiet_eq (less_any _ _ _ ))
    | (go_at_call 58; exact quiet_eq (rless_any _ _ _ (by omega) (by omega) (by omega) (by omega))))
  go_wp2
  go_ret
  exact ⟨ret_bool (by simp), by first | exact below_drewN ((Below.refl _ _).alloc (Nat.le_refl _) _) _ | exact below_drewN (below_drewN ((Below.refl _ _).alloc (Nat.le_refl _) _) _) _ | exact (Below.refl _ _).alloc (Nat.le_refl _) _⟩
set_option maxRecDepth 100000 in
set_option maxHeartbeats 1000000 in
theorem lsums_14 :
    Calls Try.prog 45 #[.agg #[.int .i64 14, .int .u32 A, .int .u32 B, .int .u32 C, .int .u32 D, .int .i64 N, .int .i64 M, vL, vP, vB, .string s]] w fun e w' => e = .returned (.bool true) ∧ Below w.heap.size w w' := by
  go_enter Try.func45, Try.ntmps45
  go_wp2_with fail
  go_quiet (first
    | (go_at_call 19; exact quiet_eq (overlap_any _ _ _ _ _ (by omega) (by omega) (by omega) (by omega) (by omega) (by omega) (by omega) (by omega)))
    | (go_at_call 59; exact quiet_eq (roverlap_any _ _ _ _ _ (by omega) (by omega) (by omega) (by omega) (by omega) (by omega) (by omega) (by omega))))
  go_wp2
  go_ret
  exact ⟨ret_bool (by simp), by first | exact below_drewN ((Below.refl _ _).alloc (Nat.le_refl _) _) _ | exact below_drewN (below_drewN ((Below.refl _ _).alloc (Nat.le_refl _) _) _) _ | exact (Below.refl _ _).alloc (Nat.le_refl _) _⟩
set_option maxRecDepth 100000 in
set_option maxHeartbeats 1000000 in
theorem lsums_10 :
    Calls Try.prog 45 #[.agg #[.int .i64 10, .int .u32 A, .int .u32 B, .int .u32 C, .int .u32 D, .int .i64 N, .int .i64 M, vL, vP, vB, .string s]] w fun e w' => e = .returned (.bool true) ∧ Below w.heap.size w w' := by
  go_enter Try.func45, Try.ntmps45
  go_wp2_with fail
  go_quiet (first
    | (go_at_call 12; exact quiet_eq (left_any _ _ _ (by omega) (by omega)))
    | (go_at_call 52; exact quiet_eq (rleft_any _ _ _ (by omega) (by omega) (by omega) (by omega))))
  go_wp2_with fail
  obtain ⟨wq, hwq⟩ : ∃ wq, (w.alloc (.cells #[.int .i64 10, .int .u32 A, .int .u32 B, .int .u32 C, .int .u32 D, .int .i64 N, .int .i64 M, vL, vP, vB, .string s] 67)).drewN nq = wq := ⟨_, rfl⟩
  have c1 : wq.cell? ⟨w.heap.size, 1, none⟩ = some (.int .u32 A) := by rw [← hwq]; simp [go_sem]
  have c2 : wq.cell? ⟨w.heap.size, 2, none⟩ = some (.int .u32 B) := by rw [← hwq]; simp [go_sem]
  have hB : Below w.heap.size w wq := by rw [← hwq]; exact below_drewN ((Below.refl _ _).alloc (Nat.le_refl _) _) _
  rw [hwq]
  clear hwq
  go_quiet (first
    | (go_at_call 11; exact quiet_eq (right_any _ _ _ (by omega) (by omega)))
    | (go_at_call 53; exact quiet_eq (rright_any _ _ _ (by omega) (by omega) (by omega) (by omega)))
    | (go_at_call 15; exact quiet_eq (arith_any _ _ _ (by omega) (by omega) (by omega) (by omega)))
    | (go_at_call 54; exact quiet_eq (rarith_any _ _ _ (by omega) (by omega) (by omega) (by omega))))
  go_wp2
  go_ret
  exact ⟨ret_bool (by simp), below_drewN hB _⟩
set_option maxRecDepth 100000 in
set_option maxHeartbeats 1000000 in
theorem lsums_12 :
    Calls Try.prog 45 #[.agg #[.int .i64 12, .int .u32 A, .int .u32 B, .int .u32 C, .int .u32 D, .int .i64 N, .int .i64 M, vL, vP, vB, .string s]] w fun e w' => e = .returned (.bool true) ∧ Below w.heap.size w w' := by
  go_enter Try.func45, Try.ntmps45
  go_wp2_with (first
    | (go_at_call 16; refine (add_any _ _ _ _ (by omega) (by omega) (by omega) (by omega) (by omega) (by omega)).mono ?_; rintro e w' ⟨rfl, rfl⟩)
    | (go_at_call 56; refine (radd_any _ _ _ _ (by omega) (by omega) (by omega) (by omega) (by omega) (by omega)).mono ?_; rintro e w' ⟨rfl, rfl⟩))
  go_ret
  exact ⟨ret_bool (by simp), by first | exact below_drewN ((Below.refl _ _).alloc (Nat.le_refl _) _) _ | exact below_drewN (below_drewN ((Below.refl _ _).alloc (Nat.le_refl _) _) _) _ | exact (Below.refl _ _).alloc (Nat.le_refl _) _⟩
end
end Go.Proofs.Ytedhinekkmoheaa
