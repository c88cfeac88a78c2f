/- The contract of the law's sums, whole; and of its texts. -/
import Derived.Test.YtedhinekkmoheaaLawB
import Derived.Test.YtedhinekkmoheaaWordK
namespace Go.Proofs.Ytedhinekkmoheaa
open Go.RowKit WP
set_option maxRecDepth 100000 in
set_option maxHeartbeats 1000000 in
theorem lsums_else (K A B C D N M : Int) (vL vP vB : Value) (l p : List UInt32) (s : ByteArray) (w : World) (hl : Rd w vL (vw l)) (hp : Rd w vP (vw p))
    (k7 : (K == 7) = false) (k8 : (K == 8) = false) (k9 : (K == 9) = false) (k10 : (K == 10) = false) (k11 : (K == 11) = false) (k12 : (K == 12) = false) (k13 : (K == 13) = false) (k14 : (K == 14) = false) :
    Calls Try.prog 45 #[.agg #[.int .i64 K, .int .u32 A, .int .u32 B, .int .u32 C, .int .u32 D, .int .i64 N, .int .i64 M, vL, vP, vB, .string s]] w fun e w' => e = .returned (.bool true) ∧ Below w.heap.size w w' := by
  have hl := Lib.hid hl; have hp := Lib.hid hp
  go_enter Try.func45, Try.ntmps45
  go_wp2_with fail
  refine (rsame_any _ _ l p _ (hl.out.alloc _) (hp.out.alloc _)).mono ?_
  rintro e w2 ⟨rfl, n2, rfl⟩
  go_wp2_with fail
  refine (same_any _ _ l p _ ((hl.out.alloc _).drewN _) ((hp.out.alloc _).drewN _)).mono ?_
  rintro e w2 ⟨rfl, n3, rfl⟩
  go_wp2_with fail
  go_ret
  exact ⟨ret_bool (by simp), below_drewN ((Below.refl _ _).alloc (Nat.le_refl _) _) _⟩
theorem lsums_any (K A B C D N M : Int) (vL vP vB : Value) (l p : List UInt32) (s : ByteArray) (w : World) (hl : Rd w vL (vw l)) (hp : Rd w vP (vw p))
    (A1 : 0 ≤ A) (A2 : A ≤ 4294967295) (B1 : 0 ≤ B) (B2 : B ≤ 4294967295) (C1 : 0 ≤ C) (C2 : C ≤ 4294967295) (D1 : 0 ≤ D) (D2 : D ≤ 4294967295)
    (N1 : -9223372036854775808 ≤ N) (N2 : N ≤ 9223372036854775807) (M1 : -9223372036854775808 ≤ M) (M2 : M ≤ 9223372036854775807) :
    Calls Try.prog 45 #[.agg #[.int .i64 K, .int .u32 A, .int .u32 B, .int .u32 C, .int .u32 D, .int .i64 N, .int .i64 M, vL, vP, vB, .string s]] w fun e w' => e = .returned (.bool true) ∧ Below w.heap.size w w' := by
  by_cases k7 : K = 7
  · subst k7; exact lsums_7 A B C D N M vL vP vB s w A1 A2 B1 B2 C1 C2 D1 D2 N1 N2 M1 M2
  by_cases k8 : K = 8
  · subst k8; exact lsums_8 A B C D N M vL vP vB s w A1 A2 B1 B2 C1 C2 D1 D2 N1 N2 M1 M2
  by_cases k9 : K = 9
  · subst k9; exact lsums_9 A B C D N M vL vP vB s w A1 A2 B1 B2 C1 C2 D1 D2 N1 N2 M1 M2
  by_cases k10 : K = 10
  · subst k10; exact lsums_10 A B C D N M vL vP vB s w A1 A2 B1 B2 C1 C2 D1 D2 N1 N2 M1 M2
  by_cases k11 : K = 11
  · subst k11; exact lsums_11 A B C D N M vL vP vB s w A1 A2 B1 B2 C1 C2 D1 D2 N1 N2 M1 M2
  by_cases k12 : K = 12
  · subst k12; exact lsums_12 A B C D N M vL vP vB s w A1 A2 B1 B2 C1 C2 D1 D2 N1 N2 M1 M2
  by_cases k13 : K = 13
  · subst k13; exact lsums_13 A B C D N M vL vP vB s w A1 A2 B1 B2 C1 C2 D1 D2 N1 N2 M1 M2
  by_cases k14 : K = 14
  · subst k14; exact lsums_14 A B C D N M vL vP vB s w A1 A2 B1 B2 C1 C2 D1 D2 N1 N2 M1 M2
  exact lsums_else K A B C D N M vL vP vB l p s w hl hp (beq_eq_false_iff_ne.2 k7) (beq_eq_false_iff_ne.2 k8) (beq_eq_false_iff_ne.2 k9) (beq_eq_false_iff_ne.2 k10) (beq_eq_false_iff_ne.2 k11) (beq_eq_false_iff_ne.2 k12) (beq_eq_false_iff_ne.2 k13) (beq_eq_false_iff_ne.2 k14)
end Go.Proofs.Ytedhinekkmoheaa
