/- The contracts of the law's plays and of WordAll. -/
import Derived.Test.YtedhinekkmoheaaLawE
namespace Go.Proofs.Ytedhinekkmoheaa
open Go.RowKit WP
structure OpOk (w : World) (A B C D N M : Int) (vL vP vB : Value) (l p : List UInt32) (b : List UInt8) (s : ByteArray) : Prop where
  a1 : 0 ≤ A
  a2 : A ≤ 4294967295
  b1 : 0 ≤ B
  b2 : B ≤ 4294967295
  c1 : 0 ≤ C
  c2 : C ≤ 4294967295
  d1 : 0 ≤ D
  d2 : D ≤ 4294967295
  n1 : -9223372036854775808 ≤ N
  n2 : N ≤ 9223372036854775807
  m1 : -9223372036854775808 ≤ M
  m2 : M ≤ 9223372036854775807
  hL : Rd w vL (vw l)
  hP : Rd w vP (vw p)
  hB : Rd w vB (vb b)
  lL : l.length ≤ 4294967296
  lS : s.size ≤ 9223372036854775807
theorem OpOk.mono {w w' : World} {A B C D N M : Int} {vL vP vB : Value} {l p : List UInt32} {b : List UInt8} {s : ByteArray} (h : OpOk w A B C D N M vL vP vB l p b s) (hb : Below w.heap.size w w') : OpOk w' A B C D N M vL vP vB l p b s :=
  { h with hL := h.hL.mono hb, hP := h.hP.mono hb, hB := h.hB.mono hb }
theorem ltexts_any (K A B C D N M : Int) (vL vP vB : Value) (l p : List UInt32) (b : List UInt8) (s : ByteArray) (w : World) (h : OpOk w A B C D N M vL vP vB l p b s) :
    Calls Try.prog 44 #[.agg #[.int .i64 K, .int .u32 A, .int .u32 B, .int .u32 C, .int .u32 D, .int .i64 N, .int .i64 M, vL, vP, vB, .string s]] w fun e w' => e = .returned (.bool true) ∧ Below w.heap.size w w' := by
  by_cases k1 : K = 1
  · subst k1; exact ltexts_1 A B C D N M vL vP vB s w l h.hL h.lL
  by_cases k2 : K = 2
  · subst k2; exact ltexts_2 A B C D N M vL vP vB s w b h.hB
  by_cases k3 : K = 3
  · subst k3; exact ltexts_3 A B C D N M vL vP vB s w h.a1 h.a2
  by_cases k4 : K = 4
  · subst k4; exact ltexts_4 A B C D N M vL vP vB s w h.lS
  by_cases k5 : K = 5
  · subst k5; exact ltexts_5 A B C D N M vL vP vB s w l h.hL h.lL
  exact ltexts_else A B C D N M vL vP vB s w K h.lS (beq_eq_false_iff_ne.2 k1) (beq_eq_false_iff_ne.2 k2) (beq_eq_false_iff_ne.2 k3) (beq_eq_false_iff_ne.2 k4) (beq_eq_false_iff_ne.2 k5)
set_option maxRecDepth 100000 in
set_option maxHeartbeats 1000000 in
theorem plays_any (K A B C D N M : Int) (vL vP vB : Value) (l p : List UInt32) (b : List UInt8) (s : ByteArray) (w : World) (h : OpOk w A B C D N M vL vP vB l p b s) (K1 : -9223372036854775808 ≤ K) (K2 : K ≤ 9223372036854775807) :
    Calls Try.prog 33 #[.agg #[.int .i64 K, .int .u32 A, .int .u32 B, .int .u32 C, .int .u32 D, .int .i64 N, .int .i64 M, vL, vP, vB, .string s]] w fun e w' => e = .returned (.bool true) ∧ Below w.heap.size w w' := by
  have hw : OpOk (w.alloc (.cells #[.int .i64 K, .int .u32 A, .int .u32 B, .int .u32 C, .int .u32 D, .int .i64 N, .int .i64 M, vL, vP, vB, .string s] 67)) A B C D N M vL vP vB l p b s :=
    { h with hL := h.hL.alloc _, hP := h.hP.alloc _, hB := h.hB.alloc _ }
  have hw := Lib.hid hw
  clear h
  have hk : (K < 1) ∨ (1 ≤ K ∧ K ≤ 6) ∨ (1 ≤ K ∧ 7 ≤ K ∧ K ≤ 15) ∨ (1 ≤ K ∧ 7 ≤ K ∧ 16 ≤ K) := by omega
  rcases hk with h1 | ⟨h1, h2⟩ | ⟨h1, h2, h3⟩ | ⟨h1, h2, h3⟩
  all_goals
    go_enter Try.func33, Try.ntmps33
    go_wp2_with (first
      | (go_at_call 44; refine (ltexts_any _ _ _ _ _ _ _ _ _ _ l p b s _ hw.out).mono ?_; rintro e w1 ⟨rfl, hb⟩)
      | (go_at_call 45; refine (lsums_any _ _ _ _ _ _ _ _ _ _ l p s _ hw.out.hL hw.out.hP hw.out.a1 hw.out.a2 hw.out.b1 hw.out.b2 hw.out.c1 hw.out.c2 hw.out.d1 hw.out.d2 hw.out.n1 hw.out.n2 hw.out.m1 hw.out.m2).mono ?_; rintro e w1 ⟨rfl, hb⟩))
    go_ret
    exact ⟨rfl, by first | exact (Below.refl _ _).alloc (Nat.le_refl _) _ | exact ((Below.refl _ _).alloc (Nat.le_refl _) _).trans (hb.mono (by simp))⟩
end Go.Proofs.Ytedhinekkmoheaa
