/- The contract of mac's Same; of attest's Verify. -/
import Derived.Test.YtemanjahkohcpaaDoorAAtt
namespace Go.Proofs.YtemanjahkohcpaaDoor
open Go.RowKit WP
theorem nat_xor_zero (x y : Nat) : x ^^^ y = 0 ↔ x = y := by
  constructor
  · intro h
    apply Nat.eq_of_testBit_eq; intro i
    have := congrArg (fun n => n.testBit i) h
    simp only [Nat.testBit_xor, Nat.zero_testBit] at this
    revert this; cases x.testBit i <;> cases y.testBit i <;> simp
  · rintro rfl; simp
theorem xor_zero (A x y : Int) (a1 : 0 ≤ A) (a2 : A ≤ 4294967295) (x1 : 0 ≤ x) (x2 : x ≤ 4294967295) (y1 : 0 ≤ y) (y2 : y ≤ 4294967295) :
    ∃ C : Int, bits .or .u32 A (bits .xor .u32 x y) = C ∧ 0 ≤ C ∧ C ≤ 4294967295 ∧ (C = 0 ↔ A = 0 ∧ x = y) := by
  refine ⟨_, rfl, ?_⟩
  have l1 : A.toNat < 2 ^ 32 := by omega
  have l2 : x.toNat < 2 ^ 32 := by omega
  have l3 : y.toNat < 2 ^ 32 := by omega
  have l4 := Nat.xor_lt_two_pow l2 l3
  have l5 := Nat.or_lt_two_pow l1 l4
  rw [u32_xor x y x1 (by omega) y1 (by omega), u32_or A _ a1 (by omega) (Int.natCast_nonneg _) (by omega), Int.toNat_natCast]
  refine ⟨Int.natCast_nonneg _, by omega, ?_⟩
  have e1 : ((((A.toNat ||| x.toNat ^^^ y.toNat : Nat)) : Int) = 0) ↔ (A.toNat ||| x.toNat ^^^ y.toNat) = 0 := by omega
  rw [e1, Nat.or_eq_zero_iff, nat_xor_zero]
  omega
theorem wAt_inj (a b : List UInt32) (k : Nat) (ha : k < a.length) (hb : k < b.length) : wAt a k = wAt b k ↔ a[k] = b[k] := by
  simp only [wAt, List.getD_eq_getElem?_getD, List.getElem?_eq_getElem ha, List.getElem?_eq_getElem hb, Option.getD_some]
  rw [← UInt32.toNat_inj]; omega
theorem take_succ_eq {α : Type} (a b : List α) (k : Nat) (ha : k < a.length) (hb : k < b.length) : (a.take (k + 1) = b.take (k + 1)) ↔ (a.take k = b.take k ∧ a[k] = b[k]) := by
  rw [List.take_succ_eq_append_getElem ha, List.take_succ_eq_append_getElem hb]
  constructor
  · intro h
    have := List.append_inj h (by simp; omega)
    exact ⟨this.1, by simpa using this.2⟩
  · rintro ⟨h1, h2⟩; rw [h1, h2]

set_option maxRecDepth 100000 in
set_option maxHeartbeats 2000000 in
theorem msame_any (a b : List UInt32) (w : World) (la : a.length = 8) (lb : b.length = 8) :
    Calls Tryd.prog 33 #[.agg (vw a).toArray, .agg (vw b).toArray] w fun e w' => e = .returned (.tuple #[.bool (decide (a = b)), .int .i64 8]) ∧ Below w.heap.size w w' := by
  obtain ⟨w1, hw1⟩ : ∃ w1, (w.alloc (.cells (vw a).toArray 23)).alloc (.cells (vw b).toArray 23) = w1 := ⟨_, rfl⟩
  have aA : Arr w1 w.heap.size 23 a := by rw [← hw1]; exact (Arr.new w _ a).alloc _
  have aB : Arr w1 (w.heap.size + 1) 23 b := by
    rw [← hw1]
    have := Arr.new (w.alloc (.cells (vw a).toArray 23)) 23 b
    simpa using this
  have hb1 : Below w.heap.size w w1 := by rw [← hw1]; exact ((Below.refl _ _).alloc (Nat.le_refl _) _).alloc (by simp) _
  replace aA := Lib.hid aA; replace aB := Lib.hid aB; replace hb1 := Lib.hid hb1
  go_enter Tryd.func33, Tryd.ntmps33
  go_upto_region 1 with fail
  clear hw1
  go_wp2_with fail
  go_loopw [5, 6, 7, 8] (fun lk ap _ i wr => ∃ (k : Nat) (A : Int), k ≤ 8 ∧ i = .int .i64 k ∧ lk = .int .i64 k ∧ ap = .int .u32 A ∧ 0 ≤ A ∧ A ≤ 4294967295 ∧ (A = 0 ↔ a.take k = b.take k) ∧ ∃ n, wr = w1.drewN n) (fun _ _ _ i _ => 8 - (intOf i).toNat)
  case atStart => exact ⟨0, 0, by omega, rfl, rfl, rfl, by omega, by omega, by simp, 0, rfl⟩
  case round =>
    obtain ⟨k, A, hk, rfl, rfl, rfl, A1, A2, hA, n, rfl⟩ := hrel
    by_cases hlt : k < 8
    · have hA' := Lib.hid hA
      clear hA
      have hca := aA.out.cell k (by omega)
      have hcb := aB.out.cell k (by omega)
      have x1 := wAt_bd a k
      have y1 := wAt_bd b k
      obtain ⟨C, hC, C1, C2, hC0⟩ := xor_zero A (wAt a k) (wAt b k) A1 A2 x1.1 x1.2 y1.1 y1.2
      have hC0' := Lib.hid hC0
      clear hC0 x1 y1
      have i1 : (0 : Int) ≤ (k : Int) := by omega
      have i2 : (k : Int) < 8 := by omega
      go_wp2_with fail
      go_quiet (fail)
      go_wp2
      go_roundw
      case rel =>
        refine ⟨k + 1, C, by omega, by go_num, by go_num, rfl, C1, C2, ?_, n + nq, ?_⟩
        · rw [hC0'.out, hA'.out, take_succ_eq a b k (by omega) (by omega), wAt_inj a b k (by omega) (by omega)]
        · rfl
      case measure => simp [intOf]; omega
    · obtain rfl : k = 8 := by omega
      have hfin : decide (a = b) = (A == 0) := by
        rw [List.take_of_length_le (by omega), List.take_of_length_le (by omega)] at hA
        by_cases h : a = b
        · simp [h, hA.2 h]
        · simp [h]; intro e; exact h (hA.1 e)
      replace hfin := Lib.hid hfin
      clear hA
      go_wp2_with fail
      go_ret2
      refine ⟨?_, below_drewN hb1.out _⟩
      rw [hfin.out]
      rfl
end Go.Proofs.YtemanjahkohcpaaDoor
