/- The contract of Same of package word: two lists of words are looked at. -/
import Derived.Test.YtedhinekkmoheaaWordA
import Derived.BigQuiet
import Derived.Deep.QuietTactic
namespace Go.Proofs.Ytedhinekkmoheaa
open Go.RowKit WP

theorem nat_xor_zero (x y : Nat) : x ^^^ y = 0 ↔ x = y := by
  constructor
  · intro h
    apply Nat.eq_of_testBit_eq; intro i
    have := congrArg (fun n => n.testBit i) h
    simp only [Nat.testBit_xor, Nat.zero_testBit] at this
    revert this; cases x.testBit i <;> cases y.testBit i <;> simp
  · rintro rfl; simp
theorem xor_zero (A x y : Int) (a1 : 0 ≤ A) (a2 : A ≤ 4294967295) (x1 : 0 ≤ x) (x2 : x ≤ 4294967295) (y1 : 0 ≤ y) (y2 : y ≤ 4294967295) :
    ∃ C : Int, bits .or .u32 A (bits .xor .u32 x y) = C ∧ 0 ≤ C ∧ C ≤ 4294967295 ∧ (C = 0 ↔ A = 0 ∧ x = y) := by
  refine ⟨_, rfl, ?_⟩
  have l1 : A.toNat < 2 ^ 32 := by omega
  have l2 : x.toNat < 2 ^ 32 := by omega
  have l3 : y.toNat < 2 ^ 32 := by omega
  have l4 := Nat.xor_lt_two_pow l2 l3
  have l5 := Nat.or_lt_two_pow l1 l4
  rw [u32_xor x y x1 (by omega) y1 (by omega), u32_or A _ a1 (by omega) (Int.natCast_nonneg _) (by omega), Int.toNat_natCast]
  refine ⟨Int.natCast_nonneg _, by omega, ?_⟩
  have e1 : ((((A.toNat ||| x.toNat ^^^ y.toNat : Nat)) : Int) = 0) ↔ (A.toNat ||| x.toNat ^^^ y.toNat) = 0 := by omega
  rw [e1, Nat.or_eq_zero_iff, nat_xor_zero]
  omega
theorem wAt_inj (a b : List UInt32) (k : Nat) (ha : k < a.length) (hb : k < b.length) : wAt a k = wAt b k ↔ a[k] = b[k] := by
  simp only [wAt, List.getD_eq_getElem?_getD, List.getElem?_eq_getElem ha, List.getElem?_eq_getElem hb, Option.getD_some]
  rw [← UInt32.toNat_inj]; omega
theorem take_succ_eq {α : Type} (a b : List α) (k : Nat) (ha : k < a.length) (hb : k < b.length) : (a.take (k + 1) = b.take (k + 1)) ↔ (a.take k = b.take k ∧ a[k] = b[k]) := by
  rw [List.take_succ_eq_append_getElem ha, List.take_succ_eq_append_getElem hb]
  constructor
  · intro h
    have := List.append_inj h (by simp; omega)
    exact ⟨this.1, by simpa using this.2⟩
  · rintro ⟨h1, h2⟩; rw [h1, h2]

def looksI (a b : List UInt32) : Int := if a.length = b.length then (a.length : Int) else 0
def alikeB (a b : List UInt32) : Bool := decide (a = b)
set_option maxHeartbeats 400000 in
theorem same_any (va vb : Value) (a b : List UInt32) (w : World) (ha : Rd w va (vw a)) (hb : Rd w vb (vw b)) :
    Calls Try.prog 20 #[va, vb] w fun e w' => e = .returned (.tuple #[.bool (alikeB a b), .int .i64 (looksI a b)]) ∧ ∃ n, w' = w.drewN n := by
  obtain ⟨ao, ca, rfl, a1, a2, a3⟩ := ha
  obtain ⟨bo, cb, rfl, b1, b2, b3⟩ := hb
  simp only [length_vw] at a1 b1 ⊢
  unfold maxLen at a2 b2
  by_cases hl : a.length = b.length
  case neg =>
    have e1 : alikeB a b = false := by unfold alikeB; simp; intro h; rw [h] at hl; exact hl rfl
    have e2 : looksI a b = 0 := by unfold looksI; rw [if_neg hl]
    rw [e1, e2]
    have hne : ((a.length : Int) != (b.length : Int)) = true := by simp; omega
    go_enter Try.func20, Try.ntmps20
    go_wp2
    go_ret2
    exact ⟨rfl, 0, rfl⟩
  case pos =>
    have e2 : looksI a b = (a.length : Int) := by unfold looksI; rw [if_pos hl]
    rw [e2]
    have a3' : a = [] ∨ ∃ b off, ao = some ⟨b, off, none⟩ ∧ ∀ j, j < a.length → w.cell? ⟨b, off + j, none⟩ = some (.int .u32 (wAt a j)) := by
      rcases a3 with h | ⟨b, off, h1, h2⟩
      · exact .inl (by simpa [vw] using h)
      · exact .inr ⟨b, off, h1, fun j hj => h2 j _ (vw_get a j hj)⟩
    have b3' : b = [] ∨ ∃ b' off, bo = some ⟨b', off, none⟩ ∧ ∀ j, j < b.length → w.cell? ⟨b', off + j, none⟩ = some (.int .u32 (wAt b j)) := by
      rcases b3 with h | ⟨b', off, h1, h2⟩
      · exact .inl (by simpa [vw] using h)
      · exact .inr ⟨b', off, h1, fun j hj => h2 j _ (vw_get b j hj)⟩
    clear a3 b3
    have hne : ((a.length : Int) != (a.length : Int)) = false := by simp
    have hlb : b.length = a.length := hl.symm
    rw [hlb] at b1 ⊢
    have a3 := Lib.hid a3'; have b3 := Lib.hid b3'; have hl' := Lib.hid hl
    clear a3' b3' e2 hl hlb
    go_enter Try.func20, Try.ntmps20
    go_wp2
    go_loopw [5, 6, 7, 15] (fun lk ap _ i wr => ∃ (k : Nat) (A : Int), k ≤ a.length ∧ i = .int .i64 k ∧ lk = .int .i64 k ∧ ap = .int .u32 A ∧ 0 ≤ A ∧ A ≤ 4294967295 ∧ (A = 0 ↔ a.take k = b.take k) ∧ ∃ n, wr = w.drewN n) (fun _ _ _ i _ => a.length - (intOf i).toNat)
    case atStart => exact ⟨0, 0, by omega, rfl, rfl, rfl, by omega, by omega, by simp, 0, rfl⟩
    case round =>
      obtain ⟨k, A, hk, rfl, rfl, rfl, A1, A2, hA, n, rfl⟩ := hrel
      by_cases hlt : k < a.length
      · have hltb : k < b.length := by have := hl'.out; omega
        have hA' := Lib.hid hA
        clear hA
        obtain ⟨ba, oa, rfl, hca⟩ := a3.out.resolve_left (by intro h; rw [h] at hlt; simp at hlt)
        obtain ⟨bb, ob, rfl, hcb⟩ := b3.out.resolve_left (by intro h; rw [h] at hltb; simp at hltb)
        have hca := hca k hlt
        have hcb := hcb k hltb
        have x1 := wAt_bd a k
        have y1 := wAt_bd b k
        obtain ⟨C, hC, C1, C2, hC0⟩ := xor_zero A (wAt a k) (wAt b k) A1 A2 x1.1 x1.2 y1.1 y1.2
        have hC0' := Lib.hid hC0
        clear hC0 x1 y1
        have i1 : (0 : Int) ≤ (k : Int) := by omega
        have i2 : (k : Int) < (a.length : Int) := by omega
        go_wp2_with fail
        go_quiet (fail)
        go_wp2
        go_roundw
        case rel =>
          refine ⟨k + 1, C, by omega, by go_num, by go_num, rfl, C1, C2, ?_, n + nq, ?_⟩
          · rw [hC0'.out, hA'.out, take_succ_eq a b k hlt hltb, wAt_inj a b k hlt hltb]
          · rfl
        case measure => simp [intOf]; omega
      · obtain rfl : k = a.length := by omega
        go_wp2_with fail
        have hfin : alikeB a b = (A == 0) := by
          unfold alikeB
          rw [List.take_of_length_le (Nat.le_refl _), List.take_of_length_le (by have := hl'.out; omega)] at hA
          by_cases h : a = b
          · simp [h, hA.2 h]
          · simp [h]; intro e; exact h (hA.1 e)
        rw [hfin]
        go_ret2
        exact ⟨rfl, n, rfl⟩
end Go.Proofs.Ytedhinekkmoheaa
