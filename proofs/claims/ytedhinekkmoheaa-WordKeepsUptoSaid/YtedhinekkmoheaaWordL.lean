/- The contract of the laws' own comparison of two lists of words. -/
import Derived.Test.YtedhinekkmoheaaWordS
namespace Go.Proofs.Ytedhinekkmoheaa
open Go.RowKit WP
theorem differ_at {α : Type} [DecidableEq α] {a b : List α} (hl : a.length = b.length) (k : Nat) (ha : k < a.length) (hb : k < b.length) (h : a[k] ≠ b[k]) : a ≠ b := by
  intro e; subst e; exact h rfl
set_option maxHeartbeats 400000 in
theorem lsame_any (va vb : Value) (a b : List UInt32) (w : World) (ha : Rd w va (vw a)) (hb : Rd w vb (vw b)) :
    Calls Try.prog 23 #[va, vb] w fun e w' => e = .returned (.bool (alikeB a b)) ∧ ∃ n, w' = w.drewN n := by
  obtain ⟨ao, ca, rfl, a1, a2, a3⟩ := ha.words
  obtain ⟨bo, cb, rfl, b1, b2, b3⟩ := hb.words
  by_cases hl : a.length = b.length
  case neg =>
    have e1 : alikeB a b = false := by unfold alikeB; simp; intro h; rw [h] at hl; exact hl rfl
    rw [e1]
    have hne : ((a.length : Int) != (b.length : Int)) = true := by simp; omega
    clear hl a3 b3 e1
    go_enter Try.func23, Try.ntmps23
    go_wp2
    go_ret
    exact ⟨rfl, 0, rfl⟩
  case pos =>
    have hne : ((a.length : Int) != (a.length : Int)) = false := by simp
    have hlb : b.length = a.length := hl.symm
    rw [hlb] at b1 ⊢
    have a3 := Lib.hid a3; have b3 := Lib.hid b3; have hl' := Lib.hid hl
    clear hl hlb
    go_enter Try.func23, Try.ntmps23
    go_wp2
    go_loopw [5] (fun i wr => ∃ (k : Nat), k ≤ a.length ∧ i = .int .i64 k ∧ a.take k = b.take k ∧ ∃ n, wr = w.drewN n) (fun i _ => a.length - (intOf i).toNat)
    case atStart => exact ⟨0, by omega, rfl, by simp, 0, rfl⟩
    case round =>
      obtain ⟨k, hk, rfl, hA, n, rfl⟩ := hrel
      by_cases hlt : k < a.length
      · have hltb : k < b.length := by have := hl'.out; omega
        have hA := Lib.hid hA
        obtain ⟨ba, oa, rfl, _, hca⟩ := a3.out.resolve_left (by intro h; rw [h] at hlt; simp at hlt)
        obtain ⟨bb, ob, rfl, _, hcb⟩ := b3.out.resolve_left (by intro h; rw [h] at hltb; simp at hltb)
        have hca := hca k hlt
        have hcb := hcb k hltb
        have i1 : (0 : Int) ≤ (k : Int) := by omega
        have i2 : (k : Int) < (a.length : Int) := by omega
        by_cases hq : wAt a k = wAt b k
        · have hq2 : (wAt a k != wAt b k) = false := by rw [hq]; simp
          have hq := Lib.hid hq
          go_wp2_with fail
          go_quiet (fail)
          go_wp2
          go_roundw
          case rel =>
            refine ⟨k + 1, by omega, by go_num, ?_, ?_⟩
            · exact (take_succ_eq a b k hlt hltb).2 ⟨hA.out, (wAt_inj a b k hlt hltb).1 hq.out⟩
            · first | exact ⟨n + nq, rfl⟩ | exact ⟨n + nq, by simp [go_sem]⟩
          case measure => simp [intOf]; omega
        · have hq2 : (wAt a k != wAt b k) = true := by rw [bne_iff_ne]; exact hq
          have e1 : alikeB a b = false := by
            unfold alikeB
            exact decide_eq_false (differ_at hl'.out k hlt hltb (fun h => hq ((wAt_inj a b k hlt hltb).2 h)))
          have e1 := Lib.hid e1
          clear hq
          go_wp2_with fail
          go_quiet (fail)
          go_wp2
          go_ret
          refine ⟨ret_bool e1.out.symm, ?_⟩
          first | exact ⟨n + nq, rfl⟩ | exact ⟨n + nq, by simp [go_sem]⟩
      · obtain rfl : k = a.length := by omega
        have e1 : alikeB a b = true := by
          unfold alikeB
          rw [List.take_of_length_le (Nat.le_refl _), List.take_of_length_le (by have := hl'.out; omega)] at hA
          exact decide_eq_true hA
        have e1 := Lib.hid e1
        go_wp2_with fail
        go_ret
        exact ⟨ret_bool e1.out.symm, n, rfl⟩
end Go.Proofs.Ytedhinekkmoheaa
