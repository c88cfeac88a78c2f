/- The contracts of the reference's Same, digit, Hex and ParseHex. -/
import Derived.Test.YtedhinekkmoheaaRefC
import Derived.Test.YtedhinekkmoheaaWordQ
namespace Go.Proofs.Ytedhinekkmoheaa
open Go.RowKit WP
def takesB (a b : List UInt32) (k : Nat) : Bool := decide (a.take k = b.take k)
theorem takesB_succ (a b : List UInt32) (k : Nat) (ha : k < a.length) (hb : k < b.length) : takesB a b (k + 1) = (takesB a b k && (wAt a k == wAt b k)) := by
  unfold takesB
  rw [Bool.eq_iff_iff]
  simp only [decide_eq_true_eq, Bool.and_eq_true, beq_iff_eq]
  rw [take_succ_eq a b k ha hb, wAt_inj a b k ha hb]
set_option maxHeartbeats 400000 in
theorem rsame_any (va vb : Value) (a b : List UInt32) (w : World) (ha : Rd w va (vw a)) (hb : Rd w vb (vw b)) :
    Calls Try.prog 60 #[va, vb] w fun e w' => e = .returned (.tuple #[.bool (alikeB a b), .int .i64 (looksI a b)]) ∧ ∃ n, w' = w.drewN n := by
  obtain ⟨ao, ca, rfl, a1, a2, a3⟩ := ha.words
  obtain ⟨bo, cb, rfl, b1, b2, b3⟩ := hb.words
  by_cases hl : a.length = b.length
  case neg =>
    have e1 : alikeB a b = false := by unfold alikeB; simp; intro h; rw [h] at hl; exact hl rfl
    have e2 : looksI a b = 0 := by unfold looksI; rw [if_neg hl]
    rw [e1, e2]
    have hne : ((a.length : Int) != (b.length : Int)) = true := by simp; omega
    clear hl a3 b3 e1 e2
    go_enter Try.func60, Try.ntmps60
    go_wp2
    go_ret2
    exact ⟨rfl, 0, rfl⟩
  case pos =>
    have e2 : looksI a b = (a.length : Int) := by unfold looksI; rw [if_pos hl]
    rw [e2]
    have hne : ((a.length : Int) != (a.length : Int)) = false := by simp
    have hlb : b.length = a.length := hl.symm
    rw [hlb] at b1 ⊢
    have a3 := Lib.hid a3; have b3 := Lib.hid b3; have hl' := Lib.hid hl
    clear hl hlb e2
    go_enter Try.func60, Try.ntmps60
    go_wp2
    go_loopw [6, 7] (fun al i wr => ∃ (k : Nat), k ≤ a.length ∧ i = .int .i64 k ∧ al = .bool (takesB a b k) ∧ ∃ n, wr = w.drewN n) (fun _ i _ => a.length - (intOf i).toNat)
    case atStart => exact ⟨0, by omega, rfl, by simp [takesB], 0, rfl⟩
    case round =>
      obtain ⟨k, hk, rfl, rfl, n, rfl⟩ := hrel
      by_cases hlt : k < a.length
      · have hltb : k < b.length := by have := hl'.out; omega
        obtain ⟨ba, oa, rfl, _, hca⟩ := a3.out.resolve_left (by intro h; rw [h] at hlt; simp at hlt)
        obtain ⟨bb, ob, rfl, _, hcb⟩ := b3.out.resolve_left (by intro h; rw [h] at hltb; simp at hltb)
        have hca := hca k hlt
        have hcb := hcb k hltb
        have i1 : (0 : Int) ≤ (k : Int) := by omega
        have i2 : (k : Int) < (a.length : Int) := by omega
        have hst := Lib.hid (takesB_succ a b k hlt hltb)
        cases hT : takesB a b k with
        | true =>
          have hT := Lib.hid hT
          go_wp2_with fail
          go_quiet (fail)
          go_wp2
          go_roundw
          case rel =>
            refine ⟨k + 1, by omega, by go_num, ?_, ?_⟩
            · rw [hst.out, hT.out, Bool.true_and]
            · first | exact ⟨n + nq, rfl⟩ | exact ⟨n + nq, by simp [go_sem]⟩
          case measure => simp [intOf]; omega
        | false =>
          have hT := Lib.hid hT
          go_wp2_with fail
          go_quiet (fail)
          go_wp2
          go_roundw
          case rel =>
            refine ⟨k + 1, by omega, by go_num, ?_, ?_⟩
            · rw [hst.out, hT.out, Bool.false_and]
            · first | exact ⟨n + nq, rfl⟩ | exact ⟨n + nq, by simp [go_sem]⟩
          case measure => simp [intOf]; omega
      · obtain rfl : k = a.length := by omega
        have e1 : takesB a b a.length = alikeB a b := by
          unfold alikeB takesB
          rw [List.take_of_length_le (Nat.le_refl _), List.take_of_length_le (by have := hl'.out; omega)]
        have E1 := Lib.hid e1
        clear e1
        go_wp2_with fail
        go_ret2
        exact ⟨by rw [E1.out]; rfl, n, rfl⟩
/-! ### digit -/
theorem index_digits' (D : Nat) (hD : D < 16) (W : World) :
    (Instr.index 9 (.string ⟨#[48, 49, 50, 51, 52, 53, 54, 55, 56, 57, 97, 98, 99, 100, 101, 102]⟩) (.int .i64 (D : Int))).run Try.prog W = .ok (.int .u8 ((hexB D).toNat)) W := by
  have : D = 0 ∨ D = 1 ∨ D = 2 ∨ D = 3 ∨ D = 4 ∨ D = 5 ∨ D = 6 ∨ D = 7 ∨ D = 8 ∨ D = 9 ∨ D = 10 ∨ D = 11 ∨ D = 12 ∨ D = 13 ∨ D = 14 ∨ D = 15 := by omega
  rcases this with rfl | rfl | rfl | rfl | rfl | rfl | rfl | rfl | rfl | rfl | rfl | rfl | rfl | rfl | rfl | rfl <;> rfl
def digI (c : Nat) : Int := match digN c with | some d => (d : Int) | none => -1
theorem hexB_toNat (d : Nat) (h : d < 16) : (hexB d).toNat = if d < 10 then 48 + d else 87 + d := by
  unfold hexB; split <;> (rw [UInt8.toNat_ofNat']; omega)
theorem digI_at (c k : Nat) (hk : k < 16) (h : (hexB k).toNat = c) : digI c = k := by
  unfold digI; rw [← h, digN_hexB k hk]
theorem digI_none (c : Nat) (h : ∀ j, j < 16 → (hexB j).toNat ≠ c) : digI c = -1 := by
  unfold digI
  cases hd : digN c with
  | none => rfl
  | some d =>
    exfalso
    have hlt := digN_lt hd
    refine h d hlt ?_
    rw [hexB_toNat d hlt]
    unfold digN at hd
    split at hd
    · simp at hd; rw [if_pos (by omega)]; omega
    · split at hd
      · simp at hd; rw [if_neg (by omega)]; omega
      · cases hd
theorem digI_bd (c : Nat) : -1 ≤ digI c ∧ digI c ≤ 15 := by
  unfold digI
  cases hd : digN c with
  | none => simp
  | some d => have := digN_lt hd; simp; omega
theorem rdigit_any (c : Int) (w : World) (h1 : 0 ≤ c) (h2 : c ≤ 255) :
    Calls Try.prog 61 #[.int .u8 c] w fun e w' => e = .returned (.int .i64 (digI c.toNat)) ∧ w = w' := by
  obtain ⟨c, rfl⟩ := Int.eq_ofNat_of_zero_le h1
  go_enter Try.func61, Try.ntmps61
  go_wp2
  go_loop [3] (fun i => ∃ k : Nat, k ≤ 16 ∧ i = .int .i64 k ∧ ∀ j, j < k → (hexB j).toNat ≠ c) (fun i => 16 - (intOf i).toNat)
  case atStart => exact ⟨0, by omega, rfl, by intro j h; omega⟩
  case round =>
    obtain ⟨k, hk, rfl, hall⟩ := hrel
    have hall := Lib.hid hall
    by_cases hlt : k < 16
    · have hix := index_digits' k hlt
      by_cases hq : (hexB k).toNat = c
      · have e1 := Lib.hid (digI_at c k hlt hq)
        have hq2 : ((((hexB k).toNat : Nat) : Int) == (c : Int)) = true := by simp [hq]
        clear hq
        go_wp2
        go_ret
        exact ⟨ret1 e1.out.symm, rfl⟩
      · have hq2 : ((((hexB k).toNat : Nat) : Int) == (c : Int)) = false := by rw [beq_eq_false_iff_ne]; omega
        have hq := Lib.hid hq
        go_wp2
        go_round
        case rel =>
          refine ⟨k + 1, by omega, by go_num, ?_⟩
          intro j hj
          by_cases h : j = k
          · rw [h]; exact hq.out
          · exact hall.out j (by omega)
        case measure => simp [intOf]; omega
    · obtain rfl : k = 16 := by omega
      have e1 := Lib.hid (digI_none c hall.out)
      go_wp2
      go_ret
      exact ⟨ret1 e1.out.symm, rfl⟩
end Go.Proofs.Ytedhinekkmoheaa
