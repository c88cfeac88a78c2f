/- The reference's Name. The contracts of the reference's word and said, and of the law's num. The contracts of the reference's plain, parts, worth. -/
import Derived.Test.YtemanjahkohcpaaGreatDoorJn20
import Derived.Test.YtemanjahkohcpaaGreatDoorJn16
import Derived.Test.YtemanjahkohcpaaGreatDoorEFmtJn
namespace Go.Proofs.YtemanjahkohcpaaGreatDoor
open Go.RowKit WP
theorem str_emptyN (s : ByteArray) (b : Bool) (h : decide (s.size = 0) = b) : s.toList.isEmpty = b := by
  rw [ByteArray.toList_eq]
  have := size_list s
  cases hl : s.data.toList with
  | nil => rw [hl] at this; rw [← h, decide_eq_true (by simpa using this.symm)]; rfl
  | cons c r => rw [hl] at this; rw [← h, decide_eq_false (by simp at this; omega)]; rfl
set_option maxRecDepth 100000 in
set_option maxHeartbeats 1600000 in
theorem rname_any (s : ByteArray) (w : World) :
    Calls Tryz.prog 32 #[.string s] w fun e w' => e = .returned (.int .i64 (if nameF s = true then 0 else 42)) ∧ w' = w := by
  have hl := size_list s
  obtain ⟨R, hR⟩ : ∃ R, (if nameF s = true then (0 : Int) else 42) = R := ⟨_, rfl⟩
  rw [hR]
  by_cases h1 : 1 ≤ s.size
  · have he := str_emptyN s false (decide_eq_false (by omega))
    by_cases h2 : s.size ≤ 24
    · have hF : nameF s = nameA s.data.toList 0 := by unfold nameF; rw [decide_eq_true h1, decide_eq_true h2]; rfl
      rw [hF] at hR
      have d2 : decide ((s.size : Int) > 24) = false := decide_eq_false (by omega)
      replace hR := Lib.hid hR; replace hl := Lib.hid hl
      clear hF
      have hs : s.size ≤ 9223372036854775807 := by omega
      go_enter Tryz.func32, Tryz.ntmps32
      go_wp2_with fail
      clear d2 he
      go_loop [3] (fun i => ∃ k : Nat, k ≤ s.size ∧ i = .int .i64 k ∧ (if nameA (s.data.toList.drop k) k = true then (0 : Int) else 42) = R) (fun i => s.size - (intOf i).toNat)
      case atStart => exact ⟨0, by omega, rfl, hR.out⟩
      case round =>
        obtain ⟨k, hk, rfl, hq⟩ := hrel
        clear hR
        by_cases hlt : k < s.size
        · have eb := bAt_get s k hlt
          have d4 : decide ((k : Int) < (s.size : Int)) = true := decide_eq_true (by omega)
          have i1 : (0 : Int) ≤ (k : Int) := by omega
          rw [nameA_drop _ _ _ (by rw [hl.out]; exact hlt)] at hq
          obtain ⟨c, hc⟩ : ∃ c, bAt s.data.toList k = c := ⟨_, rfl⟩
          rw [hc] at eb hq
          clear hc
          obtain ⟨sm, hsm⟩ : ∃ sm, (decide (97 ≤ c) && decide (c ≤ 122)) = sm := ⟨_, rfl⟩
          obtain ⟨ot, hot⟩ : ∃ ot, ((decide (48 ≤ c) && decide (c ≤ 57)) || decide (c = 95)) = ot := ⟨_, rfl⟩
          have hn : nmOk k c = (sm || (decide (k ≠ 0) && ot)) := by unfold nmOk; rw [hsm, hot]
          rw [hn] at hq
          clear hn
          replace hq := Lib.hid hq; replace hsm := Lib.hid hsm; replace hot := Lib.hid hot
          go_upto_region 6 with fail
          go_cut [4] from 19 to 28 (fun r wx => r = .bool sm ∧ wx = w)
          case first =>
            by_cases a1 : 97 ≤ c
            · have d5 : decide (c ≥ 97) = true := decide_eq_true a1
              have hs2 : sm = decide (c ≤ 122) := by rw [← hsm.out, decide_eq_true a1, Bool.true_and]
              clear hsm
              generalize hz : decide (c ≤ 122) = z at *
              subst hs2
              go_wp2_with fail
              go_meet
              case rel => exact ⟨rfl, rfl⟩
            · have d5 : decide (c ≥ 97) = false := decide_eq_false a1
              have hs2 : sm = false := by rw [← hsm.out, decide_eq_false a1, Bool.false_and]
              subst hs2
              go_wp2_with fail
              go_meet
              case rel => exact ⟨rfl, rfl⟩
          case rest =>
            obtain ⟨rfl, hw⟩ := hcut
            obtain rfl := hw
            clear hsm
            go_upto_region 7 with fail
            go_cut [5] from 29 to 44 (fun r wx => r = .bool ot ∧ wx = wc)
            case first =>
              by_cases a1 : 48 ≤ c
              · have d5 : decide (c ≥ 48) = true := decide_eq_true a1
                by_cases a2 : c ≤ 57
                · have d6 : decide (c ≤ 57) = true := decide_eq_true a2
                  have hs2 : ot = true := by rw [← hot.out, decide_eq_true a1, decide_eq_true a2]; rfl
                  subst hs2
                  go_wp2_with fail
                  go_meet
                  case rel => exact ⟨rfl, rfl⟩
                · have d6 : decide (c ≤ 57) = false := decide_eq_false a2
                  have hs2 : ot = (c == 95) := by rw [← hot.out, decide_eq_false a2, Bool.and_false, Bool.false_or]; rfl
                  clear hot
                  generalize hz : (c == 95) = z at *
                  subst hs2
                  go_wp2_with fail
                  go_meet
                  case rel => exact ⟨rfl, rfl⟩
              · have d5 : decide (c ≥ 48) = false := decide_eq_false a1
                have hs2 : ot = false := by rw [← hot.out, decide_eq_false a1, decide_eq_false (show ¬ c = 95 by omega)]; rfl
                have d7 : (c == 95) = false := by rw [beq_eq_false_iff_ne]; omega
                subst hs2
                go_wp2_with fail
                go_meet
                case rel => exact ⟨rfl, rfl⟩
            case rest =>
              obtain ⟨rfl, hw⟩ := hcut
              obtain rfl := hw
              clear hot eb
              cases sm with
              | true =>
                rw [Bool.true_or] at hq
                replace hq := Lib.hid (show (if nameA (s.data.toList.drop (k + 1)) (k + 1) = true then (0 : Int) else 42) = R by have := hq.out; simpa using this)
                go_wp2_with fail
                go_round
                case rel => exact ⟨k + 1, by omega, by go_num, hq.out⟩
                case measure => simp [intOf]; omega
              | false =>
                by_cases hk0 : k = 0
                · have z1 : ((k : Int) == 0) = true := by simp [hk0]
                  have hRn : R = 42 := by have := hq.out; rw [hk0] at this; simpa using this.symm
                  subst hRn
                  replace hk0 := Lib.hid hk0
                  clear hq
                  go_wp2_with fail
                  go_ret
                  exact ⟨rfl, rfl⟩
                · have z1 : ((k : Int) == 0) = false := by simp [hk0]
                  cases ot with
                  | true =>
                    replace hq := Lib.hid (show (if nameA (s.data.toList.drop (k + 1)) (k + 1) = true then (0 : Int) else 42) = R by have := hq.out; simpa [hk0] using this)
                    replace hk0 := Lib.hid hk0
                    go_wp2_with fail
                    go_round
                    case rel => exact ⟨k + 1, by omega, by go_num, hq.out⟩
                    case measure => simp [intOf]; omega
                  | false =>
                    have hRn : R = 42 := by have := hq.out; simpa using this.symm
                    subst hRn
                    replace hk0 := Lib.hid hk0
                    clear hq
                    go_wp2_with fail
                    go_ret
                    exact ⟨rfl, rfl⟩
        · obtain rfl : k = s.size := by omega
          have d4 : decide ((s.size : Int) < (s.size : Int)) = false := decide_eq_false (by omega)
          rw [List.drop_of_length_le (by rw [hl.out]; exact Nat.le_refl _)] at hq
          have hRn : R = 0 := by rw [← hq]; rfl
          subst hRn
          clear hq
          go_wp2_with fail
          go_ret
          exact ⟨rfl, rfl⟩
    · have hRn : R = 42 := by rw [← hR]; unfold nameF; rw [decide_eq_false h2]; simp
      have d2 : decide ((s.size : Int) > 24) = true := decide_eq_true (by omega)
      subst hRn
      clear hR hl
      go_enter Tryz.func32, Tryz.ntmps32
      go_wp2_with fail
      go_ret
      exact ⟨rfl, rfl⟩
  · have he := str_emptyN s true (decide_eq_true (by omega))
    have hRn : R = 42 := by rw [← hR]; unfold nameF; rw [decide_eq_false h1]; simp
    subst hRn
    clear hR hl
    go_enter Tryz.func32, Tryz.ntmps32
    go_wp2_with fail
    go_ret
    exact ⟨rfl, rfl⟩
end Go.Proofs.YtemanjahkohcpaaGreatDoor

namespace Go.Proofs.YtemanjahkohcpaaGreatDoor
open Go.RowKit WP
theorem rword_any (b : Bool) (w : World) : Calls Tryz.prog 58 #[.bool b] w fun e w' => e = .returned (.string (verbB b)) ∧ w' = w := by
  cases b
  · go_enter Tryz.func58, Tryz.ntmps58
    go_wp2_with fail
    go_ret
    exact ⟨rfl, rfl⟩
  · go_enter Tryz.func58, Tryz.ntmps58
    go_wp2_with fail
    go_ret
    exact ⟨rfl, rfl⟩
/-- what said says of a word -/
def saidA (s : ByteArray) : Bool := decide (s = allowB)
def saidB (s : ByteArray) : Bool := decide (s = allowB) || decide (s = denyB)
theorem saysF_said (s : ByteArray) : saysF s = if saidB s = true then some (saidA s) else none := by
  unfold saysF saidB saidA
  by_cases h1 : s = allowB
  · simp [h1]
  · by_cases h2 : s = denyB
    · subst h2; rw [if_neg h1, if_pos rfl]; simp [h1]
    · simp [h1, h2]
theorem said_any (s : ByteArray) (w : World) : Calls Tryz.prog 19 #[.string s] w fun e w' => e = .returned (.tuple #[.bool (saidA s), .bool (saidB s)]) ∧ Below w.heap.size w w' := by
  unfold saidA saidB
  by_cases h1 : s = allowB
  · subst h1
    rw [decide_eq_true rfl, Bool.true_or]
    unfold allowB
    go_enter Tryz.func19, Tryz.ntmps19
    go_wp2_with fail
    go_ret2
    exact ⟨rfl, Below.refl _ _⟩
  · rw [decide_eq_false h1, Bool.false_or]
    have q1 : (s.toList == [97, 108, 108, 111, 119]) = false := by rw [toList_eq, decide_eq_false]; exact h1
    by_cases h2 : s = denyB
    · subst h2
      rw [decide_eq_true rfl]
      clear q1 h1
      unfold denyB
      go_enter Tryz.func19, Tryz.ntmps19
      go_wp2_with fail
      go_ret2
      exact ⟨rfl, Below.refl _ _⟩
    · rw [decide_eq_false h2]
      have q2 : (s.toList == [100, 101, 110, 121]) = false := by rw [toList_eq, decide_eq_false]; exact h2
      go_enter Tryz.func19, Tryz.ntmps19
      go_wp2_with fail
      go_ret2
      exact ⟨rfl, Below.refl _ _⟩
end Go.Proofs.YtemanjahkohcpaaGreatDoor

namespace Go.Proofs.YtemanjahkohcpaaGreatDoor
open Go.RowKit WP
theorem rplain_any (x : Int) (w : World) : Calls Tryz.prog 69 #[.int .u8 x] w fun e w' => e = .returned (.bool (plainI x)) ∧ w' = w := by
  by_cases h1 : 32 ≤ x
  · have d1 : decide (x ≥ 32) = true := decide_eq_true h1
    by_cases h2 : x ≤ 126
    · have d2 : decide (x ≤ 126) = true := decide_eq_true h2
      by_cases h3 : x = 34
      · subst h3
        have hp : plainI 34 = false := rfl
        rw [hp]
        go_enter Tryz.func69, Tryz.ntmps69
        go_wp2_with fail
        go_ret
        exact ⟨rfl, rfl⟩
      · have d3 : (x != 34) = true := by simp [h3]
        by_cases h4 : x = 92
        · subst h4
          have hp : plainI 92 = false := rfl
          rw [hp]
          go_enter Tryz.func69, Tryz.ntmps69
          go_wp2_with fail
          go_ret
          exact ⟨rfl, rfl⟩
        · have d4 : (x != 92) = true := by simp [h4]
          have hp : plainI x = true := decide_eq_true ⟨h1, h2, h3, h4⟩
          rw [hp]
          clear hp h1 h2 h3 h4
          go_enter Tryz.func69, Tryz.ntmps69
          go_wp2_with fail
          go_ret
          exact ⟨rfl, rfl⟩
    · have d2 : decide (x ≤ 126) = false := decide_eq_false h2
      have hp : plainI x = false := decide_eq_false (fun h => h2 h.2.1)
      rw [hp]
      clear hp h1 h2
      go_enter Tryz.func69, Tryz.ntmps69
      go_wp2_with fail
      go_ret
      exact ⟨rfl, rfl⟩
  · have d1 : decide (x ≥ 32) = false := decide_eq_false h1
    have hp : plainI x = false := decide_eq_false (fun h => h1 h.1)
    rw [hp]
    clear hp h1
    go_enter Tryz.func69, Tryz.ntmps69
    go_wp2_with fail
    go_ret
    exact ⟨rfl, rfl⟩
theorem rparts_any (x : Int) (w : World) : Calls Tryz.prog 52 #[.int .u8 x] w fun e w' => e = .returned (.bool (blankI x)) ∧ w' = w := by
  by_cases h1 : x = 32
  · subst h1
    go_enter Tryz.func52, Tryz.ntmps52
    go_wp2_with fail
    go_ret
    exact ⟨rfl, rfl⟩
  · have d1 : (x == 32) = false := by simp [h1]
    by_cases h2 : x = 9
    · subst h2
      go_enter Tryz.func52, Tryz.ntmps52
      go_wp2_with fail
      go_ret
      exact ⟨rfl, rfl⟩
    · have d2 : (x == 9) = false := by simp [h2]
      have hp : blankI x = false := decide_eq_false (fun h => h.elim h1 h2)
      rw [hp]
      clear hp h1 h2
      go_enter Tryz.func52, Tryz.ntmps52
      go_wp2_with fail
      go_ret
      exact ⟨rfl, rfl⟩
set_option maxRecDepth 100000
theorem index_dg64 (D : Nat) (hD : D < 16) (W : World) :
    (Instr.index 9 (.string ⟨#[48, 49, 50, 51, 52, 53, 54, 55, 56, 57, 97, 98, 99, 100, 101, 102]⟩) (.int .i64 (D : Int))).run Tryz.prog W = .ok (.int .u8 ((dgB D).toNat : Int)) W := by
  have : D = 0 ∨ D = 1 ∨ D = 2 ∨ D = 3 ∨ D = 4 ∨ D = 5 ∨ D = 6 ∨ D = 7 ∨ D = 8 ∨ D = 9 ∨ D = 10 ∨ D = 11 ∨ D = 12 ∨ D = 13 ∨ D = 14 ∨ D = 15 := by omega
  rcases this with rfl | rfl | rfl | rfl | rfl | rfl | rfl | rfl | rfl | rfl | rfl | rfl | rfl | rfl | rfl | rfl <;> rfl
theorem indexByte_no (c : UInt8) : ∀ l : List UInt8, (∀ x ∈ l, x ≠ c) → Lib.indexByte l c = -1
  | [], _ => rfl
  | b :: l, h => by
    have ih := indexByte_no c l (fun x hx => h x (by simp [hx]))
    have hb : (b == c) = false := by simp; exact h b (by simp)
    simp only [Lib.indexByte, hb, ih]; rfl
theorem hv_no (c : Nat) (hc : c < 256) (h : ∀ j, j < 16 → (dgB j).toNat ≠ c) : hv (c : Int) = -1 := by
  unfold hv
  refine indexByte_no _ _ ?_
  intro x hx e
  have hu : ((c : Int).toNat.toUInt8).toNat = c := by simp; omega
  have hj : ∃ j, j < 16 ∧ dgB j = x := by
    simp only [digB, List.mem_cons, List.not_mem_nil, or_false] at hx
    rcases hx with rfl | rfl | rfl | rfl | rfl | rfl | rfl | rfl | rfl | rfl | rfl | rfl | rfl | rfl | rfl | rfl
    · exact ⟨0, by decide, rfl⟩
    · exact ⟨1, by decide, rfl⟩
    · exact ⟨2, by decide, rfl⟩
    · exact ⟨3, by decide, rfl⟩
    · exact ⟨4, by decide, rfl⟩
    · exact ⟨5, by decide, rfl⟩
    · exact ⟨6, by decide, rfl⟩
    · exact ⟨7, by decide, rfl⟩
    · exact ⟨8, by decide, rfl⟩
    · exact ⟨9, by decide, rfl⟩
    · exact ⟨10, by decide, rfl⟩
    · exact ⟨11, by decide, rfl⟩
    · exact ⟨12, by decide, rfl⟩
    · exact ⟨13, by decide, rfl⟩
    · exact ⟨14, by decide, rfl⟩
    · exact ⟨15, by decide, rfl⟩
  obtain ⟨j, hj, rfl⟩ := hj
  exact h j hj (by rw [e, hu])
theorem rworth_any (c : Int) (w : World) (h1 : 0 ≤ c) (h2 : c ≤ 255) :
    Calls Tryz.prog 70 #[.int .u8 c] w fun e w' => e = .returned (.int .i64 (hv c)) ∧ w' = w := by
  obtain ⟨c, rfl⟩ := Int.eq_ofNat_of_zero_le h1
  go_enter Tryz.func70, Tryz.ntmps70
  go_wp2
  go_loop [3] (fun i => ∃ k : Nat, k ≤ 16 ∧ i = .int .i64 k ∧ ∀ j, j < k → (dgB j).toNat ≠ c) (fun i => 16 - (intOf i).toNat)
  case atStart => exact ⟨0, by omega, rfl, by intro j h; omega⟩
  case round =>
    obtain ⟨k, hk, rfl, hall⟩ := hrel
    have hall := Lib.hid hall
    by_cases hlt : k < 16
    · have hix := index_dg64 k hlt
      by_cases hq : (dgB k).toNat = c
      · have e1 : hv (c : Int) = k := by rw [← hq]; exact hv_dgB k hlt
        have hq2 : ((((dgB k).toNat : Nat) : Int) == (c : Int)) = true := by simp [hq]
        replace e1 := Lib.hid e1
        clear hq
        go_wp2
        go_ret
        exact ⟨ret1 e1.out.symm, rfl⟩
      · have hq2 : ((((dgB k).toNat : Nat) : Int) == (c : Int)) = false := by rw [beq_eq_false_iff_ne]; omega
        replace hq := Lib.hid hq
        go_wp2
        go_round
        case rel =>
          refine ⟨k + 1, by omega, by go_num, ?_⟩
          intro j hj
          by_cases h : j = k
          · rw [h]; exact hq.out
          · exact hall.out j (by omega)
        case measure => simp [intOf]; omega
    · obtain rfl : k = 16 := by omega
      have e1 := Lib.hid (hv_no c (by omega) hall.out)
      go_wp2
      go_ret
      exact ⟨ret1 e1.out.symm, rfl⟩
end Go.Proofs.YtemanjahkohcpaaGreatDoor
