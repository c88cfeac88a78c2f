/- The reference's Name. -/
import Derived.Test.YtefbogmgcihndaaGreatDoorTNam
import Derived.Test.YtefbogmgcihndaaGreatDoorTRnu
namespace Go.Proofs.YtefbogmgcihndaaGreatDoor
open Go.RowKit WP
set_option maxRecDepth 100000 in
set_option maxHeartbeats 1600000 in
theorem rname_any (s : ByteArray) (w : World) :
    Calls Tryz.prog 20 #[.string s] w fun e w' => e = .returned (.int .i64 (if nameF s = true then 0 else 42)) ∧ w' = w := by
  have hl := size_list s
  obtain ⟨R, hR⟩ : ∃ R, (if nameF s = true then (0 : Int) else 42) = R := ⟨_, rfl⟩
  rw [hR]
  by_cases h1 : 1 ≤ s.size
  · have he := str_empty s false (decide_eq_false (by omega))
    by_cases h2 : s.size ≤ 24
    · have hF : nameF s = nameA s.data.toList 0 := by unfold nameF; rw [decide_eq_true h1, decide_eq_true h2]; rfl
      rw [hF] at hR
      have d2 : decide ((s.size : Int) > 24) = false := decide_eq_false (by omega)
      replace hR := Lib.hid hR; replace hl := Lib.hid hl
      clear hF
      have hs : s.size ≤ 9223372036854775807 := by omega
      go_enter Tryz.func20, Tryz.ntmps20
      go_wp2_with fail
      clear d2 he
      go_loop [3] (fun i => ∃ k : Nat, k ≤ s.size ∧ i = .int .i64 k ∧ (if nameA (s.data.toList.drop k) k = true then (0 : Int) else 42) = R) (fun i => s.size - (intOf i).toNat)
      case atStart => exact ⟨0, by omega, rfl, hR.out⟩
      case round =>
        obtain ⟨k, hk, rfl, hq⟩ := hrel
        clear hR
        by_cases hlt : k < s.size
        · have eb := bAt_get s k hlt
          have d4 : decide ((k : Int) < (s.size : Int)) = true := decide_eq_true (by omega)
          have i1 : (0 : Int) ≤ (k : Int) := by omega
          rw [nameA_drop _ _ _ (by rw [hl.out]; exact hlt)] at hq
          obtain ⟨c, hc⟩ : ∃ c, bAt s.data.toList k = c := ⟨_, rfl⟩
          rw [hc] at eb hq
          clear hc
          obtain ⟨sm, hsm⟩ : ∃ sm, (decide (97 ≤ c) && decide (c ≤ 122)) = sm := ⟨_, rfl⟩
          obtain ⟨ot, hot⟩ : ∃ ot, ((decide (48 ≤ c) && decide (c ≤ 57)) || decide (c = 95)) = ot := ⟨_, rfl⟩
          have hn : nmOk k c = (sm || (decide (k ≠ 0) && ot)) := by unfold nmOk; rw [hsm, hot]
          rw [hn] at hq
          clear hn
          replace hq := Lib.hid hq; replace hsm := Lib.hid hsm; replace hot := Lib.hid hot
          go_upto_region 6 with fail
          go_cut [4] from 19 to 28 (fun r wx => r = .bool sm ∧ wx = w)
          case first =>
            by_cases a1 : 97 ≤ c
            · have d5 : decide (c ≥ 97) = true := decide_eq_true a1
              have hs2 : sm = decide (c ≤ 122) := by rw [← hsm.out, decide_eq_true a1, Bool.true_and]
              clear hsm
              generalize hz : decide (c ≤ 122) = z at *
              subst hs2
              go_wp2_with fail
              go_meet
              case rel => exact ⟨rfl, rfl⟩
            · have d5 : decide (c ≥ 97) = false := decide_eq_false a1
              have hs2 : sm = false := by rw [← hsm.out, decide_eq_false a1, Bool.false_and]
              subst hs2
              go_wp2_with fail
              go_meet
              case rel => exact ⟨rfl, rfl⟩
          case rest =>
            obtain ⟨rfl, hw⟩ := hcut
            obtain rfl := hw
            clear hsm
            go_upto_region 7 with fail
            go_cut [5] from 29 to 44 (fun r wx => r = .bool ot ∧ wx = wc)
            case first =>
              by_cases a1 : 48 ≤ c
              · have d5 : decide (c ≥ 48) = true := decide_eq_true a1
                by_cases a2 : c ≤ 57
                · have d6 : decide (c ≤ 57) = true := decide_eq_true a2
                  have hs2 : ot = true := by rw [← hot.out, decide_eq_true a1, decide_eq_true a2]; rfl
                  subst hs2
                  go_wp2_with fail
                  go_meet
                  case rel => exact ⟨rfl, rfl⟩
                · have d6 : decide (c ≤ 57) = false := decide_eq_false a2
                  have hs2 : ot = (c == 95) := by rw [← hot.out, decide_eq_false a2, Bool.and_false, Bool.false_or]; rfl
                  clear hot
                  generalize hz : (c == 95) = z at *
                  subst hs2
                  go_wp2_with fail
                  go_meet
                  case rel => exact ⟨rfl, rfl⟩
              · have d5 : decide (c ≥ 48) = false := decide_eq_false a1
                have hs2 : ot = false := by rw [← hot.out, decide_eq_false a1, decide_eq_false (show ¬ c = 95 by omega)]; rfl
                have d7 : (c == 95) = false := by rw [beq_eq_false_iff_ne]; omega
                subst hs2
                go_wp2_with fail
                go_meet
                case rel => exact ⟨rfl, rfl⟩
            case rest =>
              obtain ⟨rfl, hw⟩ := hcut
              obtain rfl := hw
              clear hot eb
              cases sm with
              | true =>
                rw [Bool.true_or] at hq
                replace hq := Lib.hid (show (if nameA (s.data.toList.drop (k + 1)) (k + 1) = true then (0 : Int) else 42) = R by have := hq.out; simpa using this)
                go_wp2_with fail
                go_round
                case rel => exact ⟨k + 1, by omega, by go_num, hq.out⟩
                case measure => simp [intOf]; omega
              | false =>
                by_cases hk0 : k = 0
                · have z1 : ((k : Int) == 0) = true := by simp [hk0]
                  have hRn : R = 42 := by have := hq.out; rw [hk0] at this; simpa using this.symm
                  subst hRn
                  replace hk0 := Lib.hid hk0
                  clear hq
                  go_wp2_with fail
                  go_ret
                  exact ⟨rfl, rfl⟩
                · have z1 : ((k : Int) == 0) = false := by simp [hk0]
                  cases ot with
                  | true =>
                    replace hq := Lib.hid (show (if nameA (s.data.toList.drop (k + 1)) (k + 1) = true then (0 : Int) else 42) = R by have := hq.out; simpa [hk0] using this)
                    replace hk0 := Lib.hid hk0
                    go_wp2_with fail
                    go_round
                    case rel => exact ⟨k + 1, by omega, by go_num, hq.out⟩
                    case measure => simp [intOf]; omega
                  | false =>
                    have hRn : R = 42 := by have := hq.out; simpa using this.symm
                    subst hRn
                    replace hk0 := Lib.hid hk0
                    clear hq
                    go_wp2_with fail
                    go_ret
                    exact ⟨rfl, rfl⟩
        · obtain rfl : k = s.size := by omega
          have d4 : decide ((s.size : Int) < (s.size : Int)) = false := decide_eq_false (by omega)
          rw [List.drop_of_length_le (by rw [hl.out]; exact Nat.le_refl _)] at hq
          have hRn : R = 0 := by rw [← hq]; rfl
          subst hRn
          clear hq
          go_wp2_with fail
          go_ret
          exact ⟨rfl, rfl⟩
    · have hRn : R = 42 := by rw [← hR]; unfold nameF; rw [decide_eq_false h2]; simp
      have d2 : decide ((s.size : Int) > 24) = true := decide_eq_true (by omega)
      subst hRn
      clear hR hl
      go_enter Tryz.func20, Tryz.ntmps20
      go_wp2_with fail
      go_ret
      exact ⟨rfl, rfl⟩
  · have he := str_empty s true (decide_eq_true (by omega))
    have hRn : R = 42 := by rw [← hR]; unfold nameF; rw [decide_eq_false h1]; simp
    subst hRn
    clear hR hl
    go_enter Tryz.func20, Tryz.ntmps20
    go_wp2_with fail
    go_ret
    exact ⟨rfl, rfl⟩
end Go.Proofs.YtefbogmgcihndaaGreatDoor
