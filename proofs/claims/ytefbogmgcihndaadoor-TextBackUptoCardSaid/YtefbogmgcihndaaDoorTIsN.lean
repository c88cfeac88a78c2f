/- The contract of the law's isName: the program's Name answers just so. -/
import Derived.Test.YtefbogmgcihndaaDoorTNam
import Derived.Test.YtefbogmgcihndaaDoorTEsc
namespace Go.Proofs.YtefbogmgcihndaaDoor
open Go.RowKit WP
def smallB (c : Int) : Bool := decide (97 ≤ c) && decide (c ≤ 122)
def digitB (c : Int) : Bool := decide (48 ≤ c) && decide (c ≤ 57)
theorem lsmall_any (c : Int) (w : World) : Calls Tryd.prog 51 #[.int .u8 c] w fun e w' => e = .returned (.bool (smallB c)) ∧ w' = w := by
  unfold smallB
  by_cases h1 : 97 ≤ c
  · have d1 : decide (c ≥ 97) = true := decide_eq_true h1
    rw [decide_eq_true h1, Bool.true_and]
    generalize hb : decide (c ≤ 122) = b
    go_enter Tryd.func51, Tryd.ntmps51
    go_wp2
    go_ret; exact ⟨rfl, rfl⟩
  · have d1 : decide (c ≥ 97) = false := decide_eq_false h1
    rw [decide_eq_false h1, Bool.false_and]
    go_enter Tryd.func51, Tryd.ntmps51
    go_wp2
    go_ret; exact ⟨rfl, rfl⟩
theorem ldigit_any (c : Int) (w : World) : Calls Tryd.prog 52 #[.int .u8 c] w fun e w' => e = .returned (.bool (digitB c)) ∧ w' = w := by
  unfold digitB
  by_cases h1 : 48 ≤ c
  · have d1 : decide (c ≥ 48) = true := decide_eq_true h1
    rw [decide_eq_true h1, Bool.true_and]
    generalize hb : decide (c ≤ 57) = b
    go_enter Tryd.func52, Tryd.ntmps52
    go_wp2
    go_ret; exact ⟨rfl, rfl⟩
  · have d1 : decide (c ≥ 48) = false := decide_eq_false h1
    rw [decide_eq_false h1, Bool.false_and]
    go_enter Tryd.func52, Tryd.ntmps52
    go_wp2
    go_ret; exact ⟨rfl, rfl⟩
set_option maxRecDepth 100000 in
set_option maxHeartbeats 1000000 in
theorem isname_any (s : ByteArray) (w : World) (hs : s.size ≤ 140737488355328) : Calls Tryd.prog 25 #[.string s] w fun e w' => e = .returned (.bool (nameF s)) ∧ w' = w := by
  have hl := size_list s
  obtain ⟨R, hR⟩ : ∃ R, nameF s = R := ⟨_, rfl⟩
  rw [hR]
  by_cases h1 : 1 ≤ s.size
  · have d1 : decide ((s.size : Int) ≥ 1) = true := decide_eq_true (by omega)
    by_cases h2 : s.size ≤ 24
    · have d2 : decide ((s.size : Int) ≤ 24) = true := decide_eq_true (by omega)
      have hp : 0 < s.size := by omega
      have b0 := bAt_get s 0 hp
      have hn0 : nameF s = (smallB (bAt s.data.toList 0) && nameA (s.data.toList.drop 1) 1) := by
        unfold nameF
        rw [decide_eq_true h1, decide_eq_true h2]
        have := nameA_drop s.data.toList 0 0 (by omega)
        rw [List.drop_zero] at this
        rw [this]
        simp [nmOk, smallB]
      have hc0 := fun W => lsmall_any (bAt s.data.toList 0) W
      obtain ⟨c0, hcc⟩ : ∃ c, bAt s.data.toList 0 = c := ⟨_, rfl⟩
      obtain ⟨q0, hq0⟩ : ∃ q, smallB c0 = q := ⟨_, rfl⟩
      simp only [hcc, hq0] at hc0
      rw [hcc, hq0] at hn0
      rw [hcc] at b0
      rw [hR] at hn0
      clear hcc hq0
      replace hc0 := Lib.hid hc0; replace hn0 := Lib.hid hn0; replace hl := Lib.hid hl; replace hR := Lib.hid hR
      go_enter Tryd.func25, Tryd.ntmps25
      go_wp2_with (go_at_call 51; refine (hc0.out _).mono ?_; rintro e w' ⟨rfl, rfl⟩)
      clear b0 hc0
      go_loop [3, 4] (fun ok i => ∃ (k : Nat) (q : Bool), 1 ≤ k ∧ k ≤ s.size ∧ i = .int .i64 k ∧ ok = .bool q ∧ R = (q && nameA (s.data.toList.drop k) k)) (fun ok i => s.size - (intOf i).toNat)
      case atStart => exact ⟨1, q0, by omega, by omega, rfl, rfl, hn0.out⟩
      case round =>
        obtain ⟨k, q, hk1, hk, rfl, rfl, hRk⟩ := hrel
        clear hn0
        rcases q with _ | _
        · rw [Bool.false_and] at hRk
          subst hRk
          go_wp2_with fail
          go_ret
          exact ⟨rfl, rfl⟩
        · rw [Bool.true_and] at hRk
          by_cases hlt : k < s.size
          · have bk := bAt_get s k hlt
            rw [nameA_drop s.data.toList k k (by rw [hl.out]; exact hlt)] at hRk
            have hnm : nmOk k (bAt s.data.toList k) = (smallB (bAt s.data.toList k) || (digitB (bAt s.data.toList k) || decide (bAt s.data.toList k = 95))) := by
              unfold nmOk smallB digitB
              rw [decide_eq_true (show k ≠ 0 by omega), Bool.true_and]
            rw [hnm] at hRk
            have hcs := fun W => lsmall_any (bAt s.data.toList k) W
            have hcd := fun W => ldigit_any (bAt s.data.toList k) W
            obtain ⟨c, hcc⟩ : ∃ c, bAt s.data.toList k = c := ⟨_, rfl⟩
            obtain ⟨qs, hqs⟩ : ∃ q, smallB c = q := ⟨_, rfl⟩
            obtain ⟨qd, hqd⟩ : ∃ q, digitB c = q := ⟨_, rfl⟩
            simp only [hcc, hqs] at hcs
            simp only [hcc, hqd] at hcd
            rw [hcc, hqs, hqd] at hRk
            rw [hcc] at bk
            clear hcc hqs hqd hnm
            replace hcs := Lib.hid hcs; replace hcd := Lib.hid hcd
            have hi : (0 : Int) ≤ (k : Int) := by omega
            rcases qs with _ | _
            · rcases qd with _ | _
              · by_cases h95 : c = 95
                · have d95 : (c == 95) = true := by simp [h95]
                  rw [decide_eq_true h95] at hRk
                  replace hRk := Lib.hid hRk; replace h95 := Lib.hid h95
                  go_wp2_with (first | (go_at_call 51; refine (hcs.out _).mono ?_; rintro e w' ⟨rfl, rfl⟩) | (go_at_call 52; refine (hcd.out _).mono ?_; rintro e w' ⟨rfl, rfl⟩))
                  go_round
                  case rel => exact ⟨k + 1, true, by omega, by omega, by go_num, rfl, by rw [hRk.out]; simp⟩
                  case measure => simp [intOf]; omega
                · have d95 : (c == 95) = false := by simp [h95]
                  rw [decide_eq_false h95] at hRk
                  replace hRk := Lib.hid hRk; replace h95 := Lib.hid h95
                  go_wp2_with (first | (go_at_call 51; refine (hcs.out _).mono ?_; rintro e w' ⟨rfl, rfl⟩) | (go_at_call 52; refine (hcd.out _).mono ?_; rintro e w' ⟨rfl, rfl⟩))
                  go_round
                  case rel => exact ⟨k + 1, false, by omega, by omega, by go_num, rfl, by rw [hRk.out]; simp⟩
                  case measure => simp [intOf]; omega
              · replace hRk := Lib.hid hRk
                go_wp2_with (first | (go_at_call 51; refine (hcs.out _).mono ?_; rintro e w' ⟨rfl, rfl⟩) | (go_at_call 52; refine (hcd.out _).mono ?_; rintro e w' ⟨rfl, rfl⟩))
                go_round
                case rel => exact ⟨k + 1, true, by omega, by omega, by go_num, rfl, by rw [hRk.out]; simp⟩
                case measure => simp [intOf]; omega
            · replace hRk := Lib.hid hRk
              go_wp2_with (first | (go_at_call 51; refine (hcs.out _).mono ?_; rintro e w' ⟨rfl, rfl⟩) | (go_at_call 52; refine (hcd.out _).mono ?_; rintro e w' ⟨rfl, rfl⟩))
              go_round
              case rel => exact ⟨k + 1, true, by omega, by omega, by go_num, rfl, by rw [hRk.out]; simp⟩
              case measure => simp [intOf]; omega
          · rw [List.drop_eq_nil_of_le (by rw [hl.out]; omega)] at hRk
            have hRt : R = true := hRk
            clear hRk
            subst hRt
            go_wp2_with fail
            go_ret
            exact ⟨rfl, rfl⟩
    · have hRf : R = false := by rw [← hR]; unfold nameF; rw [decide_eq_false h2]; simp
      have d2 : decide ((s.size : Int) ≤ 24) = false := decide_eq_false (by omega)
      subst hRf
      clear hR hl
      go_enter Tryd.func25, Tryd.ntmps25
      go_wp2_with fail
      refine wp_loop_rounds 1 ?_
      rw [rounds_succ]
      go_wp2_with fail
      go_ret
      exact ⟨rfl, rfl⟩
  · have hRf : R = false := by rw [← hR]; unfold nameF; rw [decide_eq_false h1]; simp
    have d1 : decide ((s.size : Int) ≥ 1) = false := decide_eq_false (by omega)
    subst hRf
    clear hR hl
    go_enter Tryd.func25, Tryd.ntmps25
    go_wp2_with fail
    refine wp_loop_rounds 1 ?_
    rw [rounds_succ]
    go_wp2_with fail
    go_ret
    exact ⟨rfl, rfl⟩
end Go.Proofs.YtefbogmgcihndaaDoor
