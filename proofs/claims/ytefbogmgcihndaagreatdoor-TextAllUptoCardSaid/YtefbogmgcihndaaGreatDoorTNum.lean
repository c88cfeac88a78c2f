/- The contracts of text's tens, Number, Signed, Minus; ParseUint at base 16. -/
import Derived.Test.YtefbogmgcihndaaGreatDoorTNuP
import Derived.Test.YtefbogmgcihndaaGreatDoorTTen
import Derived.Test.YtefbogmgcihndaaGreatDoorLayNm
import Derived.Test.YtefbogmgcihndaaGreatDoorLayPu
import Derived.Lib.ConvBytes
import Derived.Lib.ParseIntBMem
import Derived.Laws.Strings3
import Derived.Laws.Closers25
import Derived.Laws.Closers25b
import Derived.WalkKit
import Derived.BigCall
import Derived.BigGuard
namespace Go.Proofs
open Go.RowKit Go.Shelf
namespace YtefbogmgcihndaaGreatDoor
open WP
theorem bs_empty (s : ByteArray) (h : s.size = 0) : s = ⟨#[]⟩ := by
  apply ByteArray.ext
  exact Array.eq_empty_of_size_eq_zero h
theorem bs_isEmpty (s : ByteArray) (h : s.size ≠ 0) : s.toList.isEmpty = false := by
  rw [ByteArray.toList_eq]
  cases hl : s.data.toList with
  | nil => exact absurd (by rw [← size_list, hl]; rfl) h
  | cons _ _ => rfl
set_option maxRecDepth 100000 in
theorem tensb_any (s : ByteArray) (w : World) (hs : s.size ≤ 9223372036854775807) :
    Calls Tryz.prog 43 #[.string s] w fun e w' => e = .returned (.bool (tensB s.data.toList)) ∧ w' = w := by
  by_cases h0 : s.size = 0
  · obtain rfl := bs_empty s h0
    have e : tensB (⟨#[]⟩ : ByteArray).data.toList = false := rfl
    rw [e]
    go_enter Tryz.func43, Tryz.ntmps43
    go_wp2
    go_ret
    exact ⟨rfl, rfl⟩
  · have he := bs_isEmpty s h0
    have hp : 0 < s.size := by omega
    have hl := size_list s
    have hemp : s.data.toList.isEmpty = false := by rw [ByteArray.toList_eq] at he; exact he
    have b0 := bAt_get s 0 hp
    have hval : s.data.toList.getD 0 0 = UInt8.ofNat (bAt s.data.toList 0).toNat := by
      unfold bAt; rw [Int.toNat_natCast, UInt8.ofNat_toNat]
    by_cases hz : 1 < s.size ∧ bAt s.data.toList 0 = 48
    · have e : tensB s.data.toList = false := by
        unfold tensB
        rw [hval, hz.2, hl]
        simp [hz.1]
      rw [e]
      have d1 : decide ((s.size : Int) > 1) = true := decide_eq_true (by omega)
      rw [hz.2] at b0
      replace hz := Lib.hid hz; replace hl := Lib.hid hl; replace e := Lib.hid e; replace hval := Lib.hid hval; replace hemp := Lib.hid hemp
      go_enter Tryz.func43, Tryz.ntmps43
      go_wp2
      go_ret
      exact ⟨rfl, rfl⟩
    · have e : tensB s.data.toList = s.data.toList.all isDg := by
        unfold tensB
        rw [hemp, hval, hl]
        by_cases h1 : 1 < s.size
        · have h2 : bAt s.data.toList 0 ≠ 48 := fun h => hz ⟨h1, h⟩
          have h3 := bAt_bd s.data.toList 0
          have h4 : (UInt8.ofNat (bAt s.data.toList 0).toNat == (48 : UInt8)) = false := by
            rw [beq_eq_false_iff_ne]
            intro h
            have := congrArg UInt8.toNat h
            rw [UInt8.toNat_ofNat_of_lt' (by show _ < 256; omega)] at this
            have h5 : (48 : UInt8).toNat = 48 := rfl
            omega
          rw [h4]; simp
        · simp [h1]
      rw [e]
      have hcase : (¬ 1 < s.size) ∨ (1 < s.size ∧ bAt s.data.toList 0 ≠ 48) := by
        by_cases h1 : 1 < s.size
        · exact .inr ⟨h1, fun h => hz ⟨h1, h⟩⟩
        · exact .inl h1
      obtain ⟨R, hR⟩ : ∃ R, s.data.toList.all isDg = R := ⟨_, rfl⟩
      rw [hR]
      obtain ⟨c0, hc0⟩ : ∃ c, bAt s.data.toList 0 = c := ⟨_, rfl⟩
      rw [hc0] at b0 hcase
      clear hz e hval hemp hc0
      replace hR := Lib.hid hR; replace hl := Lib.hid hl
      have body : ∀ (c : Prop), c → c := fun _ h => h
      clear body
      rcases hcase with h1 | ⟨h1, h2⟩
      all_goals
        first
          | (have d1 : decide ((s.size : Int) > 1) = false := decide_eq_false (by omega))
          | (have d1 : decide ((s.size : Int) > 1) = true := decide_eq_true (by omega)
             have d2 : (c0 == 48) = false := by simpa using h2)
        go_enter Tryz.func43, Tryz.ntmps43
        go_wp2
        clear b0
        go_loop [18] (fun i => ∃ k : Nat, k ≤ s.size ∧ i = .int .i64 k ∧ (s.data.toList.take k).all isDg = true) (fun i => s.size - (intOf i).toNat)
        case atStart => exact ⟨0, by omega, rfl, rfl⟩
        case round =>
          obtain ⟨k, hk, rfl, hall⟩ := hrel
          by_cases hlt : k < s.size
          · have hkl : k < s.data.toList.length := by rw [hl.out]; exact hlt
            have htk : (s.data.toList.take (k + 1)).all isDg = ((s.data.toList.take k).all isDg && isDg s.data.toList[k]) := by
              rw [List.take_succ_eq_append_getElem hkl, List.all_append]; simp
            rw [hall, Bool.true_and] at htk
            have bk := bAt_get s k hlt
            have hbv : bAt s.data.toList k = ((s.data.toList[k].toNat : Nat) : Int) := by unfold bAt; rw [List.getD_eq_getElem?_getD, List.getElem?_eq_getElem hkl]; rfl
            have hdg : isDg s.data.toList[k] = decide (48 ≤ bAt s.data.toList k ∧ bAt s.data.toList k ≤ 57) := by
              rw [hbv]; unfold isDg; rw [decide_eq_decide]; omega
            rw [hdg] at htk
            have hno : ¬ (48 ≤ bAt s.data.toList k ∧ bAt s.data.toList k ≤ 57) → R = false := by
              intro hn
              rw [← hR.out, List.all_eq_false]
              exact ⟨s.data.toList[k], List.getElem_mem hkl, by rw [hdg]; simpa using hn⟩
            obtain ⟨c, hc⟩ : ∃ c, bAt s.data.toList k = c := ⟨_, rfl⟩
            rw [hc] at bk htk hno
            clear hbv hdg hc hall
            by_cases q1 : 48 ≤ c
            · by_cases q2 : c ≤ 57
              · rw [decide_eq_true ⟨q1, q2⟩] at htk
                have e1 : decide (c < 48) = false := decide_eq_false (by omega)
                have e2 : decide (c > 57) = false := decide_eq_false (by omega)
                clear hno
                replace htk := Lib.hid htk
                go_wp2
                go_round
                case rel => exact ⟨k + 1, by omega, by go_num, htk.out⟩
                case measure => simp [intOf]; omega
              · have hRf := hno (fun h => q2 h.2)
                subst hRf
                have e1 : decide (c < 48) = false := decide_eq_false (by omega)
                have e2 : decide (c > 57) = true := decide_eq_true (by omega)
                clear hno htk
                go_wp2
                go_ret
                exact ⟨rfl, rfl⟩
            · have hRf := hno (fun h => q1 h.1)
              subst hRf
              have e1 : decide (c < 48) = true := decide_eq_true (by omega)
              clear hno htk
              go_wp2
              go_ret
              exact ⟨rfl, rfl⟩
          · rw [List.take_of_length_le (by rw [hl.out]; omega), hR.out] at hall
            subst hall
            go_wp2_with fail
            go_ret
            exact ⟨rfl, rfl⟩
end YtefbogmgcihndaaGreatDoor
end Go.Proofs
