/- The contracts of the reference's plain, parts, worth. -/
import Derived.Test.YtefbogmgcihndaaDoorTLine
namespace Go.Proofs.YtefbogmgcihndaaDoor
open Go.RowKit WP
theorem rplain_any (x : Int) (w : World) : Calls Tryd.prog 78 #[.int .u8 x] w fun e w' => e = .returned (.bool (plainI x)) ∧ w' = w := by
  by_cases h1 : 32 ≤ x
  · have d1 : decide (x ≥ 32) = true := decide_eq_true h1
    by_cases h2 : x ≤ 126
    · have d2 : decide (x ≤ 126) = true := decide_eq_true h2
      by_cases h3 : x = 34
      · subst h3
        have hp : plainI 34 = false := rfl
        rw [hp]
        go_enter Tryd.func78, Tryd.ntmps78
        go_wp2_with fail
        go_ret
        exact ⟨rfl, rfl⟩
      · have d3 : (x != 34) = true := by simp [h3]
        by_cases h4 : x = 92
        · subst h4
          have hp : plainI 92 = false := rfl
          rw [hp]
          go_enter Tryd.func78, Tryd.ntmps78
          go_wp2_with fail
          go_ret
          exact ⟨rfl, rfl⟩
        · have d4 : (x != 92) = true := by simp [h4]
          have hp : plainI x = true := decide_eq_true ⟨h1, h2, h3, h4⟩
          rw [hp]
          clear hp h1 h2 h3 h4
          go_enter Tryd.func78, Tryd.ntmps78
          go_wp2_with fail
          go_ret
          exact ⟨rfl, rfl⟩
    · have d2 : decide (x ≤ 126) = false := decide_eq_false h2
      have hp : plainI x = false := decide_eq_false (fun h => h2 h.2.1)
      rw [hp]
      clear hp h1 h2
      go_enter Tryd.func78, Tryd.ntmps78
      go_wp2_with fail
      go_ret
      exact ⟨rfl, rfl⟩
  · have d1 : decide (x ≥ 32) = false := decide_eq_false h1
    have hp : plainI x = false := decide_eq_false (fun h => h1 h.1)
    rw [hp]
    clear hp h1
    go_enter Tryd.func78, Tryd.ntmps78
    go_wp2_with fail
    go_ret
    exact ⟨rfl, rfl⟩
theorem rparts_any (x : Int) (w : World) : Calls Tryd.prog 56 #[.int .u8 x] w fun e w' => e = .returned (.bool (blankI x)) ∧ w' = w := by
  by_cases h1 : x = 32
  · subst h1
    go_enter Tryd.func56, Tryd.ntmps56
    go_wp2_with fail
    go_ret
    exact ⟨rfl, rfl⟩
  · have d1 : (x == 32) = false := by simp [h1]
    by_cases h2 : x = 9
    · subst h2
      go_enter Tryd.func56, Tryd.ntmps56
      go_wp2_with fail
      go_ret
      exact ⟨rfl, rfl⟩
    · have d2 : (x == 9) = false := by simp [h2]
      have hp : blankI x = false := decide_eq_false (fun h => h.elim h1 h2)
      rw [hp]
      clear hp h1 h2
      go_enter Tryd.func56, Tryd.ntmps56
      go_wp2_with fail
      go_ret
      exact ⟨rfl, rfl⟩
set_option maxRecDepth 100000
theorem index_dg64 (D : Nat) (hD : D < 16) (W : World) :
    (Instr.index 9 (.string ⟨#[48, 49, 50, 51, 52, 53, 54, 55, 56, 57, 97, 98, 99, 100, 101, 102]⟩) (.int .i64 (D : Int))).run Tryd.prog W = .ok (.int .u8 ((dgB D).toNat : Int)) W := by
  have : D = 0 ∨ D = 1 ∨ D = 2 ∨ D = 3 ∨ D = 4 ∨ D = 5 ∨ D = 6 ∨ D = 7 ∨ D = 8 ∨ D = 9 ∨ D = 10 ∨ D = 11 ∨ D = 12 ∨ D = 13 ∨ D = 14 ∨ D = 15 := by omega
  rcases this with rfl | rfl | rfl | rfl | rfl | rfl | rfl | rfl | rfl | rfl | rfl | rfl | rfl | rfl | rfl | rfl <;> rfl
theorem indexByte_no (c : UInt8) : ∀ l : List UInt8, (∀ x ∈ l, x ≠ c) → Lib.indexByte l c = -1
  | [], _ => rfl
  | b :: l, h => by
    have ih := indexByte_no c l (fun x hx => h x (by simp [hx]))
    have hb : (b == c) = false := by simp; exact h b (by simp)
    simp only [Lib.indexByte, hb, ih]; rfl
theorem hv_no (c : Nat) (hc : c < 256) (h : ∀ j, j < 16 → (dgB j).toNat ≠ c) : hv (c : Int) = -1 := by
  unfold hv
  refine indexByte_no _ _ ?_
  intro x hx e
  have hu : ((c : Int).toNat.toUInt8).toNat = c := by simp; omega
  have hj : ∃ j, j < 16 ∧ dgB j = x := by
    simp only [digB, List.mem_cons, List.not_mem_nil, or_false] at hx
    rcases hx with rfl | rfl | rfl | rfl | rfl | rfl | rfl | rfl | rfl | rfl | rfl | rfl | rfl | rfl | rfl | rfl
    · exact ⟨0, by decide, rfl⟩
    · exact ⟨1, by decide, rfl⟩
    · exact ⟨2, by decide, rfl⟩
    · exact ⟨3, by decide, rfl⟩
    · exact ⟨4, by decide, rfl⟩
    · exact ⟨5, by decide, rfl⟩
    · exact ⟨6, by decide, rfl⟩
    · exact ⟨7, by decide, rfl⟩
    · exact ⟨8, by decide, rfl⟩
    · exact ⟨9, by decide, rfl⟩
    · exact ⟨10, by decide, rfl⟩
    · exact ⟨11, by decide, rfl⟩
    · exact ⟨12, by decide, rfl⟩
    · exact ⟨13, by decide, rfl⟩
    · exact ⟨14, by decide, rfl⟩
    · exact ⟨15, by decide, rfl⟩
  obtain ⟨j, hj, rfl⟩ := hj
  exact h j hj (by rw [e, hu])
theorem rworth_any (c : Int) (w : World) (h1 : 0 ≤ c) (h2 : c ≤ 255) :
    Calls Tryd.prog 79 #[.int .u8 c] w fun e w' => e = .returned (.int .i64 (hv c)) ∧ w' = w := by
  obtain ⟨c, rfl⟩ := Int.eq_ofNat_of_zero_le h1
  go_enter Tryd.func79, Tryd.ntmps79
  go_wp2
  go_loop [3] (fun i => ∃ k : Nat, k ≤ 16 ∧ i = .int .i64 k ∧ ∀ j, j < k → (dgB j).toNat ≠ c) (fun i => 16 - (intOf i).toNat)
  case atStart => exact ⟨0, by omega, rfl, by intro j h; omega⟩
  case round =>
    obtain ⟨k, hk, rfl, hall⟩ := hrel
    have hall := Lib.hid hall
    by_cases hlt : k < 16
    · have hix := index_dg64 k hlt
      by_cases hq : (dgB k).toNat = c
      · have e1 : hv (c : Int) = k := by rw [← hq]; exact hv_dgB k hlt
        have hq2 : ((((dgB k).toNat : Nat) : Int) == (c : Int)) = true := by simp [hq]
        replace e1 := Lib.hid e1
        clear hq
        go_wp2
        go_ret
        exact ⟨ret1 e1.out.symm, rfl⟩
      · have hq2 : ((((dgB k).toNat : Nat) : Int) == (c : Int)) = false := by rw [beq_eq_false_iff_ne]; omega
        replace hq := Lib.hid hq
        go_wp2
        go_round
        case rel =>
          refine ⟨k + 1, by omega, by go_num, ?_⟩
          intro j hj
          by_cases h : j = k
          · rw [h]; exact hq.out
          · exact hall.out j (by omega)
        case measure => simp [intOf]; omega
    · obtain rfl : k = 16 := by omega
      have e1 := Lib.hid (hv_no c (by omega) hall.out)
      go_wp2
      go_ret
      exact ⟨ret1 e1.out.symm, rfl⟩
end Go.Proofs.YtefbogmgcihndaaDoor
