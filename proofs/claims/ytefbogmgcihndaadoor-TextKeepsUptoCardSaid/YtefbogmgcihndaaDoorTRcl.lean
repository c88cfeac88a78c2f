/- The reference's cell and width. -/
import Derived.Test.YtefbogmgcihndaaDoorTCols
namespace Go.Proofs.YtefbogmgcihndaaDoor
open Go.RowKit WP
theorem nthB_none (cs : List ByteArray) (j : Nat) (h : cs.length ≤ j) : nthB cs j = ⟨#[]⟩ := by
  unfold nthB; rw [List.getD_eq_getElem?_getD, List.getElem?_eq_none h]; rfl
theorem rcell_any (v : Value) (cs : List ByteArray) (j : Nat) (w : World) (hr : Rd w v (vs cs)) (hj : j ≤ 1048576) :
    Calls Tryd.prog 80 #[v, .int .i64 j] w fun e w' => e = .returned (.string (nthB cs j)) ∧ w' = w := by
  obtain ⟨ao, ca, rfl, a1, a2, a3⟩ := hr
  rw [vs_length] at a1 ⊢
  by_cases h : j < cs.length
  · have hc : ∃ b off, ao = some ⟨b, off, none⟩ ∧ w.cell? ⟨b, off + j, none⟩ = some (.string (nthB cs j)) := by
      rcases a3 with a3 | ⟨b, off, rfl, a3⟩
      · have h0 := congrArg List.length a3; rw [vs_length] at h0; have h0 : cs.length = 0 := h0; omega
      · exact ⟨b, off, rfl, a3 j _ (vs_get _ _ h)⟩
    obtain ⟨b, off, rfl, hc⟩ := hc
    have d1 : decide ((j : Int) < (cs.length : Int)) = true := decide_eq_true (by omega)
    have i1 : (0 : Int) ≤ (j : Int) := by omega
    clear a3
    generalize nthB cs j = S at *
    go_enter Tryd.func80, Tryd.ntmps80
    go_wp2_with fail
    go_ret
    exact ⟨rfl, rfl⟩
  · have d1 : decide ((j : Int) < (cs.length : Int)) = false := decide_eq_false (by omega)
    rw [nthB_none cs j (by omega)]
    clear a3
    go_enter Tryd.func80, Tryd.ntmps80
    go_wp2_with fail
    go_ret
    exact ⟨rfl, rfl⟩
theorem wK_max (C : Nat → List ByteArray) (k j : Nat) : (wK C (k + 1)).getD j 0 = max ((wK C k).getD j 0) (nthB (C k) j).size := by
  simp only [wK]
  rw [wRow_at]
  split
  · rfl
  · rw [nthB_none _ _ (by omega)]; rfl
set_option maxRecDepth 100000 in
set_option maxHeartbeats 1600000 in
theorem rwidth_any (v : Value) (V : Nat → Value) (C : Nat → List ByteArray) (n j : Nat) (w : World) (hG : Grid w v V C n) (hj : j ≤ 1048576) (hn : n ≤ 1048576) (hM : ∀ i, i < n → (C i).length ≤ 1048576 ∧ (nthB (C i) j).size ≤ 1048576) :
    Calls Tryd.prog 59 #[v, .int .i64 j] w fun e w' => e = .returned (.int .i64 (((wK C n).getD j 0 : Nat) : Int)) ∧ w' = w := by
  obtain ⟨ao, ca, rfl, a1, a2, a3⟩ := hG.form
  obtain ⟨Y, hY⟩ : ∃ Y, (wK C n).getD j 0 = Y := ⟨_, rfl⟩
  rw [hY]
  replace hG := Lib.hid hG; replace hM := Lib.hid hM; replace a3 := Lib.hid a3; replace hY := Lib.hid hY
  go_enter Tryd.func59, Tryd.ntmps59
  go_wp2_with fail
  go_loop [5, 6] (fun a i => ∃ k : Nat, k ≤ n ∧ i = .int .i64 k ∧ (wK C k).getD j 0 ≤ 1048576 ∧ a = .int .i64 (((wK C k).getD j 0 : Nat) : Int)) (fun _ i => n - (intOf i).toNat)
  case atStart => exact ⟨0, by omega, rfl, by simp [wK], by simp [wK]⟩
  case round =>
    obtain ⟨k, hk, rfl, hle, rfl⟩ := hrel
    by_cases hlt : k < n
    · obtain ⟨b, off, rfl, hc⟩ := a3.out k hlt
      have hst := wK_max C k j
      obtain ⟨m1, m2⟩ := hM.out k hlt
      have hrow := hG.out.row k hlt
      have hcl := rcell_any (V k) (C k) j w hrow hj
      obtain ⟨ai, ci, hV, _, _, _⟩ := hG.out.line k hlt
      rw [hV] at hc hcl
      generalize nthB (C k) j = cell at *
      generalize (wK C k).getD j 0 = y at *
      have d1 : decide ((k : Int) < (n : Int)) = true := decide_eq_true (by omega)
      have i1 : (0 : Int) ≤ (k : Int) := by omega
      have i2 : (k : Int) < (n : Int) := by omega
      clear hrow hV
      replace hcl := Lib.hid hcl
      by_cases hgt : y < cell.size
      · have d2 : decide ((cell.size : Int) > (y : Int)) = true := decide_eq_true (by omega)
        have hst2 : (wK C (k + 1)).getD j 0 = cell.size := by omega
        clear hst
        replace hst2 := Lib.hid hst2
        go_wp2_with (go_at_call 80; refine hcl.out.mono ?_; rintro e w2 ⟨rfl, rfl⟩)
        go_round
        case rel => exact ⟨k + 1, by omega, by go_num, by rw [hst2.out]; exact m2, by rw [hst2.out]⟩
        case measure => simp [intOf]; omega
      · have d2 : decide ((cell.size : Int) > (y : Int)) = false := decide_eq_false (by omega)
        have hst2 : (wK C (k + 1)).getD j 0 = y := by omega
        clear hst
        replace hst2 := Lib.hid hst2
        go_wp2_with (go_at_call 80; refine hcl.out.mono ?_; rintro e w2 ⟨rfl, rfl⟩)
        go_round
        case rel => exact ⟨k + 1, by omega, by go_num, by rw [hst2.out]; exact hle, by rw [hst2.out]⟩
        case measure => simp [intOf]; omega
    · obtain rfl : k = n := by omega
      have d1 : decide ((k : Int) < (k : Int)) = false := decide_eq_false (by omega)
      rw [hY.out] at hle ⊢
      go_wp2_with fail
      go_ret
      exact ⟨rfl, rfl⟩
end Go.Proofs.YtefbogmgcihndaaDoor
