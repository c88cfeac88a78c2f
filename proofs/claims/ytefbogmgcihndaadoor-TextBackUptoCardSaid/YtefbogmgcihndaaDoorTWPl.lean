/- The contract of the law's plain. -/
import Derived.Test.YtefbogmgcihndaaDoorTLine
import Derived.Test.YtefbogmgcihndaaDoorTHead
namespace Go.Proofs.YtefbogmgcihndaaDoor
open Go.RowKit WP
theorem plainWd_no34 (r : List UInt8) : plainWd (34 :: r) = false := by simp [plainWd]
theorem plainWd_no35 (r : List UInt8) : plainWd (35 :: r) = false := by simp [plainWd]
theorem plainWd_blank (b : List UInt8) (k : Nat) (h : k < b.length) (hb : blankI (bAt b k) = true) : plainWd b = false := by
  unfold plainWd
  rw [Bool.and_eq_false_iff]
  right
  rw [List.all_eq_false]
  refine ⟨b[k], List.getElem_mem h, ?_⟩
  have e : bAt b k = ((b[k].toNat : Nat) : Int) := by unfold bAt; simp [h]
  rw [e] at hb
  simp [hb]
theorem plainWd_yes (b : List UInt8) (h0 : 0 < b.length) (h1 : bAt b 0 ≠ 34) (h2 : bAt b 0 ≠ 35) (h : ∀ j, j < b.length → blankI (bAt b j) = false) : plainWd b = true := by
  unfold plainWd
  rw [Bool.and_eq_true]
  refine ⟨decide_eq_true ⟨by rintro rfl; simp at h0, ?_, ?_⟩, ?_⟩
  · intro e
    apply h1
    cases b with
    | nil => simp at h0
    | cons x r => simp at e; subst e; rfl
  · intro e
    apply h2
    cases b with
    | nil => simp at h0
    | cons x r => simp at e; subst e; rfl
  · rw [List.all_eq_true]
    intro x hx
    obtain ⟨j, hj, rfl⟩ := List.getElem_of_mem hx
    have e : bAt b j = ((b[j].toNat : Nat) : Int) := by unfold bAt; simp [hj]
    have := h j hj
    rw [e] at this
    simp [this]
set_option maxRecDepth 100000 in
theorem plainw_any (v : Value) (b : List UInt8) (w : World) (hr : Rd w v (vb b)) : Calls Tryd.prog 8 #[v] w fun e w' => e = .returned (.bool (plainWd b)) ∧ w' = w := by
  obtain ⟨ao, ca, rfl, a1, a2, a3⟩ := hr.bytes
  by_cases h0 : b = []
  · subst h0
    have hp : plainWd [] = false := rfl
    rw [hp]
    go_enter Tryd.func8, Tryd.ntmps8
    go_wp2_with fail
    go_ret
    exact ⟨rfl, rfl⟩
  have hpos : 0 < b.length := List.length_pos_iff.2 h0
  obtain ⟨ba, oa, rfl, hba, hca⟩ := a3.resolve_left h0
  have c0 : w.cell? ⟨ba, oa, none⟩ = some (.int .u8 (bAt b 0)) := hca 0 hpos
  have i0 : (0 : Int) < (b.length : Int) := by omega
  have e0 : ((b.length : Int) == 0) = false := by simp; omega
  obtain ⟨x, hx⟩ : ∃ x, bAt b 0 = x := ⟨_, rfl⟩
  rw [hx] at c0
  by_cases h1 : x = 34
  · subst h1
    have hp : plainWd b = false := by
      cases b with
      | nil => simp at hpos
      | cons y r =>
        have : y = 34 := UInt8.toNat_inj.1 (by have h : ((y.toNat : Nat) : Int) = 34 := hx; show y.toNat = 34; omega)
        subst this; exact plainWd_no34 r
    rw [hp]
    clear hp hx hca
    go_enter Tryd.func8, Tryd.ntmps8
    go_wp2_with fail
    go_ret
    exact ⟨rfl, rfl⟩
  have d1 : (x == 34) = false := by simp [h1]
  by_cases h2 : x = 35
  · subst h2
    have hp : plainWd b = false := by
      cases b with
      | nil => simp at hpos
      | cons y r =>
        have : y = 35 := UInt8.toNat_inj.1 (by have h : ((y.toNat : Nat) : Int) = 35 := hx; show y.toNat = 35; omega)
        subst this; exact plainWd_no35 r
    rw [hp]
    clear hp hx hca
    go_enter Tryd.func8, Tryd.ntmps8
    go_wp2_with fail
    go_ret
    exact ⟨rfl, rfl⟩
  have d2 : (x == 35) = false := by simp [h2]
  have hca := Lib.hid hca
  have hx := Lib.hid hx
  go_enter Tryd.func8, Tryd.ntmps8
  go_wp2_with fail
  go_loop [3] (fun i => ∃ k : Nat, k ≤ b.length ∧ i = .int .i64 k ∧ ∀ j, j < k → blankI (bAt b j) = false) (fun i => b.length - (intOf i).toNat)
  case atStart => exact ⟨0, by omega, rfl, fun j hj => by omega⟩
  case round =>
    obtain ⟨k, hk, rfl, hn⟩ := hrel
    have hn := Lib.hid hn
    by_cases hlt : k < b.length
    · have ck := hca.out k hlt
      have ik : (k : Int) < (b.length : Int) := by omega
      obtain ⟨y, hy⟩ : ∃ y, bAt b k = y := ⟨_, rfl⟩
      rw [hy] at ck
      have hy := Lib.hid hy
      by_cases y1 : y = 32
      · subst y1
        have hp : plainWd b = false := plainWd_blank b k hlt (by rw [hy.out]; decide)
        go_wp2_with fail
        go_ret
        exact ⟨rfl, rfl⟩
      have f1 : (y == 32) = false := by simp [y1]
      by_cases y2 : y = 9
      · subst y2
        have hp : plainWd b = false := plainWd_blank b k hlt (by rw [hy.out]; decide)
        go_wp2_with fail
        go_ret
        exact ⟨rfl, rfl⟩
      have f2 : (y == 9) = false := by simp [y2]
      go_wp2_with fail
      go_round
      case rel =>
        refine ⟨k + 1, by omega, by go_num, fun j hj => ?_⟩
        by_cases hjk : j = k
        · subst hjk; rw [hy.out]; exact decide_eq_false (fun h => h.elim y1 y2)
        · exact hn.out j (by omega)
      case measure => simp [intOf]; omega
    · obtain rfl : k = b.length := by omega
      have hp : plainWd b = true := plainWd_yes b hpos (by rw [hx.out]; exact h1) (by rw [hx.out]; exact h2) hn.out
      have dk : decide ((b.length : Int) < (b.length : Int)) = false := decide_eq_false (by omega)
      go_wp2_with fail
      go_ret
      exact ⟨rfl, rfl⟩
end Go.Proofs.YtefbogmgcihndaaDoor
