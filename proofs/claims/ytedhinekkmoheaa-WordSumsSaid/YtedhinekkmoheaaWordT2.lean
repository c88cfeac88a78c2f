import Derived.Test.YtedhinekkmoheaaWordT
namespace Go.Proofs.Ytedhinekkmoheaa
open Go.RowKit WP
theorem alike4 (a b c x y : Int) (x1 : 0 ≤ x) (x2 : x ≤ 4294967295) (y1 : 0 ≤ y) (y2 : y ≤ 4294967295) : alikeB [ofI a, ofI b, ofI c, ofI x] [ofI a, ofI b, ofI c, ofI y] = (x == y) := by
  unfold alikeB
  have := ofI_inj x y x1 x2 y1 y2
  by_cases h : x = y
  · simp [h]
  · simp [h, this]
theorem alike1 (x y : Int) (x1 : 0 ≤ x) (x2 : x ≤ 4294967295) (y1 : 0 ≤ y) (y2 : y ≤ 4294967295) : alikeB [ofI x] [ofI y] = (x == y) := by
  unfold alikeB
  have := ofI_inj x y x1 x2 y1 y2
  by_cases h : x = y
  · simp [h]
  · simp [h, this]
set_option maxRecDepth 100000 in
set_option maxHeartbeats 8000000 in
theorem sums_yes (a b c0 c1 c2 : Int) (w : World) (a1 : 0 ≤ a) (a2 : a ≤ 4294967295) (b1 : 0 ≤ b) (b2 : b ≤ 4294967295) (x1 : 0 ≤ c0) (x2 : c0 ≤ 4294967295) (y1 : 0 ≤ c1) (y2 : c1 ≤ 4294967295) (z1 : 0 ≤ c2) (z2 : c2 ≤ 4294967295) (hb : 1 ≤ b) :
    Calls Try.prog 4 #[.int .u32 a, .int .u32 b, .agg #[.int .u32 c0, .int .u32 c1, .int .u32 c2]] w fun e w' => e = .returned (.bool true) ∧ Below w.heap.size w w' := by
  have b0 : (b == 0) = false := by rw [beq_eq_false_iff_ne]; omega
  have b0' : (b != 0) = true := by rw [bne_iff_ne]; omega
  have q1 : a / b * b ≤ a := Int.ediv_mul_le _ (by omega)
  have q2 : a - a / b * b < b := by have := Int.emod_lt_of_pos a (show 0 < b by omega); have := Int.emod_def a b; rw [Int.mul_comm] at this; omega
  have q3 : 0 ≤ a / b * b := Int.mul_nonneg (Int.ediv_nonneg a1 b1) b1
  have q4 : 0 ≤ a / b := Int.ediv_nonneg a1 b1
  have q5 : a / b ≤ 4294967295 := by have := Int.ediv_le_self b a1; omega
  have h5 : c1 ≤ 0 ∨ (1 ≤ c1 ∧ c2 ≤ 0) ∨ (1 ≤ c1 ∧ 1 ≤ c2 ∧ ¬ a < b + c2) ∨ (1 ≤ c1 ∧ 1 ≤ c2 ∧ a < b + c2 ∧ ¬ b < a + c1) ∨ (1 ≤ c1 ∧ 1 ≤ c2 ∧ a < b + c2 ∧ b < a + c1) := by omega
  obtain ⟨m, o1⟩ : ∃ m, overB a c1 b c2 = m := ⟨_, rfl⟩
  have o2 : overB b c2 a c1 = m := by rw [← o1]; unfold overB; simp only [decide_eq_decide]; omega
  have hm : (m = true ∧ 1 ≤ c1 ∧ 1 ≤ c2 ∧ a < b + c2 ∧ b < a + c1) ∨ (m = false ∧ (c1 ≤ 0 ∨ (1 ≤ c1 ∧ c2 ≤ 0) ∨ (1 ≤ c1 ∧ 1 ≤ c2 ∧ ¬ a < b + c2) ∨ (1 ≤ c1 ∧ 1 ≤ c2 ∧ a < b + c2 ∧ ¬ b < a + c1))) := by
    rw [← o1]; unfold overB; simp only [decide_eq_true_eq, decide_eq_false_iff_not]; omega
  clear h5
  rcases hm with ⟨rfl, m1, m2, m3, m4⟩ | ⟨rfl, m1 | ⟨m1, m2⟩ | ⟨m1, m2, m3⟩ | ⟨m1, m2, m3, m4⟩⟩
  all_goals
    go_enter Try.func4, Try.ntmps4
    go_wp2_with (first
      | (go_at_call 8; refine (head_any _).mono ?_; rintro e w1 ⟨rfl, hbl⟩; obtain ⟨hcc, hff⟩ := bcell hbl; have hz : w.heap.size < w1.heap.size := by have := hbl.size; simp at this; omega)
      | (go_at_call 16; refine (add_any _ _ _ _ (by omega) (by omega) (by omega) (by omega) (by omega) (by omega)).mono ?_; rintro e w' ⟨rfl, rfl⟩)
      | (go_at_call 17; refine (div_yes _ _ _ (by omega) (by omega) (by omega) (by omega)).mono ?_; rintro e w' ⟨rfl, rfl⟩)
      | (go_at_call 18; refine (less_any _ _ _).mono ?_; rintro e w' ⟨rfl, rfl⟩)
      | (go_at_call 19; refine (overlap_any _ _ _ _ _ (by omega) (by omega) (by omega) (by omega) (by omega) (by omega) (by omega) (by omega)).mono ?_; rintro e w' ⟨rfl, rfl⟩))
    have hr1 : Rd ((w1.alloc (.cells #[.int .u32 a, .int .u32 b, .int .u32 c0, .int .u32 c1] 22)).alloc (.cells #[.int .u32 a, .int .u32 b, .int .u32 c0, .int .u32 c2] 22)) (.slice (some ⟨w1.heap.size, 0, none⟩) 4 4) (vw [ofI a, ofI b, ofI c0, ofI c1]) := by
      simp only [vw, List.map_cons, List.map_nil, ofI_val a a1 a2, ofI_val b b1 b2, ofI_val c0 x1 x2, ofI_val c1 y1 y2]
      exact (Rd.new w1 [.int .u32 a, .int .u32 b, .int .u32 c0, .int .u32 c1] _ _ (by simp [maxLen])).alloc _
    have hr2 : Rd ((w1.alloc (.cells #[.int .u32 a, .int .u32 b, .int .u32 c0, .int .u32 c1] 22)).alloc (.cells #[.int .u32 a, .int .u32 b, .int .u32 c0, .int .u32 c2] 22)) (.slice (some ⟨w1.heap.size + 1, 0, none⟩) 4 4) (vw [ofI a, ofI b, ofI c0, ofI c2]) := by
      simp only [vw, List.map_cons, List.map_nil, ofI_val a a1 a2, ofI_val b b1 b2, ofI_val c0 x1 x2, ofI_val c2 z1 z2]
      have := Rd.new (w1.alloc (.cells #[.int .u32 a, .int .u32 b, .int .u32 c0, .int .u32 c1] 22)) [.int .u32 a, .int .u32 b, .int .u32 c0, .int .u32 c2] 22 (0, 0) (by simp [maxLen])
      simpa using this
    have hr3 : ∀ (W : World) (g : Nat), g = W.heap.size → Rd ((W.alloc (.cells #[.int .u32 a] 22)).alloc (.cells #[.int .u32 b] 22)) (.slice (some ⟨g, 0, none⟩) 1 1) (vw [ofI a]) := by
      rintro W g rfl
      simp only [vw, List.map_cons, List.map_nil, ofI_val a a1 a2]
      exact (Rd.new W [.int .u32 a] _ _ (by simp [maxLen])).alloc _
    have hr4 : ∀ (W : World) (g : Nat), g = W.heap.size + 1 → Rd ((W.alloc (.cells #[.int .u32 a] 22)).alloc (.cells #[.int .u32 b] 22)) (.slice (some ⟨g, 0, none⟩) 1 1) (vw [ofI b]) := by
      rintro W g rfl
      simp only [vw, List.map_cons, List.map_nil, ofI_val b b1 b2]
      have := Rd.new (W.alloc (.cells #[.int .u32 a] 22)) [.int .u32 b] 22 (0, 0) (by simp [maxLen])
      simpa using this
    have l1 := alike4 a b c0 c1 c2 y1 y2 z1 z2
    have l2 : looksI [ofI a, ofI b, ofI c0, ofI c1] [ofI a, ofI b, ofI c0, ofI c2] = 4 := by simp [looksI]
    have l3 : alikeB [ofI a, ofI b, ofI c0, ofI c1] [ofI a, ofI b, ofI c0] = false := by simp [alikeB]
    have l4 : looksI [ofI a, ofI b, ofI c0, ofI c1] [ofI a, ofI b, ofI c0] = 0 := by simp [looksI]
    have l5 := alike1 a b a1 a2 b1 b2
    have l6 : looksI [ofI a] [ofI b] = 1 := by simp [looksI]
    have hr1 := Lib.hid hr1; have hr2 := Lib.hid hr2; have hr3 := Lib.hid hr3; have hr4 := Lib.hid hr4
    refine (same_any _ _ [ofI a, ofI b, ofI c0, ofI c1] [ofI a, ofI b, ofI c0, ofI c2] _ hr1.out hr2.out).mono ?_
    rintro e w2 ⟨rfl, n2, rfl⟩
    go_wp2_with fail
    refine (same_any _ _ [ofI a, ofI b, ofI c0, ofI c1] [ofI a, ofI b, ofI c0] _ (hr1.out.drewN _) ((hr2.out.take 3 (by decide)).drewN _)).mono ?_
    rintro e w2 ⟨rfl, n3, rfl⟩
    go_wp2_with fail
    refine (same_any _ _ [ofI a] [ofI b] _ (hr3.out _ _ (by simp)) (hr4.out _ _ (by simp))).mono ?_
    rintro e w4 ⟨rfl, n4, hw4⟩
    have hB : Below w1.heap.size w1 w4 := by
      rw [hw4]
      exact below_drewN (((below_drewN (((Below.refl _ _).alloc (Nat.le_refl _) _).alloc (by simp) _) _).alloc (by simp; omega) _).alloc (by simp; omega) _) _
    clear hw4
    have d1 : w4.cell? ⟨w.heap.size, 1, none⟩ = some (.int .u32 c1) := (hB.cell (p := ⟨w.heap.size, 1, none⟩) hz).trans ((hcc _ _ (by simp)).trans (by simp [go_sem]))
    have d2 : w4.cell? ⟨w.heap.size, 2, none⟩ = some (.int .u32 c2) := (hB.cell (p := ⟨w.heap.size, 2, none⟩) hz).trans ((hcc _ _ (by simp)).trans (by simp [go_sem]))
    have hB' : Below w.heap.size w w4 := (((Below.refl _ _).alloc (Nat.le_refl _) _).trans (hbl.mono (by simp))).trans (hB.mono (by omega))
    clear hcc hff hB
    go_wp2_with fail
    go_ret
    exact ⟨rfl, hB'⟩
set_option maxRecDepth 100000 in
set_option maxHeartbeats 8000000 in
theorem sums_no (a c0 c1 c2 : Int) (w : World) (a1 : 0 ≤ a) (a2 : a ≤ 4294967295) (x1 : 0 ≤ c0) (x2 : c0 ≤ 4294967295) (y1 : 0 ≤ c1) (y2 : c1 ≤ 4294967295) (z1 : 0 ≤ c2) (z2 : c2 ≤ 4294967295) :
    Calls Try.prog 4 #[.int .u32 a, .int .u32 0, .agg #[.int .u32 c0, .int .u32 c1, .int .u32 c2]] w fun e w' => e = .returned (.bool true) ∧ Below w.heap.size w w' := by
  have w00 : wrap32 0 = 0 := by simp [wrap32]
  have b1 : (0 : Int) ≤ 0 := by omega
  have b2 : (0 : Int) ≤ 4294967295 := by omega
  have h5 : c1 ≤ 0 ∨ (1 ≤ c1 ∧ c2 ≤ 0) ∨ (1 ≤ c1 ∧ 1 ≤ c2 ∧ ¬ a < 0 + c2) ∨ (1 ≤ c1 ∧ 1 ≤ c2 ∧ a < 0 + c2 ∧ ¬ 0 < a + c1) ∨ (1 ≤ c1 ∧ 1 ≤ c2 ∧ a < 0 + c2 ∧ 0 < a + c1) := by omega
  obtain ⟨m, o1⟩ : ∃ m, overB a c1 0 c2 = m := ⟨_, rfl⟩
  have o2 : overB 0 c2 a c1 = m := by rw [← o1]; unfold overB; simp only [decide_eq_decide]; omega
  have hm : (m = true ∧ 1 ≤ c1 ∧ 1 ≤ c2 ∧ a < 0 + c2 ∧ 0 < a + c1) ∨ (m = false ∧ (c1 ≤ 0 ∨ (1 ≤ c1 ∧ c2 ≤ 0) ∨ (1 ≤ c1 ∧ 1 ≤ c2 ∧ ¬ a < 0 + c2) ∨ (1 ≤ c1 ∧ 1 ≤ c2 ∧ a < 0 + c2 ∧ ¬ 0 < a + c1))) := by
    rw [← o1]; unfold overB; simp only [decide_eq_true_eq, decide_eq_false_iff_not]; omega
  clear h5
  rcases hm with ⟨rfl, m1, m2, m3, m4⟩ | ⟨rfl, m1 | ⟨m1, m2⟩ | ⟨m1, m2, m3⟩ | ⟨m1, m2, m3, m4⟩⟩
  all_goals try (exfalso; omega)
  all_goals
    go_enter Try.func4, Try.ntmps4
    go_wp2_with (first
      | (go_at_call 8; refine (head_any _).mono ?_; rintro e w1 ⟨rfl, hbl⟩; obtain ⟨hcc, hff⟩ := bcell hbl; have hz : w.heap.size < w1.heap.size := by have := hbl.size; simp at this; omega)
      | (go_at_call 16; refine (add_any _ _ _ _ (by omega) (by omega) (by omega) (by omega) (by omega) (by omega)).mono ?_; rintro e w' ⟨rfl, rfl⟩)
      | (go_at_call 17; refine (div_no _ _).mono ?_; rintro e w' ⟨rfl, rfl⟩)
      | (go_at_call 18; refine (less_any _ _ _).mono ?_; rintro e w' ⟨rfl, rfl⟩)
      | (go_at_call 19; refine (overlap_any _ _ _ _ _ (by omega) (by omega) (by omega) (by omega) (by omega) (by omega) (by omega) (by omega)).mono ?_; rintro e w' ⟨rfl, rfl⟩))
    have hr1 : Rd ((w1.alloc (.cells #[.int .u32 a, .int .u32 0, .int .u32 c0, .int .u32 c1] 22)).alloc (.cells #[.int .u32 a, .int .u32 0, .int .u32 c0, .int .u32 c2] 22)) (.slice (some ⟨w1.heap.size, 0, none⟩) 4 4) (vw [ofI a, ofI 0, ofI c0, ofI c1]) := by
      simp only [vw, List.map_cons, List.map_nil, ofI_val a a1 a2, ofI_val 0 b1 b2, ofI_val c0 x1 x2, ofI_val c1 y1 y2]
      exact (Rd.new w1 [.int .u32 a, .int .u32 0, .int .u32 c0, .int .u32 c1] _ _ (by simp [maxLen])).alloc _
    have hr2 : Rd ((w1.alloc (.cells #[.int .u32 a, .int .u32 0, .int .u32 c0, .int .u32 c1] 22)).alloc (.cells #[.int .u32 a, .int .u32 0, .int .u32 c0, .int .u32 c2] 22)) (.slice (some ⟨w1.heap.size + 1, 0, none⟩) 4 4) (vw [ofI a, ofI 0, ofI c0, ofI c2]) := by
      simp only [vw, List.map_cons, List.map_nil, ofI_val a a1 a2, ofI_val 0 b1 b2, ofI_val c0 x1 x2, ofI_val c2 z1 z2]
      have := Rd.new (w1.alloc (.cells #[.int .u32 a, .int .u32 0, .int .u32 c0, .int .u32 c1] 22)) [.int .u32 a, .int .u32 0, .int .u32 c0, .int .u32 c2] 22 (0, 0) (by simp [maxLen])
      simpa using this
    have hr3 : ∀ (W : World) (g : Nat), g = W.heap.size → Rd ((W.alloc (.cells #[.int .u32 a] 22)).alloc (.cells #[.int .u32 0] 22)) (.slice (some ⟨g, 0, none⟩) 1 1) (vw [ofI a]) := by
      rintro W g rfl
      simp only [vw, List.map_cons, List.map_nil, ofI_val a a1 a2]
      exact (Rd.new W [.int .u32 a] _ _ (by simp [maxLen])).alloc _
    have hr4 : ∀ (W : World) (g : Nat), g = W.heap.size + 1 → Rd ((W.alloc (.cells #[.int .u32 a] 22)).alloc (.cells #[.int .u32 0] 22)) (.slice (some ⟨g, 0, none⟩) 1 1) (vw [ofI 0]) := by
      rintro W g rfl
      simp only [vw, List.map_cons, List.map_nil, ofI_val 0 b1 b2]
      have := Rd.new (W.alloc (.cells #[.int .u32 a] 22)) [.int .u32 0] 22 (0, 0) (by simp [maxLen])
      simpa using this
    have l1 := alike4 a 0 c0 c1 c2 y1 y2 z1 z2
    have l2 : looksI [ofI a, ofI 0, ofI c0, ofI c1] [ofI a, ofI 0, ofI c0, ofI c2] = 4 := by simp [looksI]
    have l3 : alikeB [ofI a, ofI 0, ofI c0, ofI c1] [ofI a, ofI 0, ofI c0] = false := by simp [alikeB]
    have l4 : looksI [ofI a, ofI 0, ofI c0, ofI c1] [ofI a, ofI 0, ofI c0] = 0 := by simp [looksI]
    have l5 := alike1 a 0 a1 a2 b1 b2
    have l6 : looksI [ofI a] [ofI 0] = 1 := by simp [looksI]
    have hr1 := Lib.hid hr1; have hr2 := Lib.hid hr2; have hr3 := Lib.hid hr3; have hr4 := Lib.hid hr4
    refine (same_any _ _ [ofI a, ofI 0, ofI c0, ofI c1] [ofI a, ofI 0, ofI c0, ofI c2] _ hr1.out hr2.out).mono ?_
    rintro e w2 ⟨rfl, n2, rfl⟩
    go_wp2_with fail
    refine (same_any _ _ [ofI a, ofI 0, ofI c0, ofI c1] [ofI a, ofI 0, ofI c0] _ (hr1.out.drewN _) ((hr2.out.take 3 (by decide)).drewN _)).mono ?_
    rintro e w2 ⟨rfl, n3, rfl⟩
    go_wp2_with fail
    refine (same_any _ _ [ofI a] [ofI 0] _ (hr3.out _ _ (by simp)) (hr4.out _ _ (by simp))).mono ?_
    rintro e w4 ⟨rfl, n4, hw4⟩
    have hB : Below w1.heap.size w1 w4 := by
      rw [hw4]
      exact below_drewN (((below_drewN (((Below.refl _ _).alloc (Nat.le_refl _) _).alloc (by simp) _) _).alloc (by simp; omega) _).alloc (by simp; omega) _) _
    clear hw4
    have d1 : w4.cell? ⟨w.heap.size, 1, none⟩ = some (.int .u32 c1) := (hB.cell (p := ⟨w.heap.size, 1, none⟩) hz).trans ((hcc _ _ (by simp)).trans (by simp [go_sem]))
    have d2 : w4.cell? ⟨w.heap.size, 2, none⟩ = some (.int .u32 c2) := (hB.cell (p := ⟨w.heap.size, 2, none⟩) hz).trans ((hcc _ _ (by simp)).trans (by simp [go_sem]))
    have hB' : Below w.heap.size w w4 := (((Below.refl _ _).alloc (Nat.le_refl _) _).trans (hbl.mono (by simp))).trans (hB.mono (by omega))
    clear hcc hff hB
    go_wp2_with fail
    go_ret
    exact ⟨rfl, hB'⟩
end Go.Proofs.Ytedhinekkmoheaa
