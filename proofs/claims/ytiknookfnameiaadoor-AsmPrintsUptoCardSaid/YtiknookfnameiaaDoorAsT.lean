/- The contracts of target and line, of the program and of the reference. -/
import Derived.Test.YtiknookfnameiaaDoorRIdD
import Derived.Test.YtiknookfnameiaaDoorAsN
namespace Go.Proofs
open Go.RowKit
namespace YtiknookfnameiaaDoor
open WP
/-- of every word: the program's reading and the document's are one -/
theorem dec_same (x : Int) (h0 : 0 ≤ x) (h1 : x ≤ 4294967295) : rgoodI x = goodI x ∧ rdecI x = decI x := by
  exact ⟨(good_eq x h0 (by omega)).symm, (dec_eq x h0 (by omega)).symm⟩
def tgtV (x : Int) (p : Nat) : Int := if goodI x = true ∧ ((decI x).op = 21 ∨ (decI x).op = 22) then (p : Int) + 1 + (decI x).imm else 0
theorem tgt_yes {x : Int} {p n t : Nat} (h : tgtO x p n = some t) : tgtV x p = t := by
  unfold tgtO at h
  split at h
  · rename_i hc
    simp only [Option.some.injEq] at h
    unfold tgtV
    rw [if_pos ⟨hc.1, hc.2.1⟩]; omega
  · cases h
theorem decI_bd (x : Int) (h0 : 0 ≤ x) (h1 : x ≤ 4294967295) : (0 ≤ (decI x).op ∧ (decI x).op < 64) ∧ (0 ≤ (decI x).a ∧ (decI x).a < 16) ∧ (0 ≤ (decI x).b ∧ (decI x).b < 16) ∧ (0 ≤ (decI x).c ∧ (decI x).c < 16) ∧ (0 ≤ (decI x).k ∧ (decI x).k < 8) ∧ (-32768 ≤ (decI x).imm ∧ (decI x).imm ≤ 65535) := by
  rw [← (dec_same x h0 h1).2]
  unfold rdecI
  split
  · exact rread_bd x h0 h1
  · unfold ins0; simp
set_option maxRecDepth 100000 in
set_option maxHeartbeats 1000000 in
theorem target_any (x : Int) (p n : Nat) (w : World) (hT : Tabs w) (h0 : 0 ≤ x) (h1 : x ≤ 4294967295) (hp : p ≤ 4096) (_hn : n ≤ 4096) :
    Calls Tryd.prog 9 #[.int .u32 x, .int .i64 p, .int .i64 n] w fun e w' => Below w.heap.size w w' ∧ e = .returned (.tuple #[.int .i64 (tgtV x p), .bool (tgtO x p n).isSome]) := by
  have hdc := decode_any x w hT h0 h1
  have bd := (decI_bd x h0 h1).2.2.2.2.2
  obtain ⟨TV, hTV⟩ : ∃ y, tgtV x p = y := ⟨_, rfl⟩
  obtain ⟨TB, hTB⟩ : ∃ y, (tgtO x p n).isSome = y := ⟨_, rfl⟩
  rw [hTV, hTB]
  unfold tgtV at hTV
  unfold tgtO at hTB
  obtain ⟨G, hG⟩ : ∃ G, goodI x = G := ⟨_, rfl⟩
  obtain ⟨D, hD⟩ : ∃ D, decI x = D := ⟨_, rfl⟩
  rw [hG, hD] at hTV hTB hdc
  rw [hD] at bd
  obtain ⟨op, k, a, b, c, imm⟩ := D
  simp only [insC] at hdc hTV hTB bd
  clear hG hD
  rcases G with _ | _
  · rw [if_neg (by simp)] at hTV hTB
    have eb : TB = false := hTB.symm
    subst eb; subst hTV
    clear hTB
    go_enter Tryd.func9, Tryd.ntmps9
    go_wp2_with (go_at_call 17; refine hdc.mono ?_; rintro e w2 ⟨hb, rfl⟩)
    refine bodyPost_ret (v := .tuple #[.int .i64 0, .bool false]) (by simp [results, Tryd.results9, go_sem]) rfl ⟨hb.alloc hb.size _, rfl⟩
  · by_cases h21 : op = 21
    · subst h21
      rw [if_pos (by simp)] at hTV
      have e1 : TB = (decide (0 ≤ (p : Int) + 1 + imm) && decide ((p : Int) + 1 + imm ≤ n)) := by
        rw [← hTB]
        by_cases q1 : 0 ≤ (p : Int) + 1 + imm
        · by_cases q2 : (p : Int) + 1 + imm ≤ n <;> simp [q1, q2]
        · simp [q1]
      clear hTB
      by_cases q1 : 0 ≤ (p : Int) + 1 + imm
      · have d1 : decide ((p : Int) + 1 + imm ≥ 0) = true := decide_eq_true q1
        rw [decide_eq_true q1, Bool.true_and] at e1
        subst e1; subst hTV
        go_enter Tryd.func9, Tryd.ntmps9
        go_wp2_with (go_at_call 17; refine hdc.mono ?_; rintro e w2 ⟨hb, rfl⟩)
        refine bodyPost_ret (v := .tuple #[.int .i64 ((p : Int) + 1 + imm), .bool (decide ((p : Int) + 1 + imm ≤ n))]) (by simp [results, Tryd.results9, go_sem]) rfl ⟨hb.alloc hb.size _, rfl⟩
      · have d1 : decide ((p : Int) + 1 + imm ≥ 0) = false := decide_eq_false q1
        rw [decide_eq_false q1, Bool.false_and] at e1
        subst e1; subst hTV
        go_enter Tryd.func9, Tryd.ntmps9
        go_wp2_with (go_at_call 17; refine hdc.mono ?_; rintro e w2 ⟨hb, rfl⟩)
        refine bodyPost_ret (v := .tuple #[.int .i64 ((p : Int) + 1 + imm), .bool false]) (by simp [results, Tryd.results9, go_sem]) rfl ⟨hb.alloc hb.size _, rfl⟩
    · have n21 : (op != 21) = true := by simp [h21]
      by_cases h22 : op = 22
      · subst h22
        rw [if_pos (by simp)] at hTV
        have e1 : TB = (decide (0 ≤ (p : Int) + 1 + imm) && decide ((p : Int) + 1 + imm ≤ n)) := by
          rw [← hTB]
          by_cases q1 : 0 ≤ (p : Int) + 1 + imm
          · by_cases q2 : (p : Int) + 1 + imm ≤ n <;> simp [q1, q2]
          · simp [q1]
        clear hTB
        by_cases q1 : 0 ≤ (p : Int) + 1 + imm
        · have d1 : decide ((p : Int) + 1 + imm ≥ 0) = true := decide_eq_true q1
          rw [decide_eq_true q1, Bool.true_and] at e1
          subst e1; subst hTV
          go_enter Tryd.func9, Tryd.ntmps9
          go_wp2_with (go_at_call 17; refine hdc.mono ?_; rintro e w2 ⟨hb, rfl⟩)
          refine bodyPost_ret (v := .tuple #[.int .i64 ((p : Int) + 1 + imm), .bool (decide ((p : Int) + 1 + imm ≤ n))]) (by simp [results, Tryd.results9, go_sem]) rfl ⟨hb.alloc hb.size _, rfl⟩
        · have d1 : decide ((p : Int) + 1 + imm ≥ 0) = false := decide_eq_false q1
          rw [decide_eq_false q1, Bool.false_and] at e1
          subst e1; subst hTV
          go_enter Tryd.func9, Tryd.ntmps9
          go_wp2_with (go_at_call 17; refine hdc.mono ?_; rintro e w2 ⟨hb, rfl⟩)
          refine bodyPost_ret (v := .tuple #[.int .i64 ((p : Int) + 1 + imm), .bool false]) (by simp [results, Tryd.results9, go_sem]) rfl ⟨hb.alloc hb.size _, rfl⟩
      · have n22 : (op != 22) = true := by simp [h22]
        rw [if_neg (by simp [h21, h22])] at hTV hTB
        have eb : TB = false := hTB.symm
        subst eb; subst hTV
        clear hTB
        go_enter Tryd.func9, Tryd.ntmps9
        go_wp2_with (go_at_call 17; refine hdc.mono ?_; rintro e w2 ⟨hb, rfl⟩)
        refine bodyPost_ret (v := .tuple #[.int .i64 0, .bool false]) (by simp [results, Tryd.results9, go_sem]) rfl ⟨hb.alloc hb.size _, rfl⟩
/-- the reference's answer: the place, or -1 -/
def rtgt (x : Int) (p n : Nat) : Int := match tgtO x p n with | some t => (t : Int) | none => -1
set_option maxRecDepth 100000 in
set_option maxHeartbeats 1000000 in
theorem rtarget_any (x : Int) (p n : Nat) (w : World) (hT : RTabs w) (h0 : 0 ≤ x) (h1 : x ≤ 4294967295) (hp : p ≤ 4096) (_hn : n ≤ 4096) :
    Calls Tryd.prog 14 #[.int .u32 x, .int .i64 p, .int .i64 n] w fun e w' => Below w.heap.size w w' ∧ e = .returned (.int .i64 (rtgt x p n)) := by
  have hdc := rdec_any x w hT h0 h1
  rw [(dec_same x h0 h1).1, (dec_same x h0 h1).2] at hdc
  have bd := (decI_bd x h0 h1).2.2.2.2.2
  obtain ⟨TV, hTV⟩ : ∃ y, rtgt x p n = y := ⟨_, rfl⟩
  rw [hTV]
  have hO := rfl (a := tgtO x p n)
  unfold rtgt at hTV
  conv at hO => rhs; unfold tgtO
  obtain ⟨G, hG⟩ : ∃ G, goodI x = G := ⟨_, rfl⟩
  obtain ⟨D, hD⟩ : ∃ D, decI x = D := ⟨_, rfl⟩
  rw [hG, hD] at hO hdc
  rw [hD] at bd
  obtain ⟨op, k, a, b, c, imm⟩ := D
  simp only [rinsC] at hdc hO bd
  clear hG hD
  rcases G with _ | _
  · rw [if_neg (by simp)] at hO
    rw [hO] at hTV
    replace hTV : (-1 : Int) = TV := hTV
    subst hTV
    clear hO
    go_enter Tryd.func14, Tryd.ntmps14
    go_wp2_with (go_at_call 25; refine hdc.mono ?_; rintro e w2 ⟨hb, rfl⟩)
    go_ret
    exact ⟨hb.alloc hb.size _, rfl⟩
  · by_cases hj : op = 21 ∨ op = 22
    · have hb21 : op = 21 ∨ (op ≠ 21 ∧ op = 22) := by omega
      by_cases q1 : 0 ≤ (p : Int) + 1 + imm
      · by_cases q2 : (p : Int) + 1 + imm ≤ n
        · rw [if_pos ⟨rfl, hj, q1, q2⟩] at hO
          rw [hO] at hTV
          replace hTV : ((((p : Int) + 1 + imm).toNat : Nat) : Int) = TV := hTV
          have hv : TV = (p : Int) + 1 + imm := by omega
          clear hTV hO
          subst hv
          have d1 : decide ((p : Int) + 1 + imm < 0) = false := decide_eq_false (by omega)
          have d2 : decide ((p : Int) + 1 + imm > n) = false := decide_eq_false (by omega)
          clear hj
          rcases hb21 with h | ⟨h, h'⟩
          · subst h
            go_enter Tryd.func14, Tryd.ntmps14
            go_wp2_with (go_at_call 25; refine hdc.mono ?_; rintro e w2 ⟨hb, rfl⟩)
            go_ret
            exact ⟨hb.alloc hb.size _, rfl⟩
          · subst h'
            go_enter Tryd.func14, Tryd.ntmps14
            go_wp2_with (go_at_call 25; refine hdc.mono ?_; rintro e w2 ⟨hb, rfl⟩)
            go_ret
            exact ⟨hb.alloc hb.size _, rfl⟩
        · rw [if_neg (fun h => q2 h.2.2.2)] at hO
          rw [hO] at hTV
          replace hTV : (-1 : Int) = TV := hTV
          subst hTV
          have d1 : decide ((p : Int) + 1 + imm < 0) = false := decide_eq_false (by omega)
          have d2 : decide ((p : Int) + 1 + imm > n) = true := decide_eq_true (by omega)
          clear hj hO
          rcases hb21 with h | ⟨h, h'⟩
          · subst h
            go_enter Tryd.func14, Tryd.ntmps14
            go_wp2_with (go_at_call 25; refine hdc.mono ?_; rintro e w2 ⟨hb, rfl⟩)
            go_ret
            exact ⟨hb.alloc hb.size _, rfl⟩
          · subst h'
            go_enter Tryd.func14, Tryd.ntmps14
            go_wp2_with (go_at_call 25; refine hdc.mono ?_; rintro e w2 ⟨hb, rfl⟩)
            go_ret
            exact ⟨hb.alloc hb.size _, rfl⟩
      · rw [if_neg (fun h => q1 h.2.2.1)] at hO
        rw [hO] at hTV
        replace hTV : (-1 : Int) = TV := hTV
        subst hTV
        have d1 : decide ((p : Int) + 1 + imm < 0) = true := decide_eq_true (by omega)
        clear hj hO
        rcases hb21 with h | ⟨h, h'⟩
        · subst h
          go_enter Tryd.func14, Tryd.ntmps14
          go_wp2_with (go_at_call 25; refine hdc.mono ?_; rintro e w2 ⟨hb, rfl⟩)
          go_ret
          exact ⟨hb.alloc hb.size _, rfl⟩
        · subst h'
          go_enter Tryd.func14, Tryd.ntmps14
          go_wp2_with (go_at_call 25; refine hdc.mono ?_; rintro e w2 ⟨hb, rfl⟩)
          go_ret
          exact ⟨hb.alloc hb.size _, rfl⟩
    · rw [if_neg (fun h => hj h.2.1)] at hO
      rw [hO] at hTV
      replace hTV : (-1 : Int) = TV := hTV
      subst hTV
      have h21 : ¬ op = 21 := fun h => hj (.inl h)
      have h22 : ¬ op = 22 := fun h => hj (.inr h)
      have n21 : (op != 21) = true := by simp [h21]
      have n22 : (op != 22) = true := by simp [h22]
      clear hj hO
      go_enter Tryd.func14, Tryd.ntmps14
      go_wp2_with (go_at_call 25; refine hdc.mono ?_; rintro e w2 ⟨hb, rfl⟩)
      go_ret
      exact ⟨hb.alloc hb.size _, rfl⟩
end YtiknookfnameiaaDoor
end Go.Proofs
