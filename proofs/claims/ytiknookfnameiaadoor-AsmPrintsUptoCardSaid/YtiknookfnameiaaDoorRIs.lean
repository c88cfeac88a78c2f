/- The contracts of the reference's instructions: Shape, Name, CondName, has, within. -/
import Derived.Test.YtiknookfnameiaaDoorIsaA
import Derived.Test.YtiknookfnameiaaDoorAsP
import Derived.BigQuiet
import Derived.Deep.QuietTactic
namespace Go.Proofs
namespace YtiknookfnameiaaDoor
open Go.RowKit WP
/-- the reference's tables -/
structure RTabs (w : World) : Prop where
  names : StrAt w 2 1 0 nameT
  shapes : StrAt w 3 1 0 shapeT
  conds : StrAt w 4 1 0 condT
theorem RTabs.later {w w' : World} (h : RTabs w) (hb : Below w.heap.size w w') : RTabs w' :=
  ⟨h.names.later h.names.1 hb, h.shapes.later h.shapes.1 hb, h.conds.later h.conds.1 hb⟩
set_option maxRecDepth 100000 in
theorem rshape_any (op : Int) (w : World) (hT : RTabs w) :
    Calls Tryd.prog 29 #[.int .i64 op] w fun e w' => e = .returned (.string (strS (shapeI op))) ∧ w' = w := by
  by_cases h1 : 1 ≤ op
  · by_cases h2 : op < 25
    · obtain ⟨n, rfl⟩ := Int.eq_ofNat_of_zero_le (show 0 ≤ op by omega)
      have hc := hT.shapes.2 n (by show n < 25; omega)
      rw [Nat.add_zero, Nat.mul_one] at hc
      have e : (⟨(shapeT.getD n []).toArray⟩ : ByteArray) = strS (shapeI n) := rfl
      rw [e] at hc
      have d1 : decide ((n : Int) < 1) = false := decide_eq_false (by omega)
      have d2 : decide ((n : Int) ≥ 25) = false := decide_eq_false (by omega)
      generalize strS (shapeI n) = S at *
      clear hT e
      go_enter Tryd.func29, Tryd.ntmps29
      go_wp2
      go_ret; exact ⟨rfl, rfl⟩
    · rw [(off_range op (fun h => h2 h.2)).1]
      have d1 : decide (op < 1) = false := decide_eq_false (by omega)
      have d2 : decide (op ≥ 25) = true := decide_eq_true (by omega)
      go_enter Tryd.func29, Tryd.ntmps29
      go_wp2
      go_ret; exact ⟨rfl, rfl⟩
  · rw [(off_range op (fun h => h1 h.1)).1]
    have d1 : decide (op < 1) = true := decide_eq_true (by omega)
    go_enter Tryd.func29, Tryd.ntmps29
    go_wp2
    go_ret; exact ⟨rfl, rfl⟩
set_option maxRecDepth 100000 in
theorem rname_of (op : Int) (w : World) (hT : RTabs w) :
    Calls Tryd.prog 28 #[.int .i64 op] w fun e w' => e = .returned (.string (strS (nameI op))) ∧ w' = w := by
  by_cases h1 : 1 ≤ op
  · by_cases h2 : op < 25
    · obtain ⟨n, rfl⟩ := Int.eq_ofNat_of_zero_le (show 0 ≤ op by omega)
      have hc := hT.names.2 n (by show n < 25; omega)
      rw [Nat.add_zero, Nat.mul_one] at hc
      have e : (⟨(nameT.getD n []).toArray⟩ : ByteArray) = strS (nameI n) := rfl
      rw [e] at hc
      have d1 : decide ((n : Int) < 1) = false := decide_eq_false (by omega)
      have d2 : decide ((n : Int) ≥ 25) = false := decide_eq_false (by omega)
      generalize strS (nameI n) = S at *
      clear hT e
      go_enter Tryd.func28, Tryd.ntmps28
      go_wp2
      go_ret; exact ⟨rfl, rfl⟩
    · rw [(off_range op (fun h => h2 h.2)).2]
      have d1 : decide (op < 1) = false := decide_eq_false (by omega)
      have d2 : decide (op ≥ 25) = true := decide_eq_true (by omega)
      go_enter Tryd.func28, Tryd.ntmps28
      go_wp2
      go_ret; exact ⟨rfl, rfl⟩
  · rw [(off_range op (fun h => h1 h.1)).2]
    have d1 : decide (op < 1) = true := decide_eq_true (by omega)
    go_enter Tryd.func28, Tryd.ntmps28
    go_wp2
    go_ret; exact ⟨rfl, rfl⟩
set_option maxRecDepth 100000 in
/-- of a condition that there is -/
theorem rcond_of (n : Nat) (w : World) (hn : n < 7) (hT : RTabs w) :
    Calls Tryd.prog 30 #[.int .i64 n] w fun e w' => e = .returned (.string (strS (condI n))) ∧ w' = w := by
  have hc := hT.conds.2 n (by show n < 7; omega)
  rw [Nat.add_zero, Nat.mul_one] at hc
  have e : (⟨(condT.getD n []).toArray⟩ : ByteArray) = strS (condI n) := by unfold condI strS; rw [if_pos (by omega)]; rfl
  rw [e] at hc
  have d1 : decide ((n : Int) < 0) = false := decide_eq_false (by omega)
  have d2 : decide ((n : Int) ≥ 7) = false := decide_eq_false (by omega)
  generalize strS (condI n) = S at *
  clear hT e
  go_enter Tryd.func30, Tryd.ntmps30
  go_wp2
  go_ret; exact ⟨rfl, rfl⟩
theorem any_take (L : List UInt8) (c : UInt8) (k : Nat) (hk : k < L.length) : ((L.take (k + 1)).any (· == c)) = ((L.take k).any (· == c) || L[k] == c) := by
  rw [List.take_succ_eq_append_getElem hk, List.any_append]; simp
set_option maxRecDepth 100000 in
theorem has_any (L : List UInt8) (c : UInt8) (w : World) (hl : L.length ≤ 3) :
    Calls Tryd.prog 39 #[.string (strS L), .int .u8 c.toNat] w fun e w' => e = .returned (.bool (hasL L c)) ∧ w' = w := by
  have hSz : (strS L).size = L.length := by simp [strS, ByteArray.size]
  obtain ⟨R, hR⟩ : ∃ R, hasL L c = R := ⟨_, rfl⟩
  rw [hR]
  have hR := Lib.hid hR
  go_enter Tryd.func39, Tryd.ntmps39
  go_wp2
  go_loop [5] (fun i => ∃ k : Nat, k ≤ L.length ∧ i = .int .i64 k ∧ (L.take k).any (· == c) = false) (fun i => L.length - (intOf i).toNat)
  case atStart => exact ⟨0, by omega, rfl, rfl⟩
  case round =>
    obtain ⟨k, hk, rfl, hn⟩ := hrel
    by_cases hlt : k < L.length
    · have ha := any_take L c k hlt
      rw [hn] at ha
      have hg : (strS L)[k]'(by rw [hSz]; exact hlt) = L[k] := rfl
      by_cases he : L[k] = c
      · have hy : R = true := by
          rw [← hR.out]; unfold hasL
          rw [List.any_eq_true]; exact ⟨L[k], List.getElem_mem hlt, by simp [he]⟩
        subst hy
        have d1 : (((L[k].toNat : Nat) : Int) == ((c.toNat : Nat) : Int)) = true := by rw [he]; simp
        have d2 : decide ((k : Int) < (L.length : Int)) = true := decide_eq_true (by omega)
        have hk2 : k < (strS L).size := by rw [hSz]; exact hlt
        rw [← hg] at d1
        clear ha he hn
        replace hSz := Lib.hid hSz; replace hg := Lib.hid hg
        have hlt2 := Lib.hid hlt
        go_wp2
        go_ret
        exact ⟨rfl, rfl⟩
      · have hno : (L.take (k + 1)).any (· == c) = false := by rw [ha]; simp [he]
        have d1 : (((L[k].toNat : Nat) : Int) == ((c.toNat : Nat) : Int)) = false := by
          rw [beq_eq_false_iff_ne]; intro h; exact he (UInt8.toNat.inj (by omega))
        have hk2 : k < (strS L).size := by rw [hSz]; exact hlt
        rw [← hg] at d1
        clear ha he hn
        replace hno := Lib.hid hno
        replace hSz := Lib.hid hSz; replace hg := Lib.hid hg
        go_wp2
        go_round
        case rel => exact ⟨k + 1, by omega, by go_num, hno.out⟩
        case measure => simp [intOf]; omega
    · have hy : R = false := by
        rw [← hR.out]; unfold hasL
        rw [List.take_of_length_le (by omega)] at hn; exact hn
      subst hy
      have hk2 : ¬ k < (strS L).size := by rw [hSz]; exact hlt
      clear hn
      replace hSz := Lib.hid hSz
      go_wp2_with fail
      go_ret
      exact ⟨rfl, rfl⟩
theorem within_any (u : Bool) (v lo hi : Int) (w : World) :
    Calls Tryd.prog 55 #[.bool u, .int .i64 v, .int .i64 lo, .int .i64 hi] w fun e w' => e = .returned (.bool (withinI u v lo hi)) ∧ w' = w := by
  cases u with
  | false =>
    have e : withinI false v lo hi = (v == 0) := by unfold withinI; rw [if_neg (by simp)]; by_cases h : v = 0 <;> simp [h]
    rw [e]
    generalize hb : (v == 0) = b
    go_enter Tryd.func55, Tryd.ntmps55
    go_wp2
    go_ret; exact ⟨rfl, rfl⟩
  | true =>
    by_cases h1 : lo ≤ v
    · have e : withinI true v lo hi = decide (v ≤ hi) := by unfold withinI; rw [if_pos rfl]; simp [h1]
      have d1 : decide (v ≥ lo) = true := decide_eq_true h1
      rw [e]
      generalize hb : decide (v ≤ hi) = b
      go_enter Tryd.func55, Tryd.ntmps55
      go_wp2
      go_ret; exact ⟨rfl, rfl⟩
    · have e : withinI true v lo hi = false := by unfold withinI; rw [if_pos rfl]; simp [h1]
      have d1 : decide (v ≥ lo) = false := decide_eq_false h1
      rw [e]
      go_enter Tryd.func55, Tryd.ntmps55
      go_wp2
      go_ret; exact ⟨rfl, rfl⟩
end YtiknookfnameiaaDoor
end Go.Proofs
