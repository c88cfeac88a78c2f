/- The contract of text's Name. (Printed by wip/genTNam.py.) The quoted form of bytes: plain laws. -/
import Derived.Test.YtiknookfnameiaaGreatDoorJn07
import Derived.Test.YtiknookfnameiaaGreatDoorJn08
namespace Go.Proofs.YtiknookfnameiaaGreatDoor
open Go.RowKit WP
/-- may the byte stand in a name at this place? -/
def nmOk (i : Nat) (c : Int) : Bool := (decide (97 ≤ c) && decide (c ≤ 122)) || (decide (i ≠ 0) && ((decide (48 ≤ c) && decide (c ≤ 57)) || decide (c = 95)))
/-- the bytes of a name, from a place on -/
def nameA : List UInt8 → Nat → Bool
  | [], _ => true
  | c :: l, i => nmOk i (c.toNat : Int) && nameA l (i + 1)
def nameF (s : ByteArray) : Bool := decide (1 ≤ s.size) && decide (s.size ≤ 24) && nameA s.data.toList 0
theorem nameA_drop (l : List UInt8) (k j : Nat) (h : k < l.length) : nameA (l.drop k) j = (nmOk j (bAt l k) && nameA (l.drop (k + 1)) (j + 1)) := by
  rw [List.drop_eq_getElem_cons h]
  have e : bAt l k = ((l[k].toNat : Nat) : Int) := by unfold bAt; rw [List.getD_eq_getElem?_getD, List.getElem?_eq_getElem h]; rfl
  rw [e]; rfl
theorem name_any (s : ByteArray) (w : World) :
    Calls Tryz.prog 63 #[.string s] w fun e w' => e = .returned (.int .i64 (if nameF s = true then 0 else 42)) ∧ w' = w := by
  have hl : s.data.toList.length = s.size := by rw [Array.length_toList]; rfl
  obtain ⟨R, hR⟩ : ∃ R, (if nameF s = true then (0 : Int) else 42) = R := ⟨_, rfl⟩
  rw [hR]
  by_cases h1 : 1 ≤ s.size
  · have d1 : decide (s.size < 1) = false := decide_eq_false (by omega)
    by_cases h2 : s.size ≤ 24
    · have hF : nameF s = nameA s.data.toList 0 := by unfold nameF; rw [decide_eq_true h1, decide_eq_true h2]; rfl
      rw [hF] at hR
      have d2 : decide (24 < s.size) = false := decide_eq_false (by omega)
      replace hR := Lib.hid hR; replace hl := Lib.hid hl
      clear hF
      have hs : s.size ≤ 9223372036854775807 := by omega
      go_enter Tryz.func63, Tryz.ntmps63
      go_wp2
      clear d1 d2
      go_loop [16] (fun i => ∃ k : Nat, k ≤ s.size ∧ i = .int .i64 k ∧ (if nameA (s.data.toList.drop k) k = true then (0 : Int) else 42) = R) (fun i => s.size - (intOf i).toNat)
      case atStart => exact ⟨0, by omega, rfl, hR.out⟩
      case round =>
        obtain ⟨k, hk, rfl, hq⟩ := hrel
        clear hR
        by_cases hlt : k < s.size
        · have eb : (s[k].toNat : Int) = bAt s.data.toList k := by
            unfold bAt; rw [List.getD_eq_getElem?_getD, List.getElem?_eq_getElem (by rw [hl.out]; exact hlt)]; rfl
          rw [nameA_drop _ _ _ (by rw [hl.out]; exact hlt)] at hq
          obtain ⟨c, hc⟩ : ∃ c, bAt s.data.toList k = c := ⟨_, rfl⟩
          rw [hc] at eb hq
          clear hc
          by_cases a1 : 97 ≤ c
          · have d1 : decide (c ≥ 97) = true := decide_eq_true (by omega)
            by_cases a2 : c ≤ 122
            · have d2 : decide (c ≤ 122) = true := decide_eq_true (by omega)
              have hn : nmOk k c = true := by unfold nmOk; simp; omega
              rw [hn, Bool.true_and] at hq
              replace hq := Lib.hid hq; clear hn
              go_wp2
              go_round
              case rel => exact ⟨k + 1, by omega, by go_num, hq.out⟩
              case measure => simp [intOf]; omega
            · have d2 : decide (c ≤ 122) = false := decide_eq_false (by omega)
              by_cases hk0 : k = 0
              · have z2 : True := trivial
                have z1 : ((k : Int) == 0) = true := by simp [hk0]
                have hn : nmOk k c = false := by unfold nmOk; simp; omega
                rw [hn, Bool.false_and] at hq
                replace hq : (42 : Int) = R := hq
                replace hq := Lib.hid hq; replace hk0 := Lib.hid hk0; clear hn z2
                go_wp2
                go_ret
                exact ⟨by rw [← hq.out]; rfl, rfl⟩
              · have z1 : ((k : Int) == 0) = false := by simp [hk0]
                by_cases b1 : 48 ≤ c
                · have e1 : decide (c < 48) = false := decide_eq_false (by omega)
                  by_cases b2 : c ≤ 57
                  · have e2 : decide (c > 57) = false := decide_eq_false (by omega)
                    have hn : nmOk k c = true := by unfold nmOk; simp; omega
                    rw [hn, Bool.true_and] at hq
                    replace hq := Lib.hid hq; clear hn
                    go_wp2
                    go_round
                    case rel => exact ⟨k + 1, by omega, by go_num, hq.out⟩
                    case measure => simp [intOf]; omega
                  · have e2 : decide (c > 57) = true := decide_eq_true (by omega)
                    by_cases b3 : c = 95
                    · have e3 : (c != 95) = false := by simp [b3]
                      have hn : nmOk k c = true := by unfold nmOk; simp; omega
                      rw [hn, Bool.true_and] at hq
                      replace hq := Lib.hid hq; replace b3 := Lib.hid b3; clear hn
                      go_wp2
                      go_round
                      case rel => exact ⟨k + 1, by omega, by go_num, hq.out⟩
                      case measure => simp [intOf]; omega
                    · have e3 : (c != 95) = true := by simp [b3]
                      have hn : nmOk k c = false := by unfold nmOk; simp; omega
                      rw [hn, Bool.false_and] at hq
                      replace hq : (42 : Int) = R := hq
                      replace hq := Lib.hid hq; clear hn
                      go_wp2
                      go_ret
                      exact ⟨by rw [← hq.out]; rfl, rfl⟩
                · have e1 : decide (c < 48) = true := decide_eq_true (by omega)
                  have e3 : (c != 95) = true := by simp; omega
                  have hn : nmOk k c = false := by unfold nmOk; simp; omega
                  rw [hn, Bool.false_and] at hq
                  replace hq : (42 : Int) = R := hq
                  replace hq := Lib.hid hq; clear hn
                  go_wp2
                  go_ret
                  exact ⟨by rw [← hq.out]; rfl, rfl⟩
          · have d1 : decide (c ≥ 97) = false := decide_eq_false (by omega)
            by_cases hk0 : k = 0
            · have z2 : True := trivial
              have z1 : ((k : Int) == 0) = true := by simp [hk0]
              have hn : nmOk k c = false := by unfold nmOk; simp; omega
              rw [hn, Bool.false_and] at hq
              replace hq : (42 : Int) = R := hq
              replace hq := Lib.hid hq; replace hk0 := Lib.hid hk0; clear hn z2
              go_wp2
              go_ret
              exact ⟨by rw [← hq.out]; rfl, rfl⟩
            · have z1 : ((k : Int) == 0) = false := by simp [hk0]
              by_cases b1 : 48 ≤ c
              · have e1 : decide (c < 48) = false := decide_eq_false (by omega)
                by_cases b2 : c ≤ 57
                · have e2 : decide (c > 57) = false := decide_eq_false (by omega)
                  have hn : nmOk k c = true := by unfold nmOk; simp; omega
                  rw [hn, Bool.true_and] at hq
                  replace hq := Lib.hid hq; clear hn
                  go_wp2
                  go_round
                  case rel => exact ⟨k + 1, by omega, by go_num, hq.out⟩
                  case measure => simp [intOf]; omega
                · have e2 : decide (c > 57) = true := decide_eq_true (by omega)
                  by_cases b3 : c = 95
                  · have e3 : (c != 95) = false := by simp [b3]
                    have hn : nmOk k c = true := by unfold nmOk; simp; omega
                    rw [hn, Bool.true_and] at hq
                    replace hq := Lib.hid hq; replace b3 := Lib.hid b3; clear hn
                    go_wp2
                    go_round
                    case rel => exact ⟨k + 1, by omega, by go_num, hq.out⟩
                    case measure => simp [intOf]; omega
                  · have e3 : (c != 95) = true := by simp [b3]
                    have hn : nmOk k c = false := by unfold nmOk; simp; omega
                    rw [hn, Bool.false_and] at hq
                    replace hq : (42 : Int) = R := hq
                    replace hq := Lib.hid hq; clear hn
                    go_wp2
                    go_ret
                    exact ⟨by rw [← hq.out]; rfl, rfl⟩
              · have e1 : decide (c < 48) = true := decide_eq_true (by omega)
                have e3 : (c != 95) = true := by simp; omega
                have hn : nmOk k c = false := by unfold nmOk; simp; omega
                rw [hn, Bool.false_and] at hq
                replace hq : (42 : Int) = R := hq
                replace hq := Lib.hid hq; clear hn
                go_wp2
                go_ret
                exact ⟨by rw [← hq.out]; rfl, rfl⟩
        · obtain rfl : k = s.size := by omega
          rw [List.drop_of_length_le (by rw [hl.out]; exact Nat.le_refl _)] at hq
          replace hq : (0 : Int) = R := hq
          replace hq := Lib.hid hq
          go_wp2
          go_ret
          exact ⟨by rw [← hq.out]; rfl, rfl⟩
    · have hF : nameF s = false := by unfold nameF; simp; omega
      rw [hF] at hR
      replace hR : (42 : Int) = R := hR
      replace hR := Lib.hid hR
      have d2 : decide (24 < s.size) = true := decide_eq_true (by omega)
      clear hF
      go_enter Tryz.func63, Tryz.ntmps63
      go_wp2
      go_ret
      exact ⟨by rw [← hR.out]; rfl, rfl⟩
  · have hF : nameF s = false := by unfold nameF; simp; omega
    rw [hF] at hR
    replace hR : (42 : Int) = R := hR
    replace hR := Lib.hid hR
    have d1 : decide (s.size < 1) = true := decide_eq_true (by omega)
    clear hF
    go_enter Tryz.func63, Tryz.ntmps63
    go_wp2
    go_ret
    exact ⟨by rw [← hR.out]; rfl, rfl⟩
end Go.Proofs.YtiknookfnameiaaGreatDoor

namespace Go.Proofs.YtiknookfnameiaaGreatDoor
open Go.RowKit WP
def dgB (d : Nat) : UInt8 := if d < 10 then UInt8.ofNat (48 + d) else UInt8.ofNat (87 + d)
/-- a byte in a quoted form -/
def qb (c : UInt8) : List UInt8 := if plainI (c.toNat : Int) = true then [c] else [92, 120, dgB (c.toNat / 16), dgB (c.toNat % 16)]
def quoteL (b : List UInt8) : List UInt8 := 34 :: (b.flatMap qb ++ [34])
theorem length_qb (c : UInt8) : (qb c).length ≤ 4 := by unfold qb; split <;> simp
theorem length_qbs : ∀ b : List UInt8, (b.flatMap qb).length ≤ 4 * b.length
  | [] => by simp
  | c :: b => by
    have := length_qbs b
    have := length_qb c
    simp only [List.flatMap_cons, List.length_append, List.length_cons]; omega
def qpre (b : List UInt8) (k : Nat) : List UInt8 := 34 :: (b.take k).flatMap qb
theorem qpre_len (b : List UInt8) (k : Nat) : (qpre b k).length ≤ 4 * k + 1 := by
  have := length_qbs (b.take k)
  have h2 : (b.take k).length ≤ k := by rw [List.length_take]; omega
  simp only [qpre, List.length_cons]; omega
theorem qpre_succ (b : List UInt8) (k : Nat) (h : k < b.length) : qpre b (k + 1) = qpre b k ++ qb (b.getD k 0) := by
  unfold qpre
  rw [List.take_succ_eq_append_getElem h, List.flatMap_append]
  simp [h]
theorem qpre_all (b : List UInt8) : qpre b b.length ++ [34] = quoteL b := by
  unfold qpre quoteL
  rw [List.take_length]; rfl
end Go.Proofs.YtiknookfnameiaaGreatDoor
