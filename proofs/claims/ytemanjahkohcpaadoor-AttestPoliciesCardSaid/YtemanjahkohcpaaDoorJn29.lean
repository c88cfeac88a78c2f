/- Plain laws: a quote's text, cut at its ends and blanks. Contracts of text's plain and blank. The contract of text's Name. (Printed by wip/genTNam.py.) -/
import Derived.Test.YtemanjahkohcpaaDoorBEightJn
import Derived.Test.YtemanjahkohcpaaDoorProg
import Derived.Test.YtemanjahkohcpaaDoorBase
import Derived.Test.YtemanjahkohcpaaDoorWordP
import Derived.Deep.DeepCutAuto
import Derived.Deep.CutBlock
import Derived.Deep.RegionHeld3
import Derived.StillTailTactics
import Derived.BigQuiet
namespace Go.Proofs.YtemanjahkohcpaaDoor
open Go.RowKit WP
set_option maxRecDepth 100000
theorem split_lines (ls : List ByteArray) (h : ∀ s ∈ ls, (10 : UInt8) ∉ strL s) : Lib.splitK [10] 0 ls.length (linesL ls) = ls.map strL ++ [[]] := by
  induction ls with
  | nil => rfl
  | cons s ls ih =>
    have e : linesL (s :: ls) = strL s ++ 10 :: linesL ls := by simp [linesL]
    rw [e, List.length_cons, splitK_at 10 _ _ _ (h s (by simp)), ih (fun t ht => h t (by simp [ht]))]
    rfl
theorem count_lines (ls : List ByteArray) (h : ∀ s ∈ ls, (10 : UInt8) ∉ strL s) : (linesL ls).count 10 = ls.length := by
  induction ls with
  | nil => rfl
  | cons s ls ih =>
    have e : linesL (s :: ls) = strL s ++ 10 :: linesL ls := by simp [linesL]
    rw [e, List.count_append, List.count_cons_self, ih (fun t ht => h t (by simp [ht])), List.count_eq_zero_of_not_mem (h s (by simp)), List.length_cons]
    omega
theorem cut_at (a r : List UInt8) (h : (32 : UInt8) ∉ a) : (Lib.cut (a ++ 32 :: r) [32]).2.1 = r := by
  have hi := index_at 32 r a h
  unfold Lib.cut
  rw [hi, if_pos (by omega)]
  simp only [Int.toNat_natCast, List.length_singleton]
  rw [show a.length + 1 = (a ++ [32]).length by simp, show a ++ 32 :: r = (a ++ [32]) ++ r by simp, List.drop_left]
theorem hexB_ne (d : Nat) (h : d < 16) : hexB d ≠ 10 := by
  have : d = 0 ∨ d = 1 ∨ d = 2 ∨ d = 3 ∨ d = 4 ∨ d = 5 ∨ d = 6 ∨ d = 7 ∨ d = 8 ∨ d = 9 ∨ d = 10 ∨ d = 11 ∨ d = 12 ∨ d = 13 ∨ d = 14 ∨ d = 15 := by omega
  rcases this with rfl | rfl | rfl | rfl | rfl | rfl | rfl | rfl | rfl | rfl | rfl | rfl | rfl | rfl | rfl | rfl <;> decide
theorem hexAll_ne (l : List UInt32) : (10 : UInt8) ∉ hexAllL l := by
  intro h
  unfold hexAllL at h
  obtain ⟨x, _, hx⟩ := List.mem_flatMap.1 h
  unfold hexL at hx
  obtain ⟨i, _, hi⟩ := List.mem_map.1 hx
  exact hexB_ne _ (hexD_lt _ _) hi
theorem strL_append (a b : ByteArray) : strL (a ++ b) = strL a ++ strL b := by unfold strL; simp
theorem fmtT_ne (me da tg : List UInt32) : ∀ s ∈ fmtT (hexT me) (hexT da) (hexT tg), (10 : UInt8) ∉ strL s := by
  intro s hs
  simp only [fmtT, List.mem_cons, List.not_mem_nil, or_false] at hs
  rcases hs with rfl | rfl | rfl | rfl
  · decide
  · rw [strL_append, List.mem_append, not_or]; exact ⟨by decide, hexAll_ne me⟩
  · rw [strL_append, List.mem_append, not_or]; exact ⟨by decide, hexAll_ne da⟩
  · rw [strL_append, List.mem_append, not_or]; exact ⟨by decide, hexAll_ne tg⟩
/-- the digits of line j, as Parse finds them -/
def digitsOf (P : List ByteArray) (j : Nat) : List UInt8 := (Lib.cut ((P.map strL).getD j []) [32]).2.1
/-- what a quote's text gives -/
theorem quote_lines (s : ByteArray) (me da tg : List UInt32) (h : fmtL me da tg = strL s) :
    (linesOf s).length = 5 ∧ digitsOf (linesOf s) 1 = hexAllL me ∧ digitsOf (linesOf s) 2 = hexAllL da ∧ digitsOf (linesOf s) 3 = hexAllL tg := by
  have hne := fmtT_ne me da tg
  have hc : Lib.countB s ⟨#[10]⟩ = 4 := by
    show Lib.count (strL s) [10] = 4
    rw [Lib.count_one, ← h]
    exact count_lines _ hne
  have hm : (linesOf s).map strL = (fmtT (hexT me) (hexT da) (hexT tg)).map strL ++ [[]] := by
    have := Lib.splitB_data ⟨#[10]⟩ 0 (Lib.countB s ⟨#[10]⟩) s
    have e : (linesOf s).map strL = Lib.splitK [10] 0 (Lib.countB s ⟨#[10]⟩) (strL s) := this
    rw [e, hc, ← h]
    exact split_lines _ hne
  refine ⟨by rw [linesOf_len, hc], ?_, ?_, ?_⟩
  · unfold digitsOf; rw [hm]
    show (Lib.cut (strL _) [32]).2.1 = _
    rw [strL_append]
    exact cut_at [109, 101, 97, 115, 117, 114, 101, 109, 101, 110, 116] (hexAllL me) (by decide)
  · unfold digitsOf; rw [hm]
    show (Lib.cut (strL _) [32]).2.1 = _
    rw [strL_append]
    exact cut_at [100, 97, 116, 97] (hexAllL da) (by decide)
  · unfold digitsOf; rw [hm]
    show (Lib.cut (strL _) [32]).2.1 = _
    rw [strL_append]
    exact cut_at [116, 97, 103] (hexAllL tg) (by decide)
theorem hexAll_inj (a b : List UInt32) (h : hexAllL a = hexAllL b) : a = b := by
  have h1 := parseAll_hex a
  have h2 := parseAll_hex b
  rw [h] at h1
  exact h1.symm.trans h2
/-- no quote has this text -/
def NoQuote (s : ByteArray) : Prop := ∀ me da tg : List UInt32, me.length = 8 → da.length = 8 → tg.length = 8 → fmtL me da tg ≠ strL s
theorem noQuote_len (s : ByteArray) (h : (linesOf s).length ≠ 5) : NoQuote s := fun me da tg _ _ _ e => h (quote_lines s me da tg e).1
end Go.Proofs.YtemanjahkohcpaaDoor

namespace Go.Proofs.YtemanjahkohcpaaDoor
open Go.RowKit WP
/-- may the byte stand in a quoted form as it is? -/
def plainI (x : Int) : Bool := decide (32 ≤ x ∧ x ≤ 126 ∧ x ≠ 34 ∧ x ≠ 92)
def blankI (x : Int) : Bool := decide (x = 32 ∨ x = 9)
theorem plain_any (x : Int) (w : World) : Calls Tryd.prog 89 #[.int .u8 x] w fun e w' => e = .returned (.bool (plainI x)) ∧ w' = w := by
  by_cases h1 : 32 ≤ x
  · have d1 : decide (x ≥ 32) = true := decide_eq_true h1
    by_cases h2 : x ≤ 126
    · have d2 : decide (x ≤ 126) = true := decide_eq_true h2
      by_cases h3 : x = 34
      · subst h3
        have hp : plainI 34 = false := rfl
        rw [hp]
        go_enter Tryd.func89, Tryd.ntmps89
        go_wp2_with fail
        go_ret
        exact ⟨rfl, rfl⟩
      · have d3 : (x != 34) = true := by simp [h3]
        by_cases h4 : x = 92
        · subst h4
          have hp : plainI 92 = false := rfl
          rw [hp]
          go_enter Tryd.func89, Tryd.ntmps89
          go_wp2_with fail
          go_ret
          exact ⟨rfl, rfl⟩
        · have d4 : (x != 92) = true := by simp [h4]
          have hp : plainI x = true := decide_eq_true ⟨h1, h2, h3, h4⟩
          rw [hp]
          clear hp h1 h2 h3 h4
          go_enter Tryd.func89, Tryd.ntmps89
          go_wp2_with fail
          go_ret
          exact ⟨rfl, rfl⟩
    · have d2 : decide (x ≤ 126) = false := decide_eq_false h2
      have hp : plainI x = false := decide_eq_false (fun h => h2 h.2.1)
      rw [hp]
      clear hp h1 h2
      go_enter Tryd.func89, Tryd.ntmps89
      go_wp2_with fail
      go_ret
      exact ⟨rfl, rfl⟩
  · have d1 : decide (x ≥ 32) = false := decide_eq_false h1
    have hp : plainI x = false := decide_eq_false (fun h => h1 h.1)
    rw [hp]
    clear hp h1
    go_enter Tryd.func89, Tryd.ntmps89
    go_wp2_with fail
    go_ret
    exact ⟨rfl, rfl⟩
theorem blank_any (x : Int) (w : World) : Calls Tryd.prog 69 #[.int .u8 x] w fun e w' => e = .returned (.bool (blankI x)) ∧ w' = w := by
  by_cases h1 : x = 32
  · subst h1
    go_enter Tryd.func69, Tryd.ntmps69
    go_wp2_with fail
    go_ret
    exact ⟨rfl, rfl⟩
  · have d1 : (x == 32) = false := by simp [h1]
    by_cases h2 : x = 9
    · subst h2
      go_enter Tryd.func69, Tryd.ntmps69
      go_wp2_with fail
      go_ret
      exact ⟨rfl, rfl⟩
    · have d2 : (x == 9) = false := by simp [h2]
      have hp : blankI x = false := decide_eq_false (fun h => h.elim h1 h2)
      rw [hp]
      clear hp h1 h2
      go_enter Tryd.func69, Tryd.ntmps69
      go_wp2_with fail
      go_ret
      exact ⟨rfl, rfl⟩
end Go.Proofs.YtemanjahkohcpaaDoor

namespace Go.Proofs.YtemanjahkohcpaaDoor
open Go.RowKit WP
/-- may the byte stand in a name at this place? -/
def nmOk (i : Nat) (c : Int) : Bool := (decide (97 ≤ c) && decide (c ≤ 122)) || (decide (i ≠ 0) && ((decide (48 ≤ c) && decide (c ≤ 57)) || decide (c = 95)))
/-- the bytes of a name, from a place on -/
def nameA : List UInt8 → Nat → Bool
  | [], _ => true
  | c :: l, i => nmOk i (c.toNat : Int) && nameA l (i + 1)
def nameF (s : ByteArray) : Bool := decide (1 ≤ s.size) && decide (s.size ≤ 24) && nameA s.data.toList 0
theorem nameA_drop (l : List UInt8) (k j : Nat) (h : k < l.length) : nameA (l.drop k) j = (nmOk j (bAt l k) && nameA (l.drop (k + 1)) (j + 1)) := by
  rw [List.drop_eq_getElem_cons h]
  have e : bAt l k = ((l[k].toNat : Nat) : Int) := by unfold bAt; rw [List.getD_eq_getElem?_getD, List.getElem?_eq_getElem h]; rfl
  rw [e]; rfl
theorem name_any (s : ByteArray) (w : World) :
    Calls Tryd.prog 45 #[.string s] w fun e w' => e = .returned (.int .i64 (if nameF s = true then 0 else 42)) ∧ w' = w := by
  have hl : s.data.toList.length = s.size := by rw [Array.length_toList]; rfl
  obtain ⟨R, hR⟩ : ∃ R, (if nameF s = true then (0 : Int) else 42) = R := ⟨_, rfl⟩
  rw [hR]
  by_cases h1 : 1 ≤ s.size
  · have d1 : decide (s.size < 1) = false := decide_eq_false (by omega)
    by_cases h2 : s.size ≤ 24
    · have hF : nameF s = nameA s.data.toList 0 := by unfold nameF; rw [decide_eq_true h1, decide_eq_true h2]; rfl
      rw [hF] at hR
      have d2 : decide (24 < s.size) = false := decide_eq_false (by omega)
      replace hR := Lib.hid hR; replace hl := Lib.hid hl
      clear hF
      have hs : s.size ≤ 9223372036854775807 := by omega
      go_enter Tryd.func45, Tryd.ntmps45
      go_wp2
      clear d1 d2
      go_loop [16] (fun i => ∃ k : Nat, k ≤ s.size ∧ i = .int .i64 k ∧ (if nameA (s.data.toList.drop k) k = true then (0 : Int) else 42) = R) (fun i => s.size - (intOf i).toNat)
      case atStart => exact ⟨0, by omega, rfl, hR.out⟩
      case round =>
        obtain ⟨k, hk, rfl, hq⟩ := hrel
        clear hR
        by_cases hlt : k < s.size
        · have eb : (s[k].toNat : Int) = bAt s.data.toList k := by
            unfold bAt; rw [List.getD_eq_getElem?_getD, List.getElem?_eq_getElem (by rw [hl.out]; exact hlt)]; rfl
          rw [nameA_drop _ _ _ (by rw [hl.out]; exact hlt)] at hq
          obtain ⟨c, hc⟩ : ∃ c, bAt s.data.toList k = c := ⟨_, rfl⟩
          rw [hc] at eb hq
          clear hc
          by_cases a1 : 97 ≤ c
          · have d1 : decide (c ≥ 97) = true := decide_eq_true (by omega)
            by_cases a2 : c ≤ 122
            · have d2 : decide (c ≤ 122) = true := decide_eq_true (by omega)
              have hn : nmOk k c = true := by unfold nmOk; simp; omega
              rw [hn, Bool.true_and] at hq
              replace hq := Lib.hid hq; clear hn
              go_wp2
              go_round
              case rel => exact ⟨k + 1, by omega, by go_num, hq.out⟩
              case measure => simp [intOf]; omega
            · have d2 : decide (c ≤ 122) = false := decide_eq_false (by omega)
              by_cases hk0 : k = 0
              · have z2 : True := trivial
                have z1 : ((k : Int) == 0) = true := by simp [hk0]
                have hn : nmOk k c = false := by unfold nmOk; simp; omega
                rw [hn, Bool.false_and] at hq
                replace hq : (42 : Int) = R := hq
                replace hq := Lib.hid hq; replace hk0 := Lib.hid hk0; clear hn z2
                go_wp2
                go_ret
                exact ⟨by rw [← hq.out]; rfl, rfl⟩
              · have z1 : ((k : Int) == 0) = false := by simp [hk0]
                by_cases b1 : 48 ≤ c
                · have e1 : decide (c < 48) = false := decide_eq_false (by omega)
                  by_cases b2 : c ≤ 57
                  · have e2 : decide (c > 57) = false := decide_eq_false (by omega)
                    have hn : nmOk k c = true := by unfold nmOk; simp; omega
                    rw [hn, Bool.true_and] at hq
                    replace hq := Lib.hid hq; clear hn
                    go_wp2
                    go_round
                    case rel => exact ⟨k + 1, by omega, by go_num, hq.out⟩
                    case measure => simp [intOf]; omega
                  · have e2 : decide (c > 57) = true := decide_eq_true (by omega)
                    by_cases b3 : c = 95
                    · have e3 : (c != 95) = false := by simp [b3]
                      have hn : nmOk k c = true := by unfold nmOk; simp; omega
                      rw [hn, Bool.true_and] at hq
                      replace hq := Lib.hid hq; replace b3 := Lib.hid b3; clear hn
                      go_wp2
                      go_round
                      case rel => exact ⟨k + 1, by omega, by go_num, hq.out⟩
                      case measure => simp [intOf]; omega
                    · have e3 : (c != 95) = true := by simp [b3]
                      have hn : nmOk k c = false := by unfold nmOk; simp; omega
                      rw [hn, Bool.false_and] at hq
                      replace hq : (42 : Int) = R := hq
                      replace hq := Lib.hid hq; clear hn
                      go_wp2
                      go_ret
                      exact ⟨by rw [← hq.out]; rfl, rfl⟩
                · have e1 : decide (c < 48) = true := decide_eq_true (by omega)
                  have e3 : (c != 95) = true := by simp; omega
                  have hn : nmOk k c = false := by unfold nmOk; simp; omega
                  rw [hn, Bool.false_and] at hq
                  replace hq : (42 : Int) = R := hq
                  replace hq := Lib.hid hq; clear hn
                  go_wp2
                  go_ret
                  exact ⟨by rw [← hq.out]; rfl, rfl⟩
          · have d1 : decide (c ≥ 97) = false := decide_eq_false (by omega)
            by_cases hk0 : k = 0
            · have z2 : True := trivial
              have z1 : ((k : Int) == 0) = true := by simp [hk0]
              have hn : nmOk k c = false := by unfold nmOk; simp; omega
              rw [hn, Bool.false_and] at hq
              replace hq : (42 : Int) = R := hq
              replace hq := Lib.hid hq; replace hk0 := Lib.hid hk0; clear hn z2
              go_wp2
              go_ret
              exact ⟨by rw [← hq.out]; rfl, rfl⟩
            · have z1 : ((k : Int) == 0) = false := by simp [hk0]
              by_cases b1 : 48 ≤ c
              · have e1 : decide (c < 48) = false := decide_eq_false (by omega)
                by_cases b2 : c ≤ 57
                · have e2 : decide (c > 57) = false := decide_eq_false (by omega)
                  have hn : nmOk k c = true := by unfold nmOk; simp; omega
                  rw [hn, Bool.true_and] at hq
                  replace hq := Lib.hid hq; clear hn
                  go_wp2
                  go_round
                  case rel => exact ⟨k + 1, by omega, by go_num, hq.out⟩
                  case measure => simp [intOf]; omega
                · have e2 : decide (c > 57) = true := decide_eq_true (by omega)
                  by_cases b3 : c = 95
                  · have e3 : (c != 95) = false := by simp [b3]
                    have hn : nmOk k c = true := by unfold nmOk; simp; omega
                    rw [hn, Bool.true_and] at hq
                    replace hq := Lib.hid hq; replace b3 := Lib.hid b3; clear hn
                    go_wp2
                    go_round
                    case rel => exact ⟨k + 1, by omega, by go_num, hq.out⟩
                    case measure => simp [intOf]; omega
                  · have e3 : (c != 95) = true := by simp [b3]
                    have hn : nmOk k c = false := by unfold nmOk; simp; omega
                    rw [hn, Bool.false_and] at hq
                    replace hq : (42 : Int) = R := hq
                    replace hq := Lib.hid hq; clear hn
                    go_wp2
                    go_ret
                    exact ⟨by rw [← hq.out]; rfl, rfl⟩
              · have e1 : decide (c < 48) = true := decide_eq_true (by omega)
                have e3 : (c != 95) = true := by simp; omega
                have hn : nmOk k c = false := by unfold nmOk; simp; omega
                rw [hn, Bool.false_and] at hq
                replace hq : (42 : Int) = R := hq
                replace hq := Lib.hid hq; clear hn
                go_wp2
                go_ret
                exact ⟨by rw [← hq.out]; rfl, rfl⟩
        · obtain rfl : k = s.size := by omega
          rw [List.drop_of_length_le (by rw [hl.out]; exact Nat.le_refl _)] at hq
          replace hq : (0 : Int) = R := hq
          replace hq := Lib.hid hq
          go_wp2
          go_ret
          exact ⟨by rw [← hq.out]; rfl, rfl⟩
    · have hF : nameF s = false := by unfold nameF; simp; omega
      rw [hF] at hR
      replace hR : (42 : Int) = R := hR
      replace hR := Lib.hid hR
      have d2 : decide (24 < s.size) = true := decide_eq_true (by omega)
      clear hF
      go_enter Tryd.func45, Tryd.ntmps45
      go_wp2
      go_ret
      exact ⟨by rw [← hR.out]; rfl, rfl⟩
  · have hF : nameF s = false := by unfold nameF; simp; omega
    rw [hF] at hR
    replace hR : (42 : Int) = R := hR
    replace hR := Lib.hid hR
    have d1 : decide (s.size < 1) = true := decide_eq_true (by omega)
    clear hF
    go_enter Tryd.func45, Tryd.ntmps45
    go_wp2
    go_ret
    exact ⟨by rw [← hR.out]; rfl, rfl⟩
end Go.Proofs.YtemanjahkohcpaaDoor
