/- How long a printed text is, and how it ends. No program in sight. The contracts of the reference's instructions: Shape, Name, CondName, has, within. -/
import Derived.Test.YtiknookfnameiaaGreatDoorVBkJn
import Derived.Test.YtiknookfnameiaaGreatDoorJn02
import Derived.Test.YtiknookfnameiaaGreatDoorJn38
import Derived.BigQuiet
import Derived.Deep.QuietTactic
namespace Go.Proofs.YtiknookfnameiaaGreatDoor
open WP
theorem dec_two (m : Nat) (h : m ≤ 14) : (Lib.decDigits m).length ≤ 2 := by
  rw [Lib.decDigits_length]
  by_cases h1 : m < 10
  · rw [Lib.nDigits_small h1]; omega
  · rw [Lib.nDigits_big h1, Lib.nDigits_small (by omega)]; omega
theorem dec_five (m : Nat) (h : m ≤ 65535) : (Lib.decDigits m).length ≤ 5 := by
  rw [Lib.decDigits_length]
  by_cases h1 : m < 10
  · rw [Lib.nDigits_small h1]; omega
  by_cases h2 : m / 10 < 10
  · rw [Lib.nDigits_big h1, Lib.nDigits_small h2]; omega
  by_cases h3 : m / 10 / 10 < 10
  · rw [Lib.nDigits_big h1, Lib.nDigits_big h2, Lib.nDigits_small h3]; omega
  by_cases h4 : m / 10 / 10 / 10 < 10
  · rw [Lib.nDigits_big h1, Lib.nDigits_big h2, Lib.nDigits_big h3, Lib.nDigits_small h4]; omega
  · rw [Lib.nDigits_big h1, Lib.nDigits_big h2, Lib.nDigits_big h3, Lib.nDigits_big h4, Lib.nDigits_small (by omega)]; omega
theorem itoa_six (n : Int) (h0 : -32768 ≤ n) (h1 : n ≤ 65535) : (Lib.itoa n).length ≤ 6 := by
  unfold Lib.itoa
  split
  · have := dec_five n.natAbs (by omega); simp; omega
  · have := dec_five n.toNat (by omega); omega
theorem lit_short (i : Ins) (lab : List UInt8) (c : UInt8) (hl : lab.length ≤ 5) (hc : c = 97 ∨ c = 98 ∨ c = 99 ∨ c = 107 ∨ c = 117 ∨ c = 115 ∨ c = 111) (hb : inB i c) : (litI i lab c).length ≤ if c = 97 ∨ c = 98 ∨ c = 99 then 4 else 7 := by
  unfold inB okFld fld at hb
  have hreg : ∀ a : Int, 0 ≤ a ∧ a ≤ 14 → (Lib.decDigits a.toNat).length ≤ 2 := fun a h => dec_two _ (by omega)
  rcases hc with rfl | rfl | rfl | rfl | rfl | rfl | rfl
  · have hb' : 0 ≤ i.a ∧ i.a ≤ 14 := by simpa using hb
    have := hreg _ hb'
    simp [litI]; omega
  · have hb' : 0 ≤ i.b ∧ i.b ≤ 14 := by simpa using hb
    have := hreg _ hb'
    simp [litI]; omega
  · have hb' : 0 ≤ i.c ∧ i.c ≤ 14 := by simpa using hb
    have := hreg _ hb'
    simp [litI]; omega
  · have hb' : 0 ≤ i.k ∧ i.k ≤ 6 := by simpa using hb
    obtain ⟨n, hn⟩ := Int.eq_ofNat_of_zero_le hb'.1
    have : ∀ m : Fin 7, (condI (m.val : Nat)).length ≤ 6 := by decide
    have := this ⟨n, by omega⟩
    simp [litI, hn]; simpa using this
  · have hb' : 0 ≤ i.imm ∧ i.imm ≤ 65535 := by simpa using hb
    have := itoa_six i.imm (by omega) (by omega)
    simp [litI]; omega
  · have hb' : -32768 ≤ i.imm ∧ i.imm ≤ 32767 := by simpa using hb
    have := itoa_six i.imm (by omega) (by omega)
    simp [litI]; omega
  · have hb' : -32768 ≤ i.imm ∧ i.imm ≤ 32767 := by simpa using hb
    have := itoa_six i.imm (by omega) (by omega)
    by_cases hL : lab = []
    · simp [litI, hL]; omega
    · simp [litI, hL]; omega
theorem line_short (w : Int) (lab : List UInt8) (_h0 : 0 ≤ w) (_h1 : w < 4294967296) (hl : lab.length ≤ 5) : (lineL w lab).length ≤ 19 := by
  unfold lineL
  by_cases hg : goodI w = true
  · rw [if_pos hg]
    obtain ⟨hd, hc, hw, hop⟩ := good_dec hg
    have hf := good_fld hg
    rw [hd]
    have hnm : (nameI (readI w).op).length ≤ 4 := by
      obtain ⟨n, hn⟩ := Int.eq_ofNat_of_zero_le (show 0 ≤ (readI w).op by omega)
      rw [hn]
      have : ∀ m : Fin 25, (nameI (m.val : Nat)).length ≤ 4 := by decide +kernel
      exact this ⟨n, by omega⟩
    unfold insL
    have hs := fun c hc => lit_short (readI w) lab c hl (shape_let (readI w).op c hc (by omega) (by omega)) (hf c hc)
    rcases shape_cases (readI w).op (by omega) (by omega) with ⟨e, hn⟩ | ⟨_, e | e | e | e | e | e | e | e | e⟩
    · exact absurd hop hn
    all_goals
      rw [e] at hs ⊢
      simp only [List.foldl_cons, List.foldl_nil, List.length_append]
      simp only [List.mem_cons, List.not_mem_nil, or_false, forall_eq_or_imp, forall_eq] at hs
      simp at hs
      omega
  · rw [if_neg hg]
    simp [hx8P_len]
theorem labW_len (l : List UInt32) (i : Nat) (hi : i < l.length) (hn : l.length ≤ 2048) : (labW l i).length ≤ 5 := by
  unfold labW
  cases ht : tgtO (wAt l i) i l.length with
  | none => simp [labL]
  | some t => exact (nm_ok _ t (isTo_yes hi ht) (by have := tgtO_le ht; omega)).2.2.2
theorem piece_short (l : List UInt32) (i : Nat) (hi : i ≤ l.length) (hn : l.length ≤ 2048) : (pieceL l i).length ≤ 27 := by
  unfold pieceL
  rw [List.length_append]
  have h2 : (if (namedL l l.length).getD i false = true then nmAt (namedL l l.length) i ++ [58, 10] else []).length ≤ 7 := by
    split
    · rename_i h
      have := (nm_ok _ i h (by omega)).2.2.2
      simp; omega
    · simp
  have h3 : (if i < l.length then lineL (wAt l i) (labL (namedL l l.length) (tgtO (wAt l i) i l.length)) ++ [10] else []).length ≤ 20 := by
    split
    · rename_i h
      have hb := wAt_bd l i
      have := line_short (wAt l i) (labW l i) hb.1 (by omega) (labW_len l i h hn)
      unfold labW at this
      simp; omega
    · simp
  omega
theorem print_short (l : List UInt32) (hn : l.length ≤ 2048) : ∀ k, k ≤ l.length + 1 → (printL l k).length ≤ 27 * k
  | 0, _ => by simp [printL]
  | k + 1, hk => by
    rw [printL_succ, List.length_append]
    have := print_short l hn k (by omega)
    have := piece_short l k (by omega) hn
    omega
theorem print_bd (l : List UInt32) (hn : l.length ≤ 2048) : (printL l (l.length + 1)).length ≤ 65536 := by
  have := print_short l hn (l.length + 1) (Nat.le_refl _); omega
theorem flat_end : ∀ Ls : List (List UInt8), Ls ≠ [] → (Ls.flatMap (· ++ [10])).getLast? = some 10
  | [], h => absurd rfl h
  | [x], _ => by simp
  | x :: y :: Ls, _ => by
    rw [List.flatMap_cons, List.getLast?_append, flat_end (y :: Ls) (by simp)]; rfl
theorem print_end (l : List UInt32) (k : Nat) (h : printL l k ≠ []) : (printL l k).getLast? = some 10 := by
  have e : printL l k = ((List.range k).flatMap (pieceLs l)).flatMap (· ++ [10]) := by
    unfold printL
    rw [List.flatMap_assoc]
    congr 1
    funext i
    exact piece_lines l i
  rw [e] at h ⊢
  exact flat_end _ (fun e2 => h (by rw [e2]; rfl))
end Go.Proofs.YtiknookfnameiaaGreatDoor

namespace Go.Proofs
namespace YtiknookfnameiaaGreatDoor
open Go.RowKit WP
/-- the reference's tables -/
structure RTabs (w : World) : Prop where
  names : StrAt w 3 1 0 nameT
  shapes : StrAt w 4 1 0 shapeT
  conds : StrAt w 7 1 0 condT
theorem RTabs.later {w w' : World} (h : RTabs w) (hb : Below w.heap.size w w') : RTabs w' :=
  ⟨h.names.later h.names.1 hb, h.shapes.later h.shapes.1 hb, h.conds.later h.conds.1 hb⟩
set_option maxRecDepth 100000 in
theorem rshape_any (op : Int) (w : World) (hT : RTabs w) :
    Calls Tryz.prog 99 #[.int .i64 op] w fun e w' => e = .returned (.string (strS (shapeI op))) ∧ w' = w := by
  by_cases h1 : 1 ≤ op
  · by_cases h2 : op < 25
    · obtain ⟨n, rfl⟩ := Int.eq_ofNat_of_zero_le (show 0 ≤ op by omega)
      have hc := hT.shapes.2 n (by show n < 25; omega)
      rw [Nat.add_zero, Nat.mul_one] at hc
      have e : (⟨(shapeT.getD n []).toArray⟩ : ByteArray) = strS (shapeI n) := rfl
      rw [e] at hc
      have d1 : decide ((n : Int) < 1) = false := decide_eq_false (by omega)
      have d2 : decide ((n : Int) ≥ 25) = false := decide_eq_false (by omega)
      generalize strS (shapeI n) = S at *
      clear hT e
      go_enter Tryz.func99, Tryz.ntmps99
      go_wp2
      go_ret; exact ⟨rfl, rfl⟩
    · rw [(off_range op (fun h => h2 h.2)).1]
      have d1 : decide (op < 1) = false := decide_eq_false (by omega)
      have d2 : decide (op ≥ 25) = true := decide_eq_true (by omega)
      go_enter Tryz.func99, Tryz.ntmps99
      go_wp2
      go_ret; exact ⟨rfl, rfl⟩
  · rw [(off_range op (fun h => h1 h.1)).1]
    have d1 : decide (op < 1) = true := decide_eq_true (by omega)
    go_enter Tryz.func99, Tryz.ntmps99
    go_wp2
    go_ret; exact ⟨rfl, rfl⟩
theorem any_take (L : List UInt8) (c : UInt8) (k : Nat) (hk : k < L.length) : ((L.take (k + 1)).any (· == c)) = ((L.take k).any (· == c) || L[k] == c) := by
  rw [List.take_succ_eq_append_getElem hk, List.any_append]; simp
set_option maxRecDepth 100000 in
theorem has_any (L : List UInt8) (c : UInt8) (w : World) (hl : L.length ≤ 3) :
    Calls Tryz.prog 101 #[.string (strS L), .int .u8 c.toNat] w fun e w' => e = .returned (.bool (hasL L c)) ∧ w' = w := by
  have hSz : (strS L).size = L.length := by simp [strS, ByteArray.size]
  obtain ⟨R, hR⟩ : ∃ R, hasL L c = R := ⟨_, rfl⟩
  rw [hR]
  have hR := Lib.hid hR
  go_enter Tryz.func101, Tryz.ntmps101
  go_wp2
  go_loop [5] (fun i => ∃ k : Nat, k ≤ L.length ∧ i = .int .i64 k ∧ (L.take k).any (· == c) = false) (fun i => L.length - (intOf i).toNat)
  case atStart => exact ⟨0, by omega, rfl, rfl⟩
  case round =>
    obtain ⟨k, hk, rfl, hn⟩ := hrel
    by_cases hlt : k < L.length
    · have ha := any_take L c k hlt
      rw [hn] at ha
      have hg : (strS L)[k]'(by rw [hSz]; exact hlt) = L[k] := rfl
      by_cases he : L[k] = c
      · have hy : R = true := by
          rw [← hR.out]; unfold hasL
          rw [List.any_eq_true]; exact ⟨L[k], List.getElem_mem hlt, by simp [he]⟩
        subst hy
        have d1 : (((L[k].toNat : Nat) : Int) == ((c.toNat : Nat) : Int)) = true := by rw [he]; simp
        have d2 : decide ((k : Int) < (L.length : Int)) = true := decide_eq_true (by omega)
        have hk2 : k < (strS L).size := by rw [hSz]; exact hlt
        rw [← hg] at d1
        clear ha he hn
        replace hSz := Lib.hid hSz; replace hg := Lib.hid hg
        have hlt2 := Lib.hid hlt
        go_wp2
        go_ret
        exact ⟨rfl, rfl⟩
      · have hno : (L.take (k + 1)).any (· == c) = false := by rw [ha]; simp [he]
        have d1 : (((L[k].toNat : Nat) : Int) == ((c.toNat : Nat) : Int)) = false := by
          rw [beq_eq_false_iff_ne]; intro h; exact he (UInt8.toNat.inj (by omega))
        have hk2 : k < (strS L).size := by rw [hSz]; exact hlt
        rw [← hg] at d1
        clear ha he hn
        replace hno := Lib.hid hno
        replace hSz := Lib.hid hSz; replace hg := Lib.hid hg
        go_wp2
        go_round
        case rel => exact ⟨k + 1, by omega, by go_num, hno.out⟩
        case measure => simp [intOf]; omega
    · have hy : R = false := by
        rw [← hR.out]; unfold hasL
        rw [List.take_of_length_le (by omega)] at hn; exact hn
      subst hy
      have hk2 : ¬ k < (strS L).size := by rw [hSz]; exact hlt
      clear hn
      replace hSz := Lib.hid hSz
      go_wp2_with fail
      go_ret
      exact ⟨rfl, rfl⟩
theorem within_any (u : Bool) (v lo hi : Int) (w : World) :
    Calls Tryz.prog 100 #[.bool u, .int .i64 v, .int .i64 lo, .int .i64 hi] w fun e w' => e = .returned (.bool (withinI u v lo hi)) ∧ w' = w := by
  cases u with
  | false =>
    have e : withinI false v lo hi = (v == 0) := by unfold withinI; rw [if_neg (by simp)]; by_cases h : v = 0 <;> simp [h]
    rw [e]
    generalize hb : (v == 0) = b
    go_enter Tryz.func100, Tryz.ntmps100
    go_wp2
    go_ret; exact ⟨rfl, rfl⟩
  | true =>
    by_cases h1 : lo ≤ v
    · have e : withinI true v lo hi = decide (v ≤ hi) := by unfold withinI; rw [if_pos rfl]; simp [h1]
      have d1 : decide (v ≥ lo) = true := decide_eq_true h1
      rw [e]
      generalize hb : decide (v ≤ hi) = b
      go_enter Tryz.func100, Tryz.ntmps100
      go_wp2
      go_ret; exact ⟨rfl, rfl⟩
    · have e : withinI true v lo hi = false := by unfold withinI; rw [if_pos rfl]; simp [h1]
      have d1 : decide (v ≥ lo) = false := decide_eq_false h1
      rw [e]
      go_enter Tryz.func100, Tryz.ntmps100
      go_wp2
      go_ret; exact ⟨rfl, rfl⟩
end YtiknookfnameiaaGreatDoor
end Go.Proofs
