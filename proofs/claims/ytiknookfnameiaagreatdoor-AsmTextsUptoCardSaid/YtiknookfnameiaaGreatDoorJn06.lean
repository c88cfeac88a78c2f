/- The contract of text's Name. (Printed by wip/genTNam.py.) The quoted form of bytes: plain laws. Plain laws: a line put together of blanks, words and quoted forms is read as just these. Numbers as texts, as plain lists: tens, hex, with a sign: there and back, one form each. No program in sight. -/
import Derived.Test.YtiknookfnameiaaGreatDoorJn04
import Derived.Test.YtiknookfnameiaaGreatDoorJn05
import Derived.Lib.ItoaNum
import Derived.Lib.ParseIntB
import Derived.Lib.Strings
import Derived.Lib.SlTrimSet
namespace Go.Proofs.YtiknookfnameiaaGreatDoor
open Go.RowKit WP
/-- may the byte stand in a name at this place? -/
def nmOk (i : Nat) (c : Int) : Bool := (decide (97 ≤ c) && decide (c ≤ 122)) || (decide (i ≠ 0) && ((decide (48 ≤ c) && decide (c ≤ 57)) || decide (c = 95)))
/-- the bytes of a name, from a place on -/
def nameA : List UInt8 → Nat → Bool
 | [], _ => true
 | c :: l, i => nmOk i (c.toNat : Int) && nameA l (i + 1)
def nameF (s : ByteArray) : Bool := decide (1 ≤ s.size) && decide (s.size ≤ 24) && nameA s.data.toList 0
theorem nameA_drop (l : List UInt8) (k j : Nat) (h : k < l.length) : nameA (l.drop k) j = (nmOk j (bAt l k) && nameA (l.drop (k + 1)) (j + 1)) := by
 rw [List.drop_eq_getElem_cons h]
 have e : bAt l k = ((l[k].toNat : Nat) : Int) := by unfold bAt; rw [List.getD_eq_getElem?_getD, List.getElem?_eq_getElem h]; rfl
 rw [e]; rfl
theorem name_any (s : ByteArray) (w : World) :
  Calls Tryz.prog 63 #[.string s] w fun e w' => e = .returned (.int .i64 (if nameF s = true then 0 else 42)) ∧ w' = w := by
 have hl : s.data.toList.length = s.size := by rw [Array.length_toList]; rfl
 obtain ⟨R, hR⟩ : ∃ R, (if nameF s = true then (0 : Int) else 42) = R := ⟨_, rfl⟩
 rw [hR]
 by_cases h1 : 1 ≤ s.size
 ·have d1 : decide (s.size < 1) = false := decide_eq_false (by omega)
  by_cases h2 : s.size ≤ 24
  ·have hF : nameF s = nameA s.data.toList 0 := by unfold nameF; rw [decide_eq_true h1, decide_eq_true h2]; rfl
   rw [hF] at hR
   have d2 : decide (24 < s.size) = false := decide_eq_false (by omega)
   replace hR := Lib.hid hR; replace hl := Lib.hid hl
   clear hF
   have hs : s.size ≤ 9223372036854775807 := by omega
   go_enter Tryz.func63, Tryz.ntmps63
   go_wp2
   clear d1 d2
   go_loop [16] (fun i => ∃ k : Nat, k ≤ s.size ∧ i = .int .i64 k ∧ (if nameA (s.data.toList.drop k) k = true then (0 : Int) else 42) = R) (fun i => s.size - (intOf i).toNat)
   case atStart => exact ⟨0, by omega, rfl, hR.out⟩
   case round =>
    obtain ⟨k, hk, rfl, hq⟩ := hrel
    clear hR
    by_cases hlt : k < s.size
    ·have eb : (s[k].toNat : Int) = bAt s.data.toList k := by
      unfold bAt; rw [List.getD_eq_getElem?_getD, List.getElem?_eq_getElem (by rw [hl.out]; exact hlt)]; rfl
     rw [nameA_drop _ _ _ (by rw [hl.out]; exact hlt)] at hq
     obtain ⟨c, hc⟩ : ∃ c, bAt s.data.toList k = c := ⟨_, rfl⟩
     rw [hc] at eb hq
     clear hc
     by_cases a1 : 97 ≤ c
     ·have d1 : decide (c ≥ 97) = true := decide_eq_true (by omega)
      by_cases a2 : c ≤ 122
      ·have d2 : decide (c ≤ 122) = true := decide_eq_true (by omega)
       have hn : nmOk k c = true := by unfold nmOk; simp; omega
       rw [hn, Bool.true_and] at hq
       replace hq := Lib.hid hq; clear hn
       go_wp2
       go_round
       case rel => exact ⟨k + 1, by omega, by go_num, hq.out⟩
       case measure => simp [intOf]; omega
      ·have d2 : decide (c ≤ 122) = false := decide_eq_false (by omega)
       by_cases hk0 : k = 0
       ·have z2 : True := trivial
        have z1 : ((k : Int) == 0) = true := by simp [hk0]
        have hn : nmOk k c = false := by unfold nmOk; simp; omega
        rw [hn, Bool.false_and] at hq
        replace hq : (42 : Int) = R := hq
        replace hq := Lib.hid hq; replace hk0 := Lib.hid hk0; clear hn z2
        go_wp2
        go_ret
        exact ⟨by rw [← hq.out]; rfl, rfl⟩
       ·have z1 : ((k : Int) == 0) = false := by simp [hk0]
        by_cases b1 : 48 ≤ c
        ·have e1 : decide (c < 48) = false := decide_eq_false (by omega)
         by_cases b2 : c ≤ 57
         ·have e2 : decide (c > 57) = false := decide_eq_false (by omega)
          have hn : nmOk k c = true := by unfold nmOk; simp; omega
          rw [hn, Bool.true_and] at hq
          replace hq := Lib.hid hq; clear hn
          go_wp2
          go_round
          case rel => exact ⟨k + 1, by omega, by go_num, hq.out⟩
          case measure => simp [intOf]; omega
         ·have e2 : decide (c > 57) = true := decide_eq_true (by omega)
          by_cases b3 : c = 95
          ·have e3 : (c != 95) = false := by simp [b3]
           have hn : nmOk k c = true := by unfold nmOk; simp; omega
           rw [hn, Bool.true_and] at hq
           replace hq := Lib.hid hq; replace b3 := Lib.hid b3; clear hn
           go_wp2
           go_round
           case rel => exact ⟨k + 1, by omega, by go_num, hq.out⟩
           case measure => simp [intOf]; omega
          ·have e3 : (c != 95) = true := by simp [b3]
           have hn : nmOk k c = false := by unfold nmOk; simp; omega
           rw [hn, Bool.false_and] at hq
           replace hq : (42 : Int) = R := hq
           replace hq := Lib.hid hq; clear hn
           go_wp2
           go_ret
           exact ⟨by rw [← hq.out]; rfl, rfl⟩
        ·have e1 : decide (c < 48) = true := decide_eq_true (by omega)
         have e3 : (c != 95) = true := by simp; omega
         have hn : nmOk k c = false := by unfold nmOk; simp; omega
         rw [hn, Bool.false_and] at hq
         replace hq : (42 : Int) = R := hq
         replace hq := Lib.hid hq; clear hn
         go_wp2
         go_ret
         exact ⟨by rw [← hq.out]; rfl, rfl⟩
     ·have d1 : decide (c ≥ 97) = false := decide_eq_false (by omega)
      by_cases hk0 : k = 0
      ·have z2 : True := trivial
       have z1 : ((k : Int) == 0) = true := by simp [hk0]
       have hn : nmOk k c = false := by unfold nmOk; simp; omega
       rw [hn, Bool.false_and] at hq
       replace hq : (42 : Int) = R := hq
       replace hq := Lib.hid hq; replace hk0 := Lib.hid hk0; clear hn z2
       go_wp2
       go_ret
       exact ⟨by rw [← hq.out]; rfl, rfl⟩
      ·have z1 : ((k : Int) == 0) = false := by simp [hk0]
       by_cases b1 : 48 ≤ c
       ·have e1 : decide (c < 48) = false := decide_eq_false (by omega)
        by_cases b2 : c ≤ 57
        ·have e2 : decide (c > 57) = false := decide_eq_false (by omega)
         have hn : nmOk k c = true := by unfold nmOk; simp; omega
         rw [hn, Bool.true_and] at hq
         replace hq := Lib.hid hq; clear hn
         go_wp2
         go_round
         case rel => exact ⟨k + 1, by omega, by go_num, hq.out⟩
         case measure => simp [intOf]; omega
        ·have e2 : decide (c > 57) = true := decide_eq_true (by omega)
         by_cases b3 : c = 95
         ·have e3 : (c != 95) = false := by simp [b3]
          have hn : nmOk k c = true := by unfold nmOk; simp; omega
          rw [hn, Bool.true_and] at hq
          replace hq := Lib.hid hq; replace b3 := Lib.hid b3; clear hn
          go_wp2
          go_round
          case rel => exact ⟨k + 1, by omega, by go_num, hq.out⟩
          case measure => simp [intOf]; omega
         ·have e3 : (c != 95) = true := by simp [b3]
          have hn : nmOk k c = false := by unfold nmOk; simp; omega
          rw [hn, Bool.false_and] at hq
          replace hq : (42 : Int) = R := hq
          replace hq := Lib.hid hq; clear hn
          go_wp2
          go_ret
          exact ⟨by rw [← hq.out]; rfl, rfl⟩
       ·have e1 : decide (c < 48) = true := decide_eq_true (by omega)
        have e3 : (c != 95) = true := by simp; omega
        have hn : nmOk k c = false := by unfold nmOk; simp; omega
        rw [hn, Bool.false_and] at hq
        replace hq : (42 : Int) = R := hq
        replace hq := Lib.hid hq; clear hn
        go_wp2
        go_ret
        exact ⟨by rw [← hq.out]; rfl, rfl⟩
    ·obtain rfl : k = s.size := by omega
     rw [List.drop_of_length_le (by rw [hl.out]; exact Nat.le_refl _)] at hq
     replace hq : (0 : Int) = R := hq
     replace hq := Lib.hid hq
     go_wp2
     go_ret
     exact ⟨by rw [← hq.out]; rfl, rfl⟩
  ·have hF : nameF s = false := by unfold nameF; simp; omega
   rw [hF] at hR
   replace hR : (42 : Int) = R := hR
   replace hR := Lib.hid hR
   have d2 : decide (24 < s.size) = true := decide_eq_true (by omega)
   clear hF
   go_enter Tryz.func63, Tryz.ntmps63
   go_wp2
   go_ret
   exact ⟨by rw [← hR.out]; rfl, rfl⟩
 ·have hF : nameF s = false := by unfold nameF; simp; omega
  rw [hF] at hR
  replace hR : (42 : Int) = R := hR
  replace hR := Lib.hid hR
  have d1 : decide (s.size < 1) = true := decide_eq_true (by omega)
  clear hF
  go_enter Tryz.func63, Tryz.ntmps63
  go_wp2
  go_ret
  exact ⟨by rw [← hR.out]; rfl, rfl⟩
end Go.Proofs.YtiknookfnameiaaGreatDoor

namespace Go.Proofs.YtiknookfnameiaaGreatDoor
open Go.RowKit WP
def dgB (d : Nat) : UInt8 := if d < 10 then UInt8.ofNat (48 + d) else UInt8.ofNat (87 + d)
/-- a byte in a quoted form -/
def qb (c : UInt8) : List UInt8 := if plainI (c.toNat : Int) = true then [c] else [92, 120, dgB (c.toNat / 16), dgB (c.toNat % 16)]
def quoteL (b : List UInt8) : List UInt8 := 34 :: (b.flatMap qb ++ [34])
def qpre (b : List UInt8) (k : Nat) : List UInt8 := 34 :: (b.take k).flatMap qb
end Go.Proofs.YtiknookfnameiaaGreatDoor

namespace Go.Proofs.YtiknookfnameiaaGreatDoor
open Go.RowKit WP
theorem drop_one {l : List UInt8} {k : Nat} {c : UInt8} {r : List UInt8} (h : l.drop k = c :: r) : l.drop (k + 1) = r := by
 rw [← List.drop_drop, h]; rfl
theorem bAt_drop (l : List UInt8) (k j : Nat) : bAt (l.drop k) j = bAt l (k + j) := by
 unfold bAt; simp [List.getD]
theorem hv_dg : ∀ d : Fin 16, hv ((dgB d.val).toNat : Int) = (d.val : Int) := by decide
theorem hv_dgB (d : Nat) (h : d < 16) : hv ((dgB d).toNat : Int) = (d : Int) := hv_dg ⟨d, h⟩
theorem extract_at {s : ByteArray} {k : Nat} {b r : List UInt8} (h : s.data.toList.drop k = b ++ r) : s.extract k (k + b.length) = ⟨b.toArray⟩ := by
 apply ByteArray.ext
 apply Array.ext'
 rw [ByteArray.data_extract, Array.toList_extract]
 simp only [List.extract_eq_take_drop, h]
 simp
def allBlank (g : List UInt8) : Prop := ∀ x ∈ g, blankI ((x.toNat : Nat) : Int) = true
/-- may these bytes stand as a word that is not quoted? -/
def plainWd (b : List UInt8) : Bool := decide (b ≠ [] ∧ b.head? ≠ some 34 ∧ b.head? ≠ some 35) && b.all fun x => !blankI ((x.toNat : Nat) : Int)
def formL (q : Bool) (b : List UInt8) : List UInt8 := if q then quoteL b else b
/-- a piece of a line: quoted or not, its bytes, how many blanks ahead, a tab ahead of these or none -/
structure Pc where
 q : Bool
 b : List UInt8
 g : Nat
 t : Bool
def Pc.keep (p : Pc) : Bool := p.q || plainWd p.b
def Pc.gap (p : Pc) : List UInt8 := (if p.t then [9] else []) ++ List.replicate p.g 32
def stepP (st : List UInt8 × List W) (p : Pc) : List UInt8 × List W :=
 if p.keep = true then (st.1 ++ p.gap ++ formL p.q p.b, st.2 ++ [(⟨p.b.toArray⟩, p.q, (st.1 ++ p.gap).length + 1)]) else st
def startsBlank (l : List UInt8) : Prop := ∃ c r, l = c :: r ∧ blankI ((c.toNat : Nat) : Int) = true
end Go.Proofs.YtiknookfnameiaaGreatDoor

namespace Go.Proofs.YtiknookfnameiaaGreatDoor
open WP
def isDg (c : UInt8) : Bool := decide (48 ≤ c.toNat ∧ c.toNat ≤ 57)
/-- digits, the first not 0 unless it is the only one -/
def tensB (l : List UInt8) : Bool := !l.isEmpty && !(decide (1 < l.length) && l.getD 0 0 == 48) && l.all isDg
def valFrom (a : Nat) (l : List UInt8) : Nat := l.foldl (fun a c => a * 10 + (c.toNat - 48)) a
theorem valFrom_ge (l : List UInt8) : ∀ a, a ≤ valFrom a l := by
 induction l with
 | nil => intro a; exact Nat.le_refl _
 | cons c l ih => intro a; have := ih (a * 10 + (c.toNat - 48)); unfold valFrom at *; rw [List.foldl_cons]; omega
theorem parseM_dig (l : List UInt8) (h : l.all isDg = true) : ∀ a, a ≤ 4294967295 → Lib.parseUintM 4294967295 a l = if valFrom a l ≤ 4294967295 then .ok (valFrom a l) else .range := by
 induction l with
 | nil => intro a ha; show Lib.NumEnd.ok a = _; rw [if_pos (show valFrom a [] ≤ _ from ha)]; rfl
 | cons c l ih =>
  intro a ha
  rw [List.all_cons, Bool.and_eq_true] at h
  have hc : 48 ≤ c.toNat ∧ c.toNat ≤ 57 := of_decide_eq_true h.1
  have hv : valFrom a (c :: l) = valFrom (a * 10 + (c.toNat - 48)) l := rfl
  unfold Lib.parseUintM
  rw [if_pos hc, if_neg (by omega)]
  by_cases ho : 4294967295 < a * 10 + (c.toNat - 48)
  ·rw [if_pos ho, hv]
   have := valFrom_ge l (a * 10 + (c.toNat - 48))
   rw [if_neg (by omega)]
  ·rw [if_neg ho, hv, ih h.2 _ (by omega)]
theorem valFrom_app (a : Nat) (l r : List UInt8) : valFrom a (l ++ r) = valFrom (valFrom a l) r := by unfold valFrom; rw [List.foldl_append]
/-- a list of digits with no 0 ahead is its number's text -/
theorem dec_back : ∀ (n : Nat) (l : List UInt8), l.length = n → tensB l = true → Lib.decDigits (valFrom 0 l) = l := by
 intro n
 induction n with
 | zero => intro l hl h; have : l = [] := List.eq_nil_of_length_eq_zero hl; subst this; simp [tensB] at h
 | succ n ih =>
  intro l hl h
  have hne : l ≠ [] := by intro e; rw [e] at hl; simp at hl
  obtain ⟨m, c, rfl⟩ : ∃ m c, l = m ++ [c] := ⟨l.dropLast, l.getLast hne, (List.dropLast_concat_getLast hne).symm⟩
  have hml : m.length = n := by simpa using hl
  unfold tensB at h
  simp only [Bool.and_eq_true, List.all_append, List.all_cons, List.all_nil, Bool.and_true] at h
  obtain ⟨⟨_, h2⟩, h3, h4⟩ := h
  have hc : 48 ≤ c.toNat ∧ c.toNat ≤ 57 := of_decide_eq_true h4
  have hcd : ∀ k : Nat, k = c.toNat → UInt8.ofNat k = c := fun k hk => by rw [hk]; exact UInt8.ofNat_toNat
  rw [valFrom_app]
  show Lib.decDigits (valFrom 0 m * 10 + (c.toNat - 48)) = _
  by_cases hm : m = []
  ·subst hm
   show Lib.decDigits (0 * 10 + (c.toNat - 48)) = [c]
   rw [Lib.decDigits_one (by omega), hcd _ (by omega)]
  ·have hmp := List.length_pos_iff.2 hm
   have hg : m.getD 0 0 ≠ 48 := by
    have e : (m ++ [c]).getD 0 0 = m.getD 0 0 := by
     rw [List.getD_eq_getElem?_getD, List.getD_eq_getElem?_getD, List.getElem?_append_left hmp]
    intro hx
    rw [e, hx, decide_eq_true (show 1 < (m ++ [c]).length by simp; omega)] at h2
    simp at h2
   have htm : tensB m = true := by
    unfold tensB
    rw [h3, Bool.and_true]
    have h5 : m.isEmpty = false := by cases m with | nil => exact absurd rfl hm | cons _ _ => rfl
    have h6 : (m.getD 0 0 == (48 : UInt8)) = false := by simpa using hg
    rw [h5, h6]; simp
   have hv := ih m hml htm
   have hpos : 1 ≤ valFrom 0 m := by
    cases m with
    | nil => exact absurd rfl hm
    | cons d r =>
     have hd : 48 ≤ d.toNat ∧ d.toNat ≤ 57 := by
      rw [List.all_cons, Bool.and_eq_true] at h3
      exact of_decide_eq_true h3.1
     have hd2 : d.toNat ≠ 48 := fun e => hg (by show d = 48; exact UInt8.toNat.inj e)
     have := valFrom_ge r (0 * 10 + (d.toNat - 48))
     show 1 ≤ valFrom (0 * 10 + (d.toNat - 48)) r
     omega
   rw [Lib.decDigits, dif_neg (by omega), show (valFrom 0 m * 10 + (c.toNat - 48)) / 10 = valFrom 0 m by omega, hv, hcd _ (by omega)]
theorem parse_tens (l : List UInt8) (h : tensB l = true) : Lib.parseUintB 32 l = if valFrom 0 l ≤ 4294967295 then .ok (valFrom 0 l) else .range := by
 unfold Lib.parseUintB
 have h2 := h
 unfold tensB at h2
 simp only [Bool.and_eq_true] at h2
 rw [if_neg (by intro e; rw [e] at h2; simp at h2)]
 exact parseM_dig l h2.2 0 (by omega)
/-! hex -/
def dgN (n : Nat) : Option Nat := if 48 ≤ n ∧ n ≤ 57 then some (n - 48) else if 97 ≤ n ∧ n ≤ 102 then some (n - 87) else none
def isHx (c : UInt8) : Bool := (dgN c.toNat).isSome
def hxVal (c : UInt8) : Nat := (dgN c.toNat).getD 0
def hxFrom (a : Nat) (l : List UInt8) : Nat := l.foldl (fun a c => a * 16 + hxVal c) a
def hB8 (d : Nat) : UInt8 := if d < 10 then UInt8.ofNat (48 + d) else UInt8.ofNat (87 + d)
def hx8 (w : Nat) : List UInt8 := (List.range 8).map fun i => hB8 (w / 2 ^ (28 - 4 * i) % 16)
theorem hxVal_lt (c : UInt8) : hxVal c < 16 := by
 unfold hxVal dgN
 split
 ·simp; omega
 ·split
  ·simp; omega
  ·simp
theorem hB8_hxVal (c : UInt8) (h : isHx c = true) : hB8 (hxVal c) = c := by
 unfold isHx at h
 unfold hB8 hxVal
 have hk : ∀ k : Nat, k = c.toNat → UInt8.ofNat k = c := fun k hk => by rw [hk]; exact UInt8.ofNat_toNat
 unfold dgN at *
 split at h
 ·rename_i hc
  rw [if_pos hc]
  simp only [Option.getD_some]
  rw [if_pos (by omega)]; exact hk _ (by omega)
 ·rename_i hc
  split at h
  ·rename_i hc2
   rw [if_neg hc, if_pos hc2]
   simp only [Option.getD_some]
   rw [if_neg (by omega)]; exact hk _ (by omega)
  ·simp at h
theorem hx8_eq (n : Nat) : hx8 n = [hB8 (n / 268435456 % 16), hB8 (n / 16777216 % 16), hB8 (n / 1048576 % 16), hB8 (n / 65536 % 16), hB8 (n / 4096 % 16), hB8 (n / 256 % 16), hB8 (n / 16 % 16), hB8 (n % 16)] := by
 simp [hx8, List.range, List.range.loop]
theorem hx_eight (a b c d e f g i : UInt8) (h : [a, b, c, d, e, f, g, i].all isHx = true) : hx8 (hxFrom 0 [a, b, c, d, e, f, g, i]) = [a, b, c, d, e, f, g, i] := by
 simp only [List.all_cons, List.all_nil, Bool.and_true, Bool.and_eq_true] at h
 obtain ⟨ha, hb, hc, hd, he, hf, hg, hi⟩ := h
 have va := hxVal_lt a; have vb := hxVal_lt b; have vc := hxVal_lt c; have vd := hxVal_lt d; have ve := hxVal_lt e; have vf := hxVal_lt f; have vg := hxVal_lt g; have vi := hxVal_lt i
 have ea := hB8_hxVal a ha; have eb := hB8_hxVal b hb; have ec := hB8_hxVal c hc; have ed := hB8_hxVal d hd; have ee := hB8_hxVal e he; have ef := hB8_hxVal f hf; have eg := hB8_hxVal g hg; have ei := hB8_hxVal i hi
 rw [hx8_eq]
 simp only [hxFrom, List.foldl_cons, List.foldl_nil]
 generalize hxVal a = xa at *; generalize hxVal b = xb at *; generalize hxVal c = xc at *; generalize hxVal d = xd at *
 generalize hxVal e = xe at *; generalize hxVal f = xf at *; generalize hxVal g = xg at *; generalize hxVal i = xi at *
 rw [show (((((((((0 * 16 + xa) * 16 + xb) * 16 + xc) * 16 + xd) * 16 + xe) * 16 + xf) * 16 + xg) * 16 + xi) / 268435456 % 16) = xa by omega,
  show (((((((((0 * 16 + xa) * 16 + xb) * 16 + xc) * 16 + xd) * 16 + xe) * 16 + xf) * 16 + xg) * 16 + xi) / 16777216 % 16) = xb by omega,
  show (((((((((0 * 16 + xa) * 16 + xb) * 16 + xc) * 16 + xd) * 16 + xe) * 16 + xf) * 16 + xg) * 16 + xi) / 1048576 % 16) = xc by omega,
  show (((((((((0 * 16 + xa) * 16 + xb) * 16 + xc) * 16 + xd) * 16 + xe) * 16 + xf) * 16 + xg) * 16 + xi) / 65536 % 16) = xd by omega,
  show (((((((((0 * 16 + xa) * 16 + xb) * 16 + xc) * 16 + xd) * 16 + xe) * 16 + xf) * 16 + xg) * 16 + xi) / 4096 % 16) = xe by omega,
  show (((((((((0 * 16 + xa) * 16 + xb) * 16 + xc) * 16 + xd) * 16 + xe) * 16 + xf) * 16 + xg) * 16 + xi) / 256 % 16) = xf by omega,
  show (((((((((0 * 16 + xa) * 16 + xb) * 16 + xc) * 16 + xd) * 16 + xe) * 16 + xf) * 16 + xg) * 16 + xi) / 16 % 16) = xg by omega,
  show (((((((((0 * 16 + xa) * 16 + xb) * 16 + xc) * 16 + xd) * 16 + xe) * 16 + xf) * 16 + xg) * 16 + xi) % 16) = xi by omega,
  ea, eb, ec, ed, ee, ef, eg, ei]
theorem eight_of {α : Type} {l : List α} (h : l.length = 8) : ∃ a b c d e f g i, l = [a, b, c, d, e, f, g, i] := by
 match l, h with
 | [a, b, c, d, e, f, g, i], _ => exact ⟨a, b, c, d, e, f, g, i, rfl⟩
theorem hxFrom_zeros (k : Nat) (l : List UInt8) : hxFrom 0 (List.replicate k 48 ++ l) = hxFrom 0 l := by
 induction k with
 | zero => rfl
 | succ k ih => rw [List.replicate_succ, List.cons_append]; exact ih
/-- hex digits, at most eight, are the number's eight without zeros ahead -/
theorem hx_back (l : List UInt8) (hl : l.length ≤ 8) (h : l.all isHx = true) : hx8 (hxFrom 0 l) = List.replicate (8 - l.length) 48 ++ l := by
 have hz : (List.replicate (8 - l.length) (48 : UInt8)).all isHx = true := by
  rw [List.all_eq_true]; intro c hc; rw [(List.mem_replicate.1 hc).2]; decide
 obtain ⟨a, b, c, d, e, f, g, i, he⟩ := eight_of (l := List.replicate (8 - l.length) 48 ++ l) (by simp; omega)
 rw [← hxFrom_zeros (8 - l.length) l, he]
 refine hx_eight _ _ _ _ _ _ _ _ ?_
 rw [← he, List.all_append, hz, h]; rfl
theorem hxFrom_lt (l : List UInt8) : ∀ a, hxFrom a l < (a + 1) * 16 ^ l.length := by
 induction l with
 | nil => intro a; simp [hxFrom]
 | cons c l ih =>
  intro a
  have h1 := ih (a * 16 + hxVal c)
  have h2 := hxVal_lt c
  show hxFrom (a * 16 + hxVal c) l < _
  rw [List.length_cons, Nat.pow_succ]
  refine Nat.lt_of_lt_of_le h1 ?_
  rw [Nat.mul_comm (16 ^ l.length) 16, ← Nat.mul_assoc]
  exact Nat.mul_le_mul_right _ (by omega)
/-! the two readings -/
def numF (l : List UInt8) : Option Nat :=
 if l.take 2 = [48, 120] then (if 1 ≤ (l.drop 2).length ∧ (l.drop 2).length ≤ 8 ∧ (l.drop 2).all isHx = true then some (hxFrom 0 (l.drop 2)) else none)
 else if tensB l = true ∧ valFrom 0 l ≤ 4294967295 then some (valFrom 0 l) else none
/-- what is read as a number is its text, or its hex without zeros ahead -/
theorem num_back (l : List UInt8) (u : Nat) (h : numF l = some u) : u < 4294967296 ∧ (Lib.decDigits u = l ∨ (3 ≤ l.length ∧ l.length ≤ 10 ∧ l.take 2 = [48, 120] ∧ [48, 120] ++ hx8 u = [48, 120] ++ List.replicate (10 - l.length) 48 ++ l.drop 2)) := by
 unfold numF at h
 split at h
 ·rename_i h0
  split at h
  ·rename_i h1
   simp only [Option.some.injEq] at h
   subst h
   have hd : (l.drop 2).length = l.length - 2 := by simp
   have hlt := hxFrom_lt (l.drop 2) 0
   have hp : 16 ^ (l.drop 2).length ≤ 16 ^ 8 := Nat.pow_le_pow_right (by decide) h1.2.1
   have hb := hx_back (l.drop 2) h1.2.1 h1.2.2
   refine ⟨?_, .inr ⟨by omega, by omega, h0, ?_⟩⟩
   ·have : (16 : Nat) ^ 8 = 4294967296 := rfl
    omega
   ·rw [hb, show 8 - (l.drop 2).length = 10 - l.length by omega, List.append_assoc]
  ·cases h
 ·split at h
  ·rename_i h1
   simp only [Option.some.injEq] at h
   subst h
   exact ⟨by omega, .inl (dec_back _ l rfl h1.1)⟩
  ·cases h
def sgnF (l : List UInt8) : Option Int :=
 if l.head? = some 45 then (if tensB l.tail = true ∧ l.tail ≠ [48] ∧ valFrom 0 l.tail ≤ 2147483648 then some (-(valFrom 0 l.tail : Int)) else none)
 else if tensB l = true ∧ valFrom 0 l ≤ 2147483647 then some (valFrom 0 l : Int) else none
theorem sgn_back (l : List UInt8) (n : Int) (h : sgnF l = some n) : -2147483648 ≤ n ∧ n ≤ 2147483647 ∧ Lib.itoa n = l := by
 unfold sgnF at h
 split at h
 ·rename_i h0
  split at h
  ·rename_i h1
   simp only [Option.some.injEq] at h
   have hb := dec_back _ l.tail rfl h1.1
   have hpos : valFrom 0 l.tail ≠ 0 := by
    intro e
    rw [e] at hb
    exact h1.2.1 (by rw [← hb, Lib.decDigits_one (by decide)]; rfl)
   refine ⟨by omega, by omega, ?_⟩
   unfold Lib.itoa
   rw [if_pos (by omega), show n.natAbs = valFrom 0 l.tail by omega, hb]
   cases l with
   | nil => cases h0
   | cons c r =>
    have : c = 45 := by simpa using h0
    rw [this]; rfl
  ·cases h
 ·rename_i h0
  split at h
  ·rename_i h1
   simp only [Option.some.injEq] at h
   have hb := dec_back _ l rfl h1.1
   refine ⟨by omega, by omega, ?_⟩
   unfold Lib.itoa
   rw [if_neg (by omega), show n.toNat = valFrom 0 l by omega, hb]
  ·cases h
end Go.Proofs.YtiknookfnameiaaGreatDoor
