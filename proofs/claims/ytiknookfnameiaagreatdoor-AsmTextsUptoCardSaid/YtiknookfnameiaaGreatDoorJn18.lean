/- The document's answer of a whole text is the program's: statements, lines, words. No program in sight. The document's word of an instruction is the program's. No program in sight. The text of a program's words as plain lists: numerals in tens and in hex, an instruction's line, jumps' places, their names, all lines. No program in sight. The contracts of the reference's instructions: Shape, Name, CondName, has, within. The contract of isa's Decode (its rounds printed by genIsaE.py, its end by hand). -/
import Derived.Test.YtiknookfnameiaaGreatDoorJn17
import Derived.Test.YtiknookfnameiaaGreatDoorJn01
import Derived.Lib.ItoaNum
import Derived.BigQuiet
import Derived.Deep.QuietTactic
import Derived.Test.YtiknookfnameiaaGreatDoorJn03
namespace Go.Proofs.YtiknookfnameiaaGreatDoor
open WP
theorem ops_named {s : ByteArray} {op : Nat} (h : namedF s = some op) : ropsF s = some ((shapeI op).length, 1) := by
 obtain ⟨h1, h2, h3⟩ := named_not h
 unfold ropsF; rw [if_neg h1, if_neg h2, if_neg h3, h]; rfl
theorem instr_rel {st : Asm} {rt : RAsm} (h : Rel st rt) {ln : Nat} {name : W} {op : Nat} {ops : List W} (hq : name.2.1 = false) (hop : namedF name.1 = some op) : RelR (instrM ln name op ops st) (rstmtF ln name ops rt) := by
 unfold rstmtF instrM
 rw [if_neg (by rw [hq]; decide), ops_named hop, h.len]
 dsimp only
 by_cases hr : 2048 < st.ws.length + 1
 ·rw [room_pos hr, if_pos hr]; rfl
 rw [room_neg hr, if_neg hr]
 dsimp only
 unfold rpiecesF
 rw [hop]
 dsimp only
 unfold rinstrF
 rw [← fields_take]
 have e := fields_same (shapeI op) (ops.take (shapeI op).length) 0 ({ ins0 with op := op }, eB, 0)
 dsimp only at e
 rw [e]
 cases hf : rfieldsF (shapeI op) (ops.take (shapeI op).length) 0 ({ ins0 with op := op }, eB, 0) with
 | inr k => rfl
 | inl x =>
  dsimp only
  cases hc : countM ln name ops (shapeI op).length with
  | some f => rfl
  | none =>
   dsimp only
   have hl := count_len hc
   rw [List.take_of_length_le (by omega)] at hf
   rw [if_neg (by simpa using hr)]
   exact h.add (chk_instr st.ws.length op ln ops (named_lt hop) hl x hf)
theorem val_label {w : W} (h : isNameF w = true) : rvalW w = some (w.1, 0) ∧ w.1.size ≠ 0 := by
 unfold isNameF at h
 simp only [Bool.and_eq_true, Bool.not_eq_true'] at h
 refine ⟨?_, nm_pos h.2⟩
 unfold rvalW rvalF
 rw [if_neg (by rw [h.1]; decide), if_pos h.2]
theorem val_number {w : W} (h : isNameF w = false) : rvalW w = (numberM w).map fun v => (eB, v) := by
 unfold isNameF at h
 unfold rvalW rvalF numberM
 by_cases hq : w.2.1 = true
 ·rw [if_pos hq, if_pos hq]; rfl
 rw [if_neg hq, if_neg hq]
 have hn : ¬ nameF w.1 = true := by
  intro hn
  rw [hn] at h
  cases h1 : w.2.1 with
  | true => exact hq h1
  | false => rw [h1] at h; cases h
 rw [if_neg hn]
 cases numF w.1.data.toList with
 | some v => rfl
 | none =>
  dsimp only
  cases sgnF w.1.data.toList <;> rfl
theorem chk_value (n : Nat) (v : Int) (ln c : Nat) : Chk n [⟨1, 0, 0, 0, v, eB, ln, c⟩] [v] [] := chk_plain n _ _ (by intro x hx; rw [List.mem_singleton.1 hx]; exact ⟨rfl, .inr rfl⟩) rfl
theorem count_zero {ln : Nat} {name : W} {n : Nat} (h : 0 < n) : countM ln name [] n = some (62, ln, name.2.2) := by unfold countM; rw [if_pos (by simpa using h)]
theorem count_one {ln : Nat} {name w : W} : countM ln name [w] 2 = some (62, ln, name.2.2) := by unfold countM; rw [if_pos (by simp)]
theorem word_rel {st : Asm} {rt : RAsm} (h : Rel st rt) {ln : Nat} {name : W} {ops : List W} (hq : name.2.1 = false) (hn : namedF name.1 = none) (ht : name.1.data.toList = wordT) : RelR (fixedM ln name 0 ops .word 1 st) (rstmtF ln name ops rt) := by
 unfold rstmtF fixedM rpiecesF ropsF rownF
 rw [if_neg (show ¬ name.2.1 = true by rw [hq]; decide), if_pos ht, h.len, hn]
 dsimp only
 rw [if_pos ht]
 by_cases hr : 2048 < st.ws.length + 1
 ·rw [room_pos hr, if_pos hr]; rfl
 rw [room_neg hr, if_neg hr]
 dsimp only
 cases ops with
 | nil =>
  simp only [List.take_nil, List.length_nil, Nat.lt_irrefl, false_and, if_false]
  rw [count_zero (by omega)]; rfl
 | cons w r =>
  simp only [List.take_succ_cons, List.take_zero, List.length_cons, List.getD_cons_zero, Nat.zero_add]
  cases hi : isNameF w with
  | true =>
   obtain ⟨e, hz⟩ := val_label hi
   rw [e, if_neg (by simp)]
   dsimp only
   cases hc : countM ln name (w :: r) 1 with
   | some f => rfl
   | none =>
    dsimp only
    rw [if_neg (by simpa using hr)]
    unfold latM
    rw [if_pos hi]
    exact h.add (chk_label _ _ _ _ hz)
  | false =>
   rw [val_number hi, if_pos ⟨by omega, rfl⟩]
   cases numberM w with
   | none => rfl
   | some v =>
    dsimp only [Option.map_some]
    cases hc : countM ln name (w :: r) 1 with
    | some f => rfl
    | none =>
     dsimp only
     rw [if_neg (by simpa using hr)]
     unfold latM
     rw [if_neg (by rw [hi]; decide)]
     exact h.add (chk_value _ _ _ _)
theorem liT_word : liT ≠ wordT := by decide
theorem zeroT_word : zeroT ≠ wordT := by decide
theorem zeroT_li : zeroT ≠ liT := by decide
theorem li_rel {st : Asm} {rt : RAsm} (h : Rel st rt) {ln : Nat} {name : W} {ops : List W} (hq : name.2.1 = false) (hn : namedF name.1 = none) (ht : name.1.data.toList = liT) : RelR (liM ln name ops st) (rstmtF ln name ops rt) := by
 unfold rstmtF liM fixedM rpiecesF ropsF rownF
 rw [if_neg (show ¬ name.2.1 = true by rw [hq]; decide), if_neg (show ¬ name.1.data.toList = wordT by rw [ht]; exact liT_word), if_pos ht, h.len, hn]
 dsimp only
 rw [if_neg (show ¬ name.1.data.toList = wordT by rw [ht]; exact liT_word), if_pos ht]
 by_cases hr : 2048 < st.ws.length + 2
 ·rw [room_pos hr, if_pos hr]; rfl
 rw [room_neg hr, if_neg hr]
 dsimp only
 match ops with
 | [] =>
  simp only [List.take_nil, List.length_nil]
  rw [if_neg (by simp), count_zero (by omega)]; rfl
 | [w] =>
  simp only [List.take_succ_cons, List.take_nil]
  cases hg : regF w with
  | none => rfl
  | some a =>
   dsimp only
   rw [if_neg (by simp), count_one]; rfl
 | w :: x :: r =>
  simp only [List.take_succ_cons, List.take_zero, List.length_cons]
  cases hg : regF w with
  | none => rfl
  | some a =>
   dsimp only
   simp only [List.getD_cons_succ, List.getD_cons_zero]
   cases hi : isNameF x with
   | true =>
    obtain ⟨e, hz⟩ := val_label hi
    rw [e, if_neg (by simp)]
    dsimp only
    cases hc : countM ln name (w :: x :: r) 2 with
    | some f => rfl
    | none =>
     dsimp only
     rw [if_neg (by simpa using hr)]
     unfold latM
     rw [if_pos hi]
     exact h.add (chk_liLabel _ _ _ _ _ hz)
   | false =>
    rw [val_number hi, if_pos ⟨by omega, rfl⟩]
    cases numberM x with
    | none => rfl
    | some v =>
     dsimp only [Option.map_some]
     cases hc : countM ln name (w :: x :: r) 2 with
     | some f => rfl
     | none =>
      dsimp only
      rw [if_neg (by simpa using hr)]
      unfold latM
      rw [if_neg (by rw [hi]; decide)]
      exact h.add (chk_li _ _ _ _ _)
theorem zero_rel {st : Asm} {rt : RAsm} (h : Rel st rt) (hk : st.ws.length ≤ 2048) {ln : Nat} {name : W} {ops : List W} (hq : name.2.1 = false) (hn : namedF name.1 = none) (ht : name.1.data.toList = zeroT) : RelR (zeroM ln name ops st) (rstmtF ln name ops rt) := by
 unfold rstmtF zeroM rpiecesF ropsF rownF
 rw [if_neg (show ¬ name.2.1 = true by rw [hq]; decide), if_neg (show ¬ name.1.data.toList = wordT by rw [ht]; exact zeroT_word), if_neg (show ¬ name.1.data.toList = liT by rw [ht]; exact zeroT_li), if_pos ht, h.len, hn]
 dsimp only
 rw [if_neg (show ¬ name.1.data.toList = wordT by rw [ht]; exact zeroT_word), if_neg (show ¬ name.1.data.toList = liT by rw [ht]; exact zeroT_li), if_neg (show ¬ 2048 < st.ws.length + 0 by omega)]
 cases ops with
 | nil =>
  dsimp only [List.take_nil]
  rw [count_zero (by omega)]; rfl
 | cons w r =>
  simp only [List.take_succ_cons, List.take_zero]
  cases zeroN w with
  | none => rfl
  | some n =>
   dsimp only
   cases hc : countM ln name (w :: r) 1 with
   | some f => rfl
   | none =>
    dsimp only
    rw [List.length_replicate]
    by_cases hr : 2048 < st.ws.length + n
    ·rw [room_pos hr, if_pos hr]; rfl
    rw [room_neg hr, if_neg hr]
    have k := h.add (chk_plain st.ws.length (List.replicate n pc0) (List.replicate n 0) (by intro x hx; rw [(List.mem_replicate.1 hx).2]; exact ⟨rfl, .inl rfl⟩) (by simp [pc0]))
    rw [List.append_nil] at k
    exact k
theorem stmt_rel {st : Asm} {rt : RAsm} (h : Rel st rt) (hk : st.ws.length ≤ 2048) {ln : Nat} {name : W} {ops : List W} : RelR (stmtM ln name ops st) (rstmtF ln name ops rt) := by
 by_cases hq : name.2.1 = true
 ·unfold stmtM rstmtF; rw [if_pos hq, if_pos hq]; rfl
 have hq' : name.2.1 = false := by simpa using hq
 unfold stmtM
 rw [if_neg hq]
 cases hop : namedF name.1 with
 | some op => exact instr_rel h hq' hop
 | none =>
  dsimp only
  split
  ·rename_i ht; exact word_rel h hq' hop ht
  rename_i h1
  split
  ·rename_i ht; exact li_rel h hq' hop ht
  rename_i h2
  split
  ·rename_i ht; exact zero_rel h hk hq' hop ht
  rename_i h3
  unfold rstmtF ropsF
  rw [if_neg hq, if_neg (show ¬ name.1.data.toList = wordT from h1), if_neg (show ¬ name.1.data.toList = liT from h2), if_neg (show ¬ name.1.data.toList = zeroT from h3), hop]; rfl
theorem take_rel {ln : Nat} : ∀ (ws : List W) {st : Asm} {rt : RAsm}, Rel st rt → st.ws.length ≤ 2048 → RelR (takeM ln ws st) (rtakeF ln ws rt)
 | [], st, rt, h, _ => h
 | w :: ws, st, rt, h, hk => by
  unfold takeM rtakeF
  rw [← h.labs, h.len]
  split
  ·split
   ·rfl
   split
   ·rfl
   ·exact take_rel ws ⟨rfl, h.cov⟩ hk
  ·exact stmt_rel h hk
theorem line_rel {ln : Nat} {l : ByteArray} {st : Asm} {rt : RAsm} (h : Rel st rt) (hk : st.ws.length ≤ 2048) : RelR (lineM ln l st) (rlineF ln l rt) := by
 unfold lineM rlineF
 cases wordsF l with
 | inr c => rfl
 | inl ws => exact take_rel ws h hk
theorem lines_rel : ∀ (L : List ByteArray) {ln : Nat} {st : Asm} {rt : RAsm}, Rel st rt → AOk st → RelR (linesM ln L st) (rlinesF ln L rt)
 | [], ln, st, rt, h, _ => h
 | l :: L, ln, st, rt, h, hk => by
  rw [linesM, rlinesF]
  have e := line_rel (ln := ln) (l := l) h hk.len
  cases h1 : lineM ln l st with
  | inr f =>
   rw [h1] at e
   cases h2 : rlineF ln l rt with
   | inr g => rw [h2] at e; exact e
   | inl y => rw [h2] at e; exact e.elim
  | inl x =>
   rw [h1] at e
   cases h2 : rlineF ln l rt with
   | inr g => rw [h2] at e; exact e.elim
   | inl y => rw [h2] at e; exact lines_rel L e (line_ok hk h1)
/-- of every text at every base: the same -/
theorem asm_same (base : Int) (s : ByteArray) : rasmF base s = readM base s := by
 unfold rasmF rreadF readM
 by_cases hs : 65536 < s.size
 ·rw [if_pos hs, if_pos hs]
 rw [if_neg hs, if_neg hs]
 have e := lines_rel (linesF s) (ln := 1) (st := asm0) (rt := ras0) ⟨rfl, Cov.nil⟩ asm0_ok
 cases h1 : linesM 1 (linesF s) asm0 with
 | inr f =>
  rw [h1] at e
  cases h2 : rlinesF 1 (linesF s) ras0 with
  | inr g => rw [h2] at e; rw [show f = g from e]
  | inl y => rw [h2] at e; exact e.elim
 | inl x =>
  rw [h1] at e
  cases h2 : rlinesF 1 (linesF s) ras0 with
  | inr g => rw [h2] at e; exact e.elim
  | inl y =>
   rw [h2] at e
   dsimp only
   rw [e.cov.same, e.labs]
   cases rwordsF base y.labs 0 y.pcs <;> rfl
end Go.Proofs.YtiknookfnameiaaGreatDoor

namespace Go.Proofs.YtiknookfnameiaaGreatDoor
open WP
set_option maxHeartbeats 4000000 in
theorem renc_eq (i : Ins) (ho : 0 ≤ i.op ∧ i.op < 64) (ha : 0 ≤ i.a ∧ i.a < 16) (hb : 0 ≤ i.b ∧ i.b < 16) (hc : 0 ≤ i.c ∧ i.c < 16) (hk : 0 ≤ i.k ∧ i.k < 8) (hm : -32768 ≤ i.imm ∧ i.imm ≤ 65535) :
  (if rcheckI i = 0 then rwordI i else 0) = encF i := by
 obtain ⟨op, k, a, b, c, m⟩ := i
 dsimp only at ho ha hb hc hk hm
 rcases shape_cases op ho.1 ho.2 with ⟨hs, hn⟩ | ⟨hy, hs⟩
 ·unfold encF checkI rcheckI
  dsimp only
  rw [if_pos hs, if_neg hn]; rfl
 ·rcases hs with hs | hs | hs | hs | hs | hs | hs | hs | hs
  all_goals
   have e0 : checkI ⟨op, k, a, b, c, m⟩ = rcheckI ⟨op, k, a, b, c, m⟩ := by
    unfold checkI rcheckI rfine restI fieldsI
    dsimp only
    rw [hs, if_pos hy]
    simp [hasL, fld, okFld, withinI, immOk, rest1, ins0]
    try (split <;> split <;> simp_all <;> omega)
   unfold encF
   rw [e0]
   by_cases h : rcheckI ⟨op, k, a, b, c, m⟩ = 0
   ·rw [if_pos h, if_pos h]
    unfold rcheckI rfine at h
    dsimp only at h
    rw [hs] at h
    simp [hasL, withinI, immOk] at h
    unfold wordI fieldsI rwordI
    dsimp only
    rw [hs]
    simp [fld, lay1]
    first
     | (rw [word_as op a m hy ha hm]; simp [h]; done)
     | (rw [word_ab op a b hy ha hb]; simp [h]; done)
     | (rw [word_abc op a b c hy ha hb hc]; simp [h]; done)
     | (rw [word_abs op a b m hy ha hb hm]; simp [h]; done)
     | (rw [word_ko op k m hy hk hm]; simp [h]; done)
     | (rw [word_a op a ha]; simp [h]; done)
     | (rw [word_o op m hm]; simp [h]; done)
   ·rw [if_neg h, if_neg h]
end Go.Proofs.YtiknookfnameiaaGreatDoor

namespace Go.Proofs
namespace YtiknookfnameiaaGreatDoor
open WP
def dg16 (d : Nat) : UInt8 := if d < 10 then UInt8.ofNat (48 + d) else UInt8.ofNat (87 + d)
def hx8P (w : Nat) : List UInt8 := (List.range 8).map fun i => dg16 (w / 2 ^ (28 - 4 * i) % 16)
/-- what the document's loop over the tens keeps -/
def tenInv (u m : Nat) (L : List UInt8) : Prop := (if m = 0 then L else Lib.decDigits m ++ L) = Lib.decDigits u
theorem dec_step (m : Nat) (L : List UInt8) (h : m ≠ 0) : Lib.decDigits m ++ L = if m / 10 = 0 then dg16 (m % 10) :: L else Lib.decDigits (m / 10) ++ dg16 (m % 10) :: L := by
 have hd : dg16 (m % 10) = UInt8.ofNat (48 + m % 10) := by unfold dg16; rw [if_pos (by omega)]
 rw [hd]
 by_cases h1 : m < 10
 ·rw [if_pos (by omega), Lib.decDigits_one h1, Nat.mod_eq_of_lt h1]; rfl
 ·rw [if_neg (by omega)]
  conv => lhs; rw [Lib.decDigits, dif_neg h1]
  simp
theorem tenInv_start (u : Nat) : tenInv u (u / 10) [dg16 (u % 10)] := by
 unfold tenInv
 by_cases h : u = 0
 ·subst h; rw [if_pos rfl, Lib.decDigits_one (by decide)]; rfl
 ·rw [← dec_step u [] h, List.append_nil]
theorem tenInv_step {u m : Nat} {L : List UInt8} (h : tenInv u m L) (hm : m ≠ 0) : tenInv u (m / 10) (dg16 (m % 10) :: L) := by
 unfold tenInv at *
 rw [if_neg hm] at h
 rw [← dec_step m L hm, h]
theorem tenInv_end {u : Nat} {L : List UInt8} (h : tenInv u 0 L) : L = Lib.decDigits u := by unfold tenInv at h; rwa [if_pos rfl] at h
theorem tenInv_len {u m : Nat} {L : List UInt8} (h : tenInv u m L) : L.length ≤ (Lib.decDigits u).length := by
 unfold tenInv at h
 rw [← h]
 split
 ·exact Nat.le_refl _
 ·rw [List.length_append]; omega
theorem decP_len (u : Nat) (h : u < 4294967296) : 1 ≤ (Lib.decDigits u).length ∧ (Lib.decDigits u).length ≤ 10 := by
 rw [Lib.decDigits_length]
 refine ⟨Lib.nDigits_pos u, ?_⟩
 by_cases h1 : u < 100
 ·by_cases h2 : u < 10
  ·rw [Lib.nDigits_small h2]; omega
  ·rw [Lib.nDigits_big h2, Lib.nDigits_small (by omega)]; omega
 ·have go : ∀ k m, m < 10 ^ (k + 1) → Lib.nDigits m ≤ k + 1 := by
   intro k
   induction k with
   | zero => intro m hm; rw [Lib.nDigits_small (by simpa using hm)]; omega
   | succ k ih =>
    intro m hm
    by_cases h3 : m < 10
    ·rw [Lib.nDigits_small h3]; omega
    ·rw [Lib.nDigits_big h3]
     have := ih (m / 10) (by rw [Nat.pow_succ] at hm; omega)
     omega
  exact go 9 u (by omega)
/-- one operand's text, the blank ahead of it -/
def litI (i : Ins) (lab : List UInt8) (c : UInt8) : List UInt8 :=
 32 :: (if c = 97 then 114 :: Lib.decDigits i.a.toNat else if c = 98 then 114 :: Lib.decDigits i.b.toNat else if c = 99 then 114 :: Lib.decDigits i.c.toNat else if c = 107 then condI i.k else if c = 111 ∧ lab ≠ [] then lab else Lib.itoa i.imm)
def insL (i : Ins) (lab : List UInt8) : List UInt8 := (shapeI i.op).foldl (fun s c => s ++ litI i lab c) (nameI i.op)
def lineL (w : Int) (lab : List UInt8) : List UInt8 := if goodI w then insL (decI w) lab else [119, 111, 114, 100, 32, 48, 120] ++ hx8P w.toNat
/-- the place to which a word jumps -/
def tgtO (w : Int) (at' n : Nat) : Option Nat :=
 if goodI w = true ∧ ((decI w).op = 21 ∨ (decI w).op = 22) ∧ 0 ≤ (at' : Int) + 1 + (decI w).imm ∧ (at' : Int) + 1 + (decI w).imm ≤ n then some ((at' : Int) + 1 + (decI w).imm).toNat else none
/-- the places that are named, of the first i words -/
def isTo (l : List UInt32) (i j : Nat) : Bool := (List.range i).any fun k => tgtO (wAt l k) k l.length == some j
def namedL (l : List UInt32) (i : Nat) : List Bool := (List.range (l.length + 1)).map (isTo l i)
/-- the name of a place -/
def nmAt (B : List Bool) (j : Nat) : List UInt8 := if B.getD j false then 108 :: Lib.decDigits ((B.take j).count true) else []
/-- the name of the place to which a word jumps -/
def labL (B : List Bool) : Option Nat → List UInt8
 | some t => nmAt B t
 | none => []
/-- what is printed at a place -/
def pieceL (l : List UInt32) (i : Nat) : List UInt8 :=
 (if (namedL l l.length).getD i false then nmAt (namedL l l.length) i ++ [58, 10] else []) ++
 (if i < l.length then lineL (wAt l i) (labL (namedL l l.length) (tgtO (wAt l i) i l.length)) ++ [10] else [])
def printL (l : List UInt32) (k : Nat) : List UInt8 := (List.range k).flatMap (pieceL l)
end YtiknookfnameiaaGreatDoor
end Go.Proofs

namespace Go.Proofs
namespace YtiknookfnameiaaGreatDoor
open Go.RowKit WP
/-- the reference's tables -/
structure RTabs (w : World) : Prop where
 names : StrAt w 3 1 0 nameT
 shapes : StrAt w 4 1 0 shapeT
 conds : StrAt w 7 1 0 condT
theorem RTabs.later {w w' : World} (h : RTabs w) (hb : Below w.heap.size w w') : RTabs w' :=
 ⟨h.names.later h.names.1 hb, h.shapes.later h.shapes.1 hb, h.conds.later h.conds.1 hb⟩
set_option maxRecDepth 100000 in
theorem rshape_any (op : Int) (w : World) (hT : RTabs w) :
  Calls Tryz.prog 99 #[.int .i64 op] w fun e w' => e = .returned (.string (strS (shapeI op))) ∧ w' = w := by
 by_cases h1 : 1 ≤ op
 ·by_cases h2 : op < 25
  ·obtain ⟨n, rfl⟩ := Int.eq_ofNat_of_zero_le (show 0 ≤ op by omega)
   have hc := hT.shapes.2 n (by show n < 25; omega)
   rw [Nat.add_zero, Nat.mul_one] at hc
   have e : (⟨(shapeT.getD n []).toArray⟩ : ByteArray) = strS (shapeI n) := rfl
   rw [e] at hc
   have d1 : decide ((n : Int) < 1) = false := decide_eq_false (by omega)
   have d2 : decide ((n : Int) ≥ 25) = false := decide_eq_false (by omega)
   generalize strS (shapeI n) = S at *
   clear hT e
   go_enter Tryz.func99, Tryz.ntmps99
   go_wp2
   go_ret; exact ⟨rfl, rfl⟩
  ·rw [(off_range op (fun h => h2 h.2)).1]
   have d1 : decide (op < 1) = false := decide_eq_false (by omega)
   have d2 : decide (op ≥ 25) = true := decide_eq_true (by omega)
   go_enter Tryz.func99, Tryz.ntmps99
   go_wp2
   go_ret; exact ⟨rfl, rfl⟩
 ·rw [(off_range op (fun h => h1 h.1)).1]
  have d1 : decide (op < 1) = true := decide_eq_true (by omega)
  go_enter Tryz.func99, Tryz.ntmps99
  go_wp2
  go_ret; exact ⟨rfl, rfl⟩
theorem any_take (L : List UInt8) (c : UInt8) (k : Nat) (hk : k < L.length) : ((L.take (k + 1)).any (· == c)) = ((L.take k).any (· == c) || L[k] == c) := by
 rw [List.take_succ_eq_append_getElem hk, List.any_append]; simp
set_option maxRecDepth 100000 in
theorem has_any (L : List UInt8) (c : UInt8) (w : World) (hl : L.length ≤ 3) :
  Calls Tryz.prog 101 #[.string (strS L), .int .u8 c.toNat] w fun e w' => e = .returned (.bool (hasL L c)) ∧ w' = w := by
 have hSz : (strS L).size = L.length := by simp [strS, ByteArray.size]
 obtain ⟨R, hR⟩ : ∃ R, hasL L c = R := ⟨_, rfl⟩
 rw [hR]
 have hR := Lib.hid hR
 go_enter Tryz.func101, Tryz.ntmps101
 go_wp2
 go_loop [5] (fun i => ∃ k : Nat, k ≤ L.length ∧ i = .int .i64 k ∧ (L.take k).any (· == c) = false) (fun i => L.length - (intOf i).toNat)
 case atStart => exact ⟨0, by omega, rfl, rfl⟩
 case round =>
  obtain ⟨k, hk, rfl, hn⟩ := hrel
  by_cases hlt : k < L.length
  ·have ha := any_take L c k hlt
   rw [hn] at ha
   have hg : (strS L)[k]'(by rw [hSz]; exact hlt) = L[k] := rfl
   by_cases he : L[k] = c
   ·have hy : R = true := by
     rw [← hR.out]; unfold hasL
     rw [List.any_eq_true]; exact ⟨L[k], List.getElem_mem hlt, by simp [he]⟩
    subst hy
    have d1 : (((L[k].toNat : Nat) : Int) == ((c.toNat : Nat) : Int)) = true := by rw [he]; simp
    have d2 : decide ((k : Int) < (L.length : Int)) = true := decide_eq_true (by omega)
    have hk2 : k < (strS L).size := by rw [hSz]; exact hlt
    rw [← hg] at d1
    clear ha he hn
    replace hSz := Lib.hid hSz; replace hg := Lib.hid hg
    have hlt2 := Lib.hid hlt
    go_wp2
    go_ret
    exact ⟨rfl, rfl⟩
   ·have hno : (L.take (k + 1)).any (· == c) = false := by rw [ha]; simp [he]
    have d1 : (((L[k].toNat : Nat) : Int) == ((c.toNat : Nat) : Int)) = false := by
     rw [beq_eq_false_iff_ne]; intro h; exact he (UInt8.toNat.inj (by omega))
    have hk2 : k < (strS L).size := by rw [hSz]; exact hlt
    rw [← hg] at d1
    clear ha he hn
    replace hno := Lib.hid hno
    replace hSz := Lib.hid hSz; replace hg := Lib.hid hg
    go_wp2
    go_round
    case rel => exact ⟨k + 1, by omega, by go_num, hno.out⟩
    case measure => simp [intOf]; omega
  ·have hy : R = false := by
    rw [← hR.out]; unfold hasL
    rw [List.take_of_length_le (by omega)] at hn; exact hn
   subst hy
   have hk2 : ¬ k < (strS L).size := by rw [hSz]; exact hlt
   clear hn
   replace hSz := Lib.hid hSz
   go_wp2_with fail
   go_ret
   exact ⟨rfl, rfl⟩
theorem within_any (u : Bool) (v lo hi : Int) (w : World) :
  Calls Tryz.prog 100 #[.bool u, .int .i64 v, .int .i64 lo, .int .i64 hi] w fun e w' => e = .returned (.bool (withinI u v lo hi)) ∧ w' = w := by
 cases u with
 | false =>
  have e : withinI false v lo hi = (v == 0) := by unfold withinI; rw [if_neg (by simp)]; by_cases h : v = 0 <;> simp [h]
  rw [e]
  generalize hb : (v == 0) = b
  go_enter Tryz.func100, Tryz.ntmps100
  go_wp2
  go_ret; exact ⟨rfl, rfl⟩
 | true =>
  by_cases h1 : lo ≤ v
  ·have e : withinI true v lo hi = decide (v ≤ hi) := by unfold withinI; rw [if_pos rfl]; simp [h1]
   have d1 : decide (v ≥ lo) = true := decide_eq_true h1
   rw [e]
   generalize hb : decide (v ≤ hi) = b
   go_enter Tryz.func100, Tryz.ntmps100
   go_wp2
   go_ret; exact ⟨rfl, rfl⟩
  ·have e : withinI true v lo hi = false := by unfold withinI; rw [if_pos rfl]; simp [h1]
   have d1 : decide (v ≥ lo) = false := decide_eq_false h1
   rw [e]
   go_enter Tryz.func100, Tryz.ntmps100
   go_wp2
   go_ret; exact ⟨rfl, rfl⟩
end YtiknookfnameiaaGreatDoor
end Go.Proofs

namespace Go.Proofs
namespace YtiknookfnameiaaGreatDoor
open Go.RowKit WP
/-- what is held while a word is read -/
structure DecSt (C : Nat) (w0 w : World) (r : Ins) (s : ByteArray) (pos : Nat) : Prop where
 z : w.heap[C]? = some (.cells (insC ins0) 92 (0, 0))
 blk : w.heap[C + 1]? = some (.cells (insC r) 92 (0, 0))
 it : w.heap[C + 2]? = some (.stringIter s pos)
 size : C + 3 ≤ w.heap.size
 below : Below C w0 w
namespace DecSt
variable {C : Nat} {w0 w : World} {r : Ins} {s : ByteArray} {pos : Nat}
theorem next (h : DecSt C w0 w r s pos) (p : Nat) : DecSt C w0 (w.iterAt (C + 2) s p) r s p :=
 ⟨by rw [Lib.iterAt_other _ _ _ _ _ (by omega)]; exact h.z, by rw [Lib.iterAt_other _ _ _ _ _ (by omega)]; exact h.blk, Lib.iterAt_heap _ _ _ _ _ h.it,
  by rw [Lib.iterAt_size]; exact h.size, Lib.below_iterAt h.below (by omega) _ _⟩
theorem struck (h : DecSt C w0 w r s pos) (j : Nat) (u : Value) (r' : Ins) (e : (insC r).setIfInBounds j u = insC r') : DecSt C w0 (w.setCell ⟨C + 1, j, none⟩ u) r' s pos := by
 have hs := h.size
 refine ⟨?_, ?_, ?_, by simpa using hs, ?_⟩
 ·rw [heap_setCell_other _ _ _ _ (by simp)]; exact h.z
 ·rw [heap_setCell_same w (C + 1) j _ _ _ h.blk, e]
 ·rw [heap_setCell_other _ _ _ _ (by simp)]; exact h.it
 ·exact Below.setCell h.below (by show C ≤ C + 1; omega) _
end DecSt
theorem results_fst {P : Program} {fn : Func} {t t2 : Tmp} {ty : TypeId} (h : fn.results = #[.cell t ty, .tmp t2]) {tmps : Array Value} {w : World} {g : Nat} {cs : Array Value} {T : TypeId} {v2 : Value} {d : TypeDesc}
  (hp : tmps.getD t undef = .pointer (some ⟨g, 0, none⟩)) (h2 : tmps.getD t2 undef = v2)
  (hc : w.heap[g]? = some (.cells cs T (0, 0))) (hu : P.underlying ty = some d) (hd : d.isRow = true) (hi : (P.info? ty).map (·.size) = some cs.size) : (results fn tmps).run P w = .ok (.tuple #[.agg cs, v2]) w := by
 have hr : w.rangeAt g 0 cs.toList := fun j u hu => by
  rw [Nat.zero_add, cell_of_row _ _ _ _ _ _ hc]; simpa using hu
 have hv := run_loadVar_mid (P := P) w g 0 ty cs.toList d hr hu hd (by simpa using hi)
 have hp' : tmps[t]?.getD undef = .pointer (some ⟨g, 0, none⟩) := by simpa [Array.getD_eq_getD_getElem?] using hp
 have h2' : tmps[t2]?.getD undef = v2 := by simpa [Array.getD_eq_getD_getElem?] using h2
 simp [results, h, hp', hv, asAddr, h2']
section
variable {P : Program}
theorem wpList_store_whole {ops : Array Oper} {rest : List Oper} {o : Oper} {a : Act} {w : World} {Q : Exit → Act → World → Prop} (hgd : o.guard = none) (ty : TypeId) (x y : Operand) (ho : o.op = .store ty x y)
  (g : Nat) (cells : Array Value) (hx : a.eval x = .pointer (some ⟨g, 0, none⟩)) (hy : a.eval y = .agg cells)
  (t : TypeId) (old : Array Value) (hg : w.heap[g]? = some (.cells old t (0, 0))) (hi : (P.info? ty).map (·.size) = some cells.size)
  (hold : old.size = cells.size) (h1 : cells.all (·.oneCell') = true)
  (k : ∀ w', w'.heap[g]? = some (.cells cells t (0, 0)) → w.grownBy w' (some g) → wpList P ops Q rest (a.put o.dst undef) w') : wpList P ops Q (o :: rest) a w :=
 wpList_store_row hgd ty x y ho g cells hx hy t old hg hi hold h1
  (k _ (setRow_heap w g _ _ t _ hg) ⟨rfl, rfl, rfl, by simp [World.setRow], fun j _ hj => setRow_other w g j _ (fun e => hj (by simp [e]))⟩)
end
end YtiknookfnameiaaGreatDoor
end Go.Proofs
