/- The contracts of text's Hexed and Signed. Assembling as a plain function: a text's lines, words, labels, statements; what waits for the labels; the words. No program in sight. Plain laws of assembling: what is held of the state; a base moves addresses alone; lines ahead move the fault's line alone. No program in sight. Small laws on rows of one's own. -/
import Derived.Test.YtiknookfnameiaaGreatDoorTNuDJn
import Derived.Lib.SmallJoins
import Derived.Test.YtiknookfnameiaaGreatDoorJn03
import Derived.Test.YtiknookfnameiaaGreatDoorJn05
import Derived.Test.YtiknookfnameiaaGreatDoorJn06
namespace Go.Proofs
open Go.RowKit Go.Shelf
namespace YtiknookfnameiaaGreatDoor
open WP
def hexTx (w : Int) : ByteArray := ⟨([48, 120] ++ hx8 w.toNat).toArray⟩
theorem parse_neg (r : List UInt8) (ht : tensB r = true) : Lib.parseIntB 32 (45 :: r) = if valFrom 0 r ≤ 2147483648 then .ok (-(valFrom 0 r : Int)) else .range := by
 have hp := parse_tens r ht
 have h45 : (45 : UInt8).toNat = 45 := rfl
 have e31 : (2 : Nat) ^ (32 - 1) = 2147483648 := rfl
 unfold Lib.parseIntB
 dsimp only
 rw [if_pos (show (45 : UInt8).toNat = 43 ∨ (45 : UInt8).toNat = 45 from .inr rfl), hp]
 by_cases h1 : valFrom 0 r ≤ 4294967295
 ·rw [if_pos h1]
  dsimp only
  rw [if_neg (show ¬ (¬ (45 : UInt8).toNat = 45 ∧ 2 ^ (32 - 1) ≤ valFrom 0 r) from fun h => h.1 h45)]
  by_cases h2 : valFrom 0 r ≤ 2147483648
  ·rw [if_neg (show ¬ ((45 : UInt8).toNat = 45 ∧ 2 ^ (32 - 1) < valFrom 0 r) from fun h => by have := h.2; omega), if_pos h45, if_pos h2]
  ·rw [if_pos (show (45 : UInt8).toNat = 45 ∧ 2 ^ (32 - 1) < valFrom 0 r from ⟨h45, by omega⟩), if_neg h2]
 ·rw [if_neg h1, if_neg (show ¬ valFrom 0 r ≤ 2147483648 by omega)]
theorem parse_pos (c : UInt8) (r : List UInt8) (ht : tensB (c :: r) = true) : Lib.parseIntB 32 (c :: r) = if valFrom 0 (c :: r) ≤ 2147483647 then .ok (valFrom 0 (c :: r) : Int) else .range := by
 have hp := parse_tens (c :: r) ht
 have e31 : (2 : Nat) ^ (32 - 1) = 2147483648 := rfl
 have hcd : 48 ≤ c.toNat ∧ c.toNat ≤ 57 := by
  unfold tensB at ht
  simp only [Bool.and_eq_true, List.all_cons] at ht
  exact of_decide_eq_true ht.2.1
 have h45 : ¬ c.toNat = 45 := by omega
 unfold Lib.parseIntB
 dsimp only
 rw [if_neg (show ¬ (c.toNat = 43 ∨ c.toNat = 45) by omega), hp]
 by_cases h1 : valFrom 0 (c :: r) ≤ 4294967295
 ·rw [if_pos h1]
  dsimp only
  by_cases h2 : valFrom 0 (c :: r) ≤ 2147483647
  ·rw [if_neg (show ¬ (¬ c.toNat = 45 ∧ 2 ^ (32 - 1) ≤ valFrom 0 (c :: r)) from fun h => by have := h.2; omega), if_neg (show ¬ (c.toNat = 45 ∧ 2 ^ (32 - 1) < valFrom 0 (c :: r)) from fun h => h45 h.1), if_neg h45, if_pos h2]
  ·rw [if_pos (show ¬ c.toNat = 45 ∧ 2 ^ (32 - 1) ≤ valFrom 0 (c :: r) from ⟨h45, by omega⟩), if_neg h2]
 ·rw [if_neg h1, if_neg (show ¬ valFrom 0 (c :: r) ≤ 2147483647 by omega)]
theorem parse_sgn (l : List UInt8) (ht : (l.head? = some 45 → tensB l.tail = true) ∧ (l.head? ≠ some 45 → tensB l = true)) :
  (l.head? = some 45 → Lib.parseIntB 32 l = if valFrom 0 l.tail ≤ 2147483648 then .ok (-(valFrom 0 l.tail : Int)) else .range) ∧
  (l.head? ≠ some 45 → Lib.parseIntB 32 l = if valFrom 0 l ≤ 2147483647 then .ok (valFrom 0 l : Int) else .range) := by
 cases l with
 | nil => exact ⟨(fun h => by cases h), (fun h => by have := ht.2 h; simp [tensB] at this)⟩
 | cons c r =>
  constructor
  ·intro h
   have hc : c = 45 := by simpa using h
   subst hc
   exact parse_neg r (ht.1 h)
  ·intro h; exact parse_pos c r (ht.2 h)
theorem str_eq48 (D : ByteArray) : (D.toList == [48]) = decide (D.data.toList = [48]) := by
 rw [ByteArray.toList_eq]
 by_cases h : D.data.toList = [48]
 ·rw [h]; rfl
 ·rw [decide_eq_false h, beq_eq_false_iff_ne]; exact h
set_option maxRecDepth 100000 in
set_option maxHeartbeats 2000000 in
theorem signed_any (s : ByteArray) (w : World) (hs : s.size ≤ 140737488355328) (hE : ErrVar w "strconv.ErrRange") :
  Calls Tryz.prog 139 #[.string s] w fun e w' => Below w.heap.size w w' ∧ e = .returned (.tuple #[.int .i32 ((sgnF s.data.toList).getD 0), .int .i64 (errN (sgnF s.data.toList).isSome)]) := by
 have hl := size_list s
 have hcp := fun W => cutp_any s ⟨#[45]⟩ W
 have hpp : Lib.hasPrefix s.data.toList (⟨#[45]⟩ : ByteArray).data.toList = decide (s.data.toList.head? = some 45) := pre_one _
 have htp : Lib.trimPrefix s.data.toList (⟨#[45]⟩ : ByteArray).data.toList = if decide (s.data.toList.head? = some 45) = true then s.data.toList.tail else s.data.toList := by
  unfold Lib.trimPrefix; rw [hpp]; simp [List.drop_one]
 simp only [hpp, htp] at hcp
 clear hpp htp
 by_cases hx : s.data.toList.head? = some 45
 ·simp only [decide_eq_true hx, if_true] at hcp
  have hsg : sgnF s.data.toList = if tensB s.data.toList.tail = true ∧ s.data.toList.tail ≠ [48] ∧ valFrom 0 s.data.toList.tail ≤ 2147483648 then some (-(valFrom 0 s.data.toList.tail : Int)) else none := by unfold sgnF; rw [if_pos hx]
  have hdl : s.data.toList.tail.length ≤ s.size := by rw [List.length_tail]; omega
  have hps := fun ht => (parse_sgn s.data.toList ⟨fun _ => ht, fun h => absurd hx h⟩).1 hx
  obtain ⟨h, hh⟩ : ∃ h, s.data.toList.tail = h := ⟨_, rfl⟩
  rw [hh] at hsg hdl
  simp only [hh] at hcp hps
  obtain ⟨D, hD⟩ : ∃ D : ByteArray, ⟨h.toArray⟩ = D := ⟨_, rfl⟩
  have hDl : D.data.toList = h := by rw [← hD]
  have hDs : D.size = h.length := by rw [← hD]; exact mk_size h
  simp only [hD] at hcp
  have htn := fun W => tensb_any D W (by omega)
  rw [hDl] at htn
  have he48 := str_eq48 D
  rw [hDl] at he48
  rw [hsg]
  clear hx hsg hh hD hDl
  replace hcp := Lib.hid hcp
  by_cases q1 : tensB h = true
  ·have hpi := hps q1
   rw [q1] at htn
   by_cases q2 : h = [48]
   ·rw [if_neg (fun e => e.2.1 q2)]
    rw [decide_eq_true q2] at he48
    simp only [Option.getD_none, Option.isSome_none, errN]
    clear hps hpi q1 q2 hdl hl hDs
    replace htn := Lib.hid htn
    go_enter Tryz.func139, Tryz.ntmps139
    go_wp2_with (first
     | (go_at_call 140; refine (hcp.out _).mono ?_; rintro e w1 ⟨rfl, rfl⟩)
     | (go_at_call 142; refine (htn.out _).mono ?_; rintro e w1 ⟨rfl, rfl⟩))
    refine bodyPost_ret (v := .tuple #[.int .i32 0, .int .i64 41]) (by simp [results, Tryz.results139, go_sem]) rfl ⟨Below.refl _ _, rfl⟩
   ·rw [decide_eq_false q2] at he48
    by_cases q3 : valFrom 0 h ≤ 2147483648
    ·rw [if_pos ⟨q1, q2, q3⟩]
     rw [if_pos q3] at hpi
     have hpu := fun W => pint_ok s W _ hs hpi
     have hvb : (-(valFrom 0 h : Int)) ≤ 2147483647 := by omega
     have hv0 : (-2147483648 : Int) ≤ (-(valFrom 0 h : Int)) := by omega
     obtain ⟨V, hV⟩ : ∃ V : Int, (-(valFrom 0 h : Int)) = V := ⟨_, rfl⟩
     simp only [Option.getD_some, Option.isSome_some, errN, if_true]
     rw [hV] at hvb hv0 ⊢
     simp only [hV] at hpu
     clear hps hpi q1 q2 q3 hdl hl hDs hV
     replace htn := Lib.hid htn; replace hpu := Lib.hid hpu
     go_enter Tryz.func139, Tryz.ntmps139
     go_wp2_with (first
      | (go_at_call 140; refine (hcp.out _).mono ?_; rintro e w1 ⟨rfl, rfl⟩)
      | (go_at_call 142; refine (htn.out _).mono ?_; rintro e w1 ⟨rfl, rfl⟩)
      | (go_at_call 156; refine (hpu.out _).mono ?_; rintro e w3 ⟨rfl, hb3⟩))
     refine bodyPost_ret (v := .tuple #[.int .i32 V, .int .i64 0]) (by simp [results, Tryz.results139, go_sem]) rfl ⟨hb3, rfl⟩
    ·rw [if_neg (fun e => q3 e.2.2)]
     rw [if_neg q3] at hpi
     have hpu := fun W hW => pint_range s W hs hW hpi
     simp only [Option.getD_none, Option.isSome_none, errN]
     clear hps hpi q1 q2 q3 hdl hl hDs
     replace htn := Lib.hid htn; replace hpu := Lib.hid hpu
     go_enter Tryz.func139, Tryz.ntmps139
     go_wp2_with (first
      | (go_at_call 140; refine (hcp.out _).mono ?_; rintro e w1 ⟨rfl, rfl⟩)
      | (go_at_call 142; refine (htn.out _).mono ?_; rintro e w1 ⟨rfl, rfl⟩)
      | (go_at_call 156; refine (hpu.out _ hE).mono ?_; rintro e w3 ⟨⟨y, t, x, rfl⟩, hb3⟩))
     refine bodyPost_ret (v := .tuple #[.int .i32 0, .int .i64 41]) (by simp [results, Tryz.results139, go_sem]) rfl ⟨hb3, rfl⟩
  ·rw [if_neg (fun e => q1 e.1)]
   have q1f : tensB h = false := by simpa using q1
   rw [q1f] at htn
   simp only [Option.getD_none, Option.isSome_none, errN]
   clear hps q1 q1f hdl hl hDs he48
   replace htn := Lib.hid htn
   go_enter Tryz.func139, Tryz.ntmps139
   go_wp2_with (first
    | (go_at_call 140; refine (hcp.out _).mono ?_; rintro e w1 ⟨rfl, rfl⟩)
    | (go_at_call 142; refine (htn.out _).mono ?_; rintro e w1 ⟨rfl, rfl⟩))
   refine bodyPost_ret (v := .tuple #[.int .i32 0, .int .i64 41]) (by simp [results, Tryz.results139, go_sem]) rfl ⟨Below.refl _ _, rfl⟩
 ·simp only [decide_eq_false hx, Bool.false_eq_true, if_false, mk_self] at hcp
  have hsg : sgnF s.data.toList = if tensB s.data.toList = true ∧ valFrom 0 s.data.toList ≤ 2147483647 then some (valFrom 0 s.data.toList : Int) else none := by unfold sgnF; rw [if_neg hx]
  have htn := fun W => tensb_any s W (by omega)
  have hps := fun ht => (parse_sgn s.data.toList ⟨fun h => absurd h hx, fun _ => ht⟩).2 hx
  rw [hsg]
  clear hx hsg
  replace hcp := Lib.hid hcp
  by_cases q1 : tensB s.data.toList = true
  ·have hpi := hps q1
   rw [q1] at htn
   by_cases q2 : valFrom 0 s.data.toList ≤ 2147483647
   ·rw [if_pos ⟨q1, q2⟩]
    rw [if_pos q2] at hpi
    have hpu := fun W => pint_ok s W _ hs hpi
    have hvb : (valFrom 0 s.data.toList : Int) ≤ 2147483647 := by omega
    have hv0 : (-2147483648 : Int) ≤ (valFrom 0 s.data.toList : Int) := by omega
    obtain ⟨V, hV⟩ : ∃ V : Int, (valFrom 0 s.data.toList : Int) = V := ⟨_, rfl⟩
    simp only [Option.getD_some, Option.isSome_some, errN, if_true]
    rw [hV] at hvb hv0 ⊢
    simp only [hV] at hpu
    clear hps hpi q1 q2 hV hl
    replace htn := Lib.hid htn; replace hpu := Lib.hid hpu
    go_enter Tryz.func139, Tryz.ntmps139
    go_wp2_with (first
     | (go_at_call 140; refine (hcp.out _).mono ?_; rintro e w1 ⟨rfl, rfl⟩)
     | (go_at_call 142; refine (htn.out _).mono ?_; rintro e w1 ⟨rfl, rfl⟩)
     | (go_at_call 156; refine (hpu.out _).mono ?_; rintro e w3 ⟨rfl, hb3⟩))
    refine bodyPost_ret (v := .tuple #[.int .i32 V, .int .i64 0]) (by simp [results, Tryz.results139, go_sem]) rfl ⟨hb3, rfl⟩
   ·rw [if_neg (fun h => q2 h.2)]
    rw [if_neg q2] at hpi
    have hpu := fun W hW => pint_range s W hs hW hpi
    simp only [Option.getD_none, Option.isSome_none, errN]
    clear hps hpi q1 q2 hl
    replace htn := Lib.hid htn; replace hpu := Lib.hid hpu
    go_enter Tryz.func139, Tryz.ntmps139
    go_wp2_with (first
     | (go_at_call 140; refine (hcp.out _).mono ?_; rintro e w1 ⟨rfl, rfl⟩)
     | (go_at_call 142; refine (htn.out _).mono ?_; rintro e w1 ⟨rfl, rfl⟩)
     | (go_at_call 156; refine (hpu.out _ hE).mono ?_; rintro e w3 ⟨⟨y, t, x, rfl⟩, hb3⟩))
    refine bodyPost_ret (v := .tuple #[.int .i32 0, .int .i64 41]) (by simp [results, Tryz.results139, go_sem]) rfl ⟨hb3, rfl⟩
  ·rw [if_neg (fun h => q1 h.1)]
   have q1f : tensB s.data.toList = false := by simpa using q1
   rw [q1f] at htn
   simp only [Option.getD_none, Option.isSome_none, errN]
   clear hps q1 q1f hl
   replace htn := Lib.hid htn
   go_enter Tryz.func139, Tryz.ntmps139
   go_wp2_with (first
    | (go_at_call 140; refine (hcp.out _).mono ?_; rintro e w1 ⟨rfl, rfl⟩)
    | (go_at_call 142; refine (htn.out _).mono ?_; rintro e w1 ⟨rfl, rfl⟩))
   refine bodyPost_ret (v := .tuple #[.int .i32 0, .int .i64 41]) (by simp [results, Tryz.results139, go_sem]) rfl ⟨Below.refl _ _, rfl⟩
end YtiknookfnameiaaGreatDoor
end Go.Proofs

namespace Go.Proofs.YtiknookfnameiaaGreatDoor
open WP
/-- a fault: the error, the line, the column -/
abbrev Flt := Int × Nat × Nat
/-- what waits for a label: a word that is its address, a load of it into a register, a jump to it -/
inductive Wht where
 | word
 | li (a : Int)
 | jmp (i : Ins)
structure Lat where
 what : Wht
 place : Nat
 nm : ByteArray
 line : Nat
 col : Nat
structure Asm where
 ws : List Int
 labs : List (ByteArray × Nat)
 lat : List Lat
def asm0 : Asm := ⟨[], [], []⟩
def encF (i : Ins) : Int := if checkI i = 0 then wordI i else 0
def colonEnd (s : ByteArray) : Bool := decide (s.data.toList.getLast? = some 58)
def cutC (s : ByteArray) : ByteArray := s.extract 0 (s.size - 1)
/-- the first of a table's rows, from one on, that is this text -/
def findT (T : List (List UInt8)) (s : List UInt8) : Nat → Nat → Option Nat
 | 0, _ => none
 | f + 1, k => if T.getD k [] = s then some k else findT T s f (k + 1)
def namedF (s : ByteArray) : Option Nat := findT nameT s.data.toList 24 1
def condF (s : ByteArray) : Option Nat := findT condT s.data.toList 7 0
/-- r0 to r14 -/
def regA (s : List UInt8) : Nat → Nat → Option Nat
 | 0, _ => none
 | f + 1, k => if s = 114 :: Lib.decDigits k then some k else regA s f (k + 1)
def regF (w : W) : Option Nat := if w.2.1 = true then none else regA w.1.data.toList 15 0
def isNameF (w : W) : Bool := !w.2.1 && nameF w.1
def sgnIn (s : ByteArray) : Option Int := match sgnF s.data.toList with | some v => if -32768 ≤ v ∧ v ≤ 32767 then some v else none | none => none
/-- one operand of an instruction, by its letter -/
def fieldM (i : Ins) (c : UInt8) (w : W) : Option Ins :=
 if w.2.1 = true then none
 else if c = 97 then (regF w).map fun n => { i with a := n }
 else if c = 98 then (regF w).map fun n => { i with b := n }
 else if c = 99 then (regF w).map fun n => { i with c := n }
 else if c = 117 then (match numF w.1.data.toList with | some v => if v ≤ 65535 then some { i with imm := v } else none | none => none)
 else if c = 107 then (condF w.1).map fun n => { i with k := n }
 else if c = 111 ∧ nameF w.1 = true then some i
 else (sgnIn w.1).map fun v => { i with imm := v }
/-- all of them; or the column of the first that is none -/
def fieldsM : List UInt8 → List W → Ins → Ins ⊕ Nat
 | [], _, i => .inl i
 | _ :: _, [], i => .inl i
 | c :: cs, w :: ws, i => match fieldM i c w with | none => .inr w.2.2 | some j => fieldsM cs ws j
/-- as many operands as that? -/
def countM (ln : Nat) (name : W) (ops : List W) (n : Nat) : Option Flt :=
 if ops.length < n then some (62, ln, name.2.2)
 else if n < ops.length then some (62, ln, (ops.getD n (⟨#[]⟩, false, 0)).2.2) else none
def roomM (ln : Nat) (name : W) (st : Asm) (n : Nat) : Option Flt := if 2048 < st.ws.length + n then some (66, ln, name.2.2) else none
/-- what waits for the label of the operand k, if it is one -/
def latM (what : Wht) (place ln : Nat) (w : W) : List Lat := if isNameF w = true then [⟨what, place, w.1, ln, w.2.2⟩] else []
def oAt (s : List UInt8) : Option Nat := if s.contains 111 then some (s.idxOf 111) else none
def w0 : W := (⟨#[]⟩, false, 0)
def instrM (ln : Nat) (name : W) (op : Nat) (ops : List W) (st : Asm) : Asm ⊕ Flt :=
 match roomM ln name st 1 with
 | some f => .inr f
 | none =>
  match fieldsM (shapeI op) ops { ins0 with op := op } with
  | .inr c => .inr (61, ln, c)
  | .inl i =>
   match countM ln name ops (shapeI op).length with
   | some f => .inr f
   | none => .inl ⟨st.ws ++ [encF i], st.labs, st.lat ++ (match oAt (shapeI op) with | none => [] | some k => latM (.jmp i) st.ws.length ln (ops.getD k w0))⟩
/-- the word that an operand is -/
def numberM (w : W) : Option Int :=
 if w.2.1 = true then none
 else match numF w.1.data.toList with
  | some v => some v
  | none => (sgnF w.1.data.toList).map fun v => v % 4294967296
def movI (op : Int) (a x : Int) : Ins := { ins0 with op := op, a := a, imm := x }
/-- what a fixed statement lays -/
def layM (what : Wht) (x : Int) : List Int :=
 match what with
 | .word => [x]
 | .li a => [encF (movI 1 a (x % 65536)), encF (movI 2 a (x / 65536))]
 | .jmp i => [encF i]
def fixedM (ln : Nat) (name : W) (k : Nat) (ops : List W) (what : Wht) (n : Nat) (st : Asm) : Asm ⊕ Flt :=
 match roomM ln name st n with
 | some f => .inr f
 | none =>
  match (if k < ops.length ∧ isNameF (ops.getD k w0) = false then numberM (ops.getD k w0) else some 0) with
  | none => .inr (61, ln, (ops.getD k w0).2.2)
  | some x =>
   match countM ln name ops (k + 1) with
   | some f => .inr f
   | none => .inl ⟨st.ws ++ layM what x, st.labs, st.lat ++ latM what st.ws.length ln (ops.getD k w0)⟩
def liM (ln : Nat) (name : W) (ops : List W) (st : Asm) : Asm ⊕ Flt :=
 match roomM ln name st 2 with
 | some f => .inr f
 | none =>
  match ops with
  | [] => fixedM ln name 1 ops (.li 0) 2 st
  | w :: _ => match regF w with
   | none => .inr (61, ln, w.2.2)
   | some a => fixedM ln name 1 ops (.li a) 2 st
def zeroN (w : W) : Option Nat := if w.2.1 = true then none else match numF w.1.data.toList with | some v => if v ≤ 2048 then some v else none | none => none
def zeroM (ln : Nat) (name : W) (ops : List W) (st : Asm) : Asm ⊕ Flt :=
 match (match ops with | [] => some 0 | w :: _ => zeroN w) with
 | none => .inr (61, ln, (ops.getD 0 w0).2.2)
 | some n =>
  match countM ln name ops 1 with
  | some f => .inr f
  | none =>
   match roomM ln name st n with
   | some f => .inr f
   | none => .inl ⟨st.ws ++ List.replicate n 0, st.labs, st.lat⟩
def stmtM (ln : Nat) (name : W) (ops : List W) (st : Asm) : Asm ⊕ Flt :=
 if name.2.1 = true then .inr (60, ln, name.2.2)
 else match namedF name.1 with
  | some op => instrM ln name op ops st
  | none =>
   if name.1.data.toList = [119, 111, 114, 100] then fixedM ln name 0 ops .word 1 st
   else if name.1.data.toList = [108, 105] then liM ln name ops st
   else if name.1.data.toList = [122, 101, 114, 111] then zeroM ln name ops st
   else .inr (60, ln, name.2.2)
def findL (L : List (ByteArray × Nat)) (s : ByteArray) : Option Nat := (L.find? fun p => p.1.data.toList == s.data.toList).map (·.2)
/-- a line's words -/
def takeM (ln : Nat) : List W → Asm → Asm ⊕ Flt
 | [], st => .inl st
 | w :: ws, st =>
  if w.2.1 = false ∧ colonEnd w.1 = true then
   if nameF (cutC w.1) = false then .inr (60, ln, w.2.2)
   else if (findL st.labs (cutC w.1)).isSome = true then .inr (63, ln, w.2.2)
   else takeM ln ws ⟨st.ws, st.labs ++ [(cutC w.1, st.ws.length)], st.lat⟩
  else stmtM ln w ws st
def lineM (ln : Nat) (l : ByteArray) (st : Asm) : Asm ⊕ Flt :=
 match wordsF l with
 | .inr c => .inr (40, ln, c)
 | .inl ws => takeM ln ws st
def linesM : Nat → List ByteArray → Asm → Asm ⊕ Flt
 | _, [], st => .inl st
 | ln, l :: L, st => match lineM ln l st with | .inr f => .inr f | .inl st => linesM (ln + 1) L st
/-- words laid from a place on -/
def putL (ws : List Int) (p : Nat) (l : List Int) : List Int := ws.take p ++ l ++ ws.drop (p + l.length)
/-- one that waits, at a base, with all labels -/
def laterM (base : Int) (labs : List (ByteArray × Nat)) (x : Lat) (ws : List Int) : (List Int) ⊕ Flt :=
 match findL labs x.nm with
 | none => .inr (64, x.line, x.col)
 | some p =>
  match x.what with
  | .jmp i => if (p : Int) - x.place - 1 < -32768 ∨ 32767 < (p : Int) - x.place - 1 then .inr (65, x.line, x.col) else .inl (putL ws x.place [encF { i with imm := (p : Int) - x.place - 1 }])
  | t => .inl (putL ws x.place (layM t ((base + 4 * (p : Int)) % 4294967296)))
def latersM (base : Int) (labs : List (ByteArray × Nat)) : List Lat → List Int → (List Int) ⊕ Flt
 | [], ws => .inl ws
 | x :: L, ws => match laterM base labs x ws with | .inr f => .inr f | .inl ws => latersM base labs L ws
/-- the whole text: its words and its labels -/
def readM (base : Int) (s : ByteArray) : (List Int × List (ByteArray × Nat)) ⊕ Flt :=
 if 65536 < s.size then .inr (2, 0, 0)
 else match linesM 1 (linesF s) asm0 with
  | .inr f => .inr f
  | .inl st => match latersM base st.labs st.lat st.ws with
   | .inr f => .inr f
   | .inl ws => .inl (ws, st.labs)
end Go.Proofs.YtiknookfnameiaaGreatDoor

namespace Go.Proofs.YtiknookfnameiaaGreatDoor
open WP
def u32 (x : Int) : Prop := 0 ≤ x ∧ x < 4294967296
def Wht.size : Wht → Nat
 | .li _ => 2
 | _ => 1
theorem layM_len (t : Wht) (x : Int) : (layM t x).length = t.size := by cases t <;> rfl
/-- what is held of the state -/
structure AOk (st : Asm) : Prop where
 len : st.ws.length ≤ 2048
 lat : ∀ x ∈ st.lat, x.place + x.what.size ≤ st.ws.length
 labs : ∀ p ∈ st.labs, p.2 ≤ st.ws.length
theorem asm0_ok : AOk asm0 := ⟨by simp [asm0], by simp [asm0], by simp [asm0]⟩
theorem room_no {ln : Nat} {name : W} {st : Asm} {n : Nat} (h : roomM ln name st n = none) : st.ws.length + n ≤ 2048 := by
 unfold roomM at h; split at h
 ·cases h
 ·omega
theorem AOk.more {st : Asm} (h : AOk st) (l : List Int) (L : List Lat) (hl : st.ws.length + l.length ≤ 2048) (hL : ∀ x ∈ L, x.place = st.ws.length ∧ x.what.size ≤ l.length) : AOk ⟨st.ws ++ l, st.labs, st.lat ++ L⟩ := by
 refine ⟨by simpa using hl, ?_, ?_⟩
 ·intro x hx
  rcases List.mem_append.1 hx with hx | hx
  ·have := h.lat x hx; simp; omega
  ·have := hL x hx; simp; omega
 ·intro p hp
  have := h.labs p hp; simp; omega
theorem latM_mem {t : Wht} {p ln : Nat} {w : W} {x : Lat} (h : x ∈ latM t p ln w) : x = ⟨t, p, w.1, ln, w.2.2⟩ := by
 unfold latM at h; split at h
 ·simpa using h
 ·simp at h
theorem instr_ok {ln : Nat} {name : W} {op : Nat} {ops : List W} {st st' : Asm} (h : AOk st) (he : instrM ln name op ops st = .inl st') : AOk st' := by
 unfold instrM at he
 split at he
 ·cases he
 rename_i hr
 split at he
 ·cases he
 split at he
 ·cases he
 cases he
 refine h.more _ _ (by have := room_no hr; simpa using this) ?_
 intro x hx
 split at hx
 ·simp at hx
 ·rw [latM_mem hx]; exact ⟨rfl, by simp [Wht.size]⟩
theorem fixed_ok {ln : Nat} {name : W} {k n : Nat} {ops : List W} {t : Wht} {st st' : Asm} (h : AOk st) (hn : t.size = n) (he : fixedM ln name k ops t n st = .inl st') : AOk st' := by
 unfold fixedM at he
 split at he
 ·cases he
 rename_i hr
 split at he
 ·cases he
 split at he
 ·cases he
 cases he
 refine h.more _ _ (by have := room_no hr; rw [layM_len]; omega) ?_
 intro x hx
 rw [latM_mem hx]; exact ⟨rfl, by rw [layM_len]; exact Nat.le_refl _⟩
theorem li_ok {ln : Nat} {name : W} {ops : List W} {st st' : Asm} (h : AOk st) (he : liM ln name ops st = .inl st') : AOk st' := by
 unfold liM at he
 split at he
 ·cases he
 split at he
 ·exact fixed_ok h rfl he
 ·split at he
  ·cases he
  ·exact fixed_ok h rfl he
theorem zero_ok {ln : Nat} {name : W} {ops : List W} {st st' : Asm} (h : AOk st) (he : zeroM ln name ops st = .inl st') : AOk st' := by
 unfold zeroM at he
 split at he
 ·cases he
 split at he
 ·cases he
 split at he
 ·cases he
 rename_i hr
 cases he
 have := h.more (List.replicate _ 0) [] (by have := room_no hr; rw [List.length_replicate]; exact this) (by simp)
 simpa using this
theorem stmt_ok {ln : Nat} {name : W} {ops : List W} {st st' : Asm} (h : AOk st) (he : stmtM ln name ops st = .inl st') : AOk st' := by
 unfold stmtM at he
 split at he
 ·cases he
 split at he
 ·exact instr_ok h he
 split at he
 ·exact fixed_ok h rfl he
 split at he
 ·exact li_ok h he
 split at he
 ·exact zero_ok h he
 ·cases he
theorem take_ok {ln : Nat} : ∀ (ws : List W) {st st' : Asm}, AOk st → takeM ln ws st = .inl st' → AOk st'
 | [], st, st', h, he => by unfold takeM at he; cases he; exact h
 | w :: ws, st, st', h, he => by
  unfold takeM at he
  split at he
  ·split at he
   ·cases he
   split at he
   ·cases he
   ·refine take_ok (st := ⟨st.ws, st.labs ++ [(cutC w.1, st.ws.length)], st.lat⟩) ws ⟨h.len, h.lat, ?_⟩ he
    intro p hp
    rcases List.mem_append.1 hp with hp | hp
    ·exact h.labs p hp
    ·simp only [List.mem_singleton] at hp; rw [hp]; exact Nat.le_refl _
  ·exact stmt_ok h he
theorem line_ok {ln : Nat} {l : ByteArray} {st st' : Asm} (h : AOk st) (he : lineM ln l st = .inl st') : AOk st' := by
 unfold lineM at he
 split at he
 ·cases he
 ·exact take_ok _ h he
theorem putL_len (ws : List Int) (p : Nat) (l : List Int) (h : p + l.length ≤ ws.length) : (putL ws p l).length = ws.length := by
 unfold putL; simp; omega
theorem later_len {base : Int} {labs : List (ByteArray × Nat)} {x : Lat} {ws ws' : List Int} (h : x.place + x.what.size ≤ ws.length) (he : laterM base labs x ws = .inl ws') : ws'.length = ws.length := by
 unfold laterM at he
 split at he
 ·cases he
 split at he
 ·rename_i hw
  rw [hw] at h
  split at he
  ·cases he
  ·cases he; exact putL_len _ _ _ h
 ·cases he; exact putL_len _ _ _ (by rw [layM_len]; exact h)
theorem laters_len {base : Int} {labs : List (ByteArray × Nat)} : ∀ (L : List Lat) {ws ws' : List Int}, (∀ x ∈ L, x.place + x.what.size ≤ ws.length) → latersM base labs L ws = .inl ws' → ws'.length = ws.length
 | [], ws, ws', _, he => by unfold latersM at he; cases he; rfl
 | x :: L, ws, ws', h, he => by
  unfold latersM at he
  split at he
  ·cases he
  ·rename_i ws1 h1
   have e := later_len (h x (by simp)) h1
   rw [laters_len L (fun y hy => by rw [e]; exact h y (by simp [hy])) he, e]
/-- two outcomes of equal kind -/
def Like (a b : (List Int) ⊕ Flt) : Prop := (∃ x y, a = .inl x ∧ b = .inl y ∧ x.length = y.length) ∨ (∃ f, a = .inr f ∧ b = .inr f)
/-- lines ahead -/
def shL (d : Nat) (x : Lat) : Lat := { x with line := x.line + d }
def sh (d : Nat) (st : Asm) : Asm := ⟨st.ws, st.labs, st.lat.map (shL d)⟩
def shF (d : Nat) (f : Flt) : Flt := (f.1, f.2.1 + d, f.2.2)
def shR (d : Nat) : Asm ⊕ Flt → Asm ⊕ Flt
 | .inl st => .inl (sh d st)
 | .inr f => .inr (shF d f)
def shW (d : Nat) : (List Int) ⊕ Flt → (List Int) ⊕ Flt
 | .inl ws => .inl ws
 | .inr f => .inr (shF d f)
end Go.Proofs.YtiknookfnameiaaGreatDoor

namespace Go.Proofs.YtiknookfnameiaaGreatDoor
open Go.RowKit WP
def vs (l : List ByteArray) : List Value := l.map Value.string
end Go.Proofs.YtiknookfnameiaaGreatDoor
