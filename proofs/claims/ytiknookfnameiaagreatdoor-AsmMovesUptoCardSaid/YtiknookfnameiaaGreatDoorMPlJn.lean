/- Assembling as a plain function: a text's lines, words, labels, statements; what waits for the labels; the words. No program in sight. -/
import Derived.Test.YtiknookfnameiaaGreatDoorJn06
import Derived.Test.YtiknookfnameiaaGreatDoorTWdPJn
import Derived.Test.YtiknookfnameiaaGreatDoorJn10
import Derived.Test.YtiknookfnameiaaGreatDoorJn11
import Derived.Test.YtiknookfnameiaaGreatDoorTNuEJn
namespace Go.Proofs.YtiknookfnameiaaGreatDoor
open WP
/-- a fault: the error, the line, the column -/
abbrev Flt := Int × Nat × Nat
/-- what waits for a label: a word that is its address, a load of it into a register, a jump to it -/
inductive Wht where
  | word
  | li (a : Int)
  | jmp (i : Ins)
structure Lat where
  what : Wht
  place : Nat
  nm : ByteArray
  line : Nat
  col : Nat
structure Asm where
  ws : List Int
  labs : List (ByteArray × Nat)
  lat : List Lat
def asm0 : Asm := ⟨[], [], []⟩
def encF (i : Ins) : Int := if checkI i = 0 then wordI i else 0
def colonEnd (s : ByteArray) : Bool := decide (s.data.toList.getLast? = some 58)
def cutC (s : ByteArray) : ByteArray := s.extract 0 (s.size - 1)
/-- the first of a table's rows, from one on, that is this text -/
def findT (T : List (List UInt8)) (s : List UInt8) : Nat → Nat → Option Nat
  | 0, _ => none
  | f + 1, k => if T.getD k [] = s then some k else findT T s f (k + 1)
def namedF (s : ByteArray) : Option Nat := findT nameT s.data.toList 24 1
def condF (s : ByteArray) : Option Nat := findT condT s.data.toList 7 0
/-- r0 to r14 -/
def regA (s : List UInt8) : Nat → Nat → Option Nat
  | 0, _ => none
  | f + 1, k => if s = 114 :: Lib.decDigits k then some k else regA s f (k + 1)
def regF (w : W) : Option Nat := if w.2.1 = true then none else regA w.1.data.toList 15 0
def isNameF (w : W) : Bool := !w.2.1 && nameF w.1
def sgnIn (s : ByteArray) : Option Int := match sgnF s.data.toList with | some v => if -32768 ≤ v ∧ v ≤ 32767 then some v else none | none => none
/-- one operand of an instruction, by its letter -/
def fieldM (i : Ins) (c : UInt8) (w : W) : Option Ins :=
  if w.2.1 = true then none
  else if c = 97 then (regF w).map fun n => { i with a := n }
  else if c = 98 then (regF w).map fun n => { i with b := n }
  else if c = 99 then (regF w).map fun n => { i with c := n }
  else if c = 117 then (match numF w.1.data.toList with | some v => if v ≤ 65535 then some { i with imm := v } else none | none => none)
  else if c = 107 then (condF w.1).map fun n => { i with k := n }
  else if c = 111 ∧ nameF w.1 = true then some i
  else (sgnIn w.1).map fun v => { i with imm := v }
/-- all of them; or the column of the first that is none -/
def fieldsM : List UInt8 → List W → Ins → Ins ⊕ Nat
  | [], _, i => .inl i
  | _ :: _, [], i => .inl i
  | c :: cs, w :: ws, i => match fieldM i c w with | none => .inr w.2.2 | some j => fieldsM cs ws j
/-- as many operands as that? -/
def countM (ln : Nat) (name : W) (ops : List W) (n : Nat) : Option Flt :=
  if ops.length < n then some (62, ln, name.2.2)
  else if n < ops.length then some (62, ln, (ops.getD n (⟨#[]⟩, false, 0)).2.2) else none
def roomM (ln : Nat) (name : W) (st : Asm) (n : Nat) : Option Flt := if 2048 < st.ws.length + n then some (66, ln, name.2.2) else none
/-- what waits for the label of the operand k, if it is one -/
def latM (what : Wht) (place ln : Nat) (w : W) : List Lat := if isNameF w = true then [⟨what, place, w.1, ln, w.2.2⟩] else []
def oAt (s : List UInt8) : Option Nat := if s.contains 111 then some (s.idxOf 111) else none
def w0 : W := (⟨#[]⟩, false, 0)
def instrM (ln : Nat) (name : W) (op : Nat) (ops : List W) (st : Asm) : Asm ⊕ Flt :=
  match roomM ln name st 1 with
  | some f => .inr f
  | none =>
    match fieldsM (shapeI op) ops { ins0 with op := op } with
    | .inr c => .inr (61, ln, c)
    | .inl i =>
      match countM ln name ops (shapeI op).length with
      | some f => .inr f
      | none => .inl ⟨st.ws ++ [encF i], st.labs, st.lat ++ (match oAt (shapeI op) with | none => [] | some k => latM (.jmp i) st.ws.length ln (ops.getD k w0))⟩
/-- the word that an operand is -/
def numberM (w : W) : Option Int :=
  if w.2.1 = true then none
  else match numF w.1.data.toList with
    | some v => some v
    | none => (sgnF w.1.data.toList).map fun v => v % 4294967296
def movI (op : Int) (a x : Int) : Ins := { ins0 with op := op, a := a, imm := x }
/-- what a fixed statement lays -/
def layM (what : Wht) (x : Int) : List Int :=
  match what with
  | .word => [x]
  | .li a => [encF (movI 1 a (x % 65536)), encF (movI 2 a (x / 65536))]
  | .jmp i => [encF i]
def fixedM (ln : Nat) (name : W) (k : Nat) (ops : List W) (what : Wht) (n : Nat) (st : Asm) : Asm ⊕ Flt :=
  match roomM ln name st n with
  | some f => .inr f
  | none =>
    match (if k < ops.length ∧ isNameF (ops.getD k w0) = false then numberM (ops.getD k w0) else some 0) with
    | none => .inr (61, ln, (ops.getD k w0).2.2)
    | some x =>
      match countM ln name ops (k + 1) with
      | some f => .inr f
      | none => .inl ⟨st.ws ++ layM what x, st.labs, st.lat ++ latM what st.ws.length ln (ops.getD k w0)⟩
def liM (ln : Nat) (name : W) (ops : List W) (st : Asm) : Asm ⊕ Flt :=
  match roomM ln name st 2 with
  | some f => .inr f
  | none =>
    match ops with
    | [] => fixedM ln name 1 ops (.li 0) 2 st
    | w :: _ => match regF w with
      | none => .inr (61, ln, w.2.2)
      | some a => fixedM ln name 1 ops (.li a) 2 st
def zeroN (w : W) : Option Nat := if w.2.1 = true then none else match numF w.1.data.toList with | some v => if v ≤ 2048 then some v else none | none => none
def zeroM (ln : Nat) (name : W) (ops : List W) (st : Asm) : Asm ⊕ Flt :=
  match (match ops with | [] => some 0 | w :: _ => zeroN w) with
  | none => .inr (61, ln, (ops.getD 0 w0).2.2)
  | some n =>
    match countM ln name ops 1 with
    | some f => .inr f
    | none =>
      match roomM ln name st n with
      | some f => .inr f
      | none => .inl ⟨st.ws ++ List.replicate n 0, st.labs, st.lat⟩
def stmtM (ln : Nat) (name : W) (ops : List W) (st : Asm) : Asm ⊕ Flt :=
  if name.2.1 = true then .inr (60, ln, name.2.2)
  else match namedF name.1 with
    | some op => instrM ln name op ops st
    | none =>
      if name.1.data.toList = [119, 111, 114, 100] then fixedM ln name 0 ops .word 1 st
      else if name.1.data.toList = [108, 105] then liM ln name ops st
      else if name.1.data.toList = [122, 101, 114, 111] then zeroM ln name ops st
      else .inr (60, ln, name.2.2)
def findL (L : List (ByteArray × Nat)) (s : ByteArray) : Option Nat := (L.find? fun p => p.1.data.toList == s.data.toList).map (·.2)
/-- a line's words -/
def takeM (ln : Nat) : List W → Asm → Asm ⊕ Flt
  | [], st => .inl st
  | w :: ws, st =>
    if w.2.1 = false ∧ colonEnd w.1 = true then
      if nameF (cutC w.1) = false then .inr (60, ln, w.2.2)
      else if (findL st.labs (cutC w.1)).isSome = true then .inr (63, ln, w.2.2)
      else takeM ln ws ⟨st.ws, st.labs ++ [(cutC w.1, st.ws.length)], st.lat⟩
    else stmtM ln w ws st
def lineM (ln : Nat) (l : ByteArray) (st : Asm) : Asm ⊕ Flt :=
  match wordsF l with
  | .inr c => .inr (40, ln, c)
  | .inl ws => takeM ln ws st
def linesM : Nat → List ByteArray → Asm → Asm ⊕ Flt
  | _, [], st => .inl st
  | ln, l :: L, st => match lineM ln l st with | .inr f => .inr f | .inl st => linesM (ln + 1) L st
/-- words laid from a place on -/
def putL (ws : List Int) (p : Nat) (l : List Int) : List Int := ws.take p ++ l ++ ws.drop (p + l.length)
/-- one that waits, at a base, with all labels -/
def laterM (base : Int) (labs : List (ByteArray × Nat)) (x : Lat) (ws : List Int) : (List Int) ⊕ Flt :=
  match findL labs x.nm with
  | none => .inr (64, x.line, x.col)
  | some p =>
    match x.what with
    | .jmp i => if (p : Int) - x.place - 1 < -32768 ∨ 32767 < (p : Int) - x.place - 1 then .inr (65, x.line, x.col) else .inl (putL ws x.place [encF { i with imm := (p : Int) - x.place - 1 }])
    | t => .inl (putL ws x.place (layM t ((base + 4 * (p : Int)) % 4294967296)))
def latersM (base : Int) (labs : List (ByteArray × Nat)) : List Lat → List Int → (List Int) ⊕ Flt
  | [], ws => .inl ws
  | x :: L, ws => match laterM base labs x ws with | .inr f => .inr f | .inl ws => latersM base labs L ws
/-- the whole text: its words and its labels -/
def readM (base : Int) (s : ByteArray) : (List Int × List (ByteArray × Nat)) ⊕ Flt :=
  if 65536 < s.size then .inr (2, 0, 0)
  else match linesM 1 (linesF s) asm0 with
    | .inr f => .inr f
    | .inl st => match latersM base st.labs st.lat st.ws with
      | .inr f => .inr f
      | .inl ws => .inl (ws, st.labs)
end Go.Proofs.YtiknookfnameiaaGreatDoor
