/- Assembling as a plain function: a text's lines, words, labels, statements; what waits for the labels; the words. No program in sight. Plain laws of assembling: what is held of the state; a base moves addresses alone; lines ahead move the fault's line alone. No program in sight. Small laws on rows of one's own. -/
import Derived.Test.YtiknookfnameiaaGreatDoorJn04
import Derived.Test.YtiknookfnameiaaGreatDoorTWdPJn
import Derived.Test.YtiknookfnameiaaGreatDoorJn07
import Derived.Test.YtiknookfnameiaaGreatDoorJn08
import Derived.Test.YtiknookfnameiaaGreatDoorTNuEJn
namespace Go.Proofs.YtiknookfnameiaaGreatDoor
open WP
/-- a fault: the error, the line, the column -/
abbrev Flt := Int × Nat × Nat
/-- what waits for a label: a word that is its address, a load of it into a register, a jump to it -/
inductive Wht where
  | word
  | li (a : Int)
  | jmp (i : Ins)
structure Lat where
  what : Wht
  place : Nat
  nm : ByteArray
  line : Nat
  col : Nat
structure Asm where
  ws : List Int
  labs : List (ByteArray × Nat)
  lat : List Lat
def asm0 : Asm := ⟨[], [], []⟩
def encF (i : Ins) : Int := if checkI i = 0 then wordI i else 0
def colonEnd (s : ByteArray) : Bool := decide (s.data.toList.getLast? = some 58)
def cutC (s : ByteArray) : ByteArray := s.extract 0 (s.size - 1)
/-- the first of a table's rows, from one on, that is this text -/
def findT (T : List (List UInt8)) (s : List UInt8) : Nat → Nat → Option Nat
  | 0, _ => none
  | f + 1, k => if T.getD k [] = s then some k else findT T s f (k + 1)
def namedF (s : ByteArray) : Option Nat := findT nameT s.data.toList 24 1
def condF (s : ByteArray) : Option Nat := findT condT s.data.toList 7 0
/-- r0 to r14 -/
def regA (s : List UInt8) : Nat → Nat → Option Nat
  | 0, _ => none
  | f + 1, k => if s = 114 :: Lib.decDigits k then some k else regA s f (k + 1)
def regF (w : W) : Option Nat := if w.2.1 = true then none else regA w.1.data.toList 15 0
def isNameF (w : W) : Bool := !w.2.1 && nameF w.1
def sgnIn (s : ByteArray) : Option Int := match sgnF s.data.toList with | some v => if -32768 ≤ v ∧ v ≤ 32767 then some v else none | none => none
/-- one operand of an instruction, by its letter -/
def fieldM (i : Ins) (c : UInt8) (w : W) : Option Ins :=
  if w.2.1 = true then none
  else if c = 97 then (regF w).map fun n => { i with a := n }
  else if c = 98 then (regF w).map fun n => { i with b := n }
  else if c = 99 then (regF w).map fun n => { i with c := n }
  else if c = 117 then (match numF w.1.data.toList with | some v => if v ≤ 65535 then some { i with imm := v } else none | none => none)
  else if c = 107 then (condF w.1).map fun n => { i with k := n }
  else if c = 111 ∧ nameF w.1 = true then some i
  else (sgnIn w.1).map fun v => { i with imm := v }
/-- all of them; or the column of the first that is none -/
def fieldsM : List UInt8 → List W → Ins → Ins ⊕ Nat
  | [], _, i => .inl i
  | _ :: _, [], i => .inl i
  | c :: cs, w :: ws, i => match fieldM i c w with | none => .inr w.2.2 | some j => fieldsM cs ws j
/-- as many operands as that? -/
def countM (ln : Nat) (name : W) (ops : List W) (n : Nat) : Option Flt :=
  if ops.length < n then some (62, ln, name.2.2)
  else if n < ops.length then some (62, ln, (ops.getD n (⟨#[]⟩, false, 0)).2.2) else none
def roomM (ln : Nat) (name : W) (st : Asm) (n : Nat) : Option Flt := if 2048 < st.ws.length + n then some (66, ln, name.2.2) else none
/-- what waits for the label of the operand k, if it is one -/
def latM (what : Wht) (place ln : Nat) (w : W) : List Lat := if isNameF w = true then [⟨what, place, w.1, ln, w.2.2⟩] else []
def oAt (s : List UInt8) : Option Nat := if s.contains 111 then some (s.idxOf 111) else none
def w0 : W := (⟨#[]⟩, false, 0)
def instrM (ln : Nat) (name : W) (op : Nat) (ops : List W) (st : Asm) : Asm ⊕ Flt :=
  match roomM ln name st 1 with
  | some f => .inr f
  | none =>
    match fieldsM (shapeI op) ops { ins0 with op := op } with
    | .inr c => .inr (61, ln, c)
    | .inl i =>
      match countM ln name ops (shapeI op).length with
      | some f => .inr f
      | none => .inl ⟨st.ws ++ [encF i], st.labs, st.lat ++ (match oAt (shapeI op) with | none => [] | some k => latM (.jmp i) st.ws.length ln (ops.getD k w0))⟩
/-- the word that an operand is -/
def numberM (w : W) : Option Int :=
  if w.2.1 = true then none
  else match numF w.1.data.toList with
    | some v => some v
    | none => (sgnF w.1.data.toList).map fun v => v % 4294967296
def movI (op : Int) (a x : Int) : Ins := { ins0 with op := op, a := a, imm := x }
/-- what a fixed statement lays -/
def layM (what : Wht) (x : Int) : List Int :=
  match what with
  | .word => [x]
  | .li a => [encF (movI 1 a (x % 65536)), encF (movI 2 a (x / 65536))]
  | .jmp i => [encF i]
def fixedM (ln : Nat) (name : W) (k : Nat) (ops : List W) (what : Wht) (n : Nat) (st : Asm) : Asm ⊕ Flt :=
  match roomM ln name st n with
  | some f => .inr f
  | none =>
    match (if k < ops.length ∧ isNameF (ops.getD k w0) = false then numberM (ops.getD k w0) else some 0) with
    | none => .inr (61, ln, (ops.getD k w0).2.2)
    | some x =>
      match countM ln name ops (k + 1) with
      | some f => .inr f
      | none => .inl ⟨st.ws ++ layM what x, st.labs, st.lat ++ latM what st.ws.length ln (ops.getD k w0)⟩
def liM (ln : Nat) (name : W) (ops : List W) (st : Asm) : Asm ⊕ Flt :=
  match roomM ln name st 2 with
  | some f => .inr f
  | none =>
    match ops with
    | [] => fixedM ln name 1 ops (.li 0) 2 st
    | w :: _ => match regF w with
      | none => .inr (61, ln, w.2.2)
      | some a => fixedM ln name 1 ops (.li a) 2 st
def zeroN (w : W) : Option Nat := if w.2.1 = true then none else match numF w.1.data.toList with | some v => if v ≤ 2048 then some v else none | none => none
def zeroM (ln : Nat) (name : W) (ops : List W) (st : Asm) : Asm ⊕ Flt :=
  match (match ops with | [] => some 0 | w :: _ => zeroN w) with
  | none => .inr (61, ln, (ops.getD 0 w0).2.2)
  | some n =>
    match countM ln name ops 1 with
    | some f => .inr f
    | none =>
      match roomM ln name st n with
      | some f => .inr f
      | none => .inl ⟨st.ws ++ List.replicate n 0, st.labs, st.lat⟩
def stmtM (ln : Nat) (name : W) (ops : List W) (st : Asm) : Asm ⊕ Flt :=
  if name.2.1 = true then .inr (60, ln, name.2.2)
  else match namedF name.1 with
    | some op => instrM ln name op ops st
    | none =>
      if name.1.data.toList = [119, 111, 114, 100] then fixedM ln name 0 ops .word 1 st
      else if name.1.data.toList = [108, 105] then liM ln name ops st
      else if name.1.data.toList = [122, 101, 114, 111] then zeroM ln name ops st
      else .inr (60, ln, name.2.2)
def findL (L : List (ByteArray × Nat)) (s : ByteArray) : Option Nat := (L.find? fun p => p.1.data.toList == s.data.toList).map (·.2)
/-- a line's words -/
def takeM (ln : Nat) : List W → Asm → Asm ⊕ Flt
  | [], st => .inl st
  | w :: ws, st =>
    if w.2.1 = false ∧ colonEnd w.1 = true then
      if nameF (cutC w.1) = false then .inr (60, ln, w.2.2)
      else if (findL st.labs (cutC w.1)).isSome = true then .inr (63, ln, w.2.2)
      else takeM ln ws ⟨st.ws, st.labs ++ [(cutC w.1, st.ws.length)], st.lat⟩
    else stmtM ln w ws st
def lineM (ln : Nat) (l : ByteArray) (st : Asm) : Asm ⊕ Flt :=
  match wordsF l with
  | .inr c => .inr (40, ln, c)
  | .inl ws => takeM ln ws st
def linesM : Nat → List ByteArray → Asm → Asm ⊕ Flt
  | _, [], st => .inl st
  | ln, l :: L, st => match lineM ln l st with | .inr f => .inr f | .inl st => linesM (ln + 1) L st
/-- words laid from a place on -/
def putL (ws : List Int) (p : Nat) (l : List Int) : List Int := ws.take p ++ l ++ ws.drop (p + l.length)
/-- one that waits, at a base, with all labels -/
def laterM (base : Int) (labs : List (ByteArray × Nat)) (x : Lat) (ws : List Int) : (List Int) ⊕ Flt :=
  match findL labs x.nm with
  | none => .inr (64, x.line, x.col)
  | some p =>
    match x.what with
    | .jmp i => if (p : Int) - x.place - 1 < -32768 ∨ 32767 < (p : Int) - x.place - 1 then .inr (65, x.line, x.col) else .inl (putL ws x.place [encF { i with imm := (p : Int) - x.place - 1 }])
    | t => .inl (putL ws x.place (layM t ((base + 4 * (p : Int)) % 4294967296)))
def latersM (base : Int) (labs : List (ByteArray × Nat)) : List Lat → List Int → (List Int) ⊕ Flt
  | [], ws => .inl ws
  | x :: L, ws => match laterM base labs x ws with | .inr f => .inr f | .inl ws => latersM base labs L ws
/-- the whole text: its words and its labels -/
def readM (base : Int) (s : ByteArray) : (List Int × List (ByteArray × Nat)) ⊕ Flt :=
  if 65536 < s.size then .inr (2, 0, 0)
  else match linesM 1 (linesF s) asm0 with
    | .inr f => .inr f
    | .inl st => match latersM base st.labs st.lat st.ws with
      | .inr f => .inr f
      | .inl ws => .inl (ws, st.labs)
end Go.Proofs.YtiknookfnameiaaGreatDoor

namespace Go.Proofs.YtiknookfnameiaaGreatDoor
open WP
def u32 (x : Int) : Prop := 0 ≤ x ∧ x < 4294967296
def Wht.size : Wht → Nat
  | .li _ => 2
  | _ => 1
theorem layM_len (t : Wht) (x : Int) : (layM t x).length = t.size := by cases t <;> rfl
/-- what is held of the state -/
structure AOk (st : Asm) : Prop where
  len : st.ws.length ≤ 2048
  lat : ∀ x ∈ st.lat, x.place + x.what.size ≤ st.ws.length
  labs : ∀ p ∈ st.labs, p.2 ≤ st.ws.length
theorem asm0_ok : AOk asm0 := ⟨by simp [asm0], by simp [asm0], by simp [asm0]⟩
theorem room_no {ln : Nat} {name : W} {st : Asm} {n : Nat} (h : roomM ln name st n = none) : st.ws.length + n ≤ 2048 := by
  unfold roomM at h; split at h
  · cases h
  · omega
theorem AOk.more {st : Asm} (h : AOk st) (l : List Int) (L : List Lat) (hl : st.ws.length + l.length ≤ 2048) (hL : ∀ x ∈ L, x.place = st.ws.length ∧ x.what.size ≤ l.length) : AOk ⟨st.ws ++ l, st.labs, st.lat ++ L⟩ := by
  refine ⟨by simpa using hl, ?_, ?_⟩
  · intro x hx
    rcases List.mem_append.1 hx with hx | hx
    · have := h.lat x hx; simp; omega
    · have := hL x hx; simp; omega
  · intro p hp
    have := h.labs p hp; simp; omega
theorem latM_mem {t : Wht} {p ln : Nat} {w : W} {x : Lat} (h : x ∈ latM t p ln w) : x = ⟨t, p, w.1, ln, w.2.2⟩ := by
  unfold latM at h; split at h
  · simpa using h
  · simp at h
theorem instr_ok {ln : Nat} {name : W} {op : Nat} {ops : List W} {st st' : Asm} (h : AOk st) (he : instrM ln name op ops st = .inl st') : AOk st' := by
  unfold instrM at he
  split at he
  · cases he
  rename_i hr
  split at he
  · cases he
  split at he
  · cases he
  cases he
  refine h.more _ _ (by have := room_no hr; simpa using this) ?_
  intro x hx
  split at hx
  · simp at hx
  · rw [latM_mem hx]; exact ⟨rfl, by simp [Wht.size]⟩
theorem fixed_ok {ln : Nat} {name : W} {k n : Nat} {ops : List W} {t : Wht} {st st' : Asm} (h : AOk st) (hn : t.size = n) (he : fixedM ln name k ops t n st = .inl st') : AOk st' := by
  unfold fixedM at he
  split at he
  · cases he
  rename_i hr
  split at he
  · cases he
  split at he
  · cases he
  cases he
  refine h.more _ _ (by have := room_no hr; rw [layM_len]; omega) ?_
  intro x hx
  rw [latM_mem hx]; exact ⟨rfl, by rw [layM_len]; exact Nat.le_refl _⟩
theorem li_ok {ln : Nat} {name : W} {ops : List W} {st st' : Asm} (h : AOk st) (he : liM ln name ops st = .inl st') : AOk st' := by
  unfold liM at he
  split at he
  · cases he
  split at he
  · exact fixed_ok h rfl he
  · split at he
    · cases he
    · exact fixed_ok h rfl he
theorem zero_ok {ln : Nat} {name : W} {ops : List W} {st st' : Asm} (h : AOk st) (he : zeroM ln name ops st = .inl st') : AOk st' := by
  unfold zeroM at he
  split at he
  · cases he
  split at he
  · cases he
  split at he
  · cases he
  rename_i hr
  cases he
  have := h.more (List.replicate _ 0) [] (by have := room_no hr; rw [List.length_replicate]; exact this) (by simp)
  simpa using this
theorem stmt_ok {ln : Nat} {name : W} {ops : List W} {st st' : Asm} (h : AOk st) (he : stmtM ln name ops st = .inl st') : AOk st' := by
  unfold stmtM at he
  split at he
  · cases he
  split at he
  · exact instr_ok h he
  split at he
  · exact fixed_ok h rfl he
  split at he
  · exact li_ok h he
  split at he
  · exact zero_ok h he
  · cases he
theorem take_ok {ln : Nat} : ∀ (ws : List W) {st st' : Asm}, AOk st → takeM ln ws st = .inl st' → AOk st'
  | [], st, st', h, he => by unfold takeM at he; cases he; exact h
  | w :: ws, st, st', h, he => by
    unfold takeM at he
    split at he
    · split at he
      · cases he
      split at he
      · cases he
      · refine take_ok (st := ⟨st.ws, st.labs ++ [(cutC w.1, st.ws.length)], st.lat⟩) ws ⟨h.len, h.lat, ?_⟩ he
        intro p hp
        rcases List.mem_append.1 hp with hp | hp
        · exact h.labs p hp
        · simp only [List.mem_singleton] at hp; rw [hp]; exact Nat.le_refl _
    · exact stmt_ok h he
theorem line_ok {ln : Nat} {l : ByteArray} {st st' : Asm} (h : AOk st) (he : lineM ln l st = .inl st') : AOk st' := by
  unfold lineM at he
  split at he
  · cases he
  · exact take_ok _ h he
theorem lines_ok : ∀ (L : List ByteArray) {ln : Nat} {st st' : Asm}, AOk st → linesM ln L st = .inl st' → AOk st'
  | [], ln, st, st', h, he => by unfold linesM at he; cases he; exact h
  | l :: L, ln, st, st', h, he => by
    unfold linesM at he
    split at he
    · cases he
    · rename_i h1; exact lines_ok L (line_ok h h1) he
theorem putL_len (ws : List Int) (p : Nat) (l : List Int) (h : p + l.length ≤ ws.length) : (putL ws p l).length = ws.length := by
  unfold putL; simp; omega
theorem later_len {base : Int} {labs : List (ByteArray × Nat)} {x : Lat} {ws ws' : List Int} (h : x.place + x.what.size ≤ ws.length) (he : laterM base labs x ws = .inl ws') : ws'.length = ws.length := by
  unfold laterM at he
  split at he
  · cases he
  split at he
  · rename_i hw
    rw [hw] at h
    split at he
    · cases he
    · cases he; exact putL_len _ _ _ h
  · cases he; exact putL_len _ _ _ (by rw [layM_len]; exact h)
theorem laters_len {base : Int} {labs : List (ByteArray × Nat)} : ∀ (L : List Lat) {ws ws' : List Int}, (∀ x ∈ L, x.place + x.what.size ≤ ws.length) → latersM base labs L ws = .inl ws' → ws'.length = ws.length
  | [], ws, ws', _, he => by unfold latersM at he; cases he; rfl
  | x :: L, ws, ws', h, he => by
    unfold latersM at he
    split at he
    · cases he
    · rename_i ws1 h1
      have e := later_len (h x (by simp)) h1
      rw [laters_len L (fun y hy => by rw [e]; exact h y (by simp [hy])) he, e]
/-- two outcomes of equal kind -/
def Like (a b : (List Int) ⊕ Flt) : Prop := (∃ x y, a = .inl x ∧ b = .inl y ∧ x.length = y.length) ∨ (∃ f, a = .inr f ∧ b = .inr f)
theorem putL_like (a b : List Int) (p : Nat) (k l : List Int) (h : a.length = b.length) (hk : k.length = l.length) : (putL a p k).length = (putL b p l).length := by
  unfold putL; simp [h, hk]
theorem later_like (b1 b2 : Int) (labs : List (ByteArray × Nat)) (x : Lat) (a b : List Int) (h : a.length = b.length) : Like (laterM b1 labs x a) (laterM b2 labs x b) := by
  unfold laterM
  split
  · exact .inr ⟨_, rfl, rfl⟩
  split
  · split
    · exact .inr ⟨_, rfl, rfl⟩
    · exact .inl ⟨_, _, rfl, rfl, putL_like _ _ _ _ _ h rfl⟩
  · exact .inl ⟨_, _, rfl, rfl, putL_like _ _ _ _ _ h (by rw [layM_len, layM_len])⟩
theorem laters_like (b1 b2 : Int) (labs : List (ByteArray × Nat)) : ∀ (L : List Lat) (a b : List Int), a.length = b.length → Like (latersM b1 labs L a) (latersM b2 labs L b)
  | [], a, b, h => .inl ⟨_, _, rfl, rfl, h⟩
  | x :: L, a, b, h => by
    rcases later_like b1 b2 labs x a b h with ⟨p, q, e1, e2, hl⟩ | ⟨f, e1, e2⟩
    · rw [latersM, latersM, e1, e2]; exact laters_like b1 b2 labs L p q hl
    · rw [latersM, latersM, e1, e2]; exact .inr ⟨f, rfl, rfl⟩
/-- lines ahead -/
def shL (d : Nat) (x : Lat) : Lat := { x with line := x.line + d }
def sh (d : Nat) (st : Asm) : Asm := ⟨st.ws, st.labs, st.lat.map (shL d)⟩
def shF (d : Nat) (f : Flt) : Flt := (f.1, f.2.1 + d, f.2.2)
def shR (d : Nat) : Asm ⊕ Flt → Asm ⊕ Flt
  | .inl st => .inl (sh d st)
  | .inr f => .inr (shF d f)
theorem sh_lat (d : Nat) (t : Wht) (p ln : Nat) (w : W) : latM t p (ln + d) w = (latM t p ln w).map (shL d) := by
  unfold latM; split <;> rfl
theorem sh_count (d ln : Nat) (name : W) (ops : List W) (n : Nat) : countM (ln + d) name ops n = (countM ln name ops n).map (shF d) := by
  unfold countM; split
  · rfl
  split <;> rfl
theorem sh_room (d ln : Nat) (name : W) (st : Asm) (n : Nat) : roomM (ln + d) name (sh d st) n = (roomM ln name st n).map (shF d) := by
  unfold roomM sh; simp only; split <;> rfl
theorem sh_instr (d ln : Nat) (name : W) (op : Nat) (ops : List W) (st : Asm) : instrM (ln + d) name op ops (sh d st) = shR d (instrM ln name op ops st) := by
  unfold instrM
  rw [sh_room, sh_count]
  cases roomM ln name st 1 with
  | some f => rfl
  | none =>
    simp only [Option.map_none]
    cases fieldsM (shapeI op) ops { ins0 with op := op } with
    | inr c => rfl
    | inl i =>
      simp only
      cases countM ln name ops (shapeI op).length with
      | some f => rfl
      | none =>
        simp only [Option.map_none, shR, sh, List.map_append]
        congr 3
        split
        · rfl
        · exact sh_lat _ _ _ _ _
theorem sh_fixed (d ln : Nat) (name : W) (k : Nat) (ops : List W) (t : Wht) (n : Nat) (st : Asm) : fixedM (ln + d) name k ops t n (sh d st) = shR d (fixedM ln name k ops t n st) := by
  unfold fixedM
  rw [sh_room, sh_count]
  cases roomM ln name st n with
  | some f => rfl
  | none =>
    simp only [Option.map_none]
    split
    · rfl
    · cases countM ln name ops (k + 1) with
      | some f => rfl
      | none => simp only [Option.map_none, shR, sh, List.map_append, sh_lat]
theorem sh_li (d ln : Nat) (name : W) (ops : List W) (st : Asm) : liM (ln + d) name ops (sh d st) = shR d (liM ln name ops st) := by
  unfold liM
  rw [sh_room]
  cases roomM ln name st 2 with
  | some f => rfl
  | none =>
    simp only [Option.map_none]
    split
    · exact sh_fixed ..
    · split
      · rfl
      · exact sh_fixed ..
theorem sh_zero (d ln : Nat) (name : W) (ops : List W) (st : Asm) : zeroM (ln + d) name ops (sh d st) = shR d (zeroM ln name ops st) := by
  unfold zeroM
  rw [sh_count]
  split
  · rfl
  · cases countM ln name ops 1 with
    | some f => rfl
    | none =>
      simp only [Option.map_none]
      rw [sh_room]
      cases roomM ln name st _ with
      | some f => rfl
      | none => rfl
theorem sh_stmt (d ln : Nat) (name : W) (ops : List W) (st : Asm) : stmtM (ln + d) name ops (sh d st) = shR d (stmtM ln name ops st) := by
  unfold stmtM
  split
  · rfl
  split
  · exact sh_instr ..
  split
  · exact sh_fixed ..
  split
  · exact sh_li ..
  split
  · exact sh_zero ..
  · rfl
theorem sh_take (d ln : Nat) : ∀ (ws : List W) (st : Asm), takeM (ln + d) ws (sh d st) = shR d (takeM ln ws st)
  | [], st => rfl
  | w :: ws, st => by
    unfold takeM
    split
    · split
      · rfl
      split
      · rename_i h; rw [if_pos (by exact h)]; rfl
      · rename_i h; rw [if_neg (by exact h)]; exact sh_take d ln ws ⟨st.ws, st.labs ++ [(cutC w.1, st.ws.length)], st.lat⟩
    · exact sh_stmt ..
theorem sh_line (d ln : Nat) (l : ByteArray) (st : Asm) : lineM (ln + d) l (sh d st) = shR d (lineM ln l st) := by
  unfold lineM
  split
  · rfl
  · exact sh_take ..
theorem sh_lines (d : Nat) : ∀ (L : List ByteArray) (ln : Nat) (st : Asm), linesM (ln + d) L (sh d st) = shR d (linesM ln L st)
  | [], ln, st => rfl
  | l :: L, ln, st => by
    rw [linesM, linesM, sh_line]
    cases lineM ln l st with
    | inr f => rfl
    | inl st' =>
      simp only [shR]
      have := sh_lines d L (ln + 1) st'
      rw [show ln + 1 + d = ln + d + 1 by omega] at this
      rw [this]; rfl
def shW (d : Nat) : (List Int) ⊕ Flt → (List Int) ⊕ Flt
  | .inl ws => .inl ws
  | .inr f => .inr (shF d f)
theorem sh_later (d : Nat) (base : Int) (labs : List (ByteArray × Nat)) (x : Lat) (ws : List Int) : laterM base labs (shL d x) ws = shW d (laterM base labs x ws) := by
  unfold laterM shL
  simp only
  split
  · rfl
  split
  · split <;> rfl
  · rfl
theorem sh_laters (d : Nat) (base : Int) (labs : List (ByteArray × Nat)) : ∀ (L : List Lat) (ws : List Int), latersM base labs (L.map (shL d)) ws = shW d (latersM base labs L ws)
  | [], ws => rfl
  | x :: L, ws => by
    rw [List.map_cons, latersM, latersM, sh_later]
    cases laterM base labs x ws with
    | inr f => rfl
    | inl ws => exact sh_laters d base labs L ws
end Go.Proofs.YtiknookfnameiaaGreatDoor

namespace Go.Proofs.YtiknookfnameiaaGreatDoor
open Go.RowKit WP
theorem rows_apart {w : World} {B B' s s' n n' : Nat} {e e' : TypeId} {v v' : Value} {xs xs' : List Value} (h : w.ownsRow B e s v n xs) (h' : w.ownsRow B' e' s' v' n' xs') (hne : e ≠ e') : v.ownBlock = none ∨ v.ownBlock ≠ v'.ownBlock := by
  rcases h.2 with ⟨rfl, _⟩ | ⟨g, cap, cur, rfl, _, hg, _⟩
  · exact .inl rfl
  · right
    intro he
    rcases h'.2 with ⟨rfl, _⟩ | ⟨g', cap', cur', rfl, _, hg', _⟩
    · simp [Value.ownBlock] at he
    · simp only [Value.ownBlock, Option.some.injEq] at he
      subst he
      rw [hg] at hg'
      simp only [Option.some.injEq, Obj.cells.injEq] at hg'
      exact hne hg'.2.1
theorem slice_form {w : World} {B s n : Nat} {e : TypeId} {v : Value} {xs : List Value} (h : w.ownsRow B e s v n xs) : ∃ ao ca, v = .slice ao n ca := by
  rcases h.2 with ⟨rfl, rfl⟩ | ⟨g, cap, cur, rfl, _⟩
  · exact ⟨_, _, rfl⟩
  · exact ⟨_, _, rfl⟩
def vs (l : List ByteArray) : List Value := l.map Value.string
end Go.Proofs.YtiknookfnameiaaGreatDoor
