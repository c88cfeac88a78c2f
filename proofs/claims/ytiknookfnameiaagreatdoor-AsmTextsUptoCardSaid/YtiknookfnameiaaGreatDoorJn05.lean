/- What text's Words computes, and the memory that it keeps meanwhile. The library's strings.Split at this program's numbers. (Printed by wip/sh/layplain.py, laymark.py.) strings.Split by the library's contract; plain laws of a text cut at its ends. A text cut at its ends: the plain law, and the contract of text's Lines. -/
import Derived.Test.YtiknookfnameiaaGreatDoorJn04
import Derived.Test.YtiknookfnameiaaGreatDoorProg
import Derived.Shelf.Strings.Split
import Derived.Test.YtiknookfnameiaaGreatDoorJn00
import Derived.Ground.NamesProg
import Derived.WalkKit
namespace Go.Proofs.YtiknookfnameiaaGreatDoor
open Go.RowKit WP
/-- a word of a line: its text, whether it was quoted, its column -/
abbrev W := ByteArray × Bool × Nat
def ww (l : List W) : List Value := l.flatMap fun x => [.string x.1, .bool x.2.1, .int .i64 (x.2.2 : Int)]
theorem ww_append (a b : List W) : ww (a ++ b) = ww a ++ ww b := by simp [ww]
/-- the place of the first blank, from a place on -/
def skipB (l : List UInt8) : Nat → Nat → Nat
 | 0, i => i
 | f + 1, i => if i < l.length ∧ blankI (bAt l i) = false then skipB l f (i + 1) else i
theorem skipB_bd (l : List UInt8) : ∀ f i, i ≤ l.length → i ≤ skipB l f i ∧ skipB l f i ≤ l.length
 | 0, i, h => ⟨Nat.le_refl _, h⟩
 | f + 1, i, h => by
  unfold skipB
  split
  ·have := skipB_bd l f (i + 1) (by omega)
   omega
  ·omega
theorem skipB_gt (l : List UInt8) (f i : Nat) (h : i < l.length) (hb : blankI (bAt l i) = false) : i < skipB l (f + 1) i := by
 unfold skipB
 rw [if_pos ⟨h, hb⟩]
 have := skipB_bd l f (i + 1) (by omega)
 omega
theorem qA_bd (l : List UInt8) : ∀ (f i : Nat) (acc b : List UInt8) (n : Nat), qA l f i acc = .inl (b, n) → i < n ∧ n ≤ l.length
 | 0, i, acc, b, n, h => by simp [qA] at h
 | f + 1, i, acc, b, n, h => by
  unfold qA at h
  split at h
  ·simp at h
  ·split at h
   ·simp only [Sum.inl.injEq, Prod.mk.injEq] at h; omega
   ·split at h
    ·have := qA_bd l f _ _ _ _ h; omega
    ·split at h
     ·simp at h
     ·split at h
      ·have := qA_bd l f _ _ _ _ h; omega
      ·simp at h
theorem qA_no (l : List UInt8) : ∀ (f i : Nat) (acc : List UInt8) (k : Nat), i ≤ l.length → qA l f i acc = .inr k → k ≤ l.length
 | 0, i, acc, k, hi, h => by simp only [qA, Sum.inr.injEq] at h; omega
 | f + 1, i, acc, k, hi, h => by
  unfold qA at h
  split at h
  ·simp only [Sum.inr.injEq] at h; omega
  ·split at h
   ·simp at h
   ·split at h
    ·exact qA_no l f _ _ _ (by omega) h
    ·split at h
     ·simp only [Sum.inr.injEq] at h; omega
     ·split at h
      ·rename_i h5
       have := escF_long _ h5
       rw [List.length_drop] at this
       exact qA_no l f _ _ _ (by omega) h
      ·simp only [Sum.inr.injEq] at h; omega
/-- the words of a line from a place on, behind those that are there; or the column at which it is refused -/
def wA (s : ByteArray) : Nat → Nat → List W → (List W) ⊕ Nat
 | 0, _, acc => .inl acc
 | f + 1, i, acc =>
  if s.size ≤ i then .inl acc
  else if blankI (bAt s.data.toList i) = true then wA s f (i + 1) acc
  else if bAt s.data.toList i = 35 then .inl acc
  else if bAt s.data.toList i = 34 then
   match qA s.data.toList (s.size + 1) (i + 1) [] with
   | .inr k => .inr (k + 1)
   | .inl (b, n) => if n < s.size ∧ blankI (bAt s.data.toList n) = false then .inr (n + 1) else wA s f n (acc ++ [(⟨b.toArray⟩, true, i + 1)])
  else wA s f (skipB s.data.toList s.size i) (acc ++ [(s.extract i (skipB s.data.toList s.size i), false, i + 1)])
def wordsF (s : ByteArray) : (List W) ⊕ Nat := wA s (s.size + 1) 0 []
/-- the three results' places, and the words so far -/
structure Wst (B : Nat) (w0 w' : World) (v : Value) (acc : List W) : Prop where
 b0 : w'.heap[B]? = some (.cells #[v] 113 (0, 0))
 b1 : w'.heap[B + 1]? = some (.cells #[.int .i64 0] 3 (0, 0))
 b2 : w'.heap[B + 1 + 1]? = some (.cells #[.int .i64 0] 25 (0, 0))
 own : w'.ownsRow (B + 3) 152 3 v acc.length (ww acc)
 below : Below B w0 w'
theorem lt_of_block {w : World} {k : Nat} {o : Obj} (h : w.heap[k]? = some o) : k < w.heap.size := by
 rcases Nat.lt_or_ge k w.heap.size with h' | h'
 ·exact h'
 ·rw [Array.getElem?_eq_none h'] at h; exact absurd h (by simp)
namespace Wst
variable {B : Nat} {w0 w' w2 : World} {v : Value} {acc : List W}
theorem size (h : Wst B w0 w' v acc) : B + 3 ≤ w'.heap.size := by have := lt_of_block h.b2; omega
theorem c0 (h : Wst B w0 w' v acc) : w'.cell? ⟨B, 0, none⟩ = some v := cell_of_row _ _ _ _ _ _ h.b0
theorem c1 (h : Wst B w0 w' v acc) : w'.cell? ⟨B + 1, 0, none⟩ = some (.int .i64 0) := cell_of_row _ _ _ _ _ _ h.b1
theorem c2 (h : Wst B w0 w' v acc) : w'.cell? ⟨B + 1 + 1, 0, none⟩ = some (.int .i64 0) := cell_of_row _ _ _ _ _ _ h.b2
theorem f0 (h : Wst B w0 w' v acc) : w'.frozen? ⟨B, 0, none⟩ = false := frozen_of_row _ _ _ _ _ h.b0
theorem f1 (h : Wst B w0 w' v acc) : w'.frozen? ⟨B + 1, 0, none⟩ = false := frozen_of_row _ _ _ _ _ h.b1
theorem f2 (h : Wst B w0 w' v acc) : w'.frozen? ⟨B + 1 + 1, 0, none⟩ = false := frozen_of_row _ _ _ _ _ h.b2
theorem drew (h : Wst B w0 w' v acc) : Wst B w0 w'.drew v acc := ⟨h.b0, h.b1, h.b2, h.own, h.below.drew⟩
theorem later (h : Wst B w0 w' v acc) (hb : Below w'.heap.size w' w2) : Wst B w0 w2 v acc :=
 ⟨(hb.block _ (lt_of_block h.b0)).trans h.b0, (hb.block _ (lt_of_block h.b1)).trans h.b1, (hb.block _ (lt_of_block h.b2)).trans h.b2,
  h.own.kept (row := none) ⟨hb.os, hb.tape, hb.output, hb.size, fun k hk _ => hb.block k hk⟩ (by
   rcases h.own.2 with ⟨hv, _⟩ | ⟨g, cap, cur, hv, _⟩
   ·exact .inl (by rw [hv]; rfl)
   ·exact .inr (by rw [hv]; simp [Value.ownBlock])), h.below.trans (hb.mono (by have := h.size; omega))⟩
/-- a word more, not yet stored -/
theorem mid (h : Wst B w0 w' v acc) {o : Obj} {w3 : World} (hg : (w'.alloc o).drew.grownBy w3 v.ownBlock) : w3.cell? ⟨B, 0, none⟩ = some v ∧ w3.frozen? ⟨B, 0, none⟩ = false := by
 have hs := h.size
 have hk : w3.heap[B]? = w'.heap[B]? :=
  (hg.block B (by simp; omega) (fun e => by have := (h.own.lt B e.symm).1; omega)).trans (heap_alloc_old _ _ (by omega))
 exact ⟨cell_of_row _ _ _ _ _ _ (hk.trans h.b0), frozen_of_row _ _ _ _ _ (hk.trans h.b0)⟩
/-- a word more, stored -/
theorem more (h : Wst B w0 w' v acc) (o : Obj) (x : W) {g cap : Nat} {w3 : World} (hg : (w'.alloc o).drew.grownBy w3 v.ownBlock)
  (ho : w3.ownsRow (B + 3) 152 3 (.slice (some ⟨g, 0, none⟩) (acc.length + 1) cap) (acc.length + 1) (ww (acc ++ [x]))) :
  Wst B w0 (w3.setCell ⟨B, 0, none⟩ (.slice (some ⟨g, 0, none⟩) (acc.length + 1) cap)) (.slice (some ⟨g, 0, none⟩) (acc.length + 1) cap) (acc ++ [x]) := by
 have hs := h.size
 have hgs := hg.size
 have hsz : ((w'.alloc o).drew).heap.size = w'.heap.size + 1 := by simp
 have hv : ∀ k, v.ownBlock = some k → B + 3 ≤ k := fun k hk => (h.own.lt k hk).1
 have hk : ∀ k, k < B + 3 → w3.heap[k]? = w'.heap[k]? := fun k hk =>
  (hg.block k (by omega) (fun e => by have := hv k e.symm; omega)).trans (heap_alloc_old _ _ (by omega))
 have hg0 : B + 3 ≤ g := (ho.lt g rfl).1
 refine ⟨?_, ?_, ?_, ?_, ?_⟩
 ·have := heap_setCell_same w3 B 0 #[v] 113 (.slice (some ⟨g, 0, none⟩) (acc.length + 1) cap) ((hk B (by omega)).trans h.b0)
  rw [this]; rfl
 ·rw [heap_setCell_other _ _ _ _ (by simp)]; exact (hk _ (by omega)).trans h.b1
 ·rw [heap_setCell_other _ _ _ _ (by simp; omega)]; exact (hk _ (by omega)).trans h.b2
 ·rw [show (acc ++ [x]).length = acc.length + 1 by simp]
  exact ownsRow_setCell_other ho (by simp [Value.ownBlock]; omega) _
 ·refine Below.setCell (h.below.trans ⟨hg.os, hg.tape, hg.output, by omega, fun k hk' => hk k (by omega)⟩) (by simp) _
theorem form (h : Wst B w0 w' v acc) : ∃ ao ca, v = .slice ao acc.length ca := by
 rcases h.own.2 with ⟨hv, hn⟩ | ⟨g, cap, cur, hv, _⟩
 ·exact ⟨none, 0, by rw [hv, hn]⟩
 ·exact ⟨_, _, hv⟩
theorem keep0 (h : Wst B w0 w' v acc) : Wst B w0 (w'.setCell ⟨B, 0, none⟩ v) v acc := by
 refine ⟨?_, ?_, ?_, ownsRow_setCell_below h.own (by simp) _, Below.setCell h.below (by simp) _⟩
 ·rw [heap_setCell_same w' B 0 _ _ v h.b0]; rfl
 ·rw [heap_setCell_other _ _ _ _ (by simp)]; exact h.b1
 ·rw [heap_setCell_other _ _ _ _ (by simp; omega)]; exact h.b2
theorem keep1 (h : Wst B w0 w' v acc) : Wst B w0 (w'.setCell ⟨B + 1, 0, none⟩ (.int .i64 0)) v acc := by
 refine ⟨?_, ?_, ?_, ownsRow_setCell_below h.own (by simp) _, Below.setCell h.below (by simp) _⟩
 ·rw [heap_setCell_other _ _ _ _ (by simp)]; exact h.b0
 ·rw [heap_setCell_same w' (B + 1) 0 _ _ _ h.b1]; rfl
 ·rw [heap_setCell_other _ _ _ _ (by simp)]; exact h.b2
theorem keep2 (h : Wst B w0 w' v acc) : Wst B w0 (w'.setCell ⟨B + 1 + 1, 0, none⟩ (.int .i64 0)) v acc := by
 refine ⟨?_, ?_, ?_, ownsRow_setCell_below h.own (by simp) _, Below.setCell h.below (by simp; omega) _⟩
 ·rw [heap_setCell_other _ _ _ _ (by simp; omega)]; exact h.b0
 ·rw [heap_setCell_other _ _ _ _ (by simp)]; exact h.b1
 ·rw [heap_setCell_same w' (B + 1 + 1) 0 _ _ _ h.b2]; rfl
theorem fail (h : Wst B w0 w' v acc) (x : Int) (w3 : World) (hw : ((w'.setCell ⟨B, 0, none⟩ (.slice none 0 0)).setCell ⟨B + 1, 0, none⟩ (.int .i64 x)).setCell ⟨B + 1 + 1, 0, none⟩ (.int .i64 40) = w3) :
  w3.cell? ⟨B, 0, none⟩ = some (.slice none 0 0) ∧ w3.cell? ⟨B + 1, 0, none⟩ = some (.int .i64 x) ∧ w3.cell? ⟨B + 1 + 1, 0, none⟩ = some (.int .i64 40) ∧ Below B w0 w3 := by
 subst hw
 have h1 : (w'.setCell ⟨B, 0, none⟩ (.slice none 0 0)).heap[B + 1]? = _ := (heap_setCell_other _ _ _ _ (by simp)).trans h.b1
 have h2 : ((w'.setCell ⟨B, 0, none⟩ (.slice none 0 0)).setCell ⟨B + 1, 0, none⟩ (.int .i64 x)).heap[B + 1 + 1]? = _ := (heap_setCell_other _ _ _ _ (by simp)).trans ((heap_setCell_other _ _ _ _ (by simp; omega)).trans h.b2)
 refine ⟨?_, ?_, ?_, Below.setCell (Below.setCell (Below.setCell h.below (by simp) _) (by simp) _) (by simp; omega) _⟩
 ·refine cell_of_row _ _ _ #[.slice none 0 0] 113 (0, 0) ?_
  rw [heap_setCell_other _ _ _ _ (by simp; omega), heap_setCell_other _ _ _ _ (by simp), heap_setCell_same w' B 0 _ _ _ h.b0]; rfl
 ·refine cell_of_row _ _ _ #[.int .i64 x] 3 (0, 0) ?_
  rw [heap_setCell_other _ _ _ _ (by simp), heap_setCell_same _ (B + 1) 0 _ _ _ h1]; rfl
 ·refine cell_of_row _ _ _ #[.int .i64 40] 25 (0, 0) ?_
  rw [heap_setCell_same _ (B + 1 + 1) 0 _ _ _ h2]; rfl
end Wst
/-- what Words answers -/
def WordsRes (R : (List W) ⊕ Nat) (B : Nat) (e : Ending) (w' : World) : Prop :=
 match R with
 | .inl acc => ∃ v, e = .returned (.tuple #[v, .int .i64 0, .int .i64 0]) ∧ w'.ownsRow (B + 3) 152 3 v acc.length (ww acc)
 | .inr c => e = .returned (.tuple #[.slice none 0 0, .int .i64 (c : Int), .int .i64 40])
theorem infoW : (Tryz.prog.info? 152).map (fun i => (i.zero.map (fun z => z.cells.size), i.size, i.bytes)) = some (some 3, 3, 32) := by kernel_rfl
theorem infoW_parts : ∃ i z, Tryz.prog.info? 152 = some i ∧ i.zero = some z ∧ i.size = 3 ∧ i.bytes = 32 ∧ z.cells.size = 3 := by
 have h := infoW
 cases hi : Tryz.prog.info? 152 with
 | none => rw [hi] at h; exact absurd h (by simp)
 | some i =>
  rw [hi] at h
  simp only [Option.map_some, Option.some.injEq, Prod.mk.injEq] at h
  obtain ⟨h1, h2, h3⟩ := h
  cases hz : i.zero with
  | none => rw [hz] at h1; exact absurd h1 (by simp)
  | some z => rw [hz] at h1; simp only [Option.map_some, Option.some.injEq] at h1; exact ⟨i, z, rfl, hz, h2, h3, h1⟩
end Go.Proofs.YtiknookfnameiaaGreatDoor

namespace Go.Proofs
open Go.Shelf
def YtiknookfnameiaaGreatDoor.laysSplit_ren : Go.Shelf.Ren := ⟨fun | 146 => 57 | 221 => 79 | 268 => 106 | 138 => 107 | 143 => 108 | 195 => 133 | 197 => 134 | 218 => 135 | 219 => 136 | 260 => 151 | 217 => 137 | 225 => 152 | 224 => 153 | 267 => 154 | 266 => 155 | 314 => 168 | n => n, fun | 9 => 9 | 31 => 99 | 3 => 3 | 4 => 4 | 0 => 0 | 105 => 242 | 21 => 21 | 5 => 5 | 46 => 93 | 119 => 268 | 139 => 271 | 138 => 270 | 146 => 272 | 51 => 22 | n => n, fun | 1 => 6 | 3 => 10 | 4 => 11 | n => n⟩
theorem YtiknookfnameiaaGreatDoor.laysSplit : Go.Proofs.Lays.n146 Tryz.prog YtiknookfnameiaaGreatDoor.laysSplit_ren := {
 mixed := by kernel_rfl
 f138 := Tryz.func107.trans (congrArg some (by kernel_rfl))
 f143 := Tryz.func108.trans (congrArg some (by kernel_rfl))
 f146 := Tryz.func57.trans (congrArg some (by kernel_rfl))
 f195 := Tryz.func133.trans (congrArg some (by kernel_rfl))
 f197 := Tryz.func134.trans (congrArg some (by kernel_rfl))
 f217 := Tryz.func137.trans (congrArg some (by kernel_rfl))
 f218 := Tryz.func135.trans (congrArg some (by kernel_rfl))
 f219 := Tryz.func136.trans (congrArg some (by kernel_rfl))
 f221 := Tryz.func79.trans (congrArg some (by kernel_rfl))
 f224 := Tryz.func153.trans (congrArg some (by kernel_rfl))
 f225 := Tryz.func152.trans (congrArg some (by kernel_rfl))
 f260 := Tryz.func151.trans (congrArg some (by kernel_rfl))
 f266 := Tryz.func155.trans (congrArg some (by kernel_rfl))
 f267 := Tryz.func154.trans (congrArg some (by kernel_rfl))
 f268 := Tryz.func106.trans (congrArg some (by kernel_rfl))
 f314 := Tryz.func168.trans (congrArg some (by kernel_rfl))
 t0 := Tryz.underlying0
 a0 := Tryz.isAgg0
 z0 := Tryz.sizeOf0
 v0 := Tryz.zeroValue0
 t3 := Tryz.underlying3
 a3 := Tryz.isAgg3
 z3 := Tryz.sizeOf3
 v3 := Tryz.zeroValue3
 t4 := Tryz.underlying4
 a4 := Tryz.isAgg4
 z4 := Tryz.sizeOf4
 v4 := Tryz.zeroValue4
 t5 := Tryz.underlying5
 a5 := Tryz.isAgg5
 z5 := Tryz.sizeOf5
 v5 := Tryz.zeroValue5
 t9 := Tryz.underlying9
 a9 := Tryz.isAgg9
 z9 := Tryz.sizeOf9
 v9 := Tryz.zeroValue9
 t21 := Tryz.underlying21
 a21 := Tryz.isAgg21
 z21 := Tryz.sizeOf21
 v21 := Tryz.zeroValue21
 t31 := Tryz.underlying99
 a31 := Tryz.isAgg99
 z31 := Tryz.sizeOf99
 v31 := Tryz.zeroValue99
 t46 := Tryz.underlying93
 a46 := Tryz.isAgg93
 z46 := Tryz.sizeOf93
 v46 := Tryz.zeroValue93
 t51 := Tryz.underlying22
 a51 := Tryz.isAgg22
 z51 := Tryz.sizeOf22
 v51 := Tryz.zeroValue22
 t105 := Tryz.underlying242
 a105 := Tryz.isAgg242
 z105 := Tryz.sizeOf242
 v105 := Tryz.zeroValue242
 t119 := Tryz.underlying268
 a119 := Tryz.isAgg268
 z119 := Tryz.sizeOf268
 t138 := Tryz.underlying270
 a138 := Tryz.isAgg270
 z138 := Tryz.sizeOf270
 v138 := Tryz.zeroValue270
 t139 := Tryz.underlying271
 a139 := Tryz.isAgg271
 z139 := Tryz.sizeOf271
 v139 := Tryz.zeroValue271
 t146 := Tryz.underlying272
 a146 := Tryz.isAgg272
 z146 := Tryz.sizeOf272
 v146 := Tryz.zeroValue272
 g1 := by kernel_rfl
 g3 := by kernel_rfl
 g4 := by kernel_rfl }
end Go.Proofs

namespace Go.Proofs
open Go.RowKit Go.Shelf
namespace YtiknookfnameiaaGreatDoor
open Go
set_option maxRecDepth 100000
abbrev MaxL (w : World) (m : Int) : Prop := w.cell? ⟨6, 0, none⟩ = some (.int .i64 m)
theorem split_any (s sep : ByteArray) (m : Int) (w : World) (hs : s.size < 4294967281) (hm : MaxL w m) (h1 : 1 ≤ sep.size) :
  Calls Tryz.prog 57 #[.string s, .string sep] w fun e w' =>
   e = .returned (.slice (some ⟨w.heap.size, 0, none⟩) (Lib.countB s sep + 1) (Lib.countB s sep + 1)) ∧ w' = w.alloc (.cells ((Lib.splitB sep 0 (Lib.countB s sep) s).map Value.string).toArray 9) :=
 Any.strings_Split laysSplit (by kernel_rfl) s sep m w hs hm h1
theorem index_at (c : UInt8) (r : List UInt8) : ∀ a : List UInt8, c ∉ a → Lib.index (a ++ c :: r) [c] = (a.length : Int)
 | [], _ => by rw [Lib.index_one]; simp [Lib.indexByte]
 | b :: a, h => by
  simp only [List.mem_cons, not_or] at h
  have ih := index_at c r a h.2
  rw [Lib.index_one] at ih ⊢
  have hb : (b == c) = false := by simp; exact fun e => h.1 e.symm
  simp only [List.cons_append, Lib.indexByte, hb, ih]
  have h1 : ((a.length : Int) == -1) = false := by simp
  simp [h1]
theorem splitK_at (c : UInt8) (k : Nat) (a r : List UInt8) (h : c ∉ a) : Lib.splitK [c] 0 (k + 1) (a ++ c :: r) = a :: Lib.splitK [c] 0 k r := by
 have hi := index_at c r a h
 have h1 : (((a.length : Nat) : Int) == -1) = false := by simp
 have e : Lib.splitK [c] 0 (k + 1) (a ++ c :: r) = if Lib.index (a ++ c :: r) [c] == -1 then [a ++ c :: r] else (a ++ c :: r).take ((Lib.index (a ++ c :: r) [c]).toNat + 0) :: Lib.splitK [c] 0 k ((a ++ c :: r).drop ((Lib.index (a ++ c :: r) [c]).toNat + [c].length)) := rfl
 rw [e, hi, h1]
 simp only [Bool.false_eq_true, if_false, Int.toNat_natCast, Nat.add_zero, List.length_singleton]
 rw [List.take_left, show a.length + 1 = (a ++ [c]).length by simp, show a ++ c :: r = (a ++ [c]) ++ r by simp, List.drop_left]
def linesOf (s : ByteArray) : List ByteArray := Lib.splitB ⟨#[10]⟩ 0 (Lib.countB s ⟨#[10]⟩) s
theorem linesOf_len (s : ByteArray) : (linesOf s).length = Lib.countB s ⟨#[10]⟩ + 1 := Lib.splitB_all ⟨#[10]⟩ (by decide) 0 _ s rfl
end YtiknookfnameiaaGreatDoor
end Go.Proofs

namespace Go.Proofs.YtiknookfnameiaaGreatDoor
open Go.RowKit WP
/-- the pieces of a text, behind what is begun -/
def splitA : List UInt8 → List UInt8 → List (List UInt8)
 | c, [] => [c]
 | c, x :: l => if x = 10 then c :: splitA [] l else splitA (c ++ [x]) l
/-- its lines: the last piece is none if it is empty -/
def linesA : List UInt8 → List UInt8 → List (List UInt8)
 | c, [] => if c = [] then [] else [c]
 | c, x :: l => if x = 10 then c :: linesA [] l else linesA (c ++ [x]) l
theorem splitA_pure (a : List UInt8) : ∀ c, (10 : UInt8) ∉ a → splitA c a = [c ++ a] := by
 induction a with
 | nil => intro c _; simp [splitA]
 | cons x a ih =>
  intro c h
  simp only [List.mem_cons, not_or] at h
  rw [splitA, if_neg (fun e => h.1 e.symm), ih _ h.2]; simp
theorem splitA_at (r a : List UInt8) : ∀ c, (10 : UInt8) ∉ a → splitA c (a ++ 10 :: r) = (c ++ a) :: splitA [] r := by
 induction a with
 | nil => intro c _; simp [splitA]
 | cons x a ih =>
  intro c h
  simp only [List.mem_cons, not_or] at h
  rw [List.cons_append, splitA, if_neg (fun e => h.1 e.symm), ih _ h.2]; simp
theorem first_end : ∀ l : List UInt8, (10 : UInt8) ∈ l → ∃ a r, l = a ++ 10 :: r ∧ (10 : UInt8) ∉ a
 | [], h => by simp at h
 | x :: l, h => by
  by_cases hx : x = 10
  ·exact ⟨[], l, by rw [hx]; rfl, by simp⟩
  ·obtain ⟨a, r, e, ha⟩ := first_end l (by simpa [Ne.symm hx] using h)
   exact ⟨x :: a, r, by rw [e]; rfl, by simp only [List.mem_cons, not_or]; exact ⟨fun e => hx e.symm, ha⟩⟩
theorem splitK_A : ∀ (k : Nat) (l : List UInt8), l.length ≤ k → Lib.splitK [10] 0 (l.count 10) l = splitA [] l
 | k, l, hk => by
  by_cases h : (10 : UInt8) ∈ l
  ·obtain ⟨a, r, e, ha⟩ := first_end l h
   subst e
   have hc : (a ++ 10 :: r).count 10 = r.count 10 + 1 := by
    rw [List.count_append, List.count_cons_self, List.count_eq_zero_of_not_mem ha]; omega
   cases k with
   | zero => simp at hk
   | succ k =>
    rw [hc, splitK_at 10 _ _ _ ha, splitA_at _ _ _ ha, splitK_A k r (by simp at hk; omega)]; rfl
  ·rw [List.count_eq_zero_of_not_mem h, splitA_pure _ _ h]; rfl
theorem splitA_ne (l : List UInt8) : ∀ c, splitA c l ≠ [] := by
 induction l with
 | nil => intro c; simp [splitA]
 | cons x l ih =>
  intro c
  unfold splitA
  split
  ·simp
  ·exact ih _
theorem linesA_split (l : List UInt8) : ∀ c, linesA c l = if (splitA c l).getLastD [] = [] then (splitA c l).dropLast else splitA c l := by
 induction l with
 | nil => intro c; simp [linesA, splitA]
 | cons x l ih =>
  intro c
  unfold linesA splitA
  by_cases hx : x = 10
  ·rw [if_pos hx, if_pos hx, ih []]
   have hne := splitA_ne l []
   obtain ⟨y, t, e⟩ := List.exists_cons_of_ne_nil hne
   rw [e]
   simp only [List.getLastD_cons, List.dropLast_cons_cons]
   split <;> rfl
  ·rw [if_neg hx, if_neg hx, ih]
def bas (L : List (List UInt8)) : List ByteArray := L.map fun b => ⟨b.toArray⟩
/-- the lines of a text -/
def linesF (s : ByteArray) : List ByteArray := bas (linesA [] s.data.toList)
theorem bas_of {P : List ByteArray} {L : List (List UInt8)} (h : P.map (fun s => s.data.toList) = L) : P = bas L := by
 subst h; unfold bas; rw [List.map_map]
 conv => lhs; rw [← List.map_id P]
 exact List.map_congr_left fun s _ => by simp
theorem linesOf_bas (s : ByteArray) : linesOf s = bas (splitA [] s.data.toList) := by
 refine bas_of ?_
 have := Lib.splitB_data ⟨#[10]⟩ 0 (Lib.countB s ⟨#[10]⟩) s
 have e : (linesOf s).map (fun s => s.data.toList) = Lib.splitK [10] 0 (Lib.countB s ⟨#[10]⟩) s.data.toList := this
 have hc : Lib.countB s ⟨#[10]⟩ = s.data.toList.count 10 := by
  show Lib.count s.data.toList [10] = _
  rw [Lib.count_one]
 rw [e, hc, splitK_A _ _ (Nat.le_refl _)]
theorem linesF_eq (s : ByteArray) (n : Nat) (hn : (linesOf s).length = n + 1) (x : ByteArray) (hx : (linesOf s)[n]? = some x) :
  linesF s = if x.data.toList = [] then (linesOf s).take n else linesOf s := by
 unfold linesF
 rw [linesA_split]
 have hb := linesOf_bas s
 rw [hb] at hn hx
 rw [hb]
 generalize splitA [] s.data.toList = L at *
 have hl : L.length = n + 1 := by simpa [bas] using hn
 have hy : ∃ y, L[n]? = some y ∧ x.data.toList = y := by
  unfold bas at hx; rw [List.getElem?_map] at hx
  cases hq : L[n]? with
  | none => rw [hq] at hx; cases hx
  | some y => rw [hq] at hx; simp at hx; exact ⟨y, rfl, by rw [← hx]⟩
 obtain ⟨y, hy, e⟩ := hy
 have hg : L.getLastD [] = y := by
  rw [List.getLastD_eq_getLast?, List.getLast?_eq_getElem?, hl]; simp [hy]
 rw [hg, e]
 split
 ·unfold bas; rw [← List.map_take, List.dropLast_eq_take, hl]; rfl
 ·rfl
theorem infoStr : (Tryz.prog.info? 9).map (fun i => (i.zero, i.size, i.bytes)) = some (some (.string ⟨#[]⟩), 1, 16) := by kernel_rfl
theorem tlines_no (s : ByteArray) (w : World) (hs : 65536 < s.size) (h63 : s.size ≤ 9223372036854775807) :
  Calls Tryz.prog 37 #[.string s] w fun e w' => e = .returned (.tuple #[.slice none 0 0, .int .i64 2]) ∧ w' = w := by
 go_enter Tryz.func37, Tryz.ntmps37
 go_wp2_with fail
 go_ret2
 exact ⟨rfl, rfl⟩
set_option maxRecDepth 100000 in
theorem tlines_any (s : ByteArray) (m : Int) (w : World) (hm : MaxL w m) (hs : s.size ≤ 65536) :
  Calls Tryz.prog 37 #[.string s] w fun e w' => ∃ v, e = .returned (.tuple #[v, .int .i64 0]) ∧
   w'.ownsRow w.heap.size 9 1 v (linesF s).length ((linesF s).map Value.string) ∧ Below w.heap.size w w' := by
 obtain ⟨i0, hi, hz0, hz1, hz2⟩ := info_parts infoStr
 have hlen := linesOf_len s
 have hcl : Lib.countB s ⟨#[10]⟩ ≤ s.size := Lib.countB_le ⟨#[10]⟩ (by decide) _ s (Nat.le_refl _)
 have hsp := split_any s ⟨#[10]⟩ m w (by omega) hm (by decide)
 obtain ⟨n, hn⟩ : ∃ n, Lib.countB s ⟨#[10]⟩ = n := ⟨_, rfl⟩
 rw [show Lib.splitB ⟨#[10]⟩ 0 (Lib.countB s ⟨#[10]⟩) s = linesOf s from rfl, hn] at hsp
 rw [hn] at hlen hcl
 obtain ⟨x, hx⟩ : ∃ x, (linesOf s)[n]? = some x := ⟨_, List.getElem?_eq_getElem (by omega)⟩
 have hF := linesF_eq s n hlen x hx
 obtain ⟨F, hFF⟩ : ∃ F, linesF s = F := ⟨_, rfl⟩
 rw [hFF] at hF ⊢
 obtain ⟨P, hP⟩ : ∃ P, linesOf s = P := ⟨_, rfl⟩
 rw [hP] at hlen hx hF hsp
 have hc : (w.alloc (.cells (P.map Value.string).toArray 9)).cell? ⟨w.heap.size, n, none⟩ = some (.string x) := by
  have hg : (w.alloc (.cells (P.map Value.string).toArray 9)).heap[w.heap.size]? = _ := heap_alloc_new w _
  simp only [World.cell?, hg]
  simp [hx]
 have hnews : ∀ j u, (P.map Value.string)[j]? = some u → (w.alloc (.cells (P.map Value.string).toArray 9)).cell? ((⟨w.heap.size, 0, none⟩ : Addr).add j) = some u := cells_new w _ _ _
 have hb1 : Below w.heap.size w (w.alloc (.cells (P.map Value.string).toArray 9)) := (Below.refl _ _).alloc (Nat.le_refl _) _
 have hsz1 : (w.alloc (.cells (P.map Value.string).toArray 9)).heap.size = w.heap.size + 1 := by simp
 have hone : ∀ u ∈ P.map Value.string, u.oneCell' = true := by
  intro u hu; obtain ⟨_, _, rfl⟩ := List.mem_map.1 hu; rfl
 have hlp : (P.map Value.string).length = n + 1 := by rw [List.length_map, hlen]
 generalize hw1 : w.alloc (.cells (P.map Value.string).toArray 9) = w1 at *
 clear hw1 hP hFF hn hm
 replace hlen := Lib.hid hlen; replace hx := Lib.hid hx; replace hnews := Lib.hid hnews; replace hb1 := Lib.hid hb1; replace hone := Lib.hid hone; replace hlp := Lib.hid hlp; replace hsp := Lib.hid hsp; replace hsz1 := Lib.hid hsz1
 by_cases h0 : x.data.toList = []
 ·rw [if_pos h0] at hF
  have hx0 : x = ⟨#[]⟩ := by
   obtain ⟨d⟩ := x; simp at h0; rw [h0]
  subst hx0
  replace hF := Lib.hid hF
  clear h0
  go_enter Tryz.func37, Tryz.ntmps37
  go_wp2_with fail
  refine hsp.out.mono ?_
  rintro e w2 ⟨rfl, rfl⟩
  go_wp2_with (at_builtin; refine wpList_append_onto' _ rfl _ _ 99 rfl w.heap.size 9 i0 (.string ⟨#[]⟩) 1 16 Tryz.underlying99 hi hz0 hz1 hz2 rfl (by decide) _ 0 [] rfl (World.ownsRow_nil _ _ _ _) ⟨w.heap.size, 0, none⟩ n (n + 1) ((P.map Value.string).take n) rfl ?c1 ?c2 ?c3 ?c4 ?c5 ?c6 ?_)
  case c1 => have h1 := hlp.out; simp at h1; simp; omega
  case c2 => intro j u hu; rw [List.getElem?_take] at hu; split at hu; (first | exact hnews.out j u hu | cases hu); all_goals cases hu
  case c3 => intro u hu; exact hone.out u (by first | exact hu | exact List.mem_of_mem_take hu)
  case c4 => simp only [maxLen]; omega
  case c5 => omega
  case c6 => have := hsz1.out; omega
  intro v' w3 ho3 hO3
  have hb3 : Below w.heap.size w w3 := hb1.out.grown hO3.1 (by have := hsz1.out; omega) (fun k hk => by cases hk)
  replace ho3 : w3.ownsRow w.heap.size 9 1 v' F.length (F.map Value.string) := by
   have e1 : F.map Value.string = (P.map Value.string).take n := by rw [hF.out]; simp [List.map_take]
   have e2 : F.length = n := by have h1 := hlen.out; rw [hF.out]; simp; try omega
   rw [e1, e2]; exact ho3
  clear hO3
  replace ho3 := Lib.hid ho3; replace hb3 := Lib.hid hb3
  go_wp2_with fail
  go_ret2
  exact ⟨v', rfl, ho3.out, hb3.out⟩
 ·rw [if_neg h0] at hF
  have hx1 : (x.toList == ([] : List UInt8)) = false := by
   rw [ByteArray.toList_eq]; simpa using h0
  replace hF := Lib.hid hF
  go_enter Tryz.func37, Tryz.ntmps37
  go_wp2_with fail
  refine hsp.out.mono ?_
  rintro e w2 ⟨rfl, rfl⟩
  go_wp2_with (at_builtin; refine wpList_append_onto' _ rfl _ _ 99 rfl w.heap.size 9 i0 (.string ⟨#[]⟩) 1 16 Tryz.underlying99 hi hz0 hz1 hz2 rfl (by decide) _ 0 [] rfl (World.ownsRow_nil _ _ _ _) ⟨w.heap.size, 0, none⟩ (n + 1) (n + 1) (P.map Value.string) rfl ?c1 ?c2 ?c3 ?c4 ?c5 ?c6 ?_)
  case c1 => have h1 := hlp.out; simp at h1; simp; omega
  case c2 => exact hnews.out
  case c3 => intro u hu; exact hone.out u (by first | exact hu | exact List.mem_of_mem_take hu)
  case c4 => simp only [maxLen]; omega
  case c5 => omega
  case c6 => have := hsz1.out; omega
  intro v' w3 ho3 hO3
  have hb3 : Below w.heap.size w w3 := hb1.out.grown hO3.1 (by have := hsz1.out; omega) (fun k hk => by cases hk)
  replace ho3 : w3.ownsRow w.heap.size 9 1 v' F.length (F.map Value.string) := by
   have e1 : F.map Value.string = P.map Value.string := by rw [hF.out]
   have e2 : F.length = n + 1 := by rw [hF.out]; exact hlen.out
   rw [e1, e2]; exact ho3
  clear hO3
  replace ho3 := Lib.hid ho3; replace hb3 := Lib.hid hb3
  go_wp2_with fail
  go_ret2
  exact ⟨v', rfl, ho3.out, hb3.out⟩
end Go.Proofs.YtiknookfnameiaaGreatDoor
