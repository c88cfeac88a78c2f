/- What text's Words computes, and the memory that it keeps meanwhile. -/
import Derived.Test.YtiknookfnameiaaGreatDoorJn05
namespace Go.Proofs.YtiknookfnameiaaGreatDoor
open Go.RowKit WP
/-- a word of a line: its text, whether it was quoted, its column -/
abbrev W := ByteArray × Bool × Nat
def ww (l : List W) : List Value := l.flatMap fun x => [.string x.1, .bool x.2.1, .int .i64 (x.2.2 : Int)]
theorem ww_append (a b : List W) : ww (a ++ b) = ww a ++ ww b := by simp [ww]
/-- the place of the first blank, from a place on -/
def skipB (l : List UInt8) : Nat → Nat → Nat
  | 0, i => i
  | f + 1, i => if i < l.length ∧ blankI (bAt l i) = false then skipB l f (i + 1) else i
theorem skipB_bd (l : List UInt8) : ∀ f i, i ≤ l.length → i ≤ skipB l f i ∧ skipB l f i ≤ l.length
  | 0, i, h => ⟨Nat.le_refl _, h⟩
  | f + 1, i, h => by
    unfold skipB
    split
    · have := skipB_bd l f (i + 1) (by omega)
      omega
    · omega
theorem skipB_gt (l : List UInt8) (f i : Nat) (h : i < l.length) (hb : blankI (bAt l i) = false) : i < skipB l (f + 1) i := by
  unfold skipB
  rw [if_pos ⟨h, hb⟩]
  have := skipB_bd l f (i + 1) (by omega)
  omega
theorem qA_bd (l : List UInt8) : ∀ (f i : Nat) (acc b : List UInt8) (n : Nat), qA l f i acc = .inl (b, n) → i < n ∧ n ≤ l.length
  | 0, i, acc, b, n, h => by simp [qA] at h
  | f + 1, i, acc, b, n, h => by
    unfold qA at h
    split at h
    · simp at h
    · split at h
      · simp only [Sum.inl.injEq, Prod.mk.injEq] at h; omega
      · split at h
        · have := qA_bd l f _ _ _ _ h; omega
        · split at h
          · simp at h
          · split at h
            · have := qA_bd l f _ _ _ _ h; omega
            · simp at h
theorem qA_no (l : List UInt8) : ∀ (f i : Nat) (acc : List UInt8) (k : Nat), i ≤ l.length → qA l f i acc = .inr k → k ≤ l.length
  | 0, i, acc, k, hi, h => by simp only [qA, Sum.inr.injEq] at h; omega
  | f + 1, i, acc, k, hi, h => by
    unfold qA at h
    split at h
    · simp only [Sum.inr.injEq] at h; omega
    · split at h
      · simp at h
      · split at h
        · exact qA_no l f _ _ _ (by omega) h
        · split at h
          · simp only [Sum.inr.injEq] at h; omega
          · split at h
            · rename_i h5
              have := escF_long _ h5
              rw [List.length_drop] at this
              exact qA_no l f _ _ _ (by omega) h
            · simp only [Sum.inr.injEq] at h; omega
/-- the words of a line from a place on, behind those that are there; or the column at which it is refused -/
def wA (s : ByteArray) : Nat → Nat → List W → (List W) ⊕ Nat
  | 0, _, acc => .inl acc
  | f + 1, i, acc =>
    if s.size ≤ i then .inl acc
    else if blankI (bAt s.data.toList i) = true then wA s f (i + 1) acc
    else if bAt s.data.toList i = 35 then .inl acc
    else if bAt s.data.toList i = 34 then
      match qA s.data.toList (s.size + 1) (i + 1) [] with
      | .inr k => .inr (k + 1)
      | .inl (b, n) => if n < s.size ∧ blankI (bAt s.data.toList n) = false then .inr (n + 1) else wA s f n (acc ++ [(⟨b.toArray⟩, true, i + 1)])
    else wA s f (skipB s.data.toList s.size i) (acc ++ [(s.extract i (skipB s.data.toList s.size i), false, i + 1)])
def wordsF (s : ByteArray) : (List W) ⊕ Nat := wA s (s.size + 1) 0 []
/-- the three results' places, and the words so far -/
structure Wst (B : Nat) (w0 w' : World) (v : Value) (acc : List W) : Prop where
  b0 : w'.heap[B]? = some (.cells #[v] 113 (0, 0))
  b1 : w'.heap[B + 1]? = some (.cells #[.int .i64 0] 3 (0, 0))
  b2 : w'.heap[B + 1 + 1]? = some (.cells #[.int .i64 0] 25 (0, 0))
  own : w'.ownsRow (B + 3) 152 3 v acc.length (ww acc)
  below : Below B w0 w'
theorem lt_of_block {w : World} {k : Nat} {o : Obj} (h : w.heap[k]? = some o) : k < w.heap.size := by
  rcases Nat.lt_or_ge k w.heap.size with h' | h'
  · exact h'
  · rw [Array.getElem?_eq_none h'] at h; exact absurd h (by simp)
namespace Wst
variable {B : Nat} {w0 w' w2 : World} {v : Value} {acc : List W}
theorem size (h : Wst B w0 w' v acc) : B + 3 ≤ w'.heap.size := by have := lt_of_block h.b2; omega
theorem c0 (h : Wst B w0 w' v acc) : w'.cell? ⟨B, 0, none⟩ = some v := cell_of_row _ _ _ _ _ _ h.b0
theorem c1 (h : Wst B w0 w' v acc) : w'.cell? ⟨B + 1, 0, none⟩ = some (.int .i64 0) := cell_of_row _ _ _ _ _ _ h.b1
theorem c2 (h : Wst B w0 w' v acc) : w'.cell? ⟨B + 1 + 1, 0, none⟩ = some (.int .i64 0) := cell_of_row _ _ _ _ _ _ h.b2
theorem f0 (h : Wst B w0 w' v acc) : w'.frozen? ⟨B, 0, none⟩ = false := frozen_of_row _ _ _ _ _ h.b0
theorem f1 (h : Wst B w0 w' v acc) : w'.frozen? ⟨B + 1, 0, none⟩ = false := frozen_of_row _ _ _ _ _ h.b1
theorem f2 (h : Wst B w0 w' v acc) : w'.frozen? ⟨B + 1 + 1, 0, none⟩ = false := frozen_of_row _ _ _ _ _ h.b2
theorem drew (h : Wst B w0 w' v acc) : Wst B w0 w'.drew v acc := ⟨h.b0, h.b1, h.b2, h.own, h.below.drew⟩
theorem later (h : Wst B w0 w' v acc) (hb : Below w'.heap.size w' w2) : Wst B w0 w2 v acc :=
  ⟨(hb.block _ (lt_of_block h.b0)).trans h.b0, (hb.block _ (lt_of_block h.b1)).trans h.b1, (hb.block _ (lt_of_block h.b2)).trans h.b2,
    h.own.kept (row := none) ⟨hb.os, hb.tape, hb.output, hb.size, fun k hk _ => hb.block k hk⟩ (by
      rcases h.own.2 with ⟨hv, _⟩ | ⟨g, cap, cur, hv, _⟩
      · exact .inl (by rw [hv]; rfl)
      · exact .inr (by rw [hv]; simp [Value.ownBlock])), h.below.trans (hb.mono (by have := h.size; omega))⟩
/-- a word more, not yet stored -/
theorem mid (h : Wst B w0 w' v acc) {o : Obj} {w3 : World} (hg : (w'.alloc o).drew.grownBy w3 v.ownBlock) : w3.cell? ⟨B, 0, none⟩ = some v ∧ w3.frozen? ⟨B, 0, none⟩ = false := by
  have hs := h.size
  have hk : w3.heap[B]? = w'.heap[B]? :=
    (hg.block B (by simp; omega) (fun e => by have := (h.own.lt B e.symm).1; omega)).trans (heap_alloc_old _ _ (by omega))
  exact ⟨cell_of_row _ _ _ _ _ _ (hk.trans h.b0), frozen_of_row _ _ _ _ _ (hk.trans h.b0)⟩
/-- a word more, stored -/
theorem more (h : Wst B w0 w' v acc) (o : Obj) (x : W) {g cap : Nat} {w3 : World} (hg : (w'.alloc o).drew.grownBy w3 v.ownBlock)
    (ho : w3.ownsRow (B + 3) 152 3 (.slice (some ⟨g, 0, none⟩) (acc.length + 1) cap) (acc.length + 1) (ww (acc ++ [x]))) :
    Wst B w0 (w3.setCell ⟨B, 0, none⟩ (.slice (some ⟨g, 0, none⟩) (acc.length + 1) cap)) (.slice (some ⟨g, 0, none⟩) (acc.length + 1) cap) (acc ++ [x]) := by
  have hs := h.size
  have hgs := hg.size
  have hsz : ((w'.alloc o).drew).heap.size = w'.heap.size + 1 := by simp
  have hv : ∀ k, v.ownBlock = some k → B + 3 ≤ k := fun k hk => (h.own.lt k hk).1
  have hk : ∀ k, k < B + 3 → w3.heap[k]? = w'.heap[k]? := fun k hk =>
    (hg.block k (by omega) (fun e => by have := hv k e.symm; omega)).trans (heap_alloc_old _ _ (by omega))
  have hg0 : B + 3 ≤ g := (ho.lt g rfl).1
  refine ⟨?_, ?_, ?_, ?_, ?_⟩
  · have := heap_setCell_same w3 B 0 #[v] 113 (.slice (some ⟨g, 0, none⟩) (acc.length + 1) cap) ((hk B (by omega)).trans h.b0)
    rw [this]; rfl
  · rw [heap_setCell_other _ _ _ _ (by simp)]; exact (hk _ (by omega)).trans h.b1
  · rw [heap_setCell_other _ _ _ _ (by simp; omega)]; exact (hk _ (by omega)).trans h.b2
  · rw [show (acc ++ [x]).length = acc.length + 1 by simp]
    exact ownsRow_setCell_other ho (by simp [Value.ownBlock]; omega) _
  · refine Below.setCell (h.below.trans ⟨hg.os, hg.tape, hg.output, by omega, fun k hk' => hk k (by omega)⟩) (by simp) _
theorem form (h : Wst B w0 w' v acc) : ∃ ao ca, v = .slice ao acc.length ca := by
  rcases h.own.2 with ⟨hv, hn⟩ | ⟨g, cap, cur, hv, _⟩
  · exact ⟨none, 0, by rw [hv, hn]⟩
  · exact ⟨_, _, hv⟩
theorem keep0 (h : Wst B w0 w' v acc) : Wst B w0 (w'.setCell ⟨B, 0, none⟩ v) v acc := by
  refine ⟨?_, ?_, ?_, ownsRow_setCell_below h.own (by simp) _, Below.setCell h.below (by simp) _⟩
  · rw [heap_setCell_same w' B 0 _ _ v h.b0]; rfl
  · rw [heap_setCell_other _ _ _ _ (by simp)]; exact h.b1
  · rw [heap_setCell_other _ _ _ _ (by simp; omega)]; exact h.b2
theorem keep1 (h : Wst B w0 w' v acc) : Wst B w0 (w'.setCell ⟨B + 1, 0, none⟩ (.int .i64 0)) v acc := by
  refine ⟨?_, ?_, ?_, ownsRow_setCell_below h.own (by simp) _, Below.setCell h.below (by simp) _⟩
  · rw [heap_setCell_other _ _ _ _ (by simp)]; exact h.b0
  · rw [heap_setCell_same w' (B + 1) 0 _ _ _ h.b1]; rfl
  · rw [heap_setCell_other _ _ _ _ (by simp)]; exact h.b2
theorem keep2 (h : Wst B w0 w' v acc) : Wst B w0 (w'.setCell ⟨B + 1 + 1, 0, none⟩ (.int .i64 0)) v acc := by
  refine ⟨?_, ?_, ?_, ownsRow_setCell_below h.own (by simp) _, Below.setCell h.below (by simp; omega) _⟩
  · rw [heap_setCell_other _ _ _ _ (by simp; omega)]; exact h.b0
  · rw [heap_setCell_other _ _ _ _ (by simp)]; exact h.b1
  · rw [heap_setCell_same w' (B + 1 + 1) 0 _ _ _ h.b2]; rfl
theorem fail (h : Wst B w0 w' v acc) (x : Int) (w3 : World) (hw : ((w'.setCell ⟨B, 0, none⟩ (.slice none 0 0)).setCell ⟨B + 1, 0, none⟩ (.int .i64 x)).setCell ⟨B + 1 + 1, 0, none⟩ (.int .i64 40) = w3) :
    w3.cell? ⟨B, 0, none⟩ = some (.slice none 0 0) ∧ w3.cell? ⟨B + 1, 0, none⟩ = some (.int .i64 x) ∧ w3.cell? ⟨B + 1 + 1, 0, none⟩ = some (.int .i64 40) ∧ Below B w0 w3 := by
  subst hw
  have h1 : (w'.setCell ⟨B, 0, none⟩ (.slice none 0 0)).heap[B + 1]? = _ := (heap_setCell_other _ _ _ _ (by simp)).trans h.b1
  have h2 : ((w'.setCell ⟨B, 0, none⟩ (.slice none 0 0)).setCell ⟨B + 1, 0, none⟩ (.int .i64 x)).heap[B + 1 + 1]? = _ := (heap_setCell_other _ _ _ _ (by simp)).trans ((heap_setCell_other _ _ _ _ (by simp; omega)).trans h.b2)
  refine ⟨?_, ?_, ?_, Below.setCell (Below.setCell (Below.setCell h.below (by simp) _) (by simp) _) (by simp; omega) _⟩
  · refine cell_of_row _ _ _ #[.slice none 0 0] 113 (0, 0) ?_
    rw [heap_setCell_other _ _ _ _ (by simp; omega), heap_setCell_other _ _ _ _ (by simp), heap_setCell_same w' B 0 _ _ _ h.b0]; rfl
  · refine cell_of_row _ _ _ #[.int .i64 x] 3 (0, 0) ?_
    rw [heap_setCell_other _ _ _ _ (by simp), heap_setCell_same _ (B + 1) 0 _ _ _ h1]; rfl
  · refine cell_of_row _ _ _ #[.int .i64 40] 25 (0, 0) ?_
    rw [heap_setCell_same _ (B + 1 + 1) 0 _ _ _ h2]; rfl
end Wst
/-- what Words answers -/
def WordsRes (R : (List W) ⊕ Nat) (B : Nat) (e : Ending) (w' : World) : Prop :=
  match R with
  | .inl acc => ∃ v, e = .returned (.tuple #[v, .int .i64 0, .int .i64 0]) ∧ w'.ownsRow (B + 3) 152 3 v acc.length (ww acc)
  | .inr c => e = .returned (.tuple #[.slice none 0 0, .int .i64 (c : Int), .int .i64 40])
theorem infoW : (Tryz.prog.info? 152).map (fun i => (i.zero.map (fun z => z.cells.size), i.size, i.bytes)) = some (some 3, 3, 32) := by kernel_rfl
theorem infoW_parts : ∃ i z, Tryz.prog.info? 152 = some i ∧ i.zero = some z ∧ i.size = 3 ∧ i.bytes = 32 ∧ z.cells.size = 3 := by
  have h := infoW
  cases hi : Tryz.prog.info? 152 with
  | none => rw [hi] at h; exact absurd h (by simp)
  | some i =>
    rw [hi] at h
    simp only [Option.map_some, Option.some.injEq, Prod.mk.injEq] at h
    obtain ⟨h1, h2, h3⟩ := h
    cases hz : i.zero with
    | none => rw [hz] at h1; exact absurd h1 (by simp)
    | some z => rw [hz] at h1; simp only [Option.map_some, Option.some.injEq] at h1; exact ⟨i, z, rfl, hz, h2, h3, h1⟩
end Go.Proofs.YtiknookfnameiaaGreatDoor
