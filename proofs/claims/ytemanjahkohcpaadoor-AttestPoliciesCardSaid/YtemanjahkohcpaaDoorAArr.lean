/- Arrays of words in blocks of their own. -/
import Derived.Test.YtemanjahkohcpaaDoorAWord
import Derived.Deep.MidRow
import Derived.Laws.CopyOwn
import Derived.BigQuiet
import Derived.Deep.AppendLies
import Derived.Deep.DeepCutAuto
import Derived.Deep.CutBlock
import Derived.Deep.RegionLaw
import Derived.Deep.RegionHeld3
import Derived.StillTailTactics
import Derived.Laws.Closers25b
namespace Go.Proofs.YtemanjahkohcpaaDoor
open Go.RowKit WP
/-- the block g holds just the words of l -/
def Arr (w : World) (g : Nat) (t : TypeId) (l : List UInt32) : Prop := w.heap[g]? = some (.cells (vw l).toArray t (0, 0))
theorem Arr.lt {w : World} {g : Nat} {t : TypeId} {l : List UInt32} (h : Arr w g t l) : g < w.heap.size := (Array.getElem?_eq_some_iff.1 h).1
theorem Arr.cell {w : World} {g : Nat} {t : TypeId} {l : List UInt32} (h : Arr w g t l) (i : Nat) (hi : i < l.length) : w.cell? ⟨g, i, none⟩ = some (.int .u32 (wAt l i)) := by
  rw [cell_of_row w g i _ t _ h]
  simpa using vw_get l i hi
theorem Arr.frozen {w : World} {g : Nat} {t : TypeId} {l : List UInt32} (h : Arr w g t l) (i : Nat) : w.frozen? ⟨g, i, none⟩ = false := frozen_of_row w g i _ t h
theorem Arr.new (w : World) (t : TypeId) (l : List UInt32) : Arr (w.alloc (.cells (vw l).toArray t)) w.heap.size t l := heap_alloc_new w _
theorem Arr.alloc {w : World} {g : Nat} {t : TypeId} {l : List UInt32} (h : Arr w g t l) (o : Obj) : Arr (w.alloc o) g t l := (heap_alloc_old w o h.lt).trans h
theorem Arr.drew {w : World} {g : Nat} {t : TypeId} {l : List UInt32} (h : Arr w g t l) : Arr w.drew g t l := h
theorem Arr.below {w w' : World} {g : Nat} {t : TypeId} {l : List UInt32} (h : Arr w g t l) (hb : Below w.heap.size w w') : Arr w' g t l := (hb.block g h.lt).trans h
theorem Arr.belowB {w w' : World} {g B : Nat} {t : TypeId} {l : List UInt32} (h : Arr w g t l) (hb : Below B w w') (hg : g < B) : Arr w' g t l := (hb.block g hg).trans h
theorem Arr.grown {w w' : World} {g : Nat} {t : TypeId} {l : List UInt32} {r : Option Nat} (h : Arr w g t l) (hg : w.grownBy w' r) (hr : some g ≠ r) : Arr w' g t l := (hg.block g h.lt hr).trans h
theorem Arr.set {w : World} {g : Nat} {t : TypeId} {l : List UInt32} (h : Arr w g t l) (i : Nat) (z : Int) (h1 : 0 ≤ z) (h2 : z ≤ 4294967295) :
    Arr (w.setCell ⟨g, i, none⟩ (.int .u32 z)) g t (l.set i (ofI z)) ∧ w.grownBy (w.setCell ⟨g, i, none⟩ (.int .u32 z)) (some g) := by
  refine ⟨?_, ⟨rfl, rfl, rfl, by simp, fun k _ hk => heap_setCell_other w ⟨g, i, none⟩ k _ (fun e => hk (by simp [e]))⟩⟩
  unfold Arr
  rw [heap_setCell_same w g i _ t _ h]
  congr 2
  apply Array.ext'
  rw [Array.toList_setIfInBounds]
  show (vw l).set i _ = _
  unfold vw
  rw [List.map_set, ofI_val z h1 h2]
section
variable {P : Program}
theorem Arr.load {w : World} {g n : Nat} {t ty e : TypeId} {l : List UInt32} (h : Arr w g t l) (hu : P.underlying ty = some (.array n e)) (hi : (P.info? ty).map (·.size) = some n) (hl : l.length = n) :
    (Instr.loadAt ty (.pointer (some ⟨g, 0, none⟩))).run P w = .ok (.agg (vw l).toArray) w := by
  simp only [Instr.loadAt, Instr.sureAddr, Sem.run_bind, Sem.run_pure, Result.andThen_ok, run_loadVar_row w g t ty _ _ _ h hu rfl (by rw [hi]; simp [hl])]
theorem vw_all (l : List UInt32) : (vw l).toArray.all (·.oneCell') = true := all_oneCell_toArray (vw_oneCell l)
theorem Arr.store {w : World} {g n : Nat} {t ty : TypeId} {l : List UInt32} (h : Arr w g t l) (l' : List UInt32) (hi : (P.info? ty).map (·.size) = some n) (hl : l.length = n) (hl' : l'.length = n) :
    (Instr.storeAt ty (.pointer (some ⟨g, 0, none⟩)) (.agg (vw l').toArray)).run P w = .ok () (w.setRow g (vw l').toArray) := by
  simp only [Instr.storeAt, Instr.sureAddr, Sem.run_bind, Sem.run_pure, Result.andThen_ok, run_storeVar_row w g t ty _ _ h (by rw [hi]; simp [hl']) (by simp [hl, hl']) (vw_all l')]
theorem Arr.stored {w : World} {g : Nat} {t : TypeId} {l : List UInt32} (h : Arr w g t l) (l' : List UInt32) : Arr (w.setRow g (vw l').toArray) g t l' ∧ w.grownBy (w.setRow g (vw l').toArray) (some g) :=
  ⟨setRow_heap w g _ _ t _ h, ⟨rfl, rfl, rfl, by simp [World.setRow], fun k _ hk => setRow_other w g k _ (fun e => hk (by simp [e]))⟩⟩
end
section
variable {P : Program}
theorem wpList_load_arr {ops : Array Oper} {rest : List Oper} {o : Oper} {a : Act} {w : World} {Q : Exit → Act → World → Prop} (hgd : o.guard = none) (ty : TypeId) (x : Operand) (ho : o.op = .load ty x)
    (g : Nat) (hx : a.eval x = .pointer (some ⟨g, 0, none⟩)) {t e : TypeId} {n : Nat} {l : List UInt32} (h : Arr w g t l) (hu : P.underlying ty = some (.array n e)) (hi : (P.info? ty).map (·.size) = some n) (hl : l.length = n)
    (k : wpList P ops Q rest (a.put o.dst (.agg (vw l).toArray)) w) : wpList P ops Q (o :: rest) a w :=
  wpList_load_row hgd ty x ho g hx t _ _ _ h hu rfl (by rw [hi]; simp [hl]) k
theorem wpList_store_arr {ops : Array Oper} {rest : List Oper} {o : Oper} {a : Act} {w : World} {Q : Exit → Act → World → Prop} (hgd : o.guard = none) (ty : TypeId) (x y : Operand) (ho : o.op = .store ty x y)
    (g : Nat) (hx : a.eval x = .pointer (some ⟨g, 0, none⟩)) {t : TypeId} {n : Nat} {l : List UInt32} (l' : List UInt32) (hy : a.eval y = .agg (vw l').toArray) (h : Arr w g t l) (hi : (P.info? ty).map (·.size) = some n) (hl : l.length = n) (hl' : l'.length = n)
    (k : ∀ w', Arr w' g t l' → w.grownBy w' (some g) → wpList P ops Q rest (a.put o.dst undef) w') : wpList P ops Q (o :: rest) a w := by
  refine wpList_plain hgd fun K hK => ?_
  unfold Oper.wp execOp
  simp only [ho, hx, hy, Instr.storeAt, Instr.sureAddr, Sem.run_bind, Sem.run_pure, Result.andThen_ok, run_storeVar_row w g t ty _ _ h (by rw [hi]; simp [hl']) (by simp [hl, hl']) (vw_all l')]
  exact hK _ _ (k _ (h.stored l').1 (h.stored l').2)
end
theorem results_arr {P : Program} {fn : Func} {t : Tmp} {ty ty' e : TypeId} {n : Nat} (h : fn.results = #[.cell t ty]) {tmps : Array Value} {w : World} {g : Nat} {l : List UInt32} (hp : tmps.getD t undef = .pointer (some ⟨g, 0, none⟩))
    (ha : Arr w g ty' l) (hu : P.underlying ty = some (.array n e)) (hi : (P.info? ty).map (·.size) = some n) (hl : l.length = n) : (results fn tmps).run P w = .ok (.agg (vw l).toArray) w := by
  have hv := run_loadVar_row (P := P) w g ty' ty _ _ _ ha hu rfl (by rw [hi]; simp [hl])
  have hp' : tmps[t]?.getD undef = .pointer (some ⟨g, 0, none⟩) := by simpa [Array.getD_eq_getD_getElem?] using hp
  simp [results, h, hp', hv, asAddr]
theorem vw_getD (l : List UInt32) (i : Nat) (h : i < l.length) : (vw l).toArray[i]? = some (.int .u32 (wAt l i)) := by simpa using vw_get l i h
/-- a row that only is read, of an array's block -/
theorem Arr.rd {w : World} {g : Nat} {t : TypeId} {l : List UInt32} (h : Arr w g t l) (cap : Nat) (hc : l.length ≤ cap) (hm : cap ≤ maxLen) : Rd w (.slice (some ⟨g, 0, none⟩) l.length cap) (vw l) := by
  refine ⟨some ⟨g, 0, none⟩, cap, by simp, by simpa using hc, hm, .inr ⟨g, 0, rfl, fun j u hu => ?_⟩⟩
  rw [cell_of_row w g (0 + j) _ t _ h]
  simpa using hu
theorem vw_zeros (n : Nat) : vw (List.replicate n 0) = List.replicate n (.int .u32 0) := by simp [vw]
end Go.Proofs.YtemanjahkohcpaaDoor
