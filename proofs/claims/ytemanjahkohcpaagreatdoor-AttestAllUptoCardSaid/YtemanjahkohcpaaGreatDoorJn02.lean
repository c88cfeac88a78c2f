/- Arrays of words in blocks of their own. The contract of sha's schedule. -/
import Derived.Test.YtemanjahkohcpaaGreatDoorJn01
import Derived.Deep.MidRow
import Derived.Laws.CopyOwn
import Derived.BigQuiet
import Derived.Deep.AppendLies
import Derived.Deep.DeepCutAuto
import Derived.Deep.CutBlock
import Derived.Deep.RegionLaw
import Derived.Deep.RegionHeld3
import Derived.StillTailTactics
import Derived.Laws.Closers25b
namespace Go.Proofs.YtemanjahkohcpaaGreatDoor
open Go.RowKit WP
/-- the block g holds just the words of l -/
def Arr (w : World) (g : Nat) (t : TypeId) (l : List UInt32) : Prop := w.heap[g]? = some (.cells (vw l).toArray t (0, 0))
theorem Arr.lt {w : World} {g : Nat} {t : TypeId} {l : List UInt32} (h : Arr w g t l) : g < w.heap.size := (Array.getElem?_eq_some_iff.1 h).1
theorem Arr.cell {w : World} {g : Nat} {t : TypeId} {l : List UInt32} (h : Arr w g t l) (i : Nat) (hi : i < l.length) : w.cell? ⟨g, i, none⟩ = some (.int .u32 (wAt l i)) := by
  rw [cell_of_row w g i _ t _ h]
  simpa using vw_get l i hi
theorem Arr.frozen {w : World} {g : Nat} {t : TypeId} {l : List UInt32} (h : Arr w g t l) (i : Nat) : w.frozen? ⟨g, i, none⟩ = false := frozen_of_row w g i _ t h
theorem Arr.new (w : World) (t : TypeId) (l : List UInt32) : Arr (w.alloc (.cells (vw l).toArray t)) w.heap.size t l := heap_alloc_new w _
theorem Arr.alloc {w : World} {g : Nat} {t : TypeId} {l : List UInt32} (h : Arr w g t l) (o : Obj) : Arr (w.alloc o) g t l := (heap_alloc_old w o h.lt).trans h
theorem Arr.drew {w : World} {g : Nat} {t : TypeId} {l : List UInt32} (h : Arr w g t l) : Arr w.drew g t l := h
theorem Arr.below {w w' : World} {g : Nat} {t : TypeId} {l : List UInt32} (h : Arr w g t l) (hb : Below w.heap.size w w') : Arr w' g t l := (hb.block g h.lt).trans h
theorem Arr.belowB {w w' : World} {g B : Nat} {t : TypeId} {l : List UInt32} (h : Arr w g t l) (hb : Below B w w') (hg : g < B) : Arr w' g t l := (hb.block g hg).trans h
theorem Arr.grown {w w' : World} {g : Nat} {t : TypeId} {l : List UInt32} {r : Option Nat} (h : Arr w g t l) (hg : w.grownBy w' r) (hr : some g ≠ r) : Arr w' g t l := (hg.block g h.lt hr).trans h
theorem Arr.set {w : World} {g : Nat} {t : TypeId} {l : List UInt32} (h : Arr w g t l) (i : Nat) (z : Int) (h1 : 0 ≤ z) (h2 : z ≤ 4294967295) :
    Arr (w.setCell ⟨g, i, none⟩ (.int .u32 z)) g t (l.set i (ofI z)) ∧ w.grownBy (w.setCell ⟨g, i, none⟩ (.int .u32 z)) (some g) := by
  refine ⟨?_, ⟨rfl, rfl, rfl, by simp, fun k _ hk => heap_setCell_other w ⟨g, i, none⟩ k _ (fun e => hk (by simp [e]))⟩⟩
  unfold Arr
  rw [heap_setCell_same w g i _ t _ h]
  congr 2
  apply Array.ext'
  rw [Array.toList_setIfInBounds]
  show (vw l).set i _ = _
  unfold vw
  rw [List.map_set, ofI_val z h1 h2]
section
variable {P : Program}
theorem Arr.load {w : World} {g n : Nat} {t ty e : TypeId} {l : List UInt32} (h : Arr w g t l) (hu : P.underlying ty = some (.array n e)) (hi : (P.info? ty).map (·.size) = some n) (hl : l.length = n) :
    (Instr.loadAt ty (.pointer (some ⟨g, 0, none⟩))).run P w = .ok (.agg (vw l).toArray) w := by
  simp only [Instr.loadAt, Instr.sureAddr, Sem.run_bind, Sem.run_pure, Result.andThen_ok, run_loadVar_row w g t ty _ _ _ h hu rfl (by rw [hi]; simp [hl])]
theorem vw_all (l : List UInt32) : (vw l).toArray.all (·.oneCell') = true := all_oneCell_toArray (vw_oneCell l)
theorem Arr.store {w : World} {g n : Nat} {t ty : TypeId} {l : List UInt32} (h : Arr w g t l) (l' : List UInt32) (hi : (P.info? ty).map (·.size) = some n) (hl : l.length = n) (hl' : l'.length = n) :
    (Instr.storeAt ty (.pointer (some ⟨g, 0, none⟩)) (.agg (vw l').toArray)).run P w = .ok () (w.setRow g (vw l').toArray) := by
  simp only [Instr.storeAt, Instr.sureAddr, Sem.run_bind, Sem.run_pure, Result.andThen_ok, run_storeVar_row w g t ty _ _ h (by rw [hi]; simp [hl']) (by simp [hl, hl']) (vw_all l')]
theorem Arr.stored {w : World} {g : Nat} {t : TypeId} {l : List UInt32} (h : Arr w g t l) (l' : List UInt32) : Arr (w.setRow g (vw l').toArray) g t l' ∧ w.grownBy (w.setRow g (vw l').toArray) (some g) :=
  ⟨setRow_heap w g _ _ t _ h, ⟨rfl, rfl, rfl, by simp [World.setRow], fun k _ hk => setRow_other w g k _ (fun e => hk (by simp [e]))⟩⟩
end
section
variable {P : Program}
theorem wpList_load_arr {ops : Array Oper} {rest : List Oper} {o : Oper} {a : Act} {w : World} {Q : Exit → Act → World → Prop} (hgd : o.guard = none) (ty : TypeId) (x : Operand) (ho : o.op = .load ty x)
    (g : Nat) (hx : a.eval x = .pointer (some ⟨g, 0, none⟩)) {t e : TypeId} {n : Nat} {l : List UInt32} (h : Arr w g t l) (hu : P.underlying ty = some (.array n e)) (hi : (P.info? ty).map (·.size) = some n) (hl : l.length = n)
    (k : wpList P ops Q rest (a.put o.dst (.agg (vw l).toArray)) w) : wpList P ops Q (o :: rest) a w :=
  wpList_load_row hgd ty x ho g hx t _ _ _ h hu rfl (by rw [hi]; simp [hl]) k
theorem wpList_store_arr {ops : Array Oper} {rest : List Oper} {o : Oper} {a : Act} {w : World} {Q : Exit → Act → World → Prop} (hgd : o.guard = none) (ty : TypeId) (x y : Operand) (ho : o.op = .store ty x y)
    (g : Nat) (hx : a.eval x = .pointer (some ⟨g, 0, none⟩)) {t : TypeId} {n : Nat} {l : List UInt32} (l' : List UInt32) (hy : a.eval y = .agg (vw l').toArray) (h : Arr w g t l) (hi : (P.info? ty).map (·.size) = some n) (hl : l.length = n) (hl' : l'.length = n)
    (k : ∀ w', Arr w' g t l' → w.grownBy w' (some g) → wpList P ops Q rest (a.put o.dst undef) w') : wpList P ops Q (o :: rest) a w := by
  refine wpList_plain hgd fun K hK => ?_
  unfold Oper.wp execOp
  simp only [ho, hx, hy, Instr.storeAt, Instr.sureAddr, Sem.run_bind, Sem.run_pure, Result.andThen_ok, run_storeVar_row w g t ty _ _ h (by rw [hi]; simp [hl']) (by simp [hl, hl']) (vw_all l')]
  exact hK _ _ (k _ (h.stored l').1 (h.stored l').2)
end
theorem results_arr {P : Program} {fn : Func} {t : Tmp} {ty ty' e : TypeId} {n : Nat} (h : fn.results = #[.cell t ty]) {tmps : Array Value} {w : World} {g : Nat} {l : List UInt32} (hp : tmps.getD t undef = .pointer (some ⟨g, 0, none⟩))
    (ha : Arr w g ty' l) (hu : P.underlying ty = some (.array n e)) (hi : (P.info? ty).map (·.size) = some n) (hl : l.length = n) : (results fn tmps).run P w = .ok (.agg (vw l).toArray) w := by
  have hv := run_loadVar_row (P := P) w g ty' ty _ _ _ ha hu rfl (by rw [hi]; simp [hl])
  have hp' : tmps[t]?.getD undef = .pointer (some ⟨g, 0, none⟩) := by simpa [Array.getD_eq_getD_getElem?] using hp
  simp [results, h, hp', hv, asAddr]
theorem vw_getD (l : List UInt32) (i : Nat) (h : i < l.length) : (vw l).toArray[i]? = some (.int .u32 (wAt l i)) := by simpa using vw_get l i h
/-- a row that only is read, of an array's block -/
theorem Arr.rd {w : World} {g : Nat} {t : TypeId} {l : List UInt32} (h : Arr w g t l) (cap : Nat) (hc : l.length ≤ cap) (hm : cap ≤ maxLen) : Rd w (.slice (some ⟨g, 0, none⟩) l.length cap) (vw l) := by
  refine ⟨some ⟨g, 0, none⟩, cap, by simp, by simpa using hc, hm, .inr ⟨g, 0, rfl, fun j u hu => ?_⟩⟩
  rw [cell_of_row w g (0 + j) _ t _ h]
  simpa using hu
theorem vw_zeros (n : Nat) : vw (List.replicate n 0) = List.replicate n (.int .u32 0) := by simp [vw]
end Go.Proofs.YtemanjahkohcpaaGreatDoor

namespace Go.Proofs.YtemanjahkohcpaaGreatDoor
open Go.RowKit WP
/-- the word at place t, of those ahead of it -/
def mix (x16 x15 x7 x2 : Int) : Int :=
  (x16 + bits .xor .u32 (bits .xor .u32 (sr x15 7) (sr x15 18)) (x15 / 8) + x7 + bits .xor .u32 (bits .xor .u32 (sr x2 17) (sr x2 19)) (x2 / 1024)) % 4294967296
theorem mix_bd (a b c d : Int) : 0 ≤ mix a b c d ∧ mix a b c d ≤ 4294967295 := by unfold mix; omega
def nextW (l : List UInt32) (t : Nat) : Int := mix (wAt l (t - 16)) (wAt l (t - 15)) (wAt l (t - 7)) (wAt l (t - 2))
theorem nextW_bd (l : List UInt32) (t : Nat) : 0 ≤ nextW l t ∧ nextW l t ≤ 4294967295 := mix_bd _ _ _ _
def schedN (B : List UInt32) : Nat → List UInt32
  | 0 => B ++ List.replicate 48 0
  | k + 1 => (schedN B k).set (16 + k) (ofI (nextW (schedN B k) (16 + k)))
theorem schedN_len (B : List UInt32) (hB : B.length = 16) (k : Nat) : (schedN B k).length = 64 := by
  induction k with
  | zero => simp [schedN, hB]
  | succ k ih => simp [schedN, ih]
theorem info138 : (Tryz.prog.info? 187).map (·.size) = some 64 := by kernel_rfl
theorem info108 : (Tryz.prog.info? 171).map (·.size) = some 16 := by kernel_rfl
theorem infoU32 : (Tryz.prog.info? 25).map (·.size) = some 1 := by kernel_rfl
set_option maxRecDepth 100000 in
set_option maxHeartbeats 2000000 in
theorem schedule_any (B : List UInt32) (w : World) (hB : B.length = 16) :
    Calls Tryz.prog 117 #[.agg (vw B).toArray] w fun e w' => e = .returned (.agg (vw (schedN B 48)).toArray) ∧ Below w.heap.size w w' := by
  go_enter Tryz.func117, Tryz.ntmps117
  go_upto_region 2 with fail
  change Code.wp _ _ _ _ (((w.alloc (.cells (vw B).toArray 171)).alloc (.cells (vw (List.replicate 64 0)).toArray 187)).alloc (.cells (vw (List.replicate 64 0)).toArray 187))
  obtain ⟨wz, hwz⟩ : ∃ wz, ((w.alloc (.cells (vw B).toArray 171)).alloc (.cells (vw (List.replicate 64 0)).toArray 187)).alloc (.cells (vw (List.replicate 64 0)).toArray 187) = wz := ⟨_, rfl⟩
  have aB : Arr wz w.heap.size 171 B := by rw [← hwz]; exact ((Arr.new w _ B).alloc _).alloc _
  have aR : Arr wz (w.heap.size + 1) 187 (List.replicate 64 0) := by
    rw [← hwz]
    have := (Arr.new (w.alloc (.cells (vw B).toArray 171)) 187 (List.replicate 64 0)).alloc (.cells (vw (List.replicate 64 0)).toArray 187)
    simpa using this
  have aW : Arr wz (w.heap.size + 1 + 1) 187 (List.replicate 64 0) := by
    rw [← hwz]
    have := Arr.new ((w.alloc (.cells (vw B).toArray 171)).alloc (.cells (vw (List.replicate 64 0)).toArray 187)) 187 (List.replicate 64 0)
    simpa using this
  have hb0 : Below w.heap.size w wz := by rw [← hwz]; exact (((Below.refl _ _).alloc (Nat.le_refl _) _).alloc (by simp) _).alloc (by simp; omega) _
  rw [hwz]
  clear hwz
  replace aB := Lib.hid aB; replace aR := Lib.hid aR; replace aW := Lib.hid aW; replace hb0 := Lib.hid hb0
  have hsrc : ∀ j v, (vw B)[j]? = some v → wz.drew.cell? ((⟨w.heap.size, 0, none⟩ : Addr).add j) = some v := World.news_of_block (cs := (vw B).toArray) aB.out
  replace hsrc := Lib.hid hsrc
  go_region_law (refine step_copy_splice (by rfl) (.tmp 7) (.tmp 8) _ _ (by rfl) 25 Tryz.underlying111 infoU32 _ _ _ _ _ _ (by rfl) (by rfl) (w.heap.size + 1 + 1) 0 (vw (List.replicate 64 0)) 187 aW.out (vw B) (by simp [hB]) (fun _ => ⟨rfl, _, rfl, hsrc.out⟩) (by simp [hB]) (vw_oneCell B) (w.heap.size + 1 + 1) wz (Below.refl _ wz).drew (Nat.le_refl _) ?_; intro w1 h1 b1)
  have aW1 : Arr w1 (w.heap.size + 1 + 1) 187 (schedN B 0) := by
    have := h1
    have e : splice (vw (List.replicate 64 0)) 0 (vw B) = vw (schedN B 0) := by
      unfold splice schedN
      rw [vw_append, List.take_zero, List.nil_append, vw_zeros, vw_zeros]
      simp [hB]
    rw [e] at this
    exact this
  have aR1 := aR.out.belowB b1 (by omega)
  have hb1 := hb0.out.trans (b1.mono (by omega))
  clear h1 b1 aW aR aB hb0 hsrc
  replace aW1 := Lib.hid aW1; replace aR1 := Lib.hid aR1; replace hb1 := Lib.hid hb1
  go_wp2_with fail
  go_loopw [4, 5, 6] (fun i _ _ wr => ∃ k : Nat, k ≤ 48 ∧ i = .int .i64 ((16 + k : Nat) : Int) ∧ Arr wr (w.heap.size + 1 + 1) 187 (schedN B k) ∧ Arr wr (w.heap.size + 1) 187 (List.replicate 64 0) ∧ Below w.heap.size w wr) (fun i _ _ _ => 64 - (intOf i).toNat)
  case atStart => exact ⟨0, by omega, rfl, aW1.out, aR1.out, hb1.out⟩
  case round =>
    obtain ⟨k, hk, rfl, aW, aR, hb⟩ := hrel
    have ls := schedN_len B hB k
    by_cases hlt : k < 48
    · obtain ⟨t, ht⟩ : ∃ t, t = 16 + k := ⟨_, rfl⟩
      rw [← ht]
      have d15 := aW.cell (t - 15) (by omega)
      have d2 := aW.cell (t - 2) (by omega)
      have d16 := aW.cell (t - 16) (by omega)
      have d7 := aW.cell (t - 7) (by omega)
      have d0 := aW.cell t (by omega)
      have f0 := aW.frozen t
      have e15 : ((t : Int) - 15) = ((t - 15 : Nat) : Int) := by omega
      have e2 : ((t : Int) - 2) = ((t - 2 : Nat) : Int) := by omega
      have e16 : ((t : Int) - 16) = ((t - 16 : Nat) : Int) := by omega
      have e7 : ((t : Int) - 7) = ((t - 7 : Nat) : Int) := by omega
      have ⟨p1, p2⟩ := wAt_bd (schedN B k) (t - 15)
      have ⟨q1, q2⟩ := wAt_bd (schedN B k) (t - 2)
      have ht64 : t < 64 := by omega
      have ht16 : 16 ≤ t := by omega
      replace aW := Lib.hid aW; replace aR := Lib.hid aR; replace hb := Lib.hid hb; replace ht := Lib.hid ht; replace ls := Lib.hid ls
      go_upto_region 6 with fail
      go_quiet (fail)
      obtain ⟨wq, hwq⟩ : ∃ wq, wr.drewN nq = wq := ⟨_, rfl⟩
      have aWq : Arr wq (w.heap.size + 1 + 1) 187 (schedN B k) := by rw [← hwq]; exact aW.out
      have aRq : Arr wq (w.heap.size + 1) 187 (List.replicate 64 0) := by rw [← hwq]; exact aR.out
      have hbq : Below w.heap.size w wq := by rw [← hwq]; exact below_drewN hb.out _
      rw [hwq]
      have d16 := aWq.drew.cell (t - 16) (by rw [ls.out]; omega)
      have d7 := aWq.drew.cell (t - 7) (by rw [ls.out]; omega)
      have d0 := aWq.drew.cell t (by rw [ls.out]; omega)
      have f0 := aWq.drew.frozen t
      have w16 : IntKind.i64.wrap ((t - 16 : Nat) : Int) = ((t - 16 : Nat) : Int) := IntWalk.i64_in _ (by omega)
      have w7 : IntKind.i64.wrap ((t - 7 : Nat) : Int) = ((t - 7 : Nat) : Int) := IntWalk.i64_in _ (by omega)
      have b16 : ((t - 16 : Nat) : Int) < 64 := by omega
      have b7 : ((t - 7 : Nat) : Int) < 64 := by omega
      have b0 : (t : Int) < 64 := by omega
      have n16 : t - 16 < 64 := by omega
      have n7 : t - 7 < 64 := by omega
      have hnx : nextW (schedN B k) t = mix (wAt (schedN B k) (t - 16)) (wAt (schedN B k) (t - 15)) (wAt (schedN B k) (t - 7)) (wAt (schedN B k) (t - 2)) := rfl
      replace hnx := Lib.hid hnx
      generalize wAt (schedN B k) (t - 15) = x15 at *
      generalize wAt (schedN B k) (t - 2) = x2 at *
      generalize wAt (schedN B k) (t - 16) = x16 at *
      generalize wAt (schedN B k) (t - 7) = x7 at *
      clear d15 d2 hwq aW aR hb
      replace aWq := Lib.hid aWq; replace aRq := Lib.hid aRq; replace hbq := Lib.hid hbq
      go_upto_region 7 with fail
      refine wp_region_still_tail 29 (by kernel_rfl) (by kernel_rfl) ?_
      simp only [List.take_succ_cons, List.take_zero, List.drop_succ_cons, List.drop_zero]
      change wpStill _ _ wq.drew _ _ _
      repeat (first | still_step | (still_call (sright_any _ _ _ (by omega) (by omega) (by omega) (by omega))))
      refine wpStill_nil ?_
      change wpList _ _ _ _ _ wq.drew
      go_wp2_with fail
      have hst := aWq.out.set t (mix x16 x15 x7 x2) (mix_bd _ _ _ _).1 (mix_bd _ _ _ _).2
      refine ⟨⟨k + 1, by omega, by have := ht.out; go_num, ?_, (aRq.out.grown hst.2 (by simp)).drew, (hbq.out.grown hst.2 hbq.out.size (by simp; omega)).drew⟩, by have := ht.out; simp [intOf]; omega⟩
      show Arr _ _ _ ((schedN B k).set (16 + k) (ofI (nextW (schedN B k) (16 + k))))
      rw [← ht.out, hnx.out]
      exact hst.1
    · obtain rfl : k = 48 := by omega
      replace aW := Lib.hid aW; replace aR := Lib.hid aR; replace hb := Lib.hid hb
      go_upto_region 8 with fail
      apply wp_region_lit
      refine wpList_load_arr rfl 187 _ rfl (w.heap.size + 1 + 1) rfl aW.out Tryz.underlying187 info138 ls ?_
      refine wpList_store_arr rfl 187 _ _ rfl (w.heap.size + 1) rfl (schedN B 48) (by rfl) aR.out info138 (by simp) ls ?_
      intro w2 a2 g2
      have hb2 := hb.out.grown g2 hb.out.size (by simp)
      clear aW aR hb g2
      go_wp2_with fail
      refine bodyPost_ret (results_arr rfl rfl a2 Tryz.underlying187 info138 ls) rfl ⟨rfl, hb2⟩
end Go.Proofs.YtemanjahkohcpaaGreatDoor
