/- The contract of asm's field, letter by letter (printed by genMFld.py). -/
import Derived.Test.YtiknookfnameiaaGreatDoorJn15
namespace Go.Proofs.YtiknookfnameiaaGreatDoor
open Go.RowKit WP
set_option linter.unusedSimpArgs false
set_option linter.unusedVariables false
abbrev bv (k : Nat) : Value := .slice (some ⟨k, 0, none⟩) 0 0
/-- all blocks but one are as they were -/
structure But (k : Nat) (w w' : World) : Prop where
 os : w'.os = w.os
 tape : w'.tape = w.tape
 output : w'.output = w.output
 size : w.heap.size ≤ w'.heap.size
 block : ∀ j, j < w.heap.size → j ≠ k → w'.heap[j]? = w.heap[j]?
theorem But.of_below {k : Nat} {w w' : World} (hb : Below w.heap.size w w') : But k w w' := ⟨hb.os, hb.tape, hb.output, hb.size, fun j hj _ => hb.block j hj⟩
theorem But.trans {k : Nat} {a b c : World} (h : But k a b) (h' : But k b c) : But k a c := ⟨h'.os.trans h.os, h'.tape.trans h.tape, h'.output.trans h.output, Nat.le_trans h.size h'.size, fun j hj hn => (h'.block j (Nat.lt_of_lt_of_le hj h.size) hn).trans (h.block j hj hn)⟩
theorem But.set {k : Nat} (w : World) (o : Nat) (v : Value) : But k w (w.setCell ⟨k, o, none⟩ v) := ⟨rfl, rfl, rfl, by simp [World.setCell], fun j _ hn => Below.heap_setCell _ _ _ _ hn⟩
theorem But.below {k B : Nat} {w w' : World} (h : But k w w') (hk : B ≤ k) (hB : B ≤ w.heap.size) : Below B w w' := ⟨h.os, h.tape, h.output, h.size, fun j hj => h.block j (by omega) (by omega)⟩
theorem FltAt.later {w w' : World} {v : Value} {f : Flt} (h : FltAt w v f) (hb : Below w.heap.size w w') : FltAt w' v f := by
 obtain ⟨g, e, hg⟩ := h
 exact ⟨g, e, (hb.block g (Array.getElem?_eq_some_iff.1 hg).1).trans hg⟩
theorem FltAt.set {w : World} {v : Value} {f : Flt} {k o : Nat} {c : Array Value} {t : TypeId} {u : Value} (h : FltAt w v f) (hk : w.heap[k]? = some (Obj.cells c t (0, 0))) (ht : t ≠ 112) : FltAt (w.setCell ⟨k, o, none⟩ u) v f := by
 obtain ⟨g, e, hg⟩ := h
 refine ⟨g, e, ?_⟩
 have hne : g ≠ k := by
  intro e2; subst e2
  rw [hk] at hg
  simp only [Option.some.injEq, Obj.cells.injEq] at hg
  exact ht hg.2.1
 exact (Below.heap_setCell w ⟨k, o, none⟩ u g hne).trans hg
/-- what field answers -/
def FieldRes (bi ln col : Nat) (w' : World) (e : Ending) : Option Ins → Prop
 | none => ∃ v, e = .returned v ∧ FltAt w' v (61, ln, col)
 | some j => e = .returned .nilIface ∧ w'.heap[bi]? = some (.cells (insC j) 92 (0, 0))
set_option maxRecDepth 100000 in
set_option maxHeartbeats 2000000 in
theorem field_a (R ln bi : Nat) (i : Ins) (s : ByteArray) (col : Nat) (w : World) (hE : AEnv w) (hs : s.size ≤ 140737488355328) (hl : w.cell? ⟨R, 1, none⟩ = some (.int .i64 (ln : Int))) (hi : w.heap[bi]? = some (.cells (insC i) 92 (0, 0))) :
  Calls Tryz.prog 111 #[ptr R, ptr bi, .int .i32 97, wV (s, false, col)] w fun e w' => FieldRes bi ln col w' e (fieldM i 97 (s, false, col)) ∧ But bi w w' := by
 unfold wV
 dsimp only
 obtain ⟨w1, hw1⟩ : ∃ w1, w.alloc (.cells #[.string s, .bool false, .int .i64 (col : Int)] 152) = w1 := ⟨_, rfl⟩
 have b1 : Below w.heap.size w w1 := by rw [← hw1]; exact (Below.refl w.heap.size w).alloc (Nat.le_refl _) _
 have hB : w1.heap[w.heap.size]? = some (.cells #[.string s, .bool false, .int .i64 (col : Int)] 152 (0, 0)) := by rw [← hw1]; exact heap_alloc_new w _
 have hbi := (Array.getElem?_eq_some_iff.1 hi).1
 have hg : ∀ W, Below w1.heap.size w1 W → W.cell? ⟨w.heap.size, 0, none⟩ = some (.string s) ∧ W.cell? ⟨w.heap.size, 1, none⟩ = some (.bool false) ∧ W.cell? ⟨w.heap.size, 2, none⟩ = some (.int .i64 (col : Int)) ∧ AEnv W ∧ W.heap[bi]? = some (.cells (insC i) 92 (0, 0)) := fun W hW => by
  have h2 := (hW.block _ (Array.getElem?_eq_some_iff.1 hB).1).trans hB
  have hb := b1.trans (hW.mono b1.size)
  exact ⟨cell_of_row _ _ 0 _ _ _ h2, cell_of_row _ _ 1 _ _ _ h2, cell_of_row _ _ 2 _ _ _ h2, hE.later hb, (hb.block _ hbi).trans hi⟩
 have hat := at_any R ln col 61 w1 ((b1.cell (World.block_lt_of_cell? _ _ hl)).trans hl)
 have hB1 : ∀ W, Below w1.heap.size w1 W → But bi w W := fun W hW => But.of_below (b1.trans (hW.mono b1.size))
 have k2 : w1.cell? ⟨w.heap.size, 2, none⟩ = some (.int .i64 (col : Int)) := cell_of_row _ _ 2 _ _ _ hB
 clear hE hl hi hB
 replace b1 := Lib.hid b1; replace hg := Lib.hid hg; replace hat := Lib.hid hat; replace hB1 := Lib.hid hB1
 cases hr : regF (s, false, col) with
 | none =>
  have e1 : fieldM i 97 (s, false, col) = none := by unfold fieldM; simp [hr]
  have e2 : regV (s, false, col) = -1 := by unfold regV; rw [hr]; rfl
  rw [e1]
  clear e1 hr
  go_enter Tryz.func111, Tryz.ntmps111
  go_upto_region 1 with fail
  try rw [hw1]
  clear hw1
  go_wp2_with fail
  refine hat.out.mono ?_
  rintro e w2 ⟨ev, rfl, hf, b2⟩
  clear k2
  obtain ⟨c0, c1, c2, hE2, hi2⟩ := hg.out w2 b2
  have hrg := reg_any (s, false, col) w2 hE2.pk.p
  replace hrg := Lib.hid hrg
  unfold wV at hrg
  dsimp only at hrg
  clear hE2 hi2
  replace b2 := Lib.hid b2; replace hf := Lib.hid hf
  go_wp2_with fail
  refine hrg.out.mono ?_
  rintro e w3 ⟨rfl, b3⟩
  clear c0 c1 c2 hrg
  have B3 := b2.out.trans (b3.mono b2.out.size)
  replace hf := hf.out.later b3
  clear b2 b3
  obtain ⟨c0, c1, c2, hE3, hi3⟩ := hg.out w3 B3
  rw [e2]
  obtain ⟨vold, k0⟩ : ∃ u, w3.cell? ⟨bi, 2, none⟩ = some u := ⟨_, cell_of_row _ _ 2 _ _ _ hi3⟩
  have kf := frozen_of_row w3 bi 2 _ _ hi3
  have hf' := hf.set (o := 2) (u := .int .i64 (-1)) hi3 (by decide)
  have hfin := (hB1.out w3 B3).trans (But.set w3 2 (.int .i64 (-1)))
  clear hf hE3 hi3 B3
  replace hf' := Lib.hid hf'; replace hfin := Lib.hid hfin
  go_wp2_with fail
  go_ret
  exact ⟨⟨_, rfl, hf'.out⟩, hfin.out⟩
 | some n =>
  have e1 : fieldM i 97 (s, false, col) = some { i with a := (n : Int) } := by unfold fieldM; simp [hr]
  have e2 : regV (s, false, col) = (n : Int) := by unfold regV; rw [hr]; rfl
  rw [e1]
  clear e1 hr
  go_enter Tryz.func111, Tryz.ntmps111
  go_upto_region 1 with fail
  try rw [hw1]
  clear hw1
  go_wp2_with fail
  refine hat.out.mono ?_
  rintro e w2 ⟨ev, rfl, hf, b2⟩
  clear k2
  obtain ⟨c0, c1, c2, hE2, hi2⟩ := hg.out w2 b2
  have hrg := reg_any (s, false, col) w2 hE2.pk.p
  replace hrg := Lib.hid hrg
  unfold wV at hrg
  dsimp only at hrg
  clear hE2 hi2
  replace b2 := Lib.hid b2; replace hf := Lib.hid hf
  go_wp2_with fail
  refine hrg.out.mono ?_
  rintro e w3 ⟨rfl, b3⟩
  clear c0 c1 c2 hrg
  have B3 := b2.out.trans (b3.mono b2.out.size)
  replace hf := hf.out.later b3
  clear b2 b3
  obtain ⟨c0, c1, c2, hE3, hi3⟩ := hg.out w3 B3
  rw [e2]
  obtain ⟨vold, k0⟩ : ∃ u, w3.cell? ⟨bi, 2, none⟩ = some u := ⟨_, cell_of_row _ _ 2 _ _ _ hi3⟩
  have kf := frozen_of_row w3 bi 2 _ _ hi3
  have hset : (w3.setCell ⟨bi, 2, none⟩ (.int .i64 (n : Int))).heap[bi]? = some (.cells (insC { i with a := (n : Int) }) 92 (0, 0)) := by
   rw [heap_setCell_same w3 bi 2 _ _ _ hi3]; rfl
  have hfin := (hB1.out w3 B3).trans (But.set w3 2 (.int .i64 (n : Int)))
  have dn : ¬ (n : Int) < 0 := by omega
  clear hf hE3 hi3 B3
  replace hset := Lib.hid hset; replace hfin := Lib.hid hfin
  go_wp2_with fail
  go_ret
  exact ⟨⟨rfl, hset.out⟩, hfin.out⟩
set_option maxRecDepth 100000 in
set_option maxHeartbeats 2000000 in
theorem field_b (R ln bi : Nat) (i : Ins) (s : ByteArray) (col : Nat) (w : World) (hE : AEnv w) (hs : s.size ≤ 140737488355328) (hl : w.cell? ⟨R, 1, none⟩ = some (.int .i64 (ln : Int))) (hi : w.heap[bi]? = some (.cells (insC i) 92 (0, 0))) :
  Calls Tryz.prog 111 #[ptr R, ptr bi, .int .i32 98, wV (s, false, col)] w fun e w' => FieldRes bi ln col w' e (fieldM i 98 (s, false, col)) ∧ But bi w w' := by
 unfold wV
 dsimp only
 obtain ⟨w1, hw1⟩ : ∃ w1, w.alloc (.cells #[.string s, .bool false, .int .i64 (col : Int)] 152) = w1 := ⟨_, rfl⟩
 have b1 : Below w.heap.size w w1 := by rw [← hw1]; exact (Below.refl w.heap.size w).alloc (Nat.le_refl _) _
 have hB : w1.heap[w.heap.size]? = some (.cells #[.string s, .bool false, .int .i64 (col : Int)] 152 (0, 0)) := by rw [← hw1]; exact heap_alloc_new w _
 have hbi := (Array.getElem?_eq_some_iff.1 hi).1
 have hg : ∀ W, Below w1.heap.size w1 W → W.cell? ⟨w.heap.size, 0, none⟩ = some (.string s) ∧ W.cell? ⟨w.heap.size, 1, none⟩ = some (.bool false) ∧ W.cell? ⟨w.heap.size, 2, none⟩ = some (.int .i64 (col : Int)) ∧ AEnv W ∧ W.heap[bi]? = some (.cells (insC i) 92 (0, 0)) := fun W hW => by
  have h2 := (hW.block _ (Array.getElem?_eq_some_iff.1 hB).1).trans hB
  have hb := b1.trans (hW.mono b1.size)
  exact ⟨cell_of_row _ _ 0 _ _ _ h2, cell_of_row _ _ 1 _ _ _ h2, cell_of_row _ _ 2 _ _ _ h2, hE.later hb, (hb.block _ hbi).trans hi⟩
 have hat := at_any R ln col 61 w1 ((b1.cell (World.block_lt_of_cell? _ _ hl)).trans hl)
 have hB1 : ∀ W, Below w1.heap.size w1 W → But bi w W := fun W hW => But.of_below (b1.trans (hW.mono b1.size))
 have k2 : w1.cell? ⟨w.heap.size, 2, none⟩ = some (.int .i64 (col : Int)) := cell_of_row _ _ 2 _ _ _ hB
 clear hE hl hi hB
 replace b1 := Lib.hid b1; replace hg := Lib.hid hg; replace hat := Lib.hid hat; replace hB1 := Lib.hid hB1
 cases hr : regF (s, false, col) with
 | none =>
  have e1 : fieldM i 98 (s, false, col) = none := by unfold fieldM; simp [hr]
  have e2 : regV (s, false, col) = -1 := by unfold regV; rw [hr]; rfl
  rw [e1]
  clear e1 hr
  go_enter Tryz.func111, Tryz.ntmps111
  go_upto_region 1 with fail
  try rw [hw1]
  clear hw1
  go_wp2_with fail
  refine hat.out.mono ?_
  rintro e w2 ⟨ev, rfl, hf, b2⟩
  clear k2
  obtain ⟨c0, c1, c2, hE2, hi2⟩ := hg.out w2 b2
  have hrg := reg_any (s, false, col) w2 hE2.pk.p
  replace hrg := Lib.hid hrg
  unfold wV at hrg
  dsimp only at hrg
  clear hE2 hi2
  replace b2 := Lib.hid b2; replace hf := Lib.hid hf
  go_wp2_with fail
  refine hrg.out.mono ?_
  rintro e w3 ⟨rfl, b3⟩
  clear c0 c1 c2 hrg
  have B3 := b2.out.trans (b3.mono b2.out.size)
  replace hf := hf.out.later b3
  clear b2 b3
  obtain ⟨c0, c1, c2, hE3, hi3⟩ := hg.out w3 B3
  rw [e2]
  obtain ⟨vold, k0⟩ : ∃ u, w3.cell? ⟨bi, 3, none⟩ = some u := ⟨_, cell_of_row _ _ 3 _ _ _ hi3⟩
  have kf := frozen_of_row w3 bi 3 _ _ hi3
  have hf' := hf.set (o := 3) (u := .int .i64 (-1)) hi3 (by decide)
  have hfin := (hB1.out w3 B3).trans (But.set w3 3 (.int .i64 (-1)))
  clear hf hE3 hi3 B3
  replace hf' := Lib.hid hf'; replace hfin := Lib.hid hfin
  go_wp2_with fail
  go_ret
  exact ⟨⟨_, rfl, hf'.out⟩, hfin.out⟩
 | some n =>
  have e1 : fieldM i 98 (s, false, col) = some { i with b := (n : Int) } := by unfold fieldM; simp [hr]
  have e2 : regV (s, false, col) = (n : Int) := by unfold regV; rw [hr]; rfl
  rw [e1]
  clear e1 hr
  go_enter Tryz.func111, Tryz.ntmps111
  go_upto_region 1 with fail
  try rw [hw1]
  clear hw1
  go_wp2_with fail
  refine hat.out.mono ?_
  rintro e w2 ⟨ev, rfl, hf, b2⟩
  clear k2
  obtain ⟨c0, c1, c2, hE2, hi2⟩ := hg.out w2 b2
  have hrg := reg_any (s, false, col) w2 hE2.pk.p
  replace hrg := Lib.hid hrg
  unfold wV at hrg
  dsimp only at hrg
  clear hE2 hi2
  replace b2 := Lib.hid b2; replace hf := Lib.hid hf
  go_wp2_with fail
  refine hrg.out.mono ?_
  rintro e w3 ⟨rfl, b3⟩
  clear c0 c1 c2 hrg
  have B3 := b2.out.trans (b3.mono b2.out.size)
  replace hf := hf.out.later b3
  clear b2 b3
  obtain ⟨c0, c1, c2, hE3, hi3⟩ := hg.out w3 B3
  rw [e2]
  obtain ⟨vold, k0⟩ : ∃ u, w3.cell? ⟨bi, 3, none⟩ = some u := ⟨_, cell_of_row _ _ 3 _ _ _ hi3⟩
  have kf := frozen_of_row w3 bi 3 _ _ hi3
  have hset : (w3.setCell ⟨bi, 3, none⟩ (.int .i64 (n : Int))).heap[bi]? = some (.cells (insC { i with b := (n : Int) }) 92 (0, 0)) := by
   rw [heap_setCell_same w3 bi 3 _ _ _ hi3]; rfl
  have hfin := (hB1.out w3 B3).trans (But.set w3 3 (.int .i64 (n : Int)))
  have dn : ¬ (n : Int) < 0 := by omega
  clear hf hE3 hi3 B3
  replace hset := Lib.hid hset; replace hfin := Lib.hid hfin
  go_wp2_with fail
  go_ret
  exact ⟨⟨rfl, hset.out⟩, hfin.out⟩
set_option maxRecDepth 100000 in
set_option maxHeartbeats 2000000 in
theorem field_c (R ln bi : Nat) (i : Ins) (s : ByteArray) (col : Nat) (w : World) (hE : AEnv w) (hs : s.size ≤ 140737488355328) (hl : w.cell? ⟨R, 1, none⟩ = some (.int .i64 (ln : Int))) (hi : w.heap[bi]? = some (.cells (insC i) 92 (0, 0))) :
  Calls Tryz.prog 111 #[ptr R, ptr bi, .int .i32 99, wV (s, false, col)] w fun e w' => FieldRes bi ln col w' e (fieldM i 99 (s, false, col)) ∧ But bi w w' := by
 unfold wV
 dsimp only
 obtain ⟨w1, hw1⟩ : ∃ w1, w.alloc (.cells #[.string s, .bool false, .int .i64 (col : Int)] 152) = w1 := ⟨_, rfl⟩
 have b1 : Below w.heap.size w w1 := by rw [← hw1]; exact (Below.refl w.heap.size w).alloc (Nat.le_refl _) _
 have hB : w1.heap[w.heap.size]? = some (.cells #[.string s, .bool false, .int .i64 (col : Int)] 152 (0, 0)) := by rw [← hw1]; exact heap_alloc_new w _
 have hbi := (Array.getElem?_eq_some_iff.1 hi).1
 have hg : ∀ W, Below w1.heap.size w1 W → W.cell? ⟨w.heap.size, 0, none⟩ = some (.string s) ∧ W.cell? ⟨w.heap.size, 1, none⟩ = some (.bool false) ∧ W.cell? ⟨w.heap.size, 2, none⟩ = some (.int .i64 (col : Int)) ∧ AEnv W ∧ W.heap[bi]? = some (.cells (insC i) 92 (0, 0)) := fun W hW => by
  have h2 := (hW.block _ (Array.getElem?_eq_some_iff.1 hB).1).trans hB
  have hb := b1.trans (hW.mono b1.size)
  exact ⟨cell_of_row _ _ 0 _ _ _ h2, cell_of_row _ _ 1 _ _ _ h2, cell_of_row _ _ 2 _ _ _ h2, hE.later hb, (hb.block _ hbi).trans hi⟩
 have hat := at_any R ln col 61 w1 ((b1.cell (World.block_lt_of_cell? _ _ hl)).trans hl)
 have hB1 : ∀ W, Below w1.heap.size w1 W → But bi w W := fun W hW => But.of_below (b1.trans (hW.mono b1.size))
 have k2 : w1.cell? ⟨w.heap.size, 2, none⟩ = some (.int .i64 (col : Int)) := cell_of_row _ _ 2 _ _ _ hB
 clear hE hl hi hB
 replace b1 := Lib.hid b1; replace hg := Lib.hid hg; replace hat := Lib.hid hat; replace hB1 := Lib.hid hB1
 cases hr : regF (s, false, col) with
 | none =>
  have e1 : fieldM i 99 (s, false, col) = none := by unfold fieldM; simp [hr]
  have e2 : regV (s, false, col) = -1 := by unfold regV; rw [hr]; rfl
  rw [e1]
  clear e1 hr
  go_enter Tryz.func111, Tryz.ntmps111
  go_upto_region 1 with fail
  try rw [hw1]
  clear hw1
  go_wp2_with fail
  refine hat.out.mono ?_
  rintro e w2 ⟨ev, rfl, hf, b2⟩
  clear k2
  obtain ⟨c0, c1, c2, hE2, hi2⟩ := hg.out w2 b2
  have hrg := reg_any (s, false, col) w2 hE2.pk.p
  replace hrg := Lib.hid hrg
  unfold wV at hrg
  dsimp only at hrg
  clear hE2 hi2
  replace b2 := Lib.hid b2; replace hf := Lib.hid hf
  go_wp2_with fail
  refine hrg.out.mono ?_
  rintro e w3 ⟨rfl, b3⟩
  clear c0 c1 c2 hrg
  have B3 := b2.out.trans (b3.mono b2.out.size)
  replace hf := hf.out.later b3
  clear b2 b3
  obtain ⟨c0, c1, c2, hE3, hi3⟩ := hg.out w3 B3
  rw [e2]
  obtain ⟨vold, k0⟩ : ∃ u, w3.cell? ⟨bi, 4, none⟩ = some u := ⟨_, cell_of_row _ _ 4 _ _ _ hi3⟩
  have kf := frozen_of_row w3 bi 4 _ _ hi3
  have hf' := hf.set (o := 4) (u := .int .i64 (-1)) hi3 (by decide)
  have hfin := (hB1.out w3 B3).trans (But.set w3 4 (.int .i64 (-1)))
  clear hf hE3 hi3 B3
  replace hf' := Lib.hid hf'; replace hfin := Lib.hid hfin
  go_wp2_with fail
  go_ret
  exact ⟨⟨_, rfl, hf'.out⟩, hfin.out⟩
 | some n =>
  have e1 : fieldM i 99 (s, false, col) = some { i with c := (n : Int) } := by unfold fieldM; simp [hr]
  have e2 : regV (s, false, col) = (n : Int) := by unfold regV; rw [hr]; rfl
  rw [e1]
  clear e1 hr
  go_enter Tryz.func111, Tryz.ntmps111
  go_upto_region 1 with fail
  try rw [hw1]
  clear hw1
  go_wp2_with fail
  refine hat.out.mono ?_
  rintro e w2 ⟨ev, rfl, hf, b2⟩
  clear k2
  obtain ⟨c0, c1, c2, hE2, hi2⟩ := hg.out w2 b2
  have hrg := reg_any (s, false, col) w2 hE2.pk.p
  replace hrg := Lib.hid hrg
  unfold wV at hrg
  dsimp only at hrg
  clear hE2 hi2
  replace b2 := Lib.hid b2; replace hf := Lib.hid hf
  go_wp2_with fail
  refine hrg.out.mono ?_
  rintro e w3 ⟨rfl, b3⟩
  clear c0 c1 c2 hrg
  have B3 := b2.out.trans (b3.mono b2.out.size)
  replace hf := hf.out.later b3
  clear b2 b3
  obtain ⟨c0, c1, c2, hE3, hi3⟩ := hg.out w3 B3
  rw [e2]
  obtain ⟨vold, k0⟩ : ∃ u, w3.cell? ⟨bi, 4, none⟩ = some u := ⟨_, cell_of_row _ _ 4 _ _ _ hi3⟩
  have kf := frozen_of_row w3 bi 4 _ _ hi3
  have hset : (w3.setCell ⟨bi, 4, none⟩ (.int .i64 (n : Int))).heap[bi]? = some (.cells (insC { i with c := (n : Int) }) 92 (0, 0)) := by
   rw [heap_setCell_same w3 bi 4 _ _ _ hi3]; rfl
  have hfin := (hB1.out w3 B3).trans (But.set w3 4 (.int .i64 (n : Int)))
  have dn : ¬ (n : Int) < 0 := by omega
  clear hf hE3 hi3 B3
  replace hset := Lib.hid hset; replace hfin := Lib.hid hfin
  go_wp2_with fail
  go_ret
  exact ⟨⟨rfl, hset.out⟩, hfin.out⟩
set_option maxRecDepth 100000 in
set_option maxHeartbeats 2000000 in
theorem field_u (R ln bi : Nat) (i : Ins) (s : ByteArray) (col : Nat) (w : World) (hE : AEnv w) (hs : s.size ≤ 140737488355328) (hl : w.cell? ⟨R, 1, none⟩ = some (.int .i64 (ln : Int))) (hi : w.heap[bi]? = some (.cells (insC i) 92 (0, 0))) :
  Calls Tryz.prog 111 #[ptr R, ptr bi, .int .i32 117, wV (s, false, col)] w fun e w' => FieldRes bi ln col w' e (fieldM i 117 (s, false, col)) ∧ But bi w w' := by
 unfold wV
 dsimp only
 obtain ⟨w1, hw1⟩ : ∃ w1, w.alloc (.cells #[.string s, .bool false, .int .i64 (col : Int)] 152) = w1 := ⟨_, rfl⟩
 have b1 : Below w.heap.size w w1 := by rw [← hw1]; exact (Below.refl w.heap.size w).alloc (Nat.le_refl _) _
 have hB : w1.heap[w.heap.size]? = some (.cells #[.string s, .bool false, .int .i64 (col : Int)] 152 (0, 0)) := by rw [← hw1]; exact heap_alloc_new w _
 have hbi := (Array.getElem?_eq_some_iff.1 hi).1
 have hg : ∀ W, Below w1.heap.size w1 W → W.cell? ⟨w.heap.size, 0, none⟩ = some (.string s) ∧ W.cell? ⟨w.heap.size, 1, none⟩ = some (.bool false) ∧ W.cell? ⟨w.heap.size, 2, none⟩ = some (.int .i64 (col : Int)) ∧ AEnv W ∧ W.heap[bi]? = some (.cells (insC i) 92 (0, 0)) := fun W hW => by
  have h2 := (hW.block _ (Array.getElem?_eq_some_iff.1 hB).1).trans hB
  have hb := b1.trans (hW.mono b1.size)
  exact ⟨cell_of_row _ _ 0 _ _ _ h2, cell_of_row _ _ 1 _ _ _ h2, cell_of_row _ _ 2 _ _ _ h2, hE.later hb, (hb.block _ hbi).trans hi⟩
 have hat := at_any R ln col 61 w1 ((b1.cell (World.block_lt_of_cell? _ _ hl)).trans hl)
 have hB1 : ∀ W, Below w1.heap.size w1 W → But bi w W := fun W hW => But.of_below (b1.trans (hW.mono b1.size))
 have k2 : w1.cell? ⟨w.heap.size, 2, none⟩ = some (.int .i64 (col : Int)) := cell_of_row _ _ 2 _ _ _ hB
 clear hE hl hi hB
 replace b1 := Lib.hid b1; replace hg := Lib.hid hg; replace hat := Lib.hid hat; replace hB1 := Lib.hid hB1
 have hnu := fun W hW => number_any s W hs hW
 cases hn : numF s.data.toList with
 | none =>
  have e1 : fieldM i 117 (s, false, col) = none := by unfold fieldM; simp [hn]
  rw [e1]
  rw [hn] at hnu
  simp only [Option.getD_none, Option.isSome_none, errN] at hnu
  clear e1 hn
  go_enter Tryz.func111, Tryz.ntmps111
  go_upto_region 1 with fail
  try rw [hw1]
  clear hw1
  go_wp2_with fail
  refine hat.out.mono ?_
  rintro e w2 ⟨ev, rfl, hf, b2⟩
  clear k2
  obtain ⟨c0, c1, c2, hE2, hi2⟩ := hg.out w2 b2
  have hrg := reg_any (s, false, col) w2 hE2.pk.p
  replace hrg := Lib.hid hrg
  unfold wV at hrg
  dsimp only at hrg
  clear hE2 hi2
  replace b2 := Lib.hid b2; replace hf := Lib.hid hf
  go_wp2_with fail
  refine hrg.out.mono ?_
  rintro e w3 ⟨rfl, b3⟩
  clear c0 c1 c2 hrg
  have B3 := b2.out.trans (b3.mono b2.out.size)
  replace hf := hf.out.later b3
  clear b2 b3
  obtain ⟨c0, c1, c2, hE3, hi3⟩ := hg.out w3 B3
  have hcl := hnu w3 hE3.pk.e
  replace hcl := Lib.hid hcl
  replace hf := Lib.hid hf; replace B3 := Lib.hid B3
  clear hE3 hi3
  go_wp2_with fail
  refine hcl.out.mono ?_
  rintro e w4 ⟨b4, rfl⟩
  have B4 := B3.out.trans (b4.mono B3.out.size)
  replace hf := hf.out.later b4
  obtain ⟨_, _, _, _, hi4⟩ := hg.out w4 B4
  clear b4 B3 hcl
  have hfin := hB1.out w4 B4
  clear hi4 B4
  replace hf := Lib.hid hf; replace hfin := Lib.hid hfin
  go_wp2_with fail
  go_ret
  exact ⟨⟨_, rfl, hf.out⟩, hfin.out⟩
 | some v =>
  rw [hn] at hnu
  simp only [Option.getD_some, Option.isSome_some, errN, if_true] at hnu
  by_cases hv : v ≤ 65535
  ·have e1 : fieldM i 117 (s, false, col) = some { i with imm := (v : Int) } := by unfold fieldM; simp [hn, hv]
   rw [e1]
   clear e1 hn
   have d1 : decide ((v : Int) > 65535) = false := decide_eq_false (by omega)
   have d2 : ¬ 65535 < (v : Int) := by omega
   have d3 : (v : Int) < 2147483648 := by omega
   have d0 : (0 : Int) ≤ (v : Int) := by omega
   go_enter Tryz.func111, Tryz.ntmps111
   go_upto_region 1 with fail
   try rw [hw1]
   clear hw1
   go_wp2_with fail
   refine hat.out.mono ?_
   rintro e w2 ⟨ev, rfl, hf, b2⟩
   clear k2
   obtain ⟨c0, c1, c2, hE2, hi2⟩ := hg.out w2 b2
   have hrg := reg_any (s, false, col) w2 hE2.pk.p
   replace hrg := Lib.hid hrg
   unfold wV at hrg
   dsimp only at hrg
   clear hE2 hi2
   replace b2 := Lib.hid b2; replace hf := Lib.hid hf
   go_wp2_with fail
   refine hrg.out.mono ?_
   rintro e w3 ⟨rfl, b3⟩
   clear c0 c1 c2 hrg
   have B3 := b2.out.trans (b3.mono b2.out.size)
   replace hf := hf.out.later b3
   clear b2 b3
   obtain ⟨c0, c1, c2, hE3, hi3⟩ := hg.out w3 B3
   have hcl := hnu w3 hE3.pk.e
   replace hcl := Lib.hid hcl
   replace hf := Lib.hid hf; replace B3 := Lib.hid B3
   clear hE3 hi3
   go_wp2_with fail
   refine hcl.out.mono ?_
   rintro e w4 ⟨b4, rfl⟩
   have B4 := B3.out.trans (b4.mono B3.out.size)
   replace hf := hf.out.later b4
   obtain ⟨_, _, _, _, hi4⟩ := hg.out w4 B4
   clear b4 B3 hcl
   obtain ⟨vold, k0⟩ : ∃ u, w4.cell? ⟨bi, 5, none⟩ = some u := ⟨_, cell_of_row _ _ 5 _ _ _ hi4⟩
   have kf := frozen_of_row w4 bi 5 _ _ hi4
   have hset : (w4.setCell ⟨bi, 5, none⟩ (.int .i32 (v : Int))).heap[bi]? = some (.cells (insC { i with imm := (v : Int) }) 92 (0, 0)) := by
    rw [heap_setCell_same w4 bi 5 _ _ _ hi4]; rfl
   have hfin := (hB1.out w4 B4).trans (But.set w4 5 (.int .i32 (v : Int)))
   clear hf hi4 B4
   replace hset := Lib.hid hset; replace hfin := Lib.hid hfin
   go_wp2_with fail
   go_ret
   exact ⟨⟨rfl, hset.out⟩, hfin.out⟩
  ·have e1 : fieldM i 117 (s, false, col) = none := by unfold fieldM; simp [hn, hv]
   rw [e1]
   clear e1 hn
   have d1 : decide ((v : Int) > 65535) = true := decide_eq_true (by omega)
   have d2 : 65535 < (v : Int) := by omega
   go_enter Tryz.func111, Tryz.ntmps111
   go_upto_region 1 with fail
   try rw [hw1]
   clear hw1
   go_wp2_with fail
   refine hat.out.mono ?_
   rintro e w2 ⟨ev, rfl, hf, b2⟩
   clear k2
   obtain ⟨c0, c1, c2, hE2, hi2⟩ := hg.out w2 b2
   have hrg := reg_any (s, false, col) w2 hE2.pk.p
   replace hrg := Lib.hid hrg
   unfold wV at hrg
   dsimp only at hrg
   clear hE2 hi2
   replace b2 := Lib.hid b2; replace hf := Lib.hid hf
   go_wp2_with fail
   refine hrg.out.mono ?_
   rintro e w3 ⟨rfl, b3⟩
   clear c0 c1 c2 hrg
   have B3 := b2.out.trans (b3.mono b2.out.size)
   replace hf := hf.out.later b3
   clear b2 b3
   obtain ⟨c0, c1, c2, hE3, hi3⟩ := hg.out w3 B3
   have hcl := hnu w3 hE3.pk.e
   replace hcl := Lib.hid hcl
   replace hf := Lib.hid hf; replace B3 := Lib.hid B3
   clear hE3 hi3
   go_wp2_with fail
   refine hcl.out.mono ?_
   rintro e w4 ⟨b4, rfl⟩
   have B4 := B3.out.trans (b4.mono B3.out.size)
   replace hf := hf.out.later b4
   obtain ⟨_, _, _, _, hi4⟩ := hg.out w4 B4
   clear b4 B3 hcl
   have hfin := hB1.out w4 B4
   clear hi4 B4
   replace hf := Lib.hid hf; replace hfin := Lib.hid hfin
   go_wp2_with fail
   go_ret
   exact ⟨⟨_, rfl, hf.out⟩, hfin.out⟩

set_option maxRecDepth 100000 in
set_option maxHeartbeats 2000000 in
theorem field_k (R ln bi : Nat) (i : Ins) (s : ByteArray) (col : Nat) (w : World) (hE : AEnv w) (hs : s.size ≤ 140737488355328) (hl : w.cell? ⟨R, 1, none⟩ = some (.int .i64 (ln : Int))) (hi : w.heap[bi]? = some (.cells (insC i) 92 (0, 0))) :
  Calls Tryz.prog 111 #[ptr R, ptr bi, .int .i32 107, wV (s, false, col)] w fun e w' => FieldRes bi ln col w' e (fieldM i 107 (s, false, col)) ∧ But bi w w' := by
 unfold wV
 dsimp only
 obtain ⟨w1, hw1⟩ : ∃ w1, w.alloc (.cells #[.string s, .bool false, .int .i64 (col : Int)] 152) = w1 := ⟨_, rfl⟩
 have b1 : Below w.heap.size w w1 := by rw [← hw1]; exact (Below.refl w.heap.size w).alloc (Nat.le_refl _) _
 have hB : w1.heap[w.heap.size]? = some (.cells #[.string s, .bool false, .int .i64 (col : Int)] 152 (0, 0)) := by rw [← hw1]; exact heap_alloc_new w _
 have hbi := (Array.getElem?_eq_some_iff.1 hi).1
 have hg : ∀ W, Below w1.heap.size w1 W → W.cell? ⟨w.heap.size, 0, none⟩ = some (.string s) ∧ W.cell? ⟨w.heap.size, 1, none⟩ = some (.bool false) ∧ W.cell? ⟨w.heap.size, 2, none⟩ = some (.int .i64 (col : Int)) ∧ AEnv W ∧ W.heap[bi]? = some (.cells (insC i) 92 (0, 0)) := fun W hW => by
  have h2 := (hW.block _ (Array.getElem?_eq_some_iff.1 hB).1).trans hB
  have hb := b1.trans (hW.mono b1.size)
  exact ⟨cell_of_row _ _ 0 _ _ _ h2, cell_of_row _ _ 1 _ _ _ h2, cell_of_row _ _ 2 _ _ _ h2, hE.later hb, (hb.block _ hbi).trans hi⟩
 have hat := at_any R ln col 61 w1 ((b1.cell (World.block_lt_of_cell? _ _ hl)).trans hl)
 have hB1 : ∀ W, Below w1.heap.size w1 W → But bi w W := fun W hW => But.of_below (b1.trans (hW.mono b1.size))
 have k2 : w1.cell? ⟨w.heap.size, 2, none⟩ = some (.int .i64 (col : Int)) := cell_of_row _ _ 2 _ _ _ hB
 clear hE hl hi hB
 replace b1 := Lib.hid b1; replace hg := Lib.hid hg; replace hat := Lib.hid hat; replace hB1 := Lib.hid hB1
 have hnu := fun W hW => condn_any s W hW
 cases hn : condF s with
 | none =>
  have e1 : fieldM i 107 (s, false, col) = none := by unfold fieldM; simp [hn]
  rw [e1]
  rw [hn] at hnu
  simp only [Option.getD_none, Option.isSome_none] at hnu
  clear e1 hn
  go_enter Tryz.func111, Tryz.ntmps111
  go_upto_region 1 with fail
  try rw [hw1]
  clear hw1
  go_wp2_with fail
  refine hat.out.mono ?_
  rintro e w2 ⟨ev, rfl, hf, b2⟩
  clear k2
  obtain ⟨c0, c1, c2, hE2, hi2⟩ := hg.out w2 b2
  have hrg := reg_any (s, false, col) w2 hE2.pk.p
  replace hrg := Lib.hid hrg
  unfold wV at hrg
  dsimp only at hrg
  clear hE2 hi2
  replace b2 := Lib.hid b2; replace hf := Lib.hid hf
  go_wp2_with fail
  refine hrg.out.mono ?_
  rintro e w3 ⟨rfl, b3⟩
  clear c0 c1 c2 hrg
  have B3 := b2.out.trans (b3.mono b2.out.size)
  replace hf := hf.out.later b3
  clear b2 b3
  obtain ⟨c0, c1, c2, hE3, hi3⟩ := hg.out w3 B3
  have hcl := hnu w3 hE3.tabs
  replace hcl := Lib.hid hcl
  replace hf := Lib.hid hf; replace B3 := Lib.hid B3
  clear hE3 hi3
  go_wp2_with fail
  refine hcl.out.mono ?_
  rintro e w4 ⟨rfl, rfl⟩
  have b4 : Below w4.heap.size w4 w4 := Below.refl _ _
  have B4 := B3.out.trans (b4.mono B3.out.size)
  replace hf := hf.out.later b4
  obtain ⟨_, _, _, _, hi4⟩ := hg.out w4 B4
  clear b4 B3 hcl
  have hfin := hB1.out w4 B4
  clear hi4 B4
  replace hf := Lib.hid hf; replace hfin := Lib.hid hfin
  go_wp2_with fail
  go_ret
  exact ⟨⟨_, rfl, hf.out⟩, hfin.out⟩
 | some n =>
  have e1 : fieldM i 107 (s, false, col) = some { i with k := (n : Int) } := by unfold fieldM; simp [hn]
  rw [e1]
  rw [hn] at hnu
  simp only [Option.getD_some, Option.isSome_some, if_true] at hnu
  clear e1 hn
  go_enter Tryz.func111, Tryz.ntmps111
  go_upto_region 1 with fail
  try rw [hw1]
  clear hw1
  go_wp2_with fail
  refine hat.out.mono ?_
  rintro e w2 ⟨ev, rfl, hf, b2⟩
  clear k2
  obtain ⟨c0, c1, c2, hE2, hi2⟩ := hg.out w2 b2
  have hrg := reg_any (s, false, col) w2 hE2.pk.p
  replace hrg := Lib.hid hrg
  unfold wV at hrg
  dsimp only at hrg
  clear hE2 hi2
  replace b2 := Lib.hid b2; replace hf := Lib.hid hf
  go_wp2_with fail
  refine hrg.out.mono ?_
  rintro e w3 ⟨rfl, b3⟩
  clear c0 c1 c2 hrg
  have B3 := b2.out.trans (b3.mono b2.out.size)
  replace hf := hf.out.later b3
  clear b2 b3
  obtain ⟨c0, c1, c2, hE3, hi3⟩ := hg.out w3 B3
  have hcl := hnu w3 hE3.tabs
  replace hcl := Lib.hid hcl
  replace hf := Lib.hid hf; replace B3 := Lib.hid B3
  clear hE3 hi3
  go_wp2_with fail
  refine hcl.out.mono ?_
  rintro e w4 ⟨rfl, rfl⟩
  have b4 : Below w4.heap.size w4 w4 := Below.refl _ _
  have B4 := B3.out.trans (b4.mono B3.out.size)
  replace hf := hf.out.later b4
  obtain ⟨_, _, _, _, hi4⟩ := hg.out w4 B4
  clear b4 B3 hcl
  obtain ⟨vold, k0⟩ : ∃ u, w4.cell? ⟨bi, 1, none⟩ = some u := ⟨_, cell_of_row _ _ 1 _ _ _ hi4⟩
  have kf := frozen_of_row w4 bi 1 _ _ hi4
  have hset : (w4.setCell ⟨bi, 1, none⟩ (.int .i64 (n : Int))).heap[bi]? = some (.cells (insC { i with k := (n : Int) }) 92 (0, 0)) := by
   rw [heap_setCell_same w4 bi 1 _ _ _ hi4]; rfl
  have hfin := (hB1.out w4 B4).trans (But.set w4 1 (.int .i64 (n : Int)))
  clear hf hi4 B4
  replace hset := Lib.hid hset; replace hfin := Lib.hid hfin
  go_wp2_with fail
  go_ret
  exact ⟨⟨rfl, hset.out⟩, hfin.out⟩

set_option maxRecDepth 100000 in
set_option maxHeartbeats 2000000 in
theorem field_s (R ln bi : Nat) (i : Ins) (s : ByteArray) (col : Nat) (w : World) (hE : AEnv w) (hs : s.size ≤ 140737488355328) (hl : w.cell? ⟨R, 1, none⟩ = some (.int .i64 (ln : Int))) (hi : w.heap[bi]? = some (.cells (insC i) 92 (0, 0))) :
  Calls Tryz.prog 111 #[ptr R, ptr bi, .int .i32 115, wV (s, false, col)] w fun e w' => FieldRes bi ln col w' e (fieldM i 115 (s, false, col)) ∧ But bi w w' := by
 unfold wV
 dsimp only
 obtain ⟨w1, hw1⟩ : ∃ w1, w.alloc (.cells #[.string s, .bool false, .int .i64 (col : Int)] 152) = w1 := ⟨_, rfl⟩
 have b1 : Below w.heap.size w w1 := by rw [← hw1]; exact (Below.refl w.heap.size w).alloc (Nat.le_refl _) _
 have hB : w1.heap[w.heap.size]? = some (.cells #[.string s, .bool false, .int .i64 (col : Int)] 152 (0, 0)) := by rw [← hw1]; exact heap_alloc_new w _
 have hbi := (Array.getElem?_eq_some_iff.1 hi).1
 have hg : ∀ W, Below w1.heap.size w1 W → W.cell? ⟨w.heap.size, 0, none⟩ = some (.string s) ∧ W.cell? ⟨w.heap.size, 1, none⟩ = some (.bool false) ∧ W.cell? ⟨w.heap.size, 2, none⟩ = some (.int .i64 (col : Int)) ∧ AEnv W ∧ W.heap[bi]? = some (.cells (insC i) 92 (0, 0)) := fun W hW => by
  have h2 := (hW.block _ (Array.getElem?_eq_some_iff.1 hB).1).trans hB
  have hb := b1.trans (hW.mono b1.size)
  exact ⟨cell_of_row _ _ 0 _ _ _ h2, cell_of_row _ _ 1 _ _ _ h2, cell_of_row _ _ 2 _ _ _ h2, hE.later hb, (hb.block _ hbi).trans hi⟩
 have hat := at_any R ln col 61 w1 ((b1.cell (World.block_lt_of_cell? _ _ hl)).trans hl)
 have hB1 : ∀ W, Below w1.heap.size w1 W → But bi w W := fun W hW => But.of_below (b1.trans (hW.mono b1.size))
 have k2 : w1.cell? ⟨w.heap.size, 2, none⟩ = some (.int .i64 (col : Int)) := cell_of_row _ _ 2 _ _ _ hB
 clear hE hl hi hB
 replace b1 := Lib.hid b1; replace hg := Lib.hid hg; replace hat := Lib.hid hat; replace hB1 := Lib.hid hB1
 have hnu := fun W hW => signed_any s W hs hW
 cases hn : sgnF s.data.toList with
 | none =>
  have e1 : fieldM i 115 (s, false, col) = none := by unfold fieldM sgnIn; simp [hn]
  rw [e1]
  rw [hn] at hnu
  simp only [Option.getD_none, Option.isSome_none, errN] at hnu
  clear e1 hn
  go_enter Tryz.func111, Tryz.ntmps111
  go_upto_region 1 with fail
  try rw [hw1]
  clear hw1
  go_wp2_with fail
  refine hat.out.mono ?_
  rintro e w2 ⟨ev, rfl, hf, b2⟩
  clear k2
  obtain ⟨c0, c1, c2, hE2, hi2⟩ := hg.out w2 b2
  have hrg := reg_any (s, false, col) w2 hE2.pk.p
  replace hrg := Lib.hid hrg
  unfold wV at hrg
  dsimp only at hrg
  clear hE2 hi2
  replace b2 := Lib.hid b2; replace hf := Lib.hid hf
  go_wp2_with fail
  refine hrg.out.mono ?_
  rintro e w3 ⟨rfl, b3⟩
  clear c0 c1 c2 hrg
  have B3 := b2.out.trans (b3.mono b2.out.size)
  replace hf := hf.out.later b3
  clear b2 b3
  obtain ⟨c0, c1, c2, hE3, hi3⟩ := hg.out w3 B3
  have hcl := hnu _ hE3.pk.e
  replace hcl := Lib.hid hcl
  replace hf := Lib.hid hf; replace B3 := Lib.hid B3
  clear hE3 hi3
  go_wp2_with fail
  refine hcl.out.mono ?_
  rintro e w4 ⟨b4, rfl⟩
  have B4 := B3.out.trans (b4.mono B3.out.size)
  replace hf := hf.out.later b4
  obtain ⟨_, _, _, _, hi4⟩ := hg.out w4 B4
  clear b4 B3 hcl
  have hfin := hB1.out w4 B4
  clear hi4 B4
  replace hf := Lib.hid hf; replace hfin := Lib.hid hfin
  go_wp2_with fail
  go_ret
  exact ⟨⟨_, rfl, hf.out⟩, hfin.out⟩
 | some v =>
  rw [hn] at hnu
  simp only [Option.getD_some, Option.isSome_some, errN, if_true] at hnu
  by_cases hv : -32768 ≤ v ∧ v ≤ 32767
  ·have e1 : fieldM i 115 (s, false, col) = some { i with imm := v } := by unfold fieldM sgnIn; simp [hn, hv]
   rw [e1]
   clear e1 hn
   have d1 : decide (v < -32768) = false := decide_eq_false (by omega)
   have d2 : decide (v > 32767) = false := decide_eq_false (by omega)
   have d3 : ¬ v < -32768 := by omega
   have d4 : ¬ 32767 < v := by omega
   go_enter Tryz.func111, Tryz.ntmps111
   go_upto_region 1 with fail
   try rw [hw1]
   clear hw1
   go_wp2_with fail
   refine hat.out.mono ?_
   rintro e w2 ⟨ev, rfl, hf, b2⟩
   clear k2
   obtain ⟨c0, c1, c2, hE2, hi2⟩ := hg.out w2 b2
   have hrg := reg_any (s, false, col) w2 hE2.pk.p
   replace hrg := Lib.hid hrg
   unfold wV at hrg
   dsimp only at hrg
   clear hE2 hi2
   replace b2 := Lib.hid b2; replace hf := Lib.hid hf
   go_wp2_with fail
   refine hrg.out.mono ?_
   rintro e w3 ⟨rfl, b3⟩
   clear c0 c1 c2 hrg
   have B3 := b2.out.trans (b3.mono b2.out.size)
   replace hf := hf.out.later b3
   clear b2 b3
   obtain ⟨c0, c1, c2, hE3, hi3⟩ := hg.out w3 B3
   have hcl := hnu _ hE3.pk.e
   replace hcl := Lib.hid hcl
   replace hf := Lib.hid hf; replace B3 := Lib.hid B3
   clear hE3 hi3
   go_wp2_with fail
   refine hcl.out.mono ?_
   rintro e w4 ⟨b4, rfl⟩
   have B4 := B3.out.trans (b4.mono B3.out.size)
   replace hf := hf.out.later b4
   obtain ⟨_, _, _, _, hi4⟩ := hg.out w4 B4
   clear b4 B3 hcl
   obtain ⟨vold, k0⟩ : ∃ u, w4.cell? ⟨bi, 5, none⟩ = some u := ⟨_, cell_of_row _ _ 5 _ _ _ hi4⟩
   have kf := frozen_of_row w4 bi 5 _ _ hi4
   have hset : (w4.setCell ⟨bi, 5, none⟩ (.int .i32 v)).heap[bi]? = some (.cells (insC { i with imm := v }) 92 (0, 0)) := by
    rw [heap_setCell_same w4 bi 5 _ _ _ hi4]; rfl
   have hfin := (hB1.out w4 B4).trans (But.set w4 5 (.int .i32 v))
   clear hf hi4 B4
   replace hset := Lib.hid hset; replace hfin := Lib.hid hfin
   go_wp2_with fail
   go_ret
   exact ⟨⟨rfl, hset.out⟩, hfin.out⟩
  ·have e1 : fieldM i 115 (s, false, col) = none := by unfold fieldM sgnIn; simp [hn, hv]
   rw [e1]
   clear e1 hn
   by_cases hv1 : v < -32768
   ·have d1 : decide (v < -32768) = true := decide_eq_true hv1
    go_enter Tryz.func111, Tryz.ntmps111
    go_upto_region 1 with fail
    try rw [hw1]
    clear hw1
    go_wp2_with fail
    refine hat.out.mono ?_
    rintro e w2 ⟨ev, rfl, hf, b2⟩
    clear k2
    obtain ⟨c0, c1, c2, hE2, hi2⟩ := hg.out w2 b2
    have hrg := reg_any (s, false, col) w2 hE2.pk.p
    replace hrg := Lib.hid hrg
    unfold wV at hrg
    dsimp only at hrg
    clear hE2 hi2
    replace b2 := Lib.hid b2; replace hf := Lib.hid hf
    go_wp2_with fail
    refine hrg.out.mono ?_
    rintro e w3 ⟨rfl, b3⟩
    clear c0 c1 c2 hrg
    have B3 := b2.out.trans (b3.mono b2.out.size)
    replace hf := hf.out.later b3
    clear b2 b3
    obtain ⟨c0, c1, c2, hE3, hi3⟩ := hg.out w3 B3
    have hcl := hnu _ hE3.pk.e
    replace hcl := Lib.hid hcl
    replace hf := Lib.hid hf; replace B3 := Lib.hid B3
    clear hE3 hi3
    go_wp2_with fail
    refine hcl.out.mono ?_
    rintro e w4 ⟨b4, rfl⟩
    have B4 := B3.out.trans (b4.mono B3.out.size)
    replace hf := hf.out.later b4
    obtain ⟨_, _, _, _, hi4⟩ := hg.out w4 B4
    clear b4 B3 hcl
    have hfin := hB1.out w4 B4
    clear hi4 B4
    replace hf := Lib.hid hf; replace hfin := Lib.hid hfin
    go_wp2_with fail
    go_ret
    exact ⟨⟨_, rfl, hf.out⟩, hfin.out⟩
   ·have d1 : decide (v < -32768) = false := decide_eq_false hv1
    have d2 : decide (v > 32767) = true := decide_eq_true (by omega)
    have d4 : 32767 < v := by omega
    go_enter Tryz.func111, Tryz.ntmps111
    go_upto_region 1 with fail
    try rw [hw1]
    clear hw1
    go_wp2_with fail
    refine hat.out.mono ?_
    rintro e w2 ⟨ev, rfl, hf, b2⟩
    clear k2
    obtain ⟨c0, c1, c2, hE2, hi2⟩ := hg.out w2 b2
    have hrg := reg_any (s, false, col) w2 hE2.pk.p
    replace hrg := Lib.hid hrg
    unfold wV at hrg
    dsimp only at hrg
    clear hE2 hi2
    replace b2 := Lib.hid b2; replace hf := Lib.hid hf
    go_wp2_with fail
    refine hrg.out.mono ?_
    rintro e w3 ⟨rfl, b3⟩
    clear c0 c1 c2 hrg
    have B3 := b2.out.trans (b3.mono b2.out.size)
    replace hf := hf.out.later b3
    clear b2 b3
    obtain ⟨c0, c1, c2, hE3, hi3⟩ := hg.out w3 B3
    have hcl := hnu _ hE3.pk.e
    replace hcl := Lib.hid hcl
    replace hf := Lib.hid hf; replace B3 := Lib.hid B3
    clear hE3 hi3
    go_wp2_with fail
    refine hcl.out.mono ?_
    rintro e w4 ⟨b4, rfl⟩
    have B4 := B3.out.trans (b4.mono B3.out.size)
    replace hf := hf.out.later b4
    obtain ⟨_, _, _, _, hi4⟩ := hg.out w4 B4
    clear b4 B3 hcl
    have hfin := hB1.out w4 B4
    clear hi4 B4
    replace hf := Lib.hid hf; replace hfin := Lib.hid hfin
    go_wp2_with fail
    go_ret
    exact ⟨⟨_, rfl, hf.out⟩, hfin.out⟩

set_option maxRecDepth 100000 in
set_option maxHeartbeats 2000000 in
theorem field_o0 (R ln bi : Nat) (i : Ins) (s : ByteArray) (col : Nat) (w : World) (hE : AEnv w) (hs : s.size ≤ 140737488355328) (hl : w.cell? ⟨R, 1, none⟩ = some (.int .i64 (ln : Int))) (hnm : nameF s = false) (hi : w.heap[bi]? = some (.cells (insC i) 92 (0, 0))) :
  Calls Tryz.prog 111 #[ptr R, ptr bi, .int .i32 111, wV (s, false, col)] w fun e w' => FieldRes bi ln col w' e (fieldM i 111 (s, false, col)) ∧ But bi w w' := by
 unfold wV
 dsimp only
 obtain ⟨w1, hw1⟩ : ∃ w1, w.alloc (.cells #[.string s, .bool false, .int .i64 (col : Int)] 152) = w1 := ⟨_, rfl⟩
 have b1 : Below w.heap.size w w1 := by rw [← hw1]; exact (Below.refl w.heap.size w).alloc (Nat.le_refl _) _
 have hB : w1.heap[w.heap.size]? = some (.cells #[.string s, .bool false, .int .i64 (col : Int)] 152 (0, 0)) := by rw [← hw1]; exact heap_alloc_new w _
 have hbi := (Array.getElem?_eq_some_iff.1 hi).1
 have hg : ∀ W, Below w1.heap.size w1 W → W.cell? ⟨w.heap.size, 0, none⟩ = some (.string s) ∧ W.cell? ⟨w.heap.size, 1, none⟩ = some (.bool false) ∧ W.cell? ⟨w.heap.size, 2, none⟩ = some (.int .i64 (col : Int)) ∧ AEnv W ∧ W.heap[bi]? = some (.cells (insC i) 92 (0, 0)) := fun W hW => by
  have h2 := (hW.block _ (Array.getElem?_eq_some_iff.1 hB).1).trans hB
  have hb := b1.trans (hW.mono b1.size)
  exact ⟨cell_of_row _ _ 0 _ _ _ h2, cell_of_row _ _ 1 _ _ _ h2, cell_of_row _ _ 2 _ _ _ h2, hE.later hb, (hb.block _ hbi).trans hi⟩
 have hat := at_any R ln col 61 w1 ((b1.cell (World.block_lt_of_cell? _ _ hl)).trans hl)
 have hB1 : ∀ W, Below w1.heap.size w1 W → But bi w W := fun W hW => But.of_below (b1.trans (hW.mono b1.size))
 have k2 : w1.cell? ⟨w.heap.size, 2, none⟩ = some (.int .i64 (col : Int)) := cell_of_row _ _ 2 _ _ _ hB
 clear hE hl hi hB
 replace b1 := Lib.hid b1; replace hg := Lib.hid hg; replace hat := Lib.hid hat; replace hB1 := Lib.hid hB1
 have hnu := fun W hW => signed_any s W hs hW
 have en : isNameF (s, false, col) = false := by unfold isNameF; simp [hnm]
 cases hn : sgnF s.data.toList with
 | none =>
  have e1 : fieldM i 111 (s, false, col) = none := by unfold fieldM sgnIn; simp [hn, hnm]
  rw [e1]
  rw [hn] at hnu
  simp only [Option.getD_none, Option.isSome_none, errN] at hnu
  clear e1 hn
  go_enter Tryz.func111, Tryz.ntmps111
  go_upto_region 1 with fail
  try rw [hw1]
  clear hw1
  go_wp2_with fail
  refine hat.out.mono ?_
  rintro e w2 ⟨ev, rfl, hf, b2⟩
  clear k2
  obtain ⟨c0, c1, c2, hE2, hi2⟩ := hg.out w2 b2
  have hrg := reg_any (s, false, col) w2 hE2.pk.p
  replace hrg := Lib.hid hrg
  unfold wV at hrg
  dsimp only at hrg
  clear hE2 hi2
  replace b2 := Lib.hid b2; replace hf := Lib.hid hf
  go_wp2_with fail
  refine hrg.out.mono ?_
  rintro e w3 ⟨rfl, b3⟩
  clear c0 c1 c2 hrg
  have B3 := b2.out.trans (b3.mono b2.out.size)
  replace hf := hf.out.later b3
  clear b2 b3
  obtain ⟨c0, c1, c2, hE3, hi3⟩ := hg.out w3 B3
  have hin := isnm_any (s, false, col) w3
  unfold wV at hin
  dsimp only at hin
  rw [en] at hin
  replace hin := Lib.hid hin
  replace hf := Lib.hid hf; replace B3 := Lib.hid B3
  clear hE3 hi3
  go_wp2_with fail
  refine hin.out.mono ?_
  rintro e w5 ⟨rfl, b5⟩
  clear hin c0 c1 c2
  replace B3 := B3.out.trans (b5.mono B3.out.size)
  replace hf := hf.out.later b5
  clear b5
  obtain ⟨c0, c1, c2, hE3, hi3⟩ := hg.out w5 B3
  have hcl := hnu _ hE3.pk.e
  replace hcl := Lib.hid hcl
  replace hf := Lib.hid hf; replace B3 := Lib.hid B3
  clear hE3 hi3
  go_wp2_with fail
  refine hcl.out.mono ?_
  rintro e w4 ⟨b4, rfl⟩
  have B4 := B3.out.trans (b4.mono B3.out.size)
  replace hf := hf.out.later b4
  obtain ⟨_, _, _, _, hi4⟩ := hg.out w4 B4
  clear b4 B3 hcl
  have hfin := hB1.out w4 B4
  clear hi4 B4
  replace hf := Lib.hid hf; replace hfin := Lib.hid hfin
  go_wp2_with fail
  go_ret
  exact ⟨⟨_, rfl, hf.out⟩, hfin.out⟩
 | some v =>
  rw [hn] at hnu
  simp only [Option.getD_some, Option.isSome_some, errN, if_true] at hnu
  by_cases hv : -32768 ≤ v ∧ v ≤ 32767
  ·have e1 : fieldM i 111 (s, false, col) = some { i with imm := v } := by unfold fieldM sgnIn; simp [hn, hv, hnm]
   rw [e1]
   clear e1 hn
   have d1 : decide (v < -32768) = false := decide_eq_false (by omega)
   have d2 : decide (v > 32767) = false := decide_eq_false (by omega)
   have d3 : ¬ v < -32768 := by omega
   have d4 : ¬ 32767 < v := by omega
   go_enter Tryz.func111, Tryz.ntmps111
   go_upto_region 1 with fail
   try rw [hw1]
   clear hw1
   go_wp2_with fail
   refine hat.out.mono ?_
   rintro e w2 ⟨ev, rfl, hf, b2⟩
   clear k2
   obtain ⟨c0, c1, c2, hE2, hi2⟩ := hg.out w2 b2
   have hrg := reg_any (s, false, col) w2 hE2.pk.p
   replace hrg := Lib.hid hrg
   unfold wV at hrg
   dsimp only at hrg
   clear hE2 hi2
   replace b2 := Lib.hid b2; replace hf := Lib.hid hf
   go_wp2_with fail
   refine hrg.out.mono ?_
   rintro e w3 ⟨rfl, b3⟩
   clear c0 c1 c2 hrg
   have B3 := b2.out.trans (b3.mono b2.out.size)
   replace hf := hf.out.later b3
   clear b2 b3
   obtain ⟨c0, c1, c2, hE3, hi3⟩ := hg.out w3 B3
   have hin := isnm_any (s, false, col) w3
   unfold wV at hin
   dsimp only at hin
   rw [en] at hin
   replace hin := Lib.hid hin
   replace hf := Lib.hid hf; replace B3 := Lib.hid B3
   clear hE3 hi3
   go_wp2_with fail
   refine hin.out.mono ?_
   rintro e w5 ⟨rfl, b5⟩
   clear hin c0 c1 c2
   replace B3 := B3.out.trans (b5.mono B3.out.size)
   replace hf := hf.out.later b5
   clear b5
   obtain ⟨c0, c1, c2, hE3, hi3⟩ := hg.out w5 B3
   have hcl := hnu _ hE3.pk.e
   replace hcl := Lib.hid hcl
   replace hf := Lib.hid hf; replace B3 := Lib.hid B3
   clear hE3 hi3
   go_wp2_with fail
   refine hcl.out.mono ?_
   rintro e w4 ⟨b4, rfl⟩
   have B4 := B3.out.trans (b4.mono B3.out.size)
   replace hf := hf.out.later b4
   obtain ⟨_, _, _, _, hi4⟩ := hg.out w4 B4
   clear b4 B3 hcl
   obtain ⟨vold, k0⟩ : ∃ u, w4.cell? ⟨bi, 5, none⟩ = some u := ⟨_, cell_of_row _ _ 5 _ _ _ hi4⟩
   have kf := frozen_of_row w4 bi 5 _ _ hi4
   have hset : (w4.setCell ⟨bi, 5, none⟩ (.int .i32 v)).heap[bi]? = some (.cells (insC { i with imm := v }) 92 (0, 0)) := by
    rw [heap_setCell_same w4 bi 5 _ _ _ hi4]; rfl
   have hfin := (hB1.out w4 B4).trans (But.set w4 5 (.int .i32 v))
   clear hf hi4 B4
   replace hset := Lib.hid hset; replace hfin := Lib.hid hfin
   go_wp2_with fail
   go_ret
   exact ⟨⟨rfl, hset.out⟩, hfin.out⟩
  ·have e1 : fieldM i 111 (s, false, col) = none := by unfold fieldM sgnIn; simp [hn, hv, hnm]
   rw [e1]
   clear e1 hn
   by_cases hv1 : v < -32768
   ·have d1 : decide (v < -32768) = true := decide_eq_true hv1
    go_enter Tryz.func111, Tryz.ntmps111
    go_upto_region 1 with fail
    try rw [hw1]
    clear hw1
    go_wp2_with fail
    refine hat.out.mono ?_
    rintro e w2 ⟨ev, rfl, hf, b2⟩
    clear k2
    obtain ⟨c0, c1, c2, hE2, hi2⟩ := hg.out w2 b2
    have hrg := reg_any (s, false, col) w2 hE2.pk.p
    replace hrg := Lib.hid hrg
    unfold wV at hrg
    dsimp only at hrg
    clear hE2 hi2
    replace b2 := Lib.hid b2; replace hf := Lib.hid hf
    go_wp2_with fail
    refine hrg.out.mono ?_
    rintro e w3 ⟨rfl, b3⟩
    clear c0 c1 c2 hrg
    have B3 := b2.out.trans (b3.mono b2.out.size)
    replace hf := hf.out.later b3
    clear b2 b3
    obtain ⟨c0, c1, c2, hE3, hi3⟩ := hg.out w3 B3
    have hin := isnm_any (s, false, col) w3
    unfold wV at hin
    dsimp only at hin
    rw [en] at hin
    replace hin := Lib.hid hin
    replace hf := Lib.hid hf; replace B3 := Lib.hid B3
    clear hE3 hi3
    go_wp2_with fail
    refine hin.out.mono ?_
    rintro e w5 ⟨rfl, b5⟩
    clear hin c0 c1 c2
    replace B3 := B3.out.trans (b5.mono B3.out.size)
    replace hf := hf.out.later b5
    clear b5
    obtain ⟨c0, c1, c2, hE3, hi3⟩ := hg.out w5 B3
    have hcl := hnu _ hE3.pk.e
    replace hcl := Lib.hid hcl
    replace hf := Lib.hid hf; replace B3 := Lib.hid B3
    clear hE3 hi3
    go_wp2_with fail
    refine hcl.out.mono ?_
    rintro e w4 ⟨b4, rfl⟩
    have B4 := B3.out.trans (b4.mono B3.out.size)
    replace hf := hf.out.later b4
    obtain ⟨_, _, _, _, hi4⟩ := hg.out w4 B4
    clear b4 B3 hcl
    have hfin := hB1.out w4 B4
    clear hi4 B4
    replace hf := Lib.hid hf; replace hfin := Lib.hid hfin
    go_wp2_with fail
    go_ret
    exact ⟨⟨_, rfl, hf.out⟩, hfin.out⟩
   ·have d1 : decide (v < -32768) = false := decide_eq_false hv1
    have d2 : decide (v > 32767) = true := decide_eq_true (by omega)
    have d4 : 32767 < v := by omega
    go_enter Tryz.func111, Tryz.ntmps111
    go_upto_region 1 with fail
    try rw [hw1]
    clear hw1
    go_wp2_with fail
    refine hat.out.mono ?_
    rintro e w2 ⟨ev, rfl, hf, b2⟩
    clear k2
    obtain ⟨c0, c1, c2, hE2, hi2⟩ := hg.out w2 b2
    have hrg := reg_any (s, false, col) w2 hE2.pk.p
    replace hrg := Lib.hid hrg
    unfold wV at hrg
    dsimp only at hrg
    clear hE2 hi2
    replace b2 := Lib.hid b2; replace hf := Lib.hid hf
    go_wp2_with fail
    refine hrg.out.mono ?_
    rintro e w3 ⟨rfl, b3⟩
    clear c0 c1 c2 hrg
    have B3 := b2.out.trans (b3.mono b2.out.size)
    replace hf := hf.out.later b3
    clear b2 b3
    obtain ⟨c0, c1, c2, hE3, hi3⟩ := hg.out w3 B3
    have hin := isnm_any (s, false, col) w3
    unfold wV at hin
    dsimp only at hin
    rw [en] at hin
    replace hin := Lib.hid hin
    replace hf := Lib.hid hf; replace B3 := Lib.hid B3
    clear hE3 hi3
    go_wp2_with fail
    refine hin.out.mono ?_
    rintro e w5 ⟨rfl, b5⟩
    clear hin c0 c1 c2
    replace B3 := B3.out.trans (b5.mono B3.out.size)
    replace hf := hf.out.later b5
    clear b5
    obtain ⟨c0, c1, c2, hE3, hi3⟩ := hg.out w5 B3
    have hcl := hnu _ hE3.pk.e
    replace hcl := Lib.hid hcl
    replace hf := Lib.hid hf; replace B3 := Lib.hid B3
    clear hE3 hi3
    go_wp2_with fail
    refine hcl.out.mono ?_
    rintro e w4 ⟨b4, rfl⟩
    have B4 := B3.out.trans (b4.mono B3.out.size)
    replace hf := hf.out.later b4
    obtain ⟨_, _, _, _, hi4⟩ := hg.out w4 B4
    clear b4 B3 hcl
    have hfin := hB1.out w4 B4
    clear hi4 B4
    replace hf := Lib.hid hf; replace hfin := Lib.hid hfin
    go_wp2_with fail
    go_ret
    exact ⟨⟨_, rfl, hf.out⟩, hfin.out⟩

set_option maxRecDepth 100000 in
set_option maxHeartbeats 2000000 in
theorem field_o1 (R ln bi : Nat) (i : Ins) (s : ByteArray) (col : Nat) (w : World) (hE : AEnv w) (hs : s.size ≤ 140737488355328) (hl : w.cell? ⟨R, 1, none⟩ = some (.int .i64 (ln : Int))) (hnm : nameF s = true) (hi : w.heap[bi]? = some (.cells (insC i) 92 (0, 0))) :
  Calls Tryz.prog 111 #[ptr R, ptr bi, .int .i32 111, wV (s, false, col)] w fun e w' => FieldRes bi ln col w' e (fieldM i 111 (s, false, col)) ∧ But bi w w' := by
 unfold wV
 dsimp only
 obtain ⟨w1, hw1⟩ : ∃ w1, w.alloc (.cells #[.string s, .bool false, .int .i64 (col : Int)] 152) = w1 := ⟨_, rfl⟩
 have b1 : Below w.heap.size w w1 := by rw [← hw1]; exact (Below.refl w.heap.size w).alloc (Nat.le_refl _) _
 have hB : w1.heap[w.heap.size]? = some (.cells #[.string s, .bool false, .int .i64 (col : Int)] 152 (0, 0)) := by rw [← hw1]; exact heap_alloc_new w _
 have hbi := (Array.getElem?_eq_some_iff.1 hi).1
 have hg : ∀ W, Below w1.heap.size w1 W → W.cell? ⟨w.heap.size, 0, none⟩ = some (.string s) ∧ W.cell? ⟨w.heap.size, 1, none⟩ = some (.bool false) ∧ W.cell? ⟨w.heap.size, 2, none⟩ = some (.int .i64 (col : Int)) ∧ AEnv W ∧ W.heap[bi]? = some (.cells (insC i) 92 (0, 0)) := fun W hW => by
  have h2 := (hW.block _ (Array.getElem?_eq_some_iff.1 hB).1).trans hB
  have hb := b1.trans (hW.mono b1.size)
  exact ⟨cell_of_row _ _ 0 _ _ _ h2, cell_of_row _ _ 1 _ _ _ h2, cell_of_row _ _ 2 _ _ _ h2, hE.later hb, (hb.block _ hbi).trans hi⟩
 have hat := at_any R ln col 61 w1 ((b1.cell (World.block_lt_of_cell? _ _ hl)).trans hl)
 have hB1 : ∀ W, Below w1.heap.size w1 W → But bi w W := fun W hW => But.of_below (b1.trans (hW.mono b1.size))
 have k2 : w1.cell? ⟨w.heap.size, 2, none⟩ = some (.int .i64 (col : Int)) := cell_of_row _ _ 2 _ _ _ hB
 clear hE hl hi hB
 replace b1 := Lib.hid b1; replace hg := Lib.hid hg; replace hat := Lib.hid hat; replace hB1 := Lib.hid hB1
 have en : isNameF (s, false, col) = true := by unfold isNameF; simp [hnm]
 have e1 : fieldM i 111 (s, false, col) = some i := by unfold fieldM; simp [hnm]
 rw [e1]
 clear e1
 go_enter Tryz.func111, Tryz.ntmps111
 go_upto_region 1 with fail
 try rw [hw1]
 clear hw1
 go_wp2_with fail
 refine hat.out.mono ?_
 rintro e w2 ⟨ev, rfl, hf, b2⟩
 clear k2
 obtain ⟨c0, c1, c2, hE2, hi2⟩ := hg.out w2 b2
 have hrg := reg_any (s, false, col) w2 hE2.pk.p
 replace hrg := Lib.hid hrg
 unfold wV at hrg
 dsimp only at hrg
 clear hE2 hi2
 replace b2 := Lib.hid b2; replace hf := Lib.hid hf
 go_wp2_with fail
 refine hrg.out.mono ?_
 rintro e w3 ⟨rfl, b3⟩
 clear c0 c1 c2 hrg
 have B3 := b2.out.trans (b3.mono b2.out.size)
 replace hf := hf.out.later b3
 clear b2 b3
 obtain ⟨c0, c1, c2, hE3, hi3⟩ := hg.out w3 B3
 have hin := isnm_any (s, false, col) w3
 unfold wV at hin
 dsimp only at hin
 rw [en] at hin
 replace hin := Lib.hid hin
 replace hf := Lib.hid hf; replace B3 := Lib.hid B3
 clear hE3 hi3
 go_wp2_with fail
 refine hin.out.mono ?_
 rintro e w5 ⟨rfl, b5⟩
 clear hin c0 c1 c2
 replace B3 := B3.out.trans (b5.mono B3.out.size)
 replace hf := hf.out.later b5
 clear b5
 obtain ⟨_, _, _, _, hi5⟩ := hg.out w5 B3
 have hfin := hB1.out w5 B3
 clear B3 hf
 replace hi5 := Lib.hid hi5; replace hfin := Lib.hid hfin
 go_wp2_with fail
 go_ret
 exact ⟨⟨rfl, hi5.out⟩, hfin.out⟩
set_option maxRecDepth 100000 in
theorem field_q (R ln bi : Nat) (i : Ins) (s : ByteArray) (col : Nat) (ch : UInt8) (w : World) (hl : w.cell? ⟨R, 1, none⟩ = some (.int .i64 (ln : Int))) :
  Calls Tryz.prog 111 #[ptr R, ptr bi, .int .i32 (ch.toNat : Int), wV (s, true, col)] w fun e w' => FieldRes bi ln col w' e (fieldM i ch (s, true, col)) ∧ But bi w w' := by
 have e1 : fieldM i ch (s, true, col) = none := by unfold fieldM; simp
 rw [e1]
 obtain ⟨w1, hw1⟩ : ∃ w1, w.alloc (.cells #[.string s, .bool true, .int .i64 (col : Int)] 152) = w1 := ⟨_, rfl⟩
 have b1 : Below w.heap.size w w1 := by rw [← hw1]; exact (Below.refl w.heap.size w).alloc (Nat.le_refl _) _
 have hB : w1.heap[w.heap.size]? = some (.cells #[.string s, .bool true, .int .i64 (col : Int)] 152 (0, 0)) := by rw [← hw1]; exact heap_alloc_new w _
 have hat := at_any R ln col 61 w1 ((b1.cell (World.block_lt_of_cell? _ _ hl)).trans hl)
 have k2 : w1.cell? ⟨w.heap.size, 2, none⟩ = some (.int .i64 (col : Int)) := cell_of_row _ _ 2 _ _ _ hB
 clear hl e1
 replace b1 := Lib.hid b1; replace hat := Lib.hid hat; replace hB := Lib.hid hB
 unfold wV
 dsimp only
 go_enter Tryz.func111, Tryz.ntmps111
 go_upto_region 1 with fail
 try rw [hw1]
 clear hw1
 go_wp2_with fail
 refine hat.out.mono ?_
 rintro e w2 ⟨ev, rfl, hf, b2⟩
 have c1 : w2.cell? ⟨w.heap.size, 1, none⟩ = some (.bool true) := cell_of_row _ _ 1 _ _ _ ((b2.block _ (Array.getElem?_eq_some_iff.1 hB.out).1).trans hB.out)
 have hfin := But.of_below (k := bi) (b1.out.trans (b2.mono b1.out.size))
 clear b2 k2
 replace hf := Lib.hid hf; replace hfin := Lib.hid hfin
 go_wp2_with fail
 go_ret
 exact ⟨⟨_, rfl, hf.out⟩, hfin.out⟩
theorem letters : ∀ (op : Int) (ch : UInt8), ch ∈ shapeI op → ch = 97 ∨ ch = 98 ∨ ch = 99 ∨ ch = 117 ∨ ch = 107 ∨ ch = 115 ∨ ch = 111 := by
 intro op ch h
 have key : ∀ n, n < 25 → ∀ c ∈ shapeT.getD n [], c = 97 ∨ c = 98 ∨ c = 99 ∨ c = 117 ∨ c = 107 ∨ c = 115 ∨ c = 111 := by decide
 unfold shapeI at h
 by_cases hn : op.toNat < 25
 ·exact key _ hn ch h
 ·rw [List.getD_eq_getElem?_getD, List.getElem?_eq_none (by show 25 ≤ _; omega)] at h; simp at h
theorem field_any (R ln bi : Nat) (i : Ins) (ch : UInt8) (x : W) (w : World) (hch : ch = 97 ∨ ch = 98 ∨ ch = 99 ∨ ch = 117 ∨ ch = 107 ∨ ch = 115 ∨ ch = 111) (hE : AEnv w) (hs : x.1.size ≤ 140737488355328) (hl : w.cell? ⟨R, 1, none⟩ = some (.int .i64 (ln : Int))) (hi : w.heap[bi]? = some (.cells (insC i) 92 (0, 0))) :
  Calls Tryz.prog 111 #[ptr R, ptr bi, .int .i32 (ch.toNat : Int), wV x] w fun e w' => FieldRes bi ln x.2.2 w' e (fieldM i ch x) ∧ But bi w w' := by
 obtain ⟨s, q, col⟩ := x
 cases q with
 | true => exact field_q R ln bi i s col ch w hl
 | false =>
  rcases hch with rfl | rfl | rfl | rfl | rfl | rfl | rfl
  ·exact field_a R ln bi i s col w hE hs hl hi
  ·exact field_b R ln bi i s col w hE hs hl hi
  ·exact field_c R ln bi i s col w hE hs hl hi
  ·exact field_u R ln bi i s col w hE hs hl hi
  ·exact field_k R ln bi i s col w hE hs hl hi
  ·exact field_s R ln bi i s col w hE hs hl hi
  ·cases hn : nameF s with
   | true => exact field_o1 R ln bi i s col w hE hs hl hn hi
   | false => exact field_o0 R ln bi i s col w hE hs hl hn hi
end Go.Proofs.YtiknookfnameiaaGreatDoor
