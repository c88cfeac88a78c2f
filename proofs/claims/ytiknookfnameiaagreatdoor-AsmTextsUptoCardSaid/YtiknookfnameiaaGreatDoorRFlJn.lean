/- The contract of the document's field, letter by letter. -/
import Derived.Test.YtiknookfnameiaaGreatDoorJn22
import Derived.Deep.RegionHeld3
import Derived.Handy
namespace Go.Proofs.YtiknookfnameiaaGreatDoor
open Go.RowKit WP
set_option linter.unusedSimpArgs false
set_option linter.unusedVariables false
def RFieldRes (w w' : World) (e : Ending) (o : Option (Ins × ByteArray)) : Prop :=
 ∃ j nm, e = .returned (.tuple #[.agg (rinsC j), .string nm, .bool o.isSome]) ∧ (∀ y, o = some y → j = y.1 ∧ nm = y.2) ∧ Below w.heap.size w w'
theorem results_fst3 {P : Program} {fn : Func} {t t2 t3 : Tmp} {ty : TypeId} (h : fn.results = #[.cell t ty, .tmp t2, .tmp t3]) {tmps : Array Value} {w : World} {g : Nat} {cs : Array Value} {T : TypeId} {v2 v3 : Value} {d : TypeDesc}
  (hp : tmps.getD t undef = .pointer (some ⟨g, 0, none⟩)) (h2 : tmps.getD t2 undef = v2) (h3 : tmps.getD t3 undef = v3)
  (hc : w.heap[g]? = some (.cells cs T (0, 0))) (hu : P.underlying ty = some d) (hd : d.isRow = true) (hi : (P.info? ty).map (·.size) = some cs.size) : (results fn tmps).run P w = .ok (.tuple #[.agg cs, v2, v3]) w := by
 have hr : w.rangeAt g 0 cs.toList := fun j u hu => by
  rw [Nat.zero_add, cell_of_row _ _ _ _ _ _ hc]; simpa using hu
 have hv := run_loadVar_mid (P := P) w g 0 ty cs.toList d hr hu hd (by simpa using hi)
 have hp' : tmps[t]?.getD undef = .pointer (some ⟨g, 0, none⟩) := by simpa [Array.getD_eq_getD_getElem?] using hp
 have h2' : tmps[t2]?.getD undef = v2 := by simpa [Array.getD_eq_getD_getElem?] using h2
 have h3' : tmps[t3]?.getD undef = v3 := by simpa [Array.getD_eq_getD_getElem?] using h3
 simp [results, h, hp', hv, asAddr, h2', h3']
abbrev insZ : Array Value := #[.int .i64 0, .int .i64 0, .int .i64 0, .int .i64 0, .int .i64 0, .int .i64 0]
theorem two_blocks (w : World) (c1 c2 : Array Value) (T U : TypeId) : ∃ w1, (w.alloc (.cells c1 T)).alloc (.cells c2 U) = w1 ∧ Below w.heap.size w w1 ∧ w1.heap[w.heap.size]? = some (.cells c1 T (0, 0)) ∧ w1.heap[w.heap.size + 1]? = some (.cells c2 U (0, 0)) ∧ w1.heap.size = w.heap.size + 2 := by
 have h0 : (w.alloc (.cells c1 T)).heap.size = w.heap.size + 1 := by simp
 refine ⟨_, rfl, ((Below.refl _ _).alloc (Nat.le_refl _) _).alloc (by simp) _, ?_, ?_, by simp⟩
 ·rw [Below.heap_alloc _ _ _ (by simp)]; exact heap_alloc_new w _
 ·have := heap_alloc_new (w.alloc (.cells c1 T)) (.cells c2 U)
  rwa [h0] at this
theorem ins_ones (op k a b c m : Int) : (#[Value.int IntKind.i64 op, Value.int IntKind.i64 k, Value.int IntKind.i64 a, Value.int IntKind.i64 b, Value.int IntKind.i64 c, Value.int IntKind.i64 m]).all (·.oneCell') = true := by simp [Value.oneCell']
theorem six_set {w w2 : World} {g : Nat} {T : TypeId} {u0 u1 u2 u3 u4 u5 : Value} (h : w2.heap[g]? = some (.cells #[u0, u1, u2, u3, u4, u5] T (0, 0))) (hb : Below w.heap.size w w2) (hg : w.heap.size ≤ g) (v0 v1 v2 v3 v4 v5 : Value) :
  ∃ w3, ((((((w2.setCell ⟨g, 0, none⟩ v0).setCell ⟨g, 1, none⟩ v1).setCell ⟨g, 2, none⟩ v2).setCell ⟨g, 3, none⟩ v3).setCell ⟨g, 4, none⟩ v4).setCell ⟨g, 5, none⟩ v5) = w3 ∧ w3.heap[g]? = some (.cells #[v0, v1, v2, v3, v4, v5] T (0, 0)) ∧ Below w.heap.size w w3 := by
 have h0 := heap_setCell_same w2 g 0 _ _ v0 h
 have h1 := heap_setCell_same _ g 1 _ _ v1 h0
 have h2 := heap_setCell_same _ g 2 _ _ v2 h1
 have h3 := heap_setCell_same _ g 3 _ _ v3 h2
 have h4 := heap_setCell_same _ g 4 _ _ v4 h3
 have h5 := heap_setCell_same _ g 5 _ _ v5 h4
 exact ⟨_, rfl, h5, (((((hb.setCell (p := ⟨g, 0, none⟩) hg _).setCell (p := ⟨g, 1, none⟩) hg _).setCell (p := ⟨g, 2, none⟩) hg _).setCell (p := ⟨g, 3, none⟩) hg _).setCell (p := ⟨g, 4, none⟩) hg _).setCell (p := ⟨g, 5, none⟩) hg _⟩
set_option maxRecDepth 100000 in
set_option maxHeartbeats 2000000 in
theorem rfield_a (i : Ins) (s : ByteArray) (w : World) (hs : s.size ≤ 140737488355328) :
  Calls Tryz.prog 124 #[.agg (rinsC i), .int .u8 97, .string s] w fun e w' => RFieldRes w w' e (rfieldF i 97 s) := by
 obtain ⟨op, k, a, b, c, m⟩ := i
 simp only [rinsC]
 have hrg := fun W => rreg_any s W
 have hR : rfieldF ⟨op, k, a, b, c, m⟩ 97 s = (regA s.data.toList 15 0).map fun (n : Nat) => (⟨op, k, n, b, c, m⟩, eB) := by unfold rfieldF; rw [if_pos rfl]
 rw [hR]
 generalize regA s.data.toList 15 0 = R at *
 clear hR
 obtain ⟨V, hV⟩ : ∃ V, regO R = V := ⟨_, rfl⟩
 have hb : decide (V ≥ 0) = R.isSome := by
  rw [← hV]
  cases R with
  | none => rfl
  | some n => exact decide_eq_true (by show (0 : Int) ≤ (n : Int); omega)
 rw [hV] at hrg
 have hend : ∀ j : Ins, j = ⟨op, k, V, b, c, m⟩ → ∀ y, (R.map fun (n : Nat) => ((⟨op, k, n, b, c, m⟩ : Ins), eB)) = some y → j = y.1 ∧ (⟨#[]⟩ : ByteArray) = y.2 := by
  rintro j rfl y hy
  cases R with
  | none => cases hy
  | some n => cases hy; exact ⟨by rw [← hV]; rfl, rfl⟩
 have his : (R.map fun (n : Nat) => ((⟨op, k, n, b, c, m⟩ : Ins), eB)).isSome = R.isSome := by cases R <;> rfl
 replace hrg := Lib.hid hrg; replace hend := Lib.hid hend; replace his := Lib.hid his; replace hV := Lib.hid hV
 go_enter Tryz.func124, Tryz.ntmps124
 go_upto_region 1 with fail
 obtain ⟨w1, hw1, b1, q0, q1, hs1⟩ := two_blocks w #[.int .i64 op, .int .i64 k, .int .i64 a, .int .i64 b, .int .i64 c, .int .i64 m] insZ 128 128
 rw [hw1]
 clear hw1
 have z0 : w1.cell? ⟨w.heap.size, 2, none⟩ = some (.int .i64 a) := cell_of_row _ _ 2 _ _ _ q0
 have z1 : w1.frozen? ⟨w.heap.size, 2, none⟩ = false := frozen_of_row _ _ 2 _ _ q0
 replace b1 := Lib.hid b1; replace q0 := Lib.hid q0; replace q1 := Lib.hid q1; replace hs1 := Lib.hid hs1
 go_wp2_with fail
 refine (hrg.out _).mono ?_
 rintro e wq ⟨rfl, hwq⟩
 obtain rfl := hwq.symm
 clear hrg
 go_upto_region 4 with fail
 obtain ⟨w2, hw2⟩ : ∃ w2, w1.setCell ⟨w.heap.size, 2, none⟩ (.int .i64 V) = w2 := ⟨_, rfl⟩
 have b2 : Below w.heap.size w w2 := by rw [← hw2]; exact b1.out.setCell (Nat.le_refl _) _
 have p0 : w2.heap[w.heap.size]? = some (.cells #[.int .i64 op, .int .i64 k, .int .i64 V, .int .i64 b, .int .i64 c, .int .i64 m] 128 (0, 0)) := by rw [← hw2, heap_setCell_same w1 _ 2 _ _ _ q0.out]; rfl
 have p1 : w2.heap[w.heap.size + 1]? = some (.cells insZ 128 (0, 0)) := by rw [← hw2, heap_setCell_other _ _ _ _ (by simp)]; exact q1.out
 rw [hw2]
 clear hw2 z0 z1 q0 q1 b1 hs1
 have e0 : w2.cell? ⟨w.heap.size, 0, none⟩ = some (.int .i64 op) := cell_of_row _ _ 0 _ _ _ p0
 have e1 : w2.cell? ⟨w.heap.size, 1, none⟩ = some (.int .i64 k) := cell_of_row _ _ 1 _ _ _ p0
 have e2 : w2.cell? ⟨w.heap.size, 2, none⟩ = some (.int .i64 V) := cell_of_row _ _ 2 _ _ _ p0
 have e3 : w2.cell? ⟨w.heap.size, 3, none⟩ = some (.int .i64 b) := cell_of_row _ _ 3 _ _ _ p0
 have e4 : w2.cell? ⟨w.heap.size, 4, none⟩ = some (.int .i64 c) := cell_of_row _ _ 4 _ _ _ p0
 have e5 : w2.cell? ⟨w.heap.size, 5, none⟩ = some (.int .i64 m) := cell_of_row _ _ 5 _ _ _ p0
 have d0 : w2.cell? ⟨w.heap.size + 1, 0, none⟩ = some (.int .i64 0) := cell_of_row _ _ 0 _ _ _ p1
 have d1 : w2.cell? ⟨w.heap.size + 1, 1, none⟩ = some (.int .i64 0) := cell_of_row _ _ 1 _ _ _ p1
 have d2 : w2.cell? ⟨w.heap.size + 1, 2, none⟩ = some (.int .i64 0) := cell_of_row _ _ 2 _ _ _ p1
 have d3 : w2.cell? ⟨w.heap.size + 1, 3, none⟩ = some (.int .i64 0) := cell_of_row _ _ 3 _ _ _ p1
 have d4 : w2.cell? ⟨w.heap.size + 1, 4, none⟩ = some (.int .i64 0) := cell_of_row _ _ 4 _ _ _ p1
 have d5 : w2.cell? ⟨w.heap.size + 1, 5, none⟩ = some (.int .i64 0) := cell_of_row _ _ 5 _ _ _ p1
 have fz : ∀ j, w2.frozen? ⟨w.heap.size + 1, j, none⟩ = false := fun j => frozen_of_row _ _ j _ _ p1
 replace b2 := Lib.hid b2; replace p0 := Lib.hid p0; replace p1 := Lib.hid p1
 go_region
 obtain ⟨w3, hw3, h3, b3⟩ := six_set p1.out b2.out (Nat.le_succ _) (.int .i64 op) (.int .i64 k) (.int .i64 V) (.int .i64 b) (.int .i64 c) (.int .i64 m)
 rw [hw3]
 clear hw3 d0 d1 d2 d3 d4 d5 e0 e1 e2 e3 e4 e5 fz p0 p1 b2
 replace h3 := Lib.hid h3; replace b3 := Lib.hid b3
 go_wp2_with fail
 exact bodyPost_ret (v := .tuple #[.agg #[.int .i64 op, .int .i64 k, .int .i64 V, .int .i64 b, .int .i64 c, .int .i64 m], .string ⟨#[]⟩, .bool R.isSome]) (results_fst3 rfl rfl rfl rfl h3.out Tryz.underlying128 rfl infoRIns) rfl ⟨⟨op, k, V, b, c, m⟩, ⟨#[]⟩, by first | rfl | (rw [his.out]; rfl), hend.out _ rfl, b3.out.drew⟩
set_option maxRecDepth 100000 in
set_option maxHeartbeats 2000000 in
theorem rfield_b (i : Ins) (s : ByteArray) (w : World) (hs : s.size ≤ 140737488355328) :
  Calls Tryz.prog 124 #[.agg (rinsC i), .int .u8 98, .string s] w fun e w' => RFieldRes w w' e (rfieldF i 98 s) := by
 obtain ⟨op, k, a, b, c, m⟩ := i
 simp only [rinsC]
 have hrg := fun W => rreg_any s W
 have hR : rfieldF ⟨op, k, a, b, c, m⟩ 98 s = (regA s.data.toList 15 0).map fun (n : Nat) => (⟨op, k, a, n, c, m⟩, eB) := by unfold rfieldF; rw [if_neg (by decide), if_pos rfl]
 rw [hR]
 generalize regA s.data.toList 15 0 = R at *
 clear hR
 obtain ⟨V, hV⟩ : ∃ V, regO R = V := ⟨_, rfl⟩
 have hb : decide (V ≥ 0) = R.isSome := by
  rw [← hV]
  cases R with
  | none => rfl
  | some n => exact decide_eq_true (by show (0 : Int) ≤ (n : Int); omega)
 rw [hV] at hrg
 have hend : ∀ j : Ins, j = ⟨op, k, a, V, c, m⟩ → ∀ y, (R.map fun (n : Nat) => ((⟨op, k, a, n, c, m⟩ : Ins), eB)) = some y → j = y.1 ∧ (⟨#[]⟩ : ByteArray) = y.2 := by
  rintro j rfl y hy
  cases R with
  | none => cases hy
  | some n => cases hy; exact ⟨by rw [← hV]; rfl, rfl⟩
 have his : (R.map fun (n : Nat) => ((⟨op, k, a, n, c, m⟩ : Ins), eB)).isSome = R.isSome := by cases R <;> rfl
 replace hrg := Lib.hid hrg; replace hend := Lib.hid hend; replace his := Lib.hid his; replace hV := Lib.hid hV
 go_enter Tryz.func124, Tryz.ntmps124
 go_upto_region 1 with fail
 obtain ⟨w1, hw1, b1, q0, q1, hs1⟩ := two_blocks w #[.int .i64 op, .int .i64 k, .int .i64 a, .int .i64 b, .int .i64 c, .int .i64 m] insZ 128 128
 rw [hw1]
 clear hw1
 have z0 : w1.cell? ⟨w.heap.size, 3, none⟩ = some (.int .i64 b) := cell_of_row _ _ 3 _ _ _ q0
 have z1 : w1.frozen? ⟨w.heap.size, 3, none⟩ = false := frozen_of_row _ _ 3 _ _ q0
 replace b1 := Lib.hid b1; replace q0 := Lib.hid q0; replace q1 := Lib.hid q1; replace hs1 := Lib.hid hs1
 go_wp2_with fail
 refine (hrg.out _).mono ?_
 rintro e wq ⟨rfl, hwq⟩
 obtain rfl := hwq.symm
 clear hrg
 go_upto_region 7 with fail
 obtain ⟨w2, hw2⟩ : ∃ w2, w1.setCell ⟨w.heap.size, 3, none⟩ (.int .i64 V) = w2 := ⟨_, rfl⟩
 have b2 : Below w.heap.size w w2 := by rw [← hw2]; exact b1.out.setCell (Nat.le_refl _) _
 have p0 : w2.heap[w.heap.size]? = some (.cells #[.int .i64 op, .int .i64 k, .int .i64 a, .int .i64 V, .int .i64 c, .int .i64 m] 128 (0, 0)) := by rw [← hw2, heap_setCell_same w1 _ 3 _ _ _ q0.out]; rfl
 have p1 : w2.heap[w.heap.size + 1]? = some (.cells insZ 128 (0, 0)) := by rw [← hw2, heap_setCell_other _ _ _ _ (by simp)]; exact q1.out
 rw [hw2]
 clear hw2 z0 z1 q0 q1 b1 hs1
 have e0 : w2.cell? ⟨w.heap.size, 0, none⟩ = some (.int .i64 op) := cell_of_row _ _ 0 _ _ _ p0
 have e1 : w2.cell? ⟨w.heap.size, 1, none⟩ = some (.int .i64 k) := cell_of_row _ _ 1 _ _ _ p0
 have e2 : w2.cell? ⟨w.heap.size, 2, none⟩ = some (.int .i64 a) := cell_of_row _ _ 2 _ _ _ p0
 have e3 : w2.cell? ⟨w.heap.size, 3, none⟩ = some (.int .i64 V) := cell_of_row _ _ 3 _ _ _ p0
 have e4 : w2.cell? ⟨w.heap.size, 4, none⟩ = some (.int .i64 c) := cell_of_row _ _ 4 _ _ _ p0
 have e5 : w2.cell? ⟨w.heap.size, 5, none⟩ = some (.int .i64 m) := cell_of_row _ _ 5 _ _ _ p0
 have d0 : w2.cell? ⟨w.heap.size + 1, 0, none⟩ = some (.int .i64 0) := cell_of_row _ _ 0 _ _ _ p1
 have d1 : w2.cell? ⟨w.heap.size + 1, 1, none⟩ = some (.int .i64 0) := cell_of_row _ _ 1 _ _ _ p1
 have d2 : w2.cell? ⟨w.heap.size + 1, 2, none⟩ = some (.int .i64 0) := cell_of_row _ _ 2 _ _ _ p1
 have d3 : w2.cell? ⟨w.heap.size + 1, 3, none⟩ = some (.int .i64 0) := cell_of_row _ _ 3 _ _ _ p1
 have d4 : w2.cell? ⟨w.heap.size + 1, 4, none⟩ = some (.int .i64 0) := cell_of_row _ _ 4 _ _ _ p1
 have d5 : w2.cell? ⟨w.heap.size + 1, 5, none⟩ = some (.int .i64 0) := cell_of_row _ _ 5 _ _ _ p1
 have fz : ∀ j, w2.frozen? ⟨w.heap.size + 1, j, none⟩ = false := fun j => frozen_of_row _ _ j _ _ p1
 replace b2 := Lib.hid b2; replace p0 := Lib.hid p0; replace p1 := Lib.hid p1
 go_region
 obtain ⟨w3, hw3, h3, b3⟩ := six_set p1.out b2.out (Nat.le_succ _) (.int .i64 op) (.int .i64 k) (.int .i64 a) (.int .i64 V) (.int .i64 c) (.int .i64 m)
 rw [hw3]
 clear hw3 d0 d1 d2 d3 d4 d5 e0 e1 e2 e3 e4 e5 fz p0 p1 b2
 replace h3 := Lib.hid h3; replace b3 := Lib.hid b3
 go_wp2_with fail
 exact bodyPost_ret (v := .tuple #[.agg #[.int .i64 op, .int .i64 k, .int .i64 a, .int .i64 V, .int .i64 c, .int .i64 m], .string ⟨#[]⟩, .bool R.isSome]) (results_fst3 rfl rfl rfl rfl h3.out Tryz.underlying128 rfl infoRIns) rfl ⟨⟨op, k, a, V, c, m⟩, ⟨#[]⟩, by first | rfl | (rw [his.out]; rfl), hend.out _ rfl, b3.out.drew⟩
set_option maxRecDepth 100000 in
set_option maxHeartbeats 2000000 in
theorem rfield_c (i : Ins) (s : ByteArray) (w : World) (hs : s.size ≤ 140737488355328) :
  Calls Tryz.prog 124 #[.agg (rinsC i), .int .u8 99, .string s] w fun e w' => RFieldRes w w' e (rfieldF i 99 s) := by
 obtain ⟨op, k, a, b, c, m⟩ := i
 simp only [rinsC]
 have hrg := fun W => rreg_any s W
 have hR : rfieldF ⟨op, k, a, b, c, m⟩ 99 s = (regA s.data.toList 15 0).map fun (n : Nat) => (⟨op, k, a, b, n, m⟩, eB) := by unfold rfieldF; rw [if_neg (by decide), if_neg (by decide), if_pos rfl]
 rw [hR]
 generalize regA s.data.toList 15 0 = R at *
 clear hR
 obtain ⟨V, hV⟩ : ∃ V, regO R = V := ⟨_, rfl⟩
 have hb : decide (V ≥ 0) = R.isSome := by
  rw [← hV]
  cases R with
  | none => rfl
  | some n => exact decide_eq_true (by show (0 : Int) ≤ (n : Int); omega)
 rw [hV] at hrg
 have hend : ∀ j : Ins, j = ⟨op, k, a, b, V, m⟩ → ∀ y, (R.map fun (n : Nat) => ((⟨op, k, a, b, n, m⟩ : Ins), eB)) = some y → j = y.1 ∧ (⟨#[]⟩ : ByteArray) = y.2 := by
  rintro j rfl y hy
  cases R with
  | none => cases hy
  | some n => cases hy; exact ⟨by rw [← hV]; rfl, rfl⟩
 have his : (R.map fun (n : Nat) => ((⟨op, k, a, b, n, m⟩ : Ins), eB)).isSome = R.isSome := by cases R <;> rfl
 replace hrg := Lib.hid hrg; replace hend := Lib.hid hend; replace his := Lib.hid his; replace hV := Lib.hid hV
 go_enter Tryz.func124, Tryz.ntmps124
 go_upto_region 1 with fail
 obtain ⟨w1, hw1, b1, q0, q1, hs1⟩ := two_blocks w #[.int .i64 op, .int .i64 k, .int .i64 a, .int .i64 b, .int .i64 c, .int .i64 m] insZ 128 128
 rw [hw1]
 clear hw1
 have z0 : w1.cell? ⟨w.heap.size, 4, none⟩ = some (.int .i64 c) := cell_of_row _ _ 4 _ _ _ q0
 have z1 : w1.frozen? ⟨w.heap.size, 4, none⟩ = false := frozen_of_row _ _ 4 _ _ q0
 replace b1 := Lib.hid b1; replace q0 := Lib.hid q0; replace q1 := Lib.hid q1; replace hs1 := Lib.hid hs1
 go_wp2_with fail
 refine (hrg.out _).mono ?_
 rintro e wq ⟨rfl, hwq⟩
 obtain rfl := hwq.symm
 clear hrg
 go_upto_region 10 with fail
 obtain ⟨w2, hw2⟩ : ∃ w2, w1.setCell ⟨w.heap.size, 4, none⟩ (.int .i64 V) = w2 := ⟨_, rfl⟩
 have b2 : Below w.heap.size w w2 := by rw [← hw2]; exact b1.out.setCell (Nat.le_refl _) _
 have p0 : w2.heap[w.heap.size]? = some (.cells #[.int .i64 op, .int .i64 k, .int .i64 a, .int .i64 b, .int .i64 V, .int .i64 m] 128 (0, 0)) := by rw [← hw2, heap_setCell_same w1 _ 4 _ _ _ q0.out]; rfl
 have p1 : w2.heap[w.heap.size + 1]? = some (.cells insZ 128 (0, 0)) := by rw [← hw2, heap_setCell_other _ _ _ _ (by simp)]; exact q1.out
 rw [hw2]
 clear hw2 z0 z1 q0 q1 b1 hs1
 have e0 : w2.cell? ⟨w.heap.size, 0, none⟩ = some (.int .i64 op) := cell_of_row _ _ 0 _ _ _ p0
 have e1 : w2.cell? ⟨w.heap.size, 1, none⟩ = some (.int .i64 k) := cell_of_row _ _ 1 _ _ _ p0
 have e2 : w2.cell? ⟨w.heap.size, 2, none⟩ = some (.int .i64 a) := cell_of_row _ _ 2 _ _ _ p0
 have e3 : w2.cell? ⟨w.heap.size, 3, none⟩ = some (.int .i64 b) := cell_of_row _ _ 3 _ _ _ p0
 have e4 : w2.cell? ⟨w.heap.size, 4, none⟩ = some (.int .i64 V) := cell_of_row _ _ 4 _ _ _ p0
 have e5 : w2.cell? ⟨w.heap.size, 5, none⟩ = some (.int .i64 m) := cell_of_row _ _ 5 _ _ _ p0
 have d0 : w2.cell? ⟨w.heap.size + 1, 0, none⟩ = some (.int .i64 0) := cell_of_row _ _ 0 _ _ _ p1
 have d1 : w2.cell? ⟨w.heap.size + 1, 1, none⟩ = some (.int .i64 0) := cell_of_row _ _ 1 _ _ _ p1
 have d2 : w2.cell? ⟨w.heap.size + 1, 2, none⟩ = some (.int .i64 0) := cell_of_row _ _ 2 _ _ _ p1
 have d3 : w2.cell? ⟨w.heap.size + 1, 3, none⟩ = some (.int .i64 0) := cell_of_row _ _ 3 _ _ _ p1
 have d4 : w2.cell? ⟨w.heap.size + 1, 4, none⟩ = some (.int .i64 0) := cell_of_row _ _ 4 _ _ _ p1
 have d5 : w2.cell? ⟨w.heap.size + 1, 5, none⟩ = some (.int .i64 0) := cell_of_row _ _ 5 _ _ _ p1
 have fz : ∀ j, w2.frozen? ⟨w.heap.size + 1, j, none⟩ = false := fun j => frozen_of_row _ _ j _ _ p1
 replace b2 := Lib.hid b2; replace p0 := Lib.hid p0; replace p1 := Lib.hid p1
 go_region
 obtain ⟨w3, hw3, h3, b3⟩ := six_set p1.out b2.out (Nat.le_succ _) (.int .i64 op) (.int .i64 k) (.int .i64 a) (.int .i64 b) (.int .i64 V) (.int .i64 m)
 rw [hw3]
 clear hw3 d0 d1 d2 d3 d4 d5 e0 e1 e2 e3 e4 e5 fz p0 p1 b2
 replace h3 := Lib.hid h3; replace b3 := Lib.hid b3
 go_wp2_with fail
 exact bodyPost_ret (v := .tuple #[.agg #[.int .i64 op, .int .i64 k, .int .i64 a, .int .i64 b, .int .i64 V, .int .i64 m], .string ⟨#[]⟩, .bool R.isSome]) (results_fst3 rfl rfl rfl rfl h3.out Tryz.underlying128 rfl infoRIns) rfl ⟨⟨op, k, a, b, V, m⟩, ⟨#[]⟩, by first | rfl | (rw [his.out]; rfl), hend.out _ rfl, b3.out.drew⟩
set_option maxRecDepth 100000 in
set_option maxHeartbeats 2000000 in
theorem rfield_k (i : Ins) (s : ByteArray) (w : World) (hT : RTabs w) (hs : s.size ≤ 140737488355328) :
  Calls Tryz.prog 124 #[.agg (rinsC i), .int .u8 107, .string s] w fun e w' => RFieldRes w w' e (rfieldF i 107 s) := by
 obtain ⟨op, k, a, b, c, m⟩ := i
 simp only [rinsC]
 have hrg := fun o1 o2 => rcondn_any s ((w.alloc o1).alloc o2) (hT.later (((Below.refl _ _).alloc (Nat.le_refl _) _).alloc (by simp) _))
 clear hT
 have hR : rfieldF ⟨op, k, a, b, c, m⟩ 107 s = (condF s).map fun (n : Nat) => (⟨op, n, a, b, c, m⟩, eB) := by unfold rfieldF; rw [if_neg (by decide), if_neg (by decide), if_neg (by decide), if_pos rfl]
 rw [hR]
 generalize condF s = R at *
 clear hR
 cases R with
 | none =>
  simp only [Option.getD_none, Option.isSome_none, Bool.false_eq_true, if_false] at hrg
  have hend : ∀ j : Ins, j = ⟨op, 0, a, b, c, m⟩ → ∀ y, (none : Option (Ins × ByteArray)) = some y → j = y.1 ∧ (⟨#[]⟩ : ByteArray) = y.2 := by
   rintro j rfl y hy
   cases hy
  simp only [Option.map_none]
  have hrg2 := fun w1 (h : ((w.alloc (.cells #[.int .i64 op, .int .i64 k, .int .i64 a, .int .i64 b, .int .i64 c, .int .i64 m] 128)).alloc (.cells insZ 128)) = w1) => h ▸ hrg (.cells #[.int .i64 op, .int .i64 k, .int .i64 a, .int .i64 b, .int .i64 c, .int .i64 m] 128) (.cells insZ 128)
  clear hrg
  replace hrg2 := Lib.hid hrg2; replace hend := Lib.hid hend
  go_enter Tryz.func124, Tryz.ntmps124
  go_upto_region 1 with fail
  obtain ⟨w1, hw1, b1, q0, q1, hs1⟩ := two_blocks w #[.int .i64 op, .int .i64 k, .int .i64 a, .int .i64 b, .int .i64 c, .int .i64 m] insZ 128 128
  have hrg := hrg2.out w1 hw1
  clear hrg2
  replace hrg := Lib.hid hrg
  rw [hw1]
  clear hw1
  have z0 : w1.cell? ⟨w.heap.size, 1, none⟩ = some (.int .i64 k) := cell_of_row _ _ 1 _ _ _ q0
  have z1 : w1.frozen? ⟨w.heap.size, 1, none⟩ = false := frozen_of_row _ _ 1 _ _ q0
  replace b1 := Lib.hid b1; replace q0 := Lib.hid q0; replace q1 := Lib.hid q1; replace hs1 := Lib.hid hs1
  go_wp2_with fail
  refine hrg.out.mono ?_
  rintro e wq ⟨rfl, hwq⟩
  obtain rfl := hwq.symm
  clear hrg
  go_upto_region 14 with fail
  obtain ⟨w2, hw2⟩ : ∃ w2, w1.setCell ⟨w.heap.size, 1, none⟩ (.int .i64 0) = w2 := ⟨_, rfl⟩
  have b2 : Below w.heap.size w w2 := by rw [← hw2]; exact b1.out.setCell (Nat.le_refl _) _
  have p0 : w2.heap[w.heap.size]? = some (.cells #[.int .i64 op, .int .i64 0, .int .i64 a, .int .i64 b, .int .i64 c, .int .i64 m] 128 (0, 0)) := by rw [← hw2, heap_setCell_same w1 _ 1 _ _ _ q0.out]; rfl
  have p1 : w2.heap[w.heap.size + 1]? = some (.cells insZ 128 (0, 0)) := by rw [← hw2, heap_setCell_other _ _ _ _ (by simp)]; exact q1.out
  rw [hw2]
  clear hw2 z0 z1 q0 q1 b1 hs1
  have e0 : w2.cell? ⟨w.heap.size, 0, none⟩ = some (.int .i64 op) := cell_of_row _ _ 0 _ _ _ p0
  have e1 : w2.cell? ⟨w.heap.size, 1, none⟩ = some (.int .i64 0) := cell_of_row _ _ 1 _ _ _ p0
  have e2 : w2.cell? ⟨w.heap.size, 2, none⟩ = some (.int .i64 a) := cell_of_row _ _ 2 _ _ _ p0
  have e3 : w2.cell? ⟨w.heap.size, 3, none⟩ = some (.int .i64 b) := cell_of_row _ _ 3 _ _ _ p0
  have e4 : w2.cell? ⟨w.heap.size, 4, none⟩ = some (.int .i64 c) := cell_of_row _ _ 4 _ _ _ p0
  have e5 : w2.cell? ⟨w.heap.size, 5, none⟩ = some (.int .i64 m) := cell_of_row _ _ 5 _ _ _ p0
  have d0 : w2.cell? ⟨w.heap.size + 1, 0, none⟩ = some (.int .i64 0) := cell_of_row _ _ 0 _ _ _ p1
  have d1 : w2.cell? ⟨w.heap.size + 1, 1, none⟩ = some (.int .i64 0) := cell_of_row _ _ 1 _ _ _ p1
  have d2 : w2.cell? ⟨w.heap.size + 1, 2, none⟩ = some (.int .i64 0) := cell_of_row _ _ 2 _ _ _ p1
  have d3 : w2.cell? ⟨w.heap.size + 1, 3, none⟩ = some (.int .i64 0) := cell_of_row _ _ 3 _ _ _ p1
  have d4 : w2.cell? ⟨w.heap.size + 1, 4, none⟩ = some (.int .i64 0) := cell_of_row _ _ 4 _ _ _ p1
  have d5 : w2.cell? ⟨w.heap.size + 1, 5, none⟩ = some (.int .i64 0) := cell_of_row _ _ 5 _ _ _ p1
  have fz : ∀ j, w2.frozen? ⟨w.heap.size + 1, j, none⟩ = false := fun j => frozen_of_row _ _ j _ _ p1
  replace b2 := Lib.hid b2; replace p0 := Lib.hid p0; replace p1 := Lib.hid p1
  go_wp2_with fail
  obtain ⟨w3, hw3, h3, b3⟩ := six_set p1.out b2.out (Nat.le_succ _) (.int .i64 op) (.int .i64 0) (.int .i64 a) (.int .i64 b) (.int .i64 c) (.int .i64 m)
  rw [hw3]
  clear hw3 d0 d1 d2 d3 d4 d5 e0 e1 e2 e3 e4 e5 fz p0 p1 b2
  replace h3 := Lib.hid h3; replace b3 := Lib.hid b3
  exact bodyPost_ret (v := .tuple #[.agg #[.int .i64 op, .int .i64 0, .int .i64 a, .int .i64 b, .int .i64 c, .int .i64 m], .string ⟨#[]⟩, .bool false]) (results_fst3 rfl rfl rfl rfl h3.out Tryz.underlying128 rfl infoRIns) rfl ⟨⟨op, 0, a, b, c, m⟩, ⟨#[]⟩, by first | rfl | (rw [his.out]; rfl), hend.out _ rfl, b3.out⟩
 | some n =>
  simp only [Option.getD_some, Option.isSome_some, if_true] at hrg
  have hend : ∀ j : Ins, j = ⟨op, (n : Int), a, b, c, m⟩ → ∀ y, (some ((⟨op, n, a, b, c, m⟩ : Ins), eB)) = some y → j = y.1 ∧ (⟨#[]⟩ : ByteArray) = y.2 := by
   rintro j rfl y hy
   cases hy
   exact ⟨rfl, rfl⟩
  simp only [Option.map_some]
  have hrg2 := fun w1 (h : ((w.alloc (.cells #[.int .i64 op, .int .i64 k, .int .i64 a, .int .i64 b, .int .i64 c, .int .i64 m] 128)).alloc (.cells insZ 128)) = w1) => h ▸ hrg (.cells #[.int .i64 op, .int .i64 k, .int .i64 a, .int .i64 b, .int .i64 c, .int .i64 m] 128) (.cells insZ 128)
  clear hrg
  replace hrg2 := Lib.hid hrg2; replace hend := Lib.hid hend
  go_enter Tryz.func124, Tryz.ntmps124
  go_upto_region 1 with fail
  obtain ⟨w1, hw1, b1, q0, q1, hs1⟩ := two_blocks w #[.int .i64 op, .int .i64 k, .int .i64 a, .int .i64 b, .int .i64 c, .int .i64 m] insZ 128 128
  have hrg := hrg2.out w1 hw1
  clear hrg2
  replace hrg := Lib.hid hrg
  rw [hw1]
  clear hw1
  have z0 : w1.cell? ⟨w.heap.size, 1, none⟩ = some (.int .i64 k) := cell_of_row _ _ 1 _ _ _ q0
  have z1 : w1.frozen? ⟨w.heap.size, 1, none⟩ = false := frozen_of_row _ _ 1 _ _ q0
  replace b1 := Lib.hid b1; replace q0 := Lib.hid q0; replace q1 := Lib.hid q1; replace hs1 := Lib.hid hs1
  go_wp2_with fail
  refine hrg.out.mono ?_
  rintro e wq ⟨rfl, hwq⟩
  obtain rfl := hwq.symm
  clear hrg
  go_upto_region 14 with fail
  obtain ⟨w2, hw2⟩ : ∃ w2, w1.setCell ⟨w.heap.size, 1, none⟩ (.int .i64 (n : Int)) = w2 := ⟨_, rfl⟩
  have b2 : Below w.heap.size w w2 := by rw [← hw2]; exact b1.out.setCell (Nat.le_refl _) _
  have p0 : w2.heap[w.heap.size]? = some (.cells #[.int .i64 op, .int .i64 (n : Int), .int .i64 a, .int .i64 b, .int .i64 c, .int .i64 m] 128 (0, 0)) := by rw [← hw2, heap_setCell_same w1 _ 1 _ _ _ q0.out]; rfl
  have p1 : w2.heap[w.heap.size + 1]? = some (.cells insZ 128 (0, 0)) := by rw [← hw2, heap_setCell_other _ _ _ _ (by simp)]; exact q1.out
  rw [hw2]
  clear hw2 z0 z1 q0 q1 b1 hs1
  have e0 : w2.cell? ⟨w.heap.size, 0, none⟩ = some (.int .i64 op) := cell_of_row _ _ 0 _ _ _ p0
  have e1 : w2.cell? ⟨w.heap.size, 1, none⟩ = some (.int .i64 (n : Int)) := cell_of_row _ _ 1 _ _ _ p0
  have e2 : w2.cell? ⟨w.heap.size, 2, none⟩ = some (.int .i64 a) := cell_of_row _ _ 2 _ _ _ p0
  have e3 : w2.cell? ⟨w.heap.size, 3, none⟩ = some (.int .i64 b) := cell_of_row _ _ 3 _ _ _ p0
  have e4 : w2.cell? ⟨w.heap.size, 4, none⟩ = some (.int .i64 c) := cell_of_row _ _ 4 _ _ _ p0
  have e5 : w2.cell? ⟨w.heap.size, 5, none⟩ = some (.int .i64 m) := cell_of_row _ _ 5 _ _ _ p0
  have d0 : w2.cell? ⟨w.heap.size + 1, 0, none⟩ = some (.int .i64 0) := cell_of_row _ _ 0 _ _ _ p1
  have d1 : w2.cell? ⟨w.heap.size + 1, 1, none⟩ = some (.int .i64 0) := cell_of_row _ _ 1 _ _ _ p1
  have d2 : w2.cell? ⟨w.heap.size + 1, 2, none⟩ = some (.int .i64 0) := cell_of_row _ _ 2 _ _ _ p1
  have d3 : w2.cell? ⟨w.heap.size + 1, 3, none⟩ = some (.int .i64 0) := cell_of_row _ _ 3 _ _ _ p1
  have d4 : w2.cell? ⟨w.heap.size + 1, 4, none⟩ = some (.int .i64 0) := cell_of_row _ _ 4 _ _ _ p1
  have d5 : w2.cell? ⟨w.heap.size + 1, 5, none⟩ = some (.int .i64 0) := cell_of_row _ _ 5 _ _ _ p1
  have fz : ∀ j, w2.frozen? ⟨w.heap.size + 1, j, none⟩ = false := fun j => frozen_of_row _ _ j _ _ p1
  replace b2 := Lib.hid b2; replace p0 := Lib.hid p0; replace p1 := Lib.hid p1
  go_wp2_with fail
  obtain ⟨w3, hw3, h3, b3⟩ := six_set p1.out b2.out (Nat.le_succ _) (.int .i64 op) (.int .i64 (n : Int)) (.int .i64 a) (.int .i64 b) (.int .i64 c) (.int .i64 m)
  rw [hw3]
  clear hw3 d0 d1 d2 d3 d4 d5 e0 e1 e2 e3 e4 e5 fz p0 p1 b2
  replace h3 := Lib.hid h3; replace b3 := Lib.hid b3
  exact bodyPost_ret (v := .tuple #[.agg #[.int .i64 op, .int .i64 (n : Int), .int .i64 a, .int .i64 b, .int .i64 c, .int .i64 m], .string ⟨#[]⟩, .bool true]) (results_fst3 rfl rfl rfl rfl h3.out Tryz.underlying128 rfl infoRIns) rfl ⟨⟨op, (n : Int), a, b, c, m⟩, ⟨#[]⟩, by first | rfl | (rw [his.out]; rfl), hend.out _ rfl, b3.out⟩
set_option maxRecDepth 100000 in
set_option maxHeartbeats 2000000 in
theorem rfield_u (i : Ins) (s : ByteArray) (w : World) (hs : s.size ≤ 140737488355328) :
  Calls Tryz.prog 124 #[.agg (rinsC i), .int .u8 117, .string s] w fun e w' => RFieldRes w w' e (rfieldF i 117 s) := by
 obtain ⟨op, k, a, b, c, m⟩ := i
 simp only [rinsC]
 have hrg := fun W => rnumber_any s W hs
 have hR : rfieldF ⟨op, k, a, b, c, m⟩ 117 s = (match numF s.data.toList with | some v => if v ≤ 65535 then some (⟨op, k, a, b, c, (v : Int)⟩, eB) else none | none => none) := by unfold rfieldF; rw [if_neg (by decide), if_neg (by decide), if_neg (by decide), if_neg (by decide), if_pos rfl]; cases numF s.data.toList <;> rfl
 rw [hR]
 clear hR
 cases hn : numF s.data.toList with
 | none =>
  rw [hn] at hrg
  dsimp only
  clear hn
  simp only [Option.getD_none, Option.isSome_none, errN, Bool.false_eq_true, if_false] at hrg
  have hend : ∀ j : Ins, j = ⟨op, k, a, b, c, 0⟩ → ∀ y, (none : Option (Ins × ByteArray)) = some y → j = y.1 ∧ (⟨#[]⟩ : ByteArray) = y.2 := by
   rintro j rfl y hy
   cases hy
  replace hrg := Lib.hid hrg; replace hend := Lib.hid hend
  go_enter Tryz.func124, Tryz.ntmps124
  go_upto_region 1 with fail
  obtain ⟨w1, hw1, b1, q0, q1, hs1⟩ := two_blocks w #[.int .i64 op, .int .i64 k, .int .i64 a, .int .i64 b, .int .i64 c, .int .i64 m] insZ 128 128
  rw [hw1]
  clear hw1
  have z0 : w1.cell? ⟨w.heap.size, 5, none⟩ = some (.int .i64 m) := cell_of_row _ _ 5 _ _ _ q0
  have z1 : w1.frozen? ⟨w.heap.size, 5, none⟩ = false := frozen_of_row _ _ 5 _ _ q0
  replace b1 := Lib.hid b1; replace q0 := Lib.hid q0; replace q1 := Lib.hid q1; replace hs1 := Lib.hid hs1
  go_wp2_with fail
  refine (hrg.out _).mono ?_
  rintro e wq ⟨rfl, hwq⟩
  obtain rfl := hwq.symm
  clear hrg
  go_upto_region 18 with fail
  obtain ⟨w2, hw2⟩ : ∃ w2, w1.setCell ⟨w.heap.size, 5, none⟩ (.int .i64 0) = w2 := ⟨_, rfl⟩
  have b2 : Below w.heap.size w w2 := by rw [← hw2]; exact b1.out.setCell (Nat.le_refl _) _
  have p0 : w2.heap[w.heap.size]? = some (.cells #[.int .i64 op, .int .i64 k, .int .i64 a, .int .i64 b, .int .i64 c, .int .i64 0] 128 (0, 0)) := by rw [← hw2, heap_setCell_same w1 _ 5 _ _ _ q0.out]; rfl
  have p1 : w2.heap[w.heap.size + 1]? = some (.cells insZ 128 (0, 0)) := by rw [← hw2, heap_setCell_other _ _ _ _ (by simp)]; exact q1.out
  rw [hw2]
  clear hw2 z0 z1 q0 q1 b1 hs1
  have e0 : w2.cell? ⟨w.heap.size, 0, none⟩ = some (.int .i64 op) := cell_of_row _ _ 0 _ _ _ p0
  have e1 : w2.cell? ⟨w.heap.size, 1, none⟩ = some (.int .i64 k) := cell_of_row _ _ 1 _ _ _ p0
  have e2 : w2.cell? ⟨w.heap.size, 2, none⟩ = some (.int .i64 a) := cell_of_row _ _ 2 _ _ _ p0
  have e3 : w2.cell? ⟨w.heap.size, 3, none⟩ = some (.int .i64 b) := cell_of_row _ _ 3 _ _ _ p0
  have e4 : w2.cell? ⟨w.heap.size, 4, none⟩ = some (.int .i64 c) := cell_of_row _ _ 4 _ _ _ p0
  have e5 : w2.cell? ⟨w.heap.size, 5, none⟩ = some (.int .i64 0) := cell_of_row _ _ 5 _ _ _ p0
  have d0 : w2.cell? ⟨w.heap.size + 1, 0, none⟩ = some (.int .i64 0) := cell_of_row _ _ 0 _ _ _ p1
  have d1 : w2.cell? ⟨w.heap.size + 1, 1, none⟩ = some (.int .i64 0) := cell_of_row _ _ 1 _ _ _ p1
  have d2 : w2.cell? ⟨w.heap.size + 1, 2, none⟩ = some (.int .i64 0) := cell_of_row _ _ 2 _ _ _ p1
  have d3 : w2.cell? ⟨w.heap.size + 1, 3, none⟩ = some (.int .i64 0) := cell_of_row _ _ 3 _ _ _ p1
  have d4 : w2.cell? ⟨w.heap.size + 1, 4, none⟩ = some (.int .i64 0) := cell_of_row _ _ 4 _ _ _ p1
  have d5 : w2.cell? ⟨w.heap.size + 1, 5, none⟩ = some (.int .i64 0) := cell_of_row _ _ 5 _ _ _ p1
  have fz : ∀ j, w2.frozen? ⟨w.heap.size + 1, j, none⟩ = false := fun j => frozen_of_row _ _ j _ _ p1
  replace b2 := Lib.hid b2; replace p0 := Lib.hid p0; replace p1 := Lib.hid p1
  go_wp2_with fail
  obtain ⟨w3, hw3, h3, b3⟩ := six_set p1.out b2.out (Nat.le_succ _) (.int .i64 op) (.int .i64 k) (.int .i64 a) (.int .i64 b) (.int .i64 c) (.int .i64 0)
  rw [hw3]
  clear hw3 d0 d1 d2 d3 d4 d5 e0 e1 e2 e3 e4 e5 fz p0 p1 b2
  replace h3 := Lib.hid h3; replace b3 := Lib.hid b3
  exact bodyPost_ret (v := .tuple #[.agg #[.int .i64 op, .int .i64 k, .int .i64 a, .int .i64 b, .int .i64 c, .int .i64 0], .string ⟨#[]⟩, .bool false]) (results_fst3 rfl rfl rfl rfl h3.out Tryz.underlying128 rfl infoRIns) rfl ⟨⟨op, k, a, b, c, 0⟩, ⟨#[]⟩, by first | rfl | (rw [his.out]; rfl), hend.out _ rfl, b3.out⟩
 | some v =>
  have hvb := num_bd hn
  rw [hn] at hrg
  dsimp only
  clear hn
  simp only [Option.getD_some, Option.isSome_some, errN, if_true] at hrg
  have hwr : IntKind.i64.wrap (v : Int) = (v : Int) := by rw [IntKind.wrap_i64]; omega
  by_cases hle : v ≤ 65535
  ·rw [if_pos hle]
   have dle : decide ((v : Int) ≤ 65535) = true := decide_eq_true (by omega)
   have hend : ∀ j : Ins, j = ⟨op, k, a, b, c, (v : Int)⟩ → ∀ y, (some ((⟨op, k, a, b, c, (v : Int)⟩ : Ins), eB)) = some y → j = y.1 ∧ (⟨#[]⟩ : ByteArray) = y.2 := by
    rintro j rfl y hy
    cases hy
    exact ⟨rfl, rfl⟩
   replace hrg := Lib.hid hrg; replace hend := Lib.hid hend
   go_enter Tryz.func124, Tryz.ntmps124
   go_upto_region 1 with fail
   obtain ⟨w1, hw1, b1, q0, q1, hs1⟩ := two_blocks w #[.int .i64 op, .int .i64 k, .int .i64 a, .int .i64 b, .int .i64 c, .int .i64 m] insZ 128 128
   rw [hw1]
   clear hw1
   have z0 : w1.cell? ⟨w.heap.size, 5, none⟩ = some (.int .i64 m) := cell_of_row _ _ 5 _ _ _ q0
   have z1 : w1.frozen? ⟨w.heap.size, 5, none⟩ = false := frozen_of_row _ _ 5 _ _ q0
   replace b1 := Lib.hid b1; replace q0 := Lib.hid q0; replace q1 := Lib.hid q1; replace hs1 := Lib.hid hs1
   go_wp2_with fail
   refine (hrg.out _).mono ?_
   rintro e wq ⟨rfl, hwq⟩
   obtain rfl := hwq.symm
   clear hrg
   go_upto_region 18 with fail
   obtain ⟨w2, hw2⟩ : ∃ w2, w1.setCell ⟨w.heap.size, 5, none⟩ (.int .i64 (v : Int)) = w2 := ⟨_, rfl⟩
   have b2 : Below w.heap.size w w2 := by rw [← hw2]; exact b1.out.setCell (Nat.le_refl _) _
   have p0 : w2.heap[w.heap.size]? = some (.cells #[.int .i64 op, .int .i64 k, .int .i64 a, .int .i64 b, .int .i64 c, .int .i64 (v : Int)] 128 (0, 0)) := by rw [← hw2, heap_setCell_same w1 _ 5 _ _ _ q0.out]; rfl
   have p1 : w2.heap[w.heap.size + 1]? = some (.cells insZ 128 (0, 0)) := by rw [← hw2, heap_setCell_other _ _ _ _ (by simp)]; exact q1.out
   rw [hw2]
   clear hw2 z0 z1 q0 q1 b1 hs1
   have e0 : w2.cell? ⟨w.heap.size, 0, none⟩ = some (.int .i64 op) := cell_of_row _ _ 0 _ _ _ p0
   have e1 : w2.cell? ⟨w.heap.size, 1, none⟩ = some (.int .i64 k) := cell_of_row _ _ 1 _ _ _ p0
   have e2 : w2.cell? ⟨w.heap.size, 2, none⟩ = some (.int .i64 a) := cell_of_row _ _ 2 _ _ _ p0
   have e3 : w2.cell? ⟨w.heap.size, 3, none⟩ = some (.int .i64 b) := cell_of_row _ _ 3 _ _ _ p0
   have e4 : w2.cell? ⟨w.heap.size, 4, none⟩ = some (.int .i64 c) := cell_of_row _ _ 4 _ _ _ p0
   have e5 : w2.cell? ⟨w.heap.size, 5, none⟩ = some (.int .i64 (v : Int)) := cell_of_row _ _ 5 _ _ _ p0
   have d0 : w2.cell? ⟨w.heap.size + 1, 0, none⟩ = some (.int .i64 0) := cell_of_row _ _ 0 _ _ _ p1
   have d1 : w2.cell? ⟨w.heap.size + 1, 1, none⟩ = some (.int .i64 0) := cell_of_row _ _ 1 _ _ _ p1
   have d2 : w2.cell? ⟨w.heap.size + 1, 2, none⟩ = some (.int .i64 0) := cell_of_row _ _ 2 _ _ _ p1
   have d3 : w2.cell? ⟨w.heap.size + 1, 3, none⟩ = some (.int .i64 0) := cell_of_row _ _ 3 _ _ _ p1
   have d4 : w2.cell? ⟨w.heap.size + 1, 4, none⟩ = some (.int .i64 0) := cell_of_row _ _ 4 _ _ _ p1
   have d5 : w2.cell? ⟨w.heap.size + 1, 5, none⟩ = some (.int .i64 0) := cell_of_row _ _ 5 _ _ _ p1
   have fz : ∀ j, w2.frozen? ⟨w.heap.size + 1, j, none⟩ = false := fun j => frozen_of_row _ _ j _ _ p1
   replace b2 := Lib.hid b2; replace p0 := Lib.hid p0; replace p1 := Lib.hid p1
   go_wp2_with fail
   obtain ⟨w3, hw3, h3, b3⟩ := six_set p1.out b2.out (Nat.le_succ _) (.int .i64 op) (.int .i64 k) (.int .i64 a) (.int .i64 b) (.int .i64 c) (.int .i64 (v : Int))
   rw [hw3]
   clear hw3 d0 d1 d2 d3 d4 d5 e0 e1 e2 e3 e4 e5 fz p0 p1 b2
   replace h3 := Lib.hid h3; replace b3 := Lib.hid b3
   exact bodyPost_ret (v := .tuple #[.agg #[.int .i64 op, .int .i64 k, .int .i64 a, .int .i64 b, .int .i64 c, .int .i64 (v : Int)], .string ⟨#[]⟩, .bool true]) (results_fst3 rfl rfl rfl rfl h3.out Tryz.underlying128 rfl infoRIns) rfl ⟨⟨op, k, a, b, c, (v : Int)⟩, ⟨#[]⟩, by first | rfl | (rw [his.out]; rfl), hend.out _ rfl, b3.out⟩
  ·rw [if_neg hle]
   have dle : decide ((v : Int) ≤ 65535) = false := decide_eq_false (by omega)
   have hend : ∀ j : Ins, j = ⟨op, k, a, b, c, (v : Int)⟩ → ∀ y, (none : Option (Ins × ByteArray)) = some y → j = y.1 ∧ (⟨#[]⟩ : ByteArray) = y.2 := by
    rintro j rfl y hy
    cases hy
   replace hrg := Lib.hid hrg; replace hend := Lib.hid hend
   go_enter Tryz.func124, Tryz.ntmps124
   go_upto_region 1 with fail
   obtain ⟨w1, hw1, b1, q0, q1, hs1⟩ := two_blocks w #[.int .i64 op, .int .i64 k, .int .i64 a, .int .i64 b, .int .i64 c, .int .i64 m] insZ 128 128
   rw [hw1]
   clear hw1
   have z0 : w1.cell? ⟨w.heap.size, 5, none⟩ = some (.int .i64 m) := cell_of_row _ _ 5 _ _ _ q0
   have z1 : w1.frozen? ⟨w.heap.size, 5, none⟩ = false := frozen_of_row _ _ 5 _ _ q0
   replace b1 := Lib.hid b1; replace q0 := Lib.hid q0; replace q1 := Lib.hid q1; replace hs1 := Lib.hid hs1
   go_wp2_with fail
   refine (hrg.out _).mono ?_
   rintro e wq ⟨rfl, hwq⟩
   obtain rfl := hwq.symm
   clear hrg
   go_upto_region 18 with fail
   obtain ⟨w2, hw2⟩ : ∃ w2, w1.setCell ⟨w.heap.size, 5, none⟩ (.int .i64 (v : Int)) = w2 := ⟨_, rfl⟩
   have b2 : Below w.heap.size w w2 := by rw [← hw2]; exact b1.out.setCell (Nat.le_refl _) _
   have p0 : w2.heap[w.heap.size]? = some (.cells #[.int .i64 op, .int .i64 k, .int .i64 a, .int .i64 b, .int .i64 c, .int .i64 (v : Int)] 128 (0, 0)) := by rw [← hw2, heap_setCell_same w1 _ 5 _ _ _ q0.out]; rfl
   have p1 : w2.heap[w.heap.size + 1]? = some (.cells insZ 128 (0, 0)) := by rw [← hw2, heap_setCell_other _ _ _ _ (by simp)]; exact q1.out
   rw [hw2]
   clear hw2 z0 z1 q0 q1 b1 hs1
   have e0 : w2.cell? ⟨w.heap.size, 0, none⟩ = some (.int .i64 op) := cell_of_row _ _ 0 _ _ _ p0
   have e1 : w2.cell? ⟨w.heap.size, 1, none⟩ = some (.int .i64 k) := cell_of_row _ _ 1 _ _ _ p0
   have e2 : w2.cell? ⟨w.heap.size, 2, none⟩ = some (.int .i64 a) := cell_of_row _ _ 2 _ _ _ p0
   have e3 : w2.cell? ⟨w.heap.size, 3, none⟩ = some (.int .i64 b) := cell_of_row _ _ 3 _ _ _ p0
   have e4 : w2.cell? ⟨w.heap.size, 4, none⟩ = some (.int .i64 c) := cell_of_row _ _ 4 _ _ _ p0
   have e5 : w2.cell? ⟨w.heap.size, 5, none⟩ = some (.int .i64 (v : Int)) := cell_of_row _ _ 5 _ _ _ p0
   have d0 : w2.cell? ⟨w.heap.size + 1, 0, none⟩ = some (.int .i64 0) := cell_of_row _ _ 0 _ _ _ p1
   have d1 : w2.cell? ⟨w.heap.size + 1, 1, none⟩ = some (.int .i64 0) := cell_of_row _ _ 1 _ _ _ p1
   have d2 : w2.cell? ⟨w.heap.size + 1, 2, none⟩ = some (.int .i64 0) := cell_of_row _ _ 2 _ _ _ p1
   have d3 : w2.cell? ⟨w.heap.size + 1, 3, none⟩ = some (.int .i64 0) := cell_of_row _ _ 3 _ _ _ p1
   have d4 : w2.cell? ⟨w.heap.size + 1, 4, none⟩ = some (.int .i64 0) := cell_of_row _ _ 4 _ _ _ p1
   have d5 : w2.cell? ⟨w.heap.size + 1, 5, none⟩ = some (.int .i64 0) := cell_of_row _ _ 5 _ _ _ p1
   have fz : ∀ j, w2.frozen? ⟨w.heap.size + 1, j, none⟩ = false := fun j => frozen_of_row _ _ j _ _ p1
   replace b2 := Lib.hid b2; replace p0 := Lib.hid p0; replace p1 := Lib.hid p1
   go_wp2_with fail
   obtain ⟨w3, hw3, h3, b3⟩ := six_set p1.out b2.out (Nat.le_succ _) (.int .i64 op) (.int .i64 k) (.int .i64 a) (.int .i64 b) (.int .i64 c) (.int .i64 (v : Int))
   rw [hw3]
   clear hw3 d0 d1 d2 d3 d4 d5 e0 e1 e2 e3 e4 e5 fz p0 p1 b2
   replace h3 := Lib.hid h3; replace b3 := Lib.hid b3
   exact bodyPost_ret (v := .tuple #[.agg #[.int .i64 op, .int .i64 k, .int .i64 a, .int .i64 b, .int .i64 c, .int .i64 (v : Int)], .string ⟨#[]⟩, .bool false]) (results_fst3 rfl rfl rfl rfl h3.out Tryz.underlying128 rfl infoRIns) rfl ⟨⟨op, k, a, b, c, (v : Int)⟩, ⟨#[]⟩, by first | rfl | (rw [his.out]; rfl), hend.out _ rfl, b3.out⟩
set_option maxRecDepth 100000 in
set_option maxHeartbeats 2000000 in
theorem rfield_s (i : Ins) (s : ByteArray) (w : World) (hs : s.size ≤ 140737488355328) :
  Calls Tryz.prog 124 #[.agg (rinsC i), .int .u8 115, .string s] w fun e w' => RFieldRes w w' e (rfieldF i 115 s) := by
 obtain ⟨op, k, a, b, c, m⟩ := i
 simp only [rinsC]
 have hrg := fun W => rsgn_any s W hs
 have hR : rfieldF ⟨op, k, a, b, c, m⟩ 115 s = (sgnIn s).map fun v => (⟨op, k, a, b, c, v⟩, eB) := by unfold rfieldF; rw [if_neg (by decide), if_neg (by decide), if_neg (by decide), if_neg (by decide), if_neg (by decide), if_neg (fun h => absurd h.1 (by decide))]
 rw [hR]
 clear hR
 obtain ⟨V, hV⟩ : ∃ V, (sgnF s.data.toList).getD 0 = V := ⟨_, rfl⟩
 have hend : ∀ j : Ins, j = ⟨op, k, a, b, c, V⟩ → ∀ y, ((sgnIn s).map fun v => ((⟨op, k, a, b, c, v⟩ : Ins), eB)) = some y → j = y.1 ∧ (⟨#[]⟩ : ByteArray) = y.2 := by
  rintro j rfl y hy
  obtain ⟨x, hx, rfl⟩ := Option.map_eq_some_iff.1 hy
  have e : x = V := by
   rw [← hV]
   unfold sgnIn at hx
   split at hx
   ·rename_i z hz
    split at hx
    ·cases hx; rw [hz]; rfl
    ·cases hx
   ·cases hx
  exact ⟨by rw [e], rfl⟩
 rw [hV] at hrg
 clear hV
 have his : ((sgnIn s).map fun v => ((⟨op, k, a, b, c, v⟩ : Ins), eB)).isSome = (sgnIn s).isSome := by cases sgnIn s <;> rfl
 generalize (sgnIn s).map (fun v => ((⟨op, k, a, b, c, v⟩ : Ins), eB)) = O at *
 generalize (sgnIn s).isSome = bb at *
 replace hrg := Lib.hid hrg; replace hend := Lib.hid hend; replace his := Lib.hid his
 go_enter Tryz.func124, Tryz.ntmps124
 go_upto_region 1 with fail
 obtain ⟨w1, hw1, b1, q0, q1, hs1⟩ := two_blocks w #[.int .i64 op, .int .i64 k, .int .i64 a, .int .i64 b, .int .i64 c, .int .i64 m] insZ 128 128
 rw [hw1]
 clear hw1
 have z0 : w1.cell? ⟨w.heap.size, 5, none⟩ = some (.int .i64 m) := cell_of_row _ _ 5 _ _ _ q0
 have z1 : w1.frozen? ⟨w.heap.size, 5, none⟩ = false := frozen_of_row _ _ 5 _ _ q0
 replace b1 := Lib.hid b1; replace q0 := Lib.hid q0; replace q1 := Lib.hid q1; replace hs1 := Lib.hid hs1
 go_wp2_with fail
 refine (hrg.out _).mono ?_
 rintro e wq ⟨rfl, hwq⟩
 obtain rfl := hwq.symm
 clear hrg
 go_upto_region 24 with fail
 obtain ⟨w2, hw2⟩ : ∃ w2, w1.setCell ⟨w.heap.size, 5, none⟩ (.int .i64 V) = w2 := ⟨_, rfl⟩
 have b2 : Below w.heap.size w w2 := by rw [← hw2]; exact b1.out.setCell (Nat.le_refl _) _
 have p0 : w2.heap[w.heap.size]? = some (.cells #[.int .i64 op, .int .i64 k, .int .i64 a, .int .i64 b, .int .i64 c, .int .i64 V] 128 (0, 0)) := by rw [← hw2, heap_setCell_same w1 _ 5 _ _ _ q0.out]; rfl
 have p1 : w2.heap[w.heap.size + 1]? = some (.cells insZ 128 (0, 0)) := by rw [← hw2, heap_setCell_other _ _ _ _ (by simp)]; exact q1.out
 rw [hw2]
 clear hw2 z0 z1 q0 q1 b1 hs1
 have e0 : w2.cell? ⟨w.heap.size, 0, none⟩ = some (.int .i64 op) := cell_of_row _ _ 0 _ _ _ p0
 have e1 : w2.cell? ⟨w.heap.size, 1, none⟩ = some (.int .i64 k) := cell_of_row _ _ 1 _ _ _ p0
 have e2 : w2.cell? ⟨w.heap.size, 2, none⟩ = some (.int .i64 a) := cell_of_row _ _ 2 _ _ _ p0
 have e3 : w2.cell? ⟨w.heap.size, 3, none⟩ = some (.int .i64 b) := cell_of_row _ _ 3 _ _ _ p0
 have e4 : w2.cell? ⟨w.heap.size, 4, none⟩ = some (.int .i64 c) := cell_of_row _ _ 4 _ _ _ p0
 have e5 : w2.cell? ⟨w.heap.size, 5, none⟩ = some (.int .i64 V) := cell_of_row _ _ 5 _ _ _ p0
 have d0 : w2.cell? ⟨w.heap.size + 1, 0, none⟩ = some (.int .i64 0) := cell_of_row _ _ 0 _ _ _ p1
 have d1 : w2.cell? ⟨w.heap.size + 1, 1, none⟩ = some (.int .i64 0) := cell_of_row _ _ 1 _ _ _ p1
 have d2 : w2.cell? ⟨w.heap.size + 1, 2, none⟩ = some (.int .i64 0) := cell_of_row _ _ 2 _ _ _ p1
 have d3 : w2.cell? ⟨w.heap.size + 1, 3, none⟩ = some (.int .i64 0) := cell_of_row _ _ 3 _ _ _ p1
 have d4 : w2.cell? ⟨w.heap.size + 1, 4, none⟩ = some (.int .i64 0) := cell_of_row _ _ 4 _ _ _ p1
 have d5 : w2.cell? ⟨w.heap.size + 1, 5, none⟩ = some (.int .i64 0) := cell_of_row _ _ 5 _ _ _ p1
 have fz : ∀ j, w2.frozen? ⟨w.heap.size + 1, j, none⟩ = false := fun j => frozen_of_row _ _ j _ _ p1
 replace b2 := Lib.hid b2; replace p0 := Lib.hid p0; replace p1 := Lib.hid p1
 go_wp2_with fail
 obtain ⟨w3, hw3, h3, b3⟩ := six_set p1.out b2.out (Nat.le_succ _) (.int .i64 op) (.int .i64 k) (.int .i64 a) (.int .i64 b) (.int .i64 c) (.int .i64 V)
 rw [hw3]
 clear hw3 d0 d1 d2 d3 d4 d5 e0 e1 e2 e3 e4 e5 fz p0 p1 b2
 replace h3 := Lib.hid h3; replace b3 := Lib.hid b3
 exact bodyPost_ret (v := .tuple #[.agg #[.int .i64 op, .int .i64 k, .int .i64 a, .int .i64 b, .int .i64 c, .int .i64 V], .string ⟨#[]⟩, .bool bb]) (results_fst3 rfl rfl rfl rfl h3.out Tryz.underlying128 rfl infoRIns) rfl ⟨⟨op, k, a, b, c, V⟩, ⟨#[]⟩, by first | rfl | (rw [his.out]; rfl), hend.out _ rfl, b3.out⟩
set_option maxRecDepth 100000 in
set_option maxHeartbeats 2000000 in
theorem rfield_o (i : Ins) (s : ByteArray) (w : World) (hs : s.size ≤ 140737488355328) :
  Calls Tryz.prog 124 #[.agg (rinsC i), .int .u8 111, .string s] w fun e w' => RFieldRes w w' e (rfieldF i 111 s) := by
 obtain ⟨op, k, a, b, c, m⟩ := i
 simp only [rinsC]
 have hrg := fun W => rsgn_any s W hs
 have hnm := fun W => rname_any s W
 cases hn : nameF s with
 | true =>
  have hR : rfieldF ⟨op, k, a, b, c, m⟩ 111 s = some (⟨op, k, a, b, c, m⟩, s) := by unfold rfieldF; rw [if_neg (by decide), if_neg (by decide), if_neg (by decide), if_neg (by decide), if_neg (by decide), if_pos ⟨rfl, hn⟩]
  rw [hR]
  rw [hn] at hnm
  simp only [if_true] at hnm
  clear hR hrg hn
  replace hnm := Lib.hid hnm
  go_enter Tryz.func124, Tryz.ntmps124
  go_upto_region 1 with fail
  obtain ⟨w1, hw1, b1, q0, q1, hs1⟩ := two_blocks w #[.int .i64 op, .int .i64 k, .int .i64 a, .int .i64 b, .int .i64 c, .int .i64 m] insZ 128 128
  rw [hw1]
  clear hw1
  try have z0 : w1.cell? ⟨w.heap.size, 5, none⟩ = some (.int .i64 m) := cell_of_row _ _ 5 _ _ _ q0
  have z1 : w1.frozen? ⟨w.heap.size, 5, none⟩ = false := frozen_of_row _ _ 5 _ _ q0
  replace b1 := Lib.hid b1; replace q0 := Lib.hid q0; replace q1 := Lib.hid q1; replace hs1 := Lib.hid hs1
  go_wp2_with fail
  refine (hnm.out _).mono ?_
  rintro e wq ⟨rfl, hwq⟩
  obtain rfl := hwq.symm
  clear hnm
  go_upto_region 21 with fail
  have e0 : w1.cell? ⟨w.heap.size, 0, none⟩ = some (.int .i64 op) := cell_of_row _ _ 0 _ _ _ q0.out
  have e1 : w1.cell? ⟨w.heap.size, 1, none⟩ = some (.int .i64 k) := cell_of_row _ _ 1 _ _ _ q0.out
  have e2 : w1.cell? ⟨w.heap.size, 2, none⟩ = some (.int .i64 a) := cell_of_row _ _ 2 _ _ _ q0.out
  have e3 : w1.cell? ⟨w.heap.size, 3, none⟩ = some (.int .i64 b) := cell_of_row _ _ 3 _ _ _ q0.out
  have e4 : w1.cell? ⟨w.heap.size, 4, none⟩ = some (.int .i64 c) := cell_of_row _ _ 4 _ _ _ q0.out
  have e5 : w1.cell? ⟨w.heap.size, 5, none⟩ = some (.int .i64 m) := cell_of_row _ _ 5 _ _ _ q0.out
  have d0 : w1.cell? ⟨w.heap.size + 1, 0, none⟩ = some (.int .i64 0) := cell_of_row _ _ 0 _ _ _ q1.out
  have d1 : w1.cell? ⟨w.heap.size + 1, 1, none⟩ = some (.int .i64 0) := cell_of_row _ _ 1 _ _ _ q1.out
  have d2 : w1.cell? ⟨w.heap.size + 1, 2, none⟩ = some (.int .i64 0) := cell_of_row _ _ 2 _ _ _ q1.out
  have d3 : w1.cell? ⟨w.heap.size + 1, 3, none⟩ = some (.int .i64 0) := cell_of_row _ _ 3 _ _ _ q1.out
  have d4 : w1.cell? ⟨w.heap.size + 1, 4, none⟩ = some (.int .i64 0) := cell_of_row _ _ 4 _ _ _ q1.out
  have d5 : w1.cell? ⟨w.heap.size + 1, 5, none⟩ = some (.int .i64 0) := cell_of_row _ _ 5 _ _ _ q1.out
  have fz : ∀ j, w1.frozen? ⟨w.heap.size + 1, j, none⟩ = false := fun j => frozen_of_row _ _ j _ _ q1.out
  clear z0 z1
  go_wp2_with fail
  obtain ⟨w3, hw3, h3, b3⟩ := six_set q1.out b1.out (Nat.le_succ _) (.int .i64 op) (.int .i64 k) (.int .i64 a) (.int .i64 b) (.int .i64 c) (.int .i64 m)
  rw [hw3]
  clear hw3 d0 d1 d2 d3 d4 d5 e0 e1 e2 e3 e4 e5 fz
  replace h3 := Lib.hid h3; replace b3 := Lib.hid b3
  exact bodyPost_ret (v := .tuple #[.agg #[.int .i64 op, .int .i64 k, .int .i64 a, .int .i64 b, .int .i64 c, .int .i64 m], .string s, .bool true]) (results_fst3 rfl rfl rfl rfl h3.out Tryz.underlying128 rfl infoRIns) rfl ⟨⟨op, k, a, b, c, m⟩, s, rfl, fun y hy => by cases hy; exact ⟨rfl, rfl⟩, b3.out⟩
 | false =>
  have hR : rfieldF ⟨op, k, a, b, c, m⟩ 111 s = (sgnIn s).map fun v => (⟨op, k, a, b, c, v⟩, eB) := by unfold rfieldF; rw [if_neg (by decide), if_neg (by decide), if_neg (by decide), if_neg (by decide), if_neg (by decide), if_neg (fun h => by rw [hn] at h; exact absurd h.2 (by decide))]
  rw [hR]
  rw [hn] at hnm
  simp only [Bool.false_eq_true, if_false] at hnm
  clear hR hn
  replace hnm := Lib.hid hnm
  obtain ⟨V, hV⟩ : ∃ V, (sgnF s.data.toList).getD 0 = V := ⟨_, rfl⟩
  have hend : ∀ j : Ins, j = ⟨op, k, a, b, c, V⟩ → ∀ y, ((sgnIn s).map fun v => ((⟨op, k, a, b, c, v⟩ : Ins), eB)) = some y → j = y.1 ∧ (⟨#[]⟩ : ByteArray) = y.2 := by
   rintro j rfl y hy
   obtain ⟨x, hx, rfl⟩ := Option.map_eq_some_iff.1 hy
   have e : x = V := by
    rw [← hV]
    unfold sgnIn at hx
    split at hx
    ·rename_i z hz
     split at hx
     ·cases hx; rw [hz]; rfl
     ·cases hx
    ·cases hx
   exact ⟨by rw [e], rfl⟩
  rw [hV] at hrg
  clear hV
  have his : ((sgnIn s).map fun v => ((⟨op, k, a, b, c, v⟩ : Ins), eB)).isSome = (sgnIn s).isSome := by cases sgnIn s <;> rfl
  generalize (sgnIn s).map (fun v => ((⟨op, k, a, b, c, v⟩ : Ins), eB)) = O at *
  generalize (sgnIn s).isSome = bb at *
  replace hrg := Lib.hid hrg; replace hend := Lib.hid hend; replace his := Lib.hid his
  go_enter Tryz.func124, Tryz.ntmps124
  go_upto_region 1 with fail
  obtain ⟨w1, hw1, b1, q0, q1, hs1⟩ := two_blocks w #[.int .i64 op, .int .i64 k, .int .i64 a, .int .i64 b, .int .i64 c, .int .i64 m] insZ 128 128
  rw [hw1]
  clear hw1
  have z0 : w1.cell? ⟨w.heap.size, 5, none⟩ = some (.int .i64 m) := cell_of_row _ _ 5 _ _ _ q0
  have z1 : w1.frozen? ⟨w.heap.size, 5, none⟩ = false := frozen_of_row _ _ 5 _ _ q0
  replace b1 := Lib.hid b1; replace q0 := Lib.hid q0; replace q1 := Lib.hid q1; replace hs1 := Lib.hid hs1
  go_wp2_with fail
  refine (hnm.out _).mono ?_
  rintro e wq ⟨rfl, hwq⟩
  obtain rfl := hwq.symm
  clear hnm
  go_wp2_with fail
  refine (hrg.out _).mono ?_
  rintro e wq ⟨rfl, hwq⟩
  obtain rfl := hwq.symm
  clear hrg
  go_upto_region 24 with fail
  obtain ⟨w2, hw2⟩ : ∃ w2, w1.setCell ⟨w.heap.size, 5, none⟩ (.int .i64 V) = w2 := ⟨_, rfl⟩
  have b2 : Below w.heap.size w w2 := by rw [← hw2]; exact b1.out.setCell (Nat.le_refl _) _
  have p0 : w2.heap[w.heap.size]? = some (.cells #[.int .i64 op, .int .i64 k, .int .i64 a, .int .i64 b, .int .i64 c, .int .i64 V] 128 (0, 0)) := by rw [← hw2, heap_setCell_same w1 _ 5 _ _ _ q0.out]; rfl
  have p1 : w2.heap[w.heap.size + 1]? = some (.cells insZ 128 (0, 0)) := by rw [← hw2, heap_setCell_other _ _ _ _ (by simp)]; exact q1.out
  rw [hw2]
  clear hw2 z0 z1 q0 q1 b1 hs1
  have e0 : w2.cell? ⟨w.heap.size, 0, none⟩ = some (.int .i64 op) := cell_of_row _ _ 0 _ _ _ p0
  have e1 : w2.cell? ⟨w.heap.size, 1, none⟩ = some (.int .i64 k) := cell_of_row _ _ 1 _ _ _ p0
  have e2 : w2.cell? ⟨w.heap.size, 2, none⟩ = some (.int .i64 a) := cell_of_row _ _ 2 _ _ _ p0
  have e3 : w2.cell? ⟨w.heap.size, 3, none⟩ = some (.int .i64 b) := cell_of_row _ _ 3 _ _ _ p0
  have e4 : w2.cell? ⟨w.heap.size, 4, none⟩ = some (.int .i64 c) := cell_of_row _ _ 4 _ _ _ p0
  have e5 : w2.cell? ⟨w.heap.size, 5, none⟩ = some (.int .i64 V) := cell_of_row _ _ 5 _ _ _ p0
  have d0 : w2.cell? ⟨w.heap.size + 1, 0, none⟩ = some (.int .i64 0) := cell_of_row _ _ 0 _ _ _ p1
  have d1 : w2.cell? ⟨w.heap.size + 1, 1, none⟩ = some (.int .i64 0) := cell_of_row _ _ 1 _ _ _ p1
  have d2 : w2.cell? ⟨w.heap.size + 1, 2, none⟩ = some (.int .i64 0) := cell_of_row _ _ 2 _ _ _ p1
  have d3 : w2.cell? ⟨w.heap.size + 1, 3, none⟩ = some (.int .i64 0) := cell_of_row _ _ 3 _ _ _ p1
  have d4 : w2.cell? ⟨w.heap.size + 1, 4, none⟩ = some (.int .i64 0) := cell_of_row _ _ 4 _ _ _ p1
  have d5 : w2.cell? ⟨w.heap.size + 1, 5, none⟩ = some (.int .i64 0) := cell_of_row _ _ 5 _ _ _ p1
  have fz : ∀ j, w2.frozen? ⟨w.heap.size + 1, j, none⟩ = false := fun j => frozen_of_row _ _ j _ _ p1
  replace b2 := Lib.hid b2; replace p0 := Lib.hid p0; replace p1 := Lib.hid p1
  go_wp2_with fail
  obtain ⟨w3, hw3, h3, b3⟩ := six_set p1.out b2.out (Nat.le_succ _) (.int .i64 op) (.int .i64 k) (.int .i64 a) (.int .i64 b) (.int .i64 c) (.int .i64 V)
  rw [hw3]
  clear hw3 d0 d1 d2 d3 d4 d5 e0 e1 e2 e3 e4 e5 fz p0 p1 b2
  replace h3 := Lib.hid h3; replace b3 := Lib.hid b3
  exact bodyPost_ret (v := .tuple #[.agg #[.int .i64 op, .int .i64 k, .int .i64 a, .int .i64 b, .int .i64 c, .int .i64 V], .string ⟨#[]⟩, .bool bb]) (results_fst3 rfl rfl rfl rfl h3.out Tryz.underlying128 rfl infoRIns) rfl ⟨⟨op, k, a, b, c, V⟩, ⟨#[]⟩, by first | rfl | (rw [his.out]; rfl), hend.out _ rfl, b3.out⟩
end Go.Proofs.YtiknookfnameiaaGreatDoor
