/- The contract of asm's faultOf. Arguments opened: bounds of numbers; arrays of integers; slices of words and of bytes; strings. Over the seat's program. Arguments opened from their reading alone (no shape handed in): slices of integers; structs of one-cell fields; a slice of them. The listed tables of the instructions, as they came in. The listed table of powers of ten; small counts of cells. What the laws of assembling lay out: tables, errors' variable, a start that bears it. The document's answer of a text as plain functions: pieces, then words. No program in sight. -/
import Derived.Test.YtiknookfnameiaaGreatDoorJn15
import Derived.Test.YtiknookfnameiaaGreatDoorRows
import Derived.Test.YtiknookfnameiaaGreatDoorJn00
import Derived.ProofKit
import Derived.OpenShut
import Derived.ShutString
import Derived.ChangeOld
import Derived.Below
import Derived.Lib.SmallJoins
import Derived.Deep.Fields
import Derived.Test.YtiknookfnameiaaGreatDoorJn01
import Derived.LaidMore
import Derived.Lib.LaidU8
import Derived.Test.YtiknookfnameiaaGreatDoorJn08
import Derived.Deep.Slices
import Derived.Lay
import Derived.LaidHandle
import Derived.Test.YtiknookfnameiaaGreatDoorJn11
namespace Go.Proofs.YtiknookfnameiaaGreatDoor
open Go.RowKit WP
set_option linter.unusedSimpArgs false
set_option linter.unusedVariables false
/-- errors' own variable -/
def ErrT (w : World) : Prop := w.cell? ⟨1, 0, none⟩ = some (.iface 190 (.agg #[.pointer (some ⟨14, 70, none⟩)]))
theorem ErrT.later {w w' : World} (h : ErrT w) (hb : Below w.heap.size w w') : ErrT w' := by
 unfold ErrT at h ⊢
 rw [← h]
 unfold World.cell?
 rw [hb.block _ (World.block_lt_of_cell? w _ h)]
def fltV (f : Flt) : Value := .agg #[.int .i64 f.1, .int .i64 (f.2.1 : Int), .int .i64 (f.2.2 : Int)]
theorem results_one {P : Program} {fn : Func} {t : Tmp} {ty : TypeId} (h : fn.results = #[.cell t ty]) {tmps : Array Value} {w : World} {g : Nat} {cs : Array Value} {T : TypeId} {d : TypeDesc}
  (hp : tmps.getD t undef = .pointer (some ⟨g, 0, none⟩)) (hc : w.heap[g]? = some (.cells cs T (0, 0))) (hu : P.underlying ty = some d) (hd : d.isRow = true) (hi : (P.info? ty).map (·.size) = some cs.size) : (results fn tmps).run P w = .ok (.agg cs) w := by
 have hr : w.rangeAt g 0 cs.toList := fun j u hu => by
  rw [Nat.zero_add, cell_of_row _ _ _ _ _ _ hc]; simpa using hu
 have hv := run_loadVar_mid (P := P) w g 0 ty cs.toList d hr hu hd (by simpa using hi)
 have hp' : tmps[t]?.getD undef = .pointer (some ⟨g, 0, none⟩) := by simpa [Array.getD_eq_getD_getElem?] using hp
 simp [results, h, hp', hv, asAddr]
theorem infoFlt : (Tryz.prog.info? 27).map (·.size) = some 3 := by kernel_rfl
theorem as_flt (g t : Nat) (old : Value) (w : World) (hE : ErrT w) (ht : w.heap[t]? = some (.cells #[old] 110 (0, 0))) :
  Calls Tryz.prog 41 #[.iface 110 (ptr g), .iface 120 (ptr t)] w fun e w' => e = .returned (.bool true) ∧ w'.cell? ⟨t, 0, none⟩ = some (ptr g) ∧ w.grownBy w' (some t) := by
 refine (as_hit ⟨g, 0, none⟩ ⟨t, 0, none⟩ old w hE (cell_of_row _ _ _ _ _ _ ht) (frozen_of_row _ _ _ _ _ ht)).mono ?_
 rintro e w' ⟨rfl, rfl⟩
 have hlt := (Array.getElem?_eq_some_iff.1 ht).1
 obtain ⟨w4, hw4⟩ : ∃ w4, (((w.alloc (.cells #[ptr t] 120)).alloc (.cells #[.pointer (some ⟨14, 120, none⟩), .pointer (some ⟨w.heap.size, 0, none⟩), .int .u64 150] 160)).alloc (.cells #[.pointer (some ⟨14, 120, none⟩), .pointer (some ⟨w.heap.size, 0, none⟩), .int .u64 150] 160)).alloc (.cells #[ptr g] 110) = w4 := ⟨_, rfl⟩
 have b4 : Below w.heap.size w w4 := by rw [← hw4]; exact ((((Below.refl _ _).alloc (Nat.le_refl _) _).alloc (by simp) _).alloc (by simp; omega) _).alloc (by simp; omega) _
 have ht4 := (b4.block t hlt).trans ht
 rw [hw4]
 have hs := heap_setCell_same w4 t 0 _ _ (ptr g) ht4
 refine ⟨rfl, cell_of_row _ _ _ _ _ _ hs, ?_⟩
 refine ⟨b4.os, b4.tape, b4.output, by simpa using b4.size, fun k hk hne => ?_⟩
 exact (Below.heap_setCell w4 ⟨t, 0, none⟩ _ k (fun e => hne (by rw [show k = t from e]))).trans (b4.block k hk)
set_option maxRecDepth 100000 in
theorem fault_any (v : Value) (f : Flt) (w : World) (hE : ErrT w) (hf : FltAt w v f) :
  Calls Tryz.prog 24 #[v] w fun e w' => e = .returned (fltV f) ∧ Below w.heap.size w w' := by
 obtain ⟨g, rfl, hg⟩ := hf
 obtain ⟨f1, f2, f3⟩ := f
 simp only at hg
 unfold fltV
 dsimp only
 obtain ⟨w2, hw2⟩ : ∃ w2, (w.alloc (.cells #[.int .i64 0, .int .i64 0, .int .i64 0] 27)).alloc (.cells #[.pointer none] 110) = w2 := ⟨_, rfl⟩
 have b2 : Below w.heap.size w w2 := by rw [← hw2]; exact ((Below.refl _ _).alloc (Nat.le_refl _) _).alloc (by simp) _
 have hR : w2.heap[w.heap.size]? = some (.cells #[.int .i64 0, .int .i64 0, .int .i64 0] 27 (0, 0)) := by rw [← hw2, heap_alloc_old _ _ (by simp)]; exact heap_alloc_new w _
 have hT : w2.heap[w.heap.size + 1]? = some (.cells #[.pointer none] 110 (0, 0)) := by
  rw [← hw2]
  have := heap_alloc_new (w.alloc (.cells #[.int .i64 0, .int .i64 0, .int .i64 0] 27)) (.cells #[.pointer none] 110)
  rwa [show (w.alloc (.cells #[.int .i64 0, .int .i64 0, .int .i64 0] 27)).heap.size = w.heap.size + 1 by simp] at this
 have hgl := (Array.getElem?_eq_some_iff.1 hg).1
 have hg2 := (b2.block g hgl).trans hg
 have has := as_flt g (w.heap.size + 1) (.pointer none) w2 (hE.later b2) hT
 replace b2 := Lib.hid b2; replace hR := Lib.hid hR; replace hT := Lib.hid hT; replace has := Lib.hid has; replace hg2 := Lib.hid hg2
 clear hg hE
 go_enter Tryz.func24, Tryz.ntmps24
 go_upto_region 2 with fail
 try (change Code.wp _ _ _ _ ((w.alloc (.cells #[.int .i64 0, .int .i64 0, .int .i64 0] 27)).alloc (.cells #[.pointer none] 110)); rw [hw2])
 clear hw2
 go_wp2_with fail
 refine has.out.mono ?_
 rintro e w3 ⟨rfl, hc, hgr⟩
 have lt2 := (Array.getElem?_eq_some_iff.1 hT.out).1
 have hR3 := (hgr.block w.heap.size (by omega) (by simp)).trans hR.out
 have hg3 := (hgr.block g (by omega) (by simp; omega)).trans hg2.out
 have c0 : w3.cell? ⟨g, 0, none⟩ = some (.int .i64 f1) := cell_of_row _ _ _ _ _ _ hg3
 have c1 : w3.cell? ⟨g, 1, none⟩ = some (.int .i64 (f2 : Int)) := cell_of_row _ _ _ _ _ _ hg3
 have c2 : w3.cell? ⟨g, 2, none⟩ = some (.int .i64 (f3 : Int)) := cell_of_row _ _ _ _ _ _ hg3
 have r0 : w3.cell? ⟨w.heap.size, 0, none⟩ = some (.int .i64 0) := cell_of_row _ _ _ _ _ _ hR3
 have r1 : w3.cell? ⟨w.heap.size, 1, none⟩ = some (.int .i64 0) := cell_of_row _ _ _ _ _ _ hR3
 have r2 : w3.cell? ⟨w.heap.size, 2, none⟩ = some (.int .i64 0) := cell_of_row _ _ _ _ _ _ hR3
 have q0 : w3.frozen? ⟨w.heap.size, 0, none⟩ = false := frozen_of_row _ _ _ _ _ hR3
 have q1 : w3.frozen? ⟨w.heap.size, 1, none⟩ = false := frozen_of_row _ _ _ _ _ hR3
 have q2 : w3.frozen? ⟨w.heap.size, 2, none⟩ = false := frozen_of_row _ _ _ _ _ hR3
 have h1 := heap_setCell_same w3 w.heap.size 0 _ _ (.int .i64 f1) hR3
 have h2 := heap_setCell_same _ w.heap.size 1 _ _ (.int .i64 (f2 : Int)) h1
 have h3 := heap_setCell_same _ w.heap.size 2 _ _ (.int .i64 (f3 : Int)) h2
 have bel : Below w.heap.size w w3 := b2.out.trans ⟨hgr.os, hgr.tape, hgr.output, hgr.size, fun k hk => hgr.block k (by omega) (by simp; omega)⟩
 have bN := ((bel.setCell (p := ⟨w.heap.size, 0, none⟩) (Nat.le_refl _) (.int .i64 f1)).setCell (p := ⟨w.heap.size, 1, none⟩) (Nat.le_refl _) (.int .i64 (f2 : Int))).setCell (p := ⟨w.heap.size, 2, none⟩) (Nat.le_refl _) (.int .i64 (f3 : Int))
 replace h1 := Lib.hid h1; replace h2 := Lib.hid h2; replace h3 := Lib.hid h3; replace bN := Lib.hid bN; replace hR3 := Lib.hid hR3; replace hg3 := Lib.hid hg3; replace hgr := Lib.hid hgr; replace bel := Lib.hid bel
 clear has hg2 b2 hR hT
 go_wp2_with fail
 refine bodyPost_ret (results_one rfl rfl h3.out Tryz.underlying27 rfl infoFlt) rfl ⟨rfl, bN.out⟩
end Go.Proofs.YtiknookfnameiaaGreatDoor

namespace Go.Proofs.YtiknookfnameiaaGreatDoor
open Go.ChangeShapes Go.WideShapes Go.ChangeAt Go.RowKit Go.Joins

theorem own : ownKnob Tryz.prog.godebug = none := by kernel_rfl
theorem wf_u32_bd {x : Int} (h : (Lit.int .u32 x).wf = true) : 0 ≤ x ∧ x ≤ 4294967295 := by
 simp [Lit.wf, IntKind.min, IntKind.max, IntKind.signed, IntKind.bits] at h; omega
/-! ### what the bound gives -/
theorem bulk_string {H : Type} (s : ByteArray) : Rows.uptoBulk (DataW.lit (H := H) (.string s.data.toList)) = s.size + 1 := by
 simp only [Rows.uptoBulk]
 rw [Array.length_toList]; rfl
theorem bulk_bound {H : Type} {l : List (DataW H)} (hk : Rows.uptoSmall H l = true) : Rows.uptoBulkAll l ≤ 1048576 := of_decide_eq_true hk

/-! ### a slice of integers that came in -/
def ofB (x : Int) : UInt8 := UInt8.ofNat x.toNat
end Go.Proofs.YtiknookfnameiaaGreatDoor

namespace Go.Proofs.YtiknookfnameiaaGreatDoor
open Go.ChangeShapes Go.WideShapes Go.ChangeAt Go.RowKit Go.Joins Go.Deep
section
variable {H : Type} {enc : TypeId × Value → H} {P : Program} {w : World} {base : Nat} {spare : Nat → Bool} {held : Bool}
/-- a struct whose fields are one cell each, at its cells -/
theorem trod_fields {ts : TypeId} {fs : Array Field} {fuel : Nat} {cs : List Value} {x : DataW H × List MemPlace} (hs : P.underlying ts = some (.struct fs))
  (hone : ∀ (i : Nat) (f : Field), fs[i]? = some f → f.offset = i ∧ P.cellsOf f.type = 1) (hC : P.cellsOf ts = fs.size) (h : DataW.trod enc P w base spare held fuel ts cs = some x) :
  cs.length = fs.size ∧ ∃ (n : Nat) (Y : Nat → DataW H × List MemPlace), x.1 = .agg ((List.range fs.size).map fun i => (Y i).1) ∧
   ∀ (i : Nat) (f : Field), fs[i]? = some f → DataW.trod enc P w base spare held n f.type [cs.getD i undef] = some (Y i) := by
 obtain ⟨xs, n, _, rfl, hl, hxl, hf⟩ := DataW.trod_struct hs h
 rw [hC] at hl
 refine ⟨hl, n, fun i => xs.getD i (.nil, []), ?_, fun i f hi => ?_⟩
 ·show DataW.agg _ = _
  rw [map_by_index xs (.nil, []) (·.1), hxl]
 ·have hlt : i < fs.size := (Array.getElem?_eq_some_iff.1 hi).1
  obtain ⟨ho, hc1⟩ := hone i f hi
  have g := hf i f hi
  rw [ho, hc1] at g
  rw [take1_drop cs i undef (by omega), List.getElem?_eq_getElem (by omega)] at g
  rw [g]
  simp [List.getD, List.getElem?_eq_getElem (show i < xs.length by omega)]
end
end Go.Proofs.YtiknookfnameiaaGreatDoor

namespace Go.Proofs.YtiknookfnameiaaGreatDoor
open Go.ChangeShapes Go.WideShapes Go.ChangeAt Go.RowKit Go.Joins Go.Deep
set_option maxRecDepth 100000
theorem cellsStr : Tryz.prog.cellsOf 9 = 1 := by kernel_rfl
/-- a listed variable's block -/
theorem var_block {W : World} {g : Nat} {nm : String} {cs : Array Value} (hg : Tryz.prog.globalNamed nm = some g) (hv : W.var? Tryz.prog nm = some cs) : ∃ t fr, W.heap[g]? = some (.cells cs t fr) := by
 unfold World.var? at hv
 rw [hg, Option.bind_some] at hv
 split at hv
 ·rename_i cs' t' fr' h
  simp only [Option.some.injEq] at hv
  subst hv
  exact ⟨_, _, h⟩
 ·cases hv
theorem var_cell {W : World} {g : Nat} {cs : Array Value} {t : TypeId} {fr : Nat × Nat} (h : W.heap[g]? = some (.cells cs t fr)) (o : Nat) : W.cell? ⟨g, o, none⟩ = cs[o]? := by
 simp only [World.cell?, h]; rfl
def strsData (L : List (List UInt8)) : DataW Unit := .agg (L.map fun s => .lit (.string s))
/-- an array of strings, listed -/
theorem strs_of {W : World} {nm : String} {L : List (List UInt8)} {g n : Nat} {t : TypeId} (hg : Tryz.prog.globalNamed nm = some g) (ht : (Tryz.prog.globals[g]?).map (·.type) = some t) (hu : Tryz.prog.underlying t = some (.array n 9)) (hn : L.length = n)
  (h : Lib.VarReads Tryz.prog W nm (strsData L)) : StrAt W g 1 0 L := by
 obtain ⟨g', t', cs, fuel, p, hg', ht', hv, hd⟩ := h
 obtain rfl := Option.some.inj (hg.symm.trans hg')
 obtain rfl := Option.some.inj (ht.symm.trans ht')
 obtain ⟨tt, fr, hb⟩ := var_block hg hv
 refine ⟨(Array.getElem?_eq_some_iff.1 hb).1, ?_⟩
 intro i hi
 obtain ⟨f2, d, q, hds, hf⟩ := Lib.array_elem hu hd i (by omega)
 rw [cellsStr, Nat.mul_one] at hf
 obtain ⟨s, hcs, hx, _⟩ := DataW.trod_string Tryz.underlying9 hf
 rw [List.getElem?_map, List.getElem?_eq_getElem hi] at hds
 simp only [Option.map_some, Option.some.injEq] at hds
 simp only [Prod.mk.injEq] at hx
 rw [hx.1] at hds
 simp only [DataW.lit.injEq, Lit.string.injEq] at hds
 have hc : cs.toList[i]? = some (.string s) := by
  have := congrArg (·[0]?) hcs
  simpa [List.getElem?_take, List.getElem?_drop] using this
 rw [Nat.mul_one, Nat.add_zero, var_cell hb, ← Array.getElem?_toList, hc]
 congr 2
 apply ByteArray.ext
 rw [List.getD_eq_getElem?_getD, List.getElem?_eq_getElem hi]
 show s.data = (L[i]).toArray
 rw [hds]
def usesData : DataW Unit := .agg ((nameT.zip shapeT).map fun x => .agg [.lit (.string x.1), .lit (.string x.2)])
theorem gUses : Tryz.prog.globalNamed "warden/isa.uses" = some 2 := by kernel_rfl
theorem tUses : (Tryz.prog.globals[2]?).map (·.type) = some 178 := by kernel_rfl
theorem cellsUse : Tryz.prog.cellsOf 177 = 2 := by kernel_rfl
theorem uses_of {W : World} (h : Lib.VarReads Tryz.prog W "warden/isa.uses" usesData) : StrAt W 2 2 0 nameT ∧ StrAt W 2 2 1 shapeT := by
 obtain ⟨g', t', cs, fuel, p, hg', ht', hv, hd⟩ := h
 obtain rfl := Option.some.inj (gUses.symm.trans hg')
 obtain rfl := Option.some.inj (tUses.symm.trans ht')
 obtain ⟨tt, fr, hb⟩ := var_block gUses hv
 have hlt := (Array.getElem?_eq_some_iff.1 hb).1
 have key : ∀ i, i < 25 → cs.toList[i * 2]? = some (.string ⟨(nameT.getD i []).toArray⟩) ∧ cs.toList[i * 2 + 1]? = some (.string ⟨(shapeT.getD i []).toArray⟩) := by
  intro i hi
  obtain ⟨f2, d, q, hds, hf⟩ := Lib.array_elem Tryz.underlying178 hd i hi
  rw [cellsUse] at hf
  have hn : i < nameT.length := hi
  have hs : i < shapeT.length := hi
  obtain ⟨hlen, n, Y, hx, hff⟩ := trod_fields Tryz.underlying177 (fun i f hi => by
   match i, hi with
   | 0, hi => cases hi; exact ⟨rfl, by kernel_rfl⟩
   | 1, hi => cases hi; exact ⟨rfl, by kernel_rfl⟩
   | i + 2, hi => exact absurd hi (by simp)) (by kernel_rfl) hf
  obtain ⟨s0, e0, y0, _⟩ := DataW.trod_string Tryz.underlying9 (hff 0 _ rfl)
  obtain ⟨s1, e1, y1, _⟩ := DataW.trod_string Tryz.underlying9 (hff 1 _ rfl)
  have hx2 : d = DataW.agg [(Y 0).1, (Y 1).1] := hx
  rw [y0, y1] at hx2
  rw [List.getElem?_map, List.getElem?_eq_getElem (by simp; omega)] at hds
  simp only [Option.map_some, Option.some.injEq] at hds
  rw [hx2] at hds
  simp only [List.getElem_zip, DataW.agg.injEq, List.cons.injEq, DataW.lit.injEq, Lit.string.injEq, and_true] at hds
  simp only [List.cons.injEq, and_true] at e0 e1
  have hl2 : ((cs.toList.drop (i * 2)).take 2).length = 2 := hlen
  have c0 : ((cs.toList.drop (i * 2)).take 2)[0]? = some (.string s0) := by
   rw [List.getElem?_eq_getElem (by omega)]
   rw [List.getD_eq_getElem?_getD, List.getElem?_eq_getElem (by omega)] at e0
   simpa using e0
  have c1 : ((cs.toList.drop (i * 2)).take 2)[1]? = some (.string s1) := by
   rw [List.getElem?_eq_getElem (by omega)]
   rw [List.getD_eq_getElem?_getD, List.getElem?_eq_getElem (by omega)] at e1
   simpa using e1
  rw [List.getElem?_take, if_pos (by omega), List.getElem?_drop] at c0 c1
  refine ⟨?_, ?_⟩
  ·rw [Nat.add_zero] at c0
   rw [c0]
   congr 2
   apply ByteArray.ext
   rw [List.getD_eq_getElem?_getD, List.getElem?_eq_getElem hn]
   exact ((congrArg List.toArray hds.1).trans (by simp)).symm
  ·rw [c1]
   congr 2
   apply ByteArray.ext
   rw [List.getD_eq_getElem?_getD, List.getElem?_eq_getElem hs]
   exact ((congrArg List.toArray hds.2).trans (by simp)).symm
 refine ⟨⟨hlt, fun i hi => ?_⟩, ⟨hlt, fun i hi => ?_⟩⟩
 ·rw [Nat.add_zero, var_cell hb, ← Array.getElem?_toList]; exact (key i hi).1
 ·rw [var_cell hb, ← Array.getElem?_toList]; exact (key i hi).2
theorem tabs_of {W : World} (h1 : Lib.VarReads Tryz.prog W "warden/isa.uses" Rows.laid_warden_isa_uses) (h2 : Lib.VarReads Tryz.prog W "warden/isa.conds" Rows.laid_warden_isa_conds) : Tabs W :=
 ⟨(uses_of h1).1, (uses_of h1).2, strs_of (n := 7) (t := 133) (by kernel_rfl) (by kernel_rfl) Tryz.underlying133 rfl h2⟩
end Go.Proofs.YtiknookfnameiaaGreatDoor

namespace Go.Proofs.YtiknookfnameiaaGreatDoor
open Go.ChangeShapes Go.WideShapes Go.ChangeAt Go.RowKit Go.Joins Go.Deep
set_option maxRecDepth 100000
theorem gPow : Tryz.prog.globalNamed "internal/strconv.uint64pow10" = some 5 := by kernel_rfl
theorem tPow : (Tryz.prog.globals[5]?).map (·.type) = some 238 := by kernel_rfl
theorem cellsU64 : Tryz.prog.cellsOf 132 = 1 := by kernel_rfl
theorem cellsT20 : Tryz.prog.cellsOf 238 = 20 := by kernel_rfl
theorem pow10_of {W : World} (h : Lib.VarReads Tryz.prog W "internal/strconv.uint64pow10" Rows.laid_internal_strconv_uint64pow10) : Pow10 W := by
 obtain ⟨g, t, cs, fuel, p, hg, ht, hv, hd⟩ := h
 obtain rfl := Option.some.inj (gPow.symm.trans hg)
 obtain rfl := Option.some.inj (tPow.symm.trans ht)
 have hc := Lib.cells_of_tab (zs := Lib.pow10Tab) Tryz.underlying238 Tryz.underlying132 cellsU64 cellsT20 hd
 unfold Pow10 Lib.TabIs
 rw [hv, ← hc]
end Go.Proofs.YtiknookfnameiaaGreatDoor

namespace Go.Proofs.YtiknookfnameiaaGreatDoor
open Go Go.ChangeShapes Go.WideShapes Go.ChangeAt Go.RowKit Go.Joins Go.Deep
set_option linter.unusedVariables false
set_option maxRecDepth 100000
theorem gErrR : Tryz.prog.globalNamed "strconv.ErrRange" = some 13 := by kernel_rfl
theorem tErrR : (Tryz.prog.globals[13]?).map (·.type) = some 70 := by kernel_rfl
theorem errR_of {W : World} (h : Lib.VarReads Tryz.prog W "strconv.ErrRange" Rows.laid_strconv_ErrRange) : ErrVar W "strconv.ErrRange" := by
 obtain ⟨g, t, cs, fuel, p, hg, ht, hv, hd⟩ := h
 obtain rfl := Option.some.inj (gErrR.symm.trans hg)
 obtain rfl := Option.some.inj (tErrR.symm.trans ht)
 obtain ⟨l⟩ := cs
 obtain ⟨f1, u, v, rfl, hn, h1⟩ := iface_of_trod Tryz.underlying70 hd
 exact ⟨u, v, hv⟩
theorem maxLn_of {W : World} (h : W.ShapedOpen Tryz.prog) : ∃ m, MaxL W m := Go.Proofs.cell_of_shapedOpen_int (zero := #[.int .i64 0]) (t := 3) h (of_decide_eq_true (by kernel_rfl)) (by kernel_rfl) rfl (by kernel_rfl) (by kernel_rfl) Tryz.underlying3
theorem gErrT : Tryz.prog.globalNamed "errors.errorType" = some 1 := by kernel_rfl
theorem rtErr : (Tryz.prog.cutTypes.find? (·.1 == "internal/reflectlite.rtype")).map (·.2) = some 190 := by kernel_rfl
theorem oneErr : ((List.range Tryz.prog.types.size).filter fun t => Tryz.prog.rowNamed t [101, 114, 114, 111, 114]) = [70] := by kernel_rfl
theorem errT_of {W : World} (h : handlesMet Tryz.prog [("errors.errorType", Rows.laid_errors_errorType)] W) : ErrT W := by
 obtain ⟨name, u, ty, e1, e2, e3, e4, e5⟩ := h _ (List.mem_singleton.2 rfl)
 have en : name = [101, 114, 114, 111, 114] := (Option.some.inj e1).symm
 subst en
 obtain rfl := Option.some.inj (rtErr.symm.trans e2)
 have hm : ty ∈ (List.range Tryz.prog.types.size).filter fun t => Tryz.prog.rowNamed t [101, 114, 114, 111, 114] := List.mem_filter.2 ⟨List.mem_range.2 e3, e4⟩
 rw [oneErr] at hm
 obtain rfl := List.mem_singleton.1 hm
 have hh : typeHandle Tryz.prog 70 = .pointer (some ⟨14, 70, none⟩) := by kernel_rfl
 rw [hh] at e5
 unfold ErrT
 simpa using World.var?_cell gErrT e5 0
/-- the settled world, errors' variable laid -/
noncomputable def errWorld (os : Os) : World :=
 let w0 := World.holding Tryz.prog os ⟨#[], #[], []⟩
 { w0 with heap := w0.heap.modify 1 fun
   | .cells _ t frozen => .cells #[.iface 190 (.agg #[.pointer (some ⟨14, 70, none⟩)])] t frozen
   | o => o }
/-- .. and the other listed variables -/
noncomputable def startOf (os : Os) (laid : List (String × DataW Unit)) : World := (errWorld os).layVars Tryz.prog (laid.filter fun x => x.2.handleName?.isNone)
theorem startOf_os (os : Os) (laid : List (String × DataW Unit)) : (startOf os laid).os = os := World.layVars_os _ _ _
theorem startOf_met {os : Os} {laid : List (String × DataW Unit)} (args : Array Value)
  (hf : (errWorld os).layFits Tryz.prog (laid.filter fun x => x.2.handleName?.isNone) [] = true)
  (hi : (errWorld os).layIfaces Tryz.prog (laid.filter fun x => x.2.handleName?.isNone) (startOf os laid) = true)
  (hh : (laid.filter fun x => x.2.handleName?.isSome).all (handleAtB Tryz.prog ((startOf os laid).forCall (fun _ _ => 0) ⟨#[], args, []⟩).memory) = true) :
  laidMetH Tryz.prog laid ((startOf os laid).forCall (fun _ _ => 0) ⟨#[], args, []⟩).memory := by
 refine laidMetH_of_parts ?_ hh
 obtain ⟨l, hl⟩ : ∃ l, (laid.filter fun x => x.2.handleName?.isNone) = l := ⟨_, rfl⟩
 have hS : startOf os laid = (errWorld os).layVars Tryz.prog l := by unfold startOf; rw [hl]
 rw [hl] at hf hi ⊢
 rw [hS] at hi ⊢
 have e1 : (l.filter fun x => (l.map (·.1)).contains x.1) = l := List.filter_eq_self.2 fun x hx => List.contains_iff_mem.2 (List.mem_map.2 ⟨x, hx, rfl⟩)
 have e2 : (l.filter fun x => !(l.map (·.1)).contains x.1) = [] := List.filter_eq_nil_iff.2 fun x hx => by rw [List.contains_iff_mem.2 (List.mem_map.2 ⟨x, hx, rfl⟩)]; simp
 have h : laidMet Tryz.prog l ((errWorld os).layVars Tryz.prog l) := laidMet_layVars (w0 := errWorld os) (l.map (·.1)) [] (by rw [e1]) (by rw [e1]; exact hf) (by rw [e1]; exact hi) (by rw [e2]; exact LaidIn.none)
 exact h.of_heap (by simp [World.memory, World.forCall, Input.heap])
end Go.Proofs.YtiknookfnameiaaGreatDoor

namespace Go.Proofs.YtiknookfnameiaaGreatDoor
open WP
/-- a piece: what it is, its jump and condition, its register, its value, its label, line and column -/
structure Pie where
 what : Int
 op : Int
 cond : Int
 a : Int
 val : Int
 nm : ByteArray
 line : Nat
 col : Nat
structure RAsm where
 labs : List (ByteArray × Nat)
 pcs : List Pie
def eB : ByteArray := ⟨#[]⟩
def pc0 : Pie := ⟨0, 0, 0, 0, 0, eB, 0, 0⟩
def ras0 : RAsm := ⟨[], []⟩
/-- the operand X -/
def rvalF (s : ByteArray) : Option (ByteArray × Int) :=
 if nameF s = true then some (s, 0)
 else match numF s.data.toList with
  | some v => some (eB, v)
  | none => (sgnF s.data.toList).map fun v => (eB, v % 4294967296)
def wordT : List UInt8 := [119, 111, 114, 100]
def liT : List UInt8 := [108, 105]
def zeroT : List UInt8 := [122, 101, 114, 111]
/-- how many operands, how many words -/
def ropsF (s : ByteArray) : Option (Nat × Nat) :=
 if s.data.toList = wordT then some (1, 1)
 else if s.data.toList = liT then some (2, 2)
 else if s.data.toList = zeroT then some (1, 0)
 else (namedF s).map fun (op : Nat) => ((shapeI op).length, 1)
/-- one operand, by its letter; with the label's name -/
def rfieldF (i : Ins) (c : UInt8) (s : ByteArray) : Option (Ins × ByteArray) :=
 if c = 97 then (regA s.data.toList 15 0).map fun (n : Nat) => ({ i with a := n }, eB)
 else if c = 98 then (regA s.data.toList 15 0).map fun (n : Nat) => ({ i with b := n }, eB)
 else if c = 99 then (regA s.data.toList 15 0).map fun (n : Nat) => ({ i with c := n }, eB)
 else if c = 107 then (condF s).map fun (n : Nat) => ({ i with k := n }, eB)
 else if c = 117 then (match numF s.data.toList with | some v => if v ≤ 65535 then some ({ i with imm := v }, eB) else none | none => none)
 else if c = 111 ∧ nameF s = true then some (i, s)
 else (sgnIn s).map fun v => ({ i with imm := v }, eB)
/-- all of them, from the operand k on; or the number of the first that is none -/
def rfieldsF : List UInt8 → List W → Nat → Ins × ByteArray × Nat → (Ins × ByteArray × Nat) ⊕ Nat
 | [], _, _, x => .inl x
 | _ :: _, [], _, x => .inl x
 | c :: cs, w :: ws, k, x =>
  match (if w.2.1 = true then none else rfieldF x.1 c w.1) with
  | none => .inr k
  | some y => rfieldsF cs ws (k + 1) (y.1, if y.2.size = 0 then x.2 else (y.2, w.2.2))
def pieceF (ln : Nat) (x : Ins × ByteArray × Nat) : Pie :=
 if x.2.1.size = 0 then ⟨0, 0, 0, 0, encF x.1, eB, ln, 0⟩ else ⟨4, x.1.op, x.1.k, 0, 0, x.2.1, ln, x.2.2⟩
def rinstrF (op : Nat) (ws : List W) (ln : Nat) : Pie ⊕ Nat :=
 match rfieldsF (shapeI op) ws 0 ({ ins0 with op := op }, eB, 0) with
 | .inr k => .inr k
 | .inl x => .inl (pieceF ln x)
def rvalW (w : W) : Option (ByteArray × Int) := if w.2.1 = true then none else rvalF w.1
/-- the pieces of word, li and zero -/
def rownF (s : ByteArray) (ws : List W) (ln : Nat) : (List Pie) ⊕ Nat :=
 if s.data.toList = wordT then
  match ws with
  | [] => .inl []
  | w :: _ => match rvalW w with
   | none => .inr 0
   | some y => .inl [⟨1, 0, 0, 0, y.2, y.1, ln, w.2.2⟩]
 else if s.data.toList = liT then
  match ws with
  | [] => .inl []
  | w :: r => match regF w with
   | none => .inr 0
   | some a => match r with
    | [] => .inl []
    | x :: _ => match rvalW x with
     | none => .inr 1
     | some y => .inl [⟨2, 0, 0, a, y.2, y.1, ln, x.2.2⟩, ⟨3, 0, 0, a, y.2, y.1, ln, x.2.2⟩]
 else
  match ws with
  | [] => .inl []
  | w :: _ => match zeroN w with
   | none => .inr 0
   | some n => .inl (List.replicate n pc0)
def rpiecesF (name : W) (ws : List W) (ln : Nat) : (List Pie) ⊕ Nat :=
 match namedF name.1 with
 | some op => match rinstrF op ws ln with
  | .inr k => .inr k
  | .inl p => .inl [p]
 | none => rownF name.1 ws ln
def rstmtF (ln : Nat) (name : W) (ops : List W) (st : RAsm) : RAsm ⊕ Flt :=
 match (if name.2.1 = true then none else ropsF name.1) with
 | none => .inr (60, ln, name.2.2)
 | some y =>
  if 2048 < st.pcs.length + y.2 then .inr (66, ln, name.2.2)
  else match rpiecesF name (ops.take y.1) ln with
   | .inr k => .inr (61, ln, ((ops.take y.1).getD k w0).2.2)
   | .inl l =>
    match countM ln name ops y.1 with
    | some f => .inr f
    | none => if 2048 < st.pcs.length + l.length then .inr (66, ln, name.2.2) else .inl ⟨st.labs, st.pcs ++ l⟩
def rtakeF (ln : Nat) : List W → RAsm → RAsm ⊕ Flt
 | [], st => .inl st
 | w :: ws, st =>
  if w.2.1 = false ∧ colonEnd w.1 = true then
   if nameF (cutC w.1) = false then .inr (60, ln, w.2.2)
   else if (findL st.labs (cutC w.1)).isSome = true then .inr (63, ln, w.2.2)
   else rtakeF ln ws ⟨st.labs ++ [(cutC w.1, st.pcs.length)], st.pcs⟩
  else rstmtF ln w ws st
def rlineF (ln : Nat) (l : ByteArray) (st : RAsm) : RAsm ⊕ Flt :=
 match wordsF l with
 | .inr c => .inr (40, ln, c)
 | .inl ws => rtakeF ln ws st
def rlinesF : Nat → List ByteArray → RAsm → RAsm ⊕ Flt
 | _, [], st => .inl st
 | ln, l :: L, st => match rlineF ln l st with | .inr f => .inr f | .inl st => rlinesF (ln + 1) L st
def rreadF (s : ByteArray) : RAsm ⊕ Flt := if 65536 < s.size then .inr (2, 0, 0) else rlinesF 1 (linesF s) ras0
/-- the word of the piece at a place -/
def rplaceF (base : Int) (labs : List (ByteArray × Nat)) (x : Pie) : Option (Int × Nat) :=
 if x.nm.size = 0 then some (x.val, 0) else (findL labs x.nm).map fun (p : Nat) => ((base + 4 * (p : Int)) % 4294967296, p)
def rwordF (base : Int) (labs : List (ByteArray × Nat)) (k : Nat) (x : Pie) : Int ⊕ Flt :=
 match rplaceF base labs x with
 | none => .inr (64, x.line, x.col)
 | some y =>
  if x.what = 2 then .inl (encF (movI 1 x.a (y.1 % 65536)))
  else if x.what = 3 then .inl (encF (movI 2 x.a (y.1 / 65536)))
  else if x.what = 4 then
   if (y.2 : Int) - k - 1 < -32768 ∨ 32767 < (y.2 : Int) - k - 1 then .inr (65, x.line, x.col)
   else .inl (encF { ins0 with op := x.op, k := x.cond, imm := (y.2 : Int) - k - 1 })
  else .inl y.1
def rwordsF (base : Int) (labs : List (ByteArray × Nat)) : Nat → List Pie → (List Int) ⊕ Flt
 | _, [] => .inl []
 | k, x :: L => match rwordF base labs k x with
  | .inr f => .inr f
  | .inl v => match rwordsF base labs (k + 1) L with
   | .inr f => .inr f
   | .inl l => .inl (v :: l)
def rasmF (base : Int) (s : ByteArray) : (List Int × List (ByteArray × Nat)) ⊕ Flt :=
 match rreadF s with
 | .inr f => .inr f
 | .inl st => match rwordsF base st.labs 0 st.pcs with
  | .inr f => .inr f
  | .inl l => .inl (l, st.labs)
end Go.Proofs.YtiknookfnameiaaGreatDoor
