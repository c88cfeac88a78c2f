/- The contract of isa's fields (printed by genIsaB.py): a field for each letter of the shape, and the instruction without these. -/
import Derived.Test.YtiknookfnameiaaGreatDoorJn01
import Derived.Lib.OthersKept
import Derived.WalkSmall
import Derived.Lib.SmallJoins
import Derived.Deep.Cut
import Derived.Deep.RegionHeld3
namespace Go.Proofs
namespace YtiknookfnameiaaGreatDoor
open Go.RowKit WP
theorem infoFld : (Tryz.prog.info? 139).map (fun i => (i.zero, i.size, i.bytes)) = some (some (.agg #[.int .i64 0, .int .i64 0, .int .i64 0, .int .i64 0, .int .i64 0]), 5, 40) := by kernel_rfl
theorem infoFld_parts : ∃ (i : TypeInfo) (z : Value), Tryz.prog.info? 139 = some i ∧ i.zero = some z ∧ i.size = 5 ∧ i.bytes = 40 ∧ z.cells.size = 5 := by
 have h := infoFld
 cases hi : Tryz.prog.info? 139 with
 | none => rw [hi] at h; cases h
 | some i =>
  rw [hi] at h
  simp only [Option.map_some, Option.some.injEq, Prod.mk.injEq] at h
  exact ⟨i, _, rfl, h.1, h.2.1, h.2.2, rfl⟩
/-- an instruction's cells, a field's cells -/
def insC (i : Ins) : Array Value := #[.int .i64 i.op, .int .i64 i.k, .int .i64 i.a, .int .i64 i.b, .int .i64 i.c, .int .i32 i.imm]
def fldC (f : Fld) : List Value := [.int .i64 f.v, .int .i64 f.lo, .int .i64 f.hi, .int .i64 f.at', .int .i64 f.bits]
def fldsC (fs : List Fld) : List Value := fs.flatMap fldC
theorem fldsC_append (a b : List Fld) : fldsC (a ++ b) = fldsC a ++ fldsC b := by simp [fldsC]
/-- what is held while the fields are put together -/
structure FldSt (C : Nat) (w0 w : World) (i r : Ins) (s : ByteArray) (pos : Nat) (v : Value) (fs : List Fld) : Prop where
 blkI : w.heap[C]? = some (.cells (insC i) 92 (0, 0))
 blkR : w.heap[C + 1]? = some (.cells (insC r) 92 (0, 0))
 it : w.heap[C + 2]? = some (.stringIter s pos)
 own : w.ownsRow (C + 3) 139 5 v fs.length (fldsC fs)
 size : C + 3 ≤ w.heap.size
 below : Below C w0 w
namespace FldSt
variable {C : Nat} {w0 w : World} {i r : Ins} {s : ByteArray} {pos : Nat} {v : Value} {fs : List Fld}
theorem form (h : FldSt C w0 w i r s pos v fs) : ∃ ao ca, v = .slice ao fs.length ca := by
 rcases h.own.2 with ⟨hv, hn⟩ | ⟨g, cap, cur, hv, _⟩
 ·exact ⟨none, 0, by rw [hv, hn]⟩
 ·exact ⟨_, _, hv⟩
/-- the iterator goes on -/
theorem next (h : FldSt C w0 w i r s pos v fs) (p : Nat) : FldSt C w0 (w.iterAt (C + 2) s p) i r s p v fs :=
 ⟨by rw [Lib.iterAt_other _ _ _ _ _ (by omega)]; exact h.blkI, by rw [Lib.iterAt_other _ _ _ _ _ (by omega)]; exact h.blkR, Lib.iterAt_heap _ _ _ _ _ h.it,
  ownsRow_iterAt h.own (by omega) _ _, by rw [Lib.iterAt_size]; exact h.size, Lib.below_iterAt h.below (by omega) _ _⟩
/-- the row has grown by a field whose block is new -/
theorem grown (h : FldSt C w0 w i r s pos v fs) (f : Fld) {ob : Obj} {v3 : Value} {w3 : World} (hg : (w.alloc ob).grownBy w3 v.ownBlock)
  (ho : w3.ownsRow (C + 3) 139 5 v3 (fs.length + 1) (fldsC fs ++ fldC f)) : FldSt C w0 w3 i r s pos v3 (fs ++ [f]) := by
 have hs := h.size
 have hgs := hg.size
 have hsz : (w.alloc ob).heap.size = w.heap.size + 1 := by simp
 have hk : ∀ k, k < C + 3 → w3.heap[k]? = w.heap[k]? := fun k hk =>
  (hg.block k (by omega) (fun e => by have := (h.own.lt k e.symm).1; omega)).trans (heap_alloc_old _ _ (by omega))
 refine ⟨(hk _ (by omega)).trans h.blkI, (hk _ (by omega)).trans h.blkR, (hk _ (by omega)).trans h.it, ?_, by omega, ?_⟩
 ·rw [fldsC_append, show (fs ++ [f]).length = fs.length + 1 by simp, show fldsC [f] = fldC f by simp [fldsC]]; exact ho
 ·exact Below.grown (h.below.alloc (by omega) _) hg (by omega) (fun k e => by have := (h.own.lt k e).1; omega)
/-- a field of the rest is struck -/
theorem struck (h : FldSt C w0 w i r s pos v fs) (j : Nat) (u : Value) (r' : Ins) (e : (insC r).setIfInBounds j u = insC r') : FldSt C w0 (w.setCell ⟨C + 1, j, none⟩ u) i r' s pos v fs := by
 have hs := h.size
 refine ⟨?_, ?_, ?_, ownsRow_setCell_below h.own (by show C + 1 < C + 3; omega) _, by simpa using hs, ?_⟩
 ·rw [heap_setCell_other _ _ _ _ (by simp)]; exact h.blkI
 ·rw [heap_setCell_same w (C + 1) j _ _ _ h.blkR, e]
 ·rw [heap_setCell_other _ _ _ _ (by simp)]; exact h.it
 ·exact Below.setCell h.below (by show C ≤ C + 1; omega) _
theorem cI (h : FldSt C w0 w i r s pos v fs) : w.cell? ⟨C, 1, none⟩ = some (.int .i64 i.k) ∧ w.cell? ⟨C, 2, none⟩ = some (.int .i64 i.a) ∧ w.cell? ⟨C, 3, none⟩ = some (.int .i64 i.b) ∧ w.cell? ⟨C, 4, none⟩ = some (.int .i64 i.c) ∧ w.cell? ⟨C, 5, none⟩ = some (.int .i32 i.imm) :=
 ⟨cell_of_row _ _ _ _ _ _ h.blkI, cell_of_row _ _ _ _ _ _ h.blkI, cell_of_row _ _ _ _ _ _ h.blkI, cell_of_row _ _ _ _ _ _ h.blkI, cell_of_row _ _ _ _ _ _ h.blkI⟩
end FldSt
theorem setCell_idI {w : World} {b i : Nat} {cs : Array Value} {t : TypeId} {fr : Nat × Nat} {v : Value} (h : w.heap[b]? = some (.cells cs t fr)) (hv : cs[i]? = some v) : w.setCell ⟨b, i, none⟩ v = w := by
 have hh : (w.setCell ⟨b, i, none⟩ v).heap = w.heap := by
  apply Array.ext_getElem?
  intro k
  by_cases hk : k = b
  ·subst hk
   have e : cs.setIfInBounds i v = cs := by
    apply Array.ext_getElem?
    intro j
    rw [Array.getElem?_setIfInBounds]
    split
    ·rename_i e; subst e
     rw [hv, if_pos (Array.getElem?_eq_some_iff.1 hv).1]
    ·rfl
   unfold World.setCell
   simp only [Array.getElem?_modify, if_true, h, Option.map_some]
   simp [e]
  ·exact heap_setCell_other w ⟨b, i, none⟩ k _ (by simpa using hk)
 show { w with heap := (w.setCell ⟨b, i, none⟩ v).heap } = w
 rw [hh]
theorem results_snd {P : Program} {fn : Func} {t t2 : Tmp} {ty : TypeId} (h : fn.results = #[.tmp t2, .cell t ty]) {tmps : Array Value} {w : World} {g : Nat} {cs : Array Value} {T : TypeId} {v2 : Value} {d : TypeDesc}
  (hp : tmps.getD t undef = .pointer (some ⟨g, 0, none⟩)) (h2 : tmps.getD t2 undef = v2)
  (hc : w.heap[g]? = some (.cells cs T (0, 0))) (hu : P.underlying ty = some d) (hd : d.isRow = true) (hi : (P.info? ty).map (·.size) = some cs.size) : (results fn tmps).run P w = .ok (.tuple #[v2, .agg cs]) w := by
 have hr : w.rangeAt g 0 cs.toList := fun j u hu => by
  rw [Nat.zero_add, cell_of_row _ _ _ _ _ _ hc]; simpa using hu
 have hv := run_loadVar_mid (P := P) w g 0 ty cs.toList d hr hu hd (by simpa using hi)
 have hp' : tmps[t]?.getD undef = .pointer (some ⟨g, 0, none⟩) := by simpa [Array.getD_eq_getD_getElem?] using hp
 have h2' : tmps[t2]?.getD undef = v2 := by simpa [Array.getD_eq_getD_getElem?] using h2
 simp [results, h, hp', hv, asAddr, h2']
theorem infoIns : (Tryz.prog.info? 92).map (·.size) = some 6 := by kernel_rfl
theorem shape_ascii (op : Int) : ∀ c ∈ shapeI op, c.toNat < 128 := by
 by_cases h : 1 ≤ op ∧ op < 25
 ·obtain ⟨n, rfl⟩ := Int.eq_ofNat_of_zero_le (show 0 ≤ op by omega)
  have hn : n < 25 := by omega
  clear h
  revert n
  decide +kernel
 ·rw [(off_range op h).1]; intro c hc; cases hc
theorem shape_len (op : Int) : (shapeI op).length ≤ 3 := by
 by_cases h : 1 ≤ op ∧ op < 25
 ·obtain ⟨n, rfl⟩ := Int.eq_ofNat_of_zero_le (show 0 ≤ op by omega)
  have hn : n < 25 := by omega
  clear h
  revert n
  decide +kernel
 ·rw [(off_range op h).1]; decide
theorem fld_start (w : World) (Ic Rc : Array Value) (T : TypeId) (S : ByteArray) :
  (((w.alloc (.cells Ic T)).alloc (.cells Rc T)).iter S 0).heap[w.heap.size]? = some (.cells Ic T (0, 0)) ∧ (((w.alloc (.cells Ic T)).alloc (.cells Rc T)).iter S 0).heap[w.heap.size + 1]? = some (.cells Rc T (0, 0)) ∧
  (((w.alloc (.cells Ic T)).alloc (.cells Rc T)).iter S 0).heap[w.heap.size + 2]? = some (.stringIter S 0) ∧ w.heap.size + 3 ≤ (((w.alloc (.cells Ic T)).alloc (.cells Rc T)).iter S 0).heap.size ∧
  Below w.heap.size w (((w.alloc (.cells Ic T)).alloc (.cells Rc T)).iter S 0) := by
 have new : ∀ (v : World) (o : Obj), (v.alloc o).heap[v.heap.size]? = some o := fun v o => by show (v.heap.push o)[v.heap.size]? = _; simp
 have sz : ∀ (v : World) (o : Obj), (v.alloc o).heap.size = v.heap.size + 1 := fun v o => by simp
 have s2 : ((w.alloc (.cells Ic T)).alloc (.cells Rc T)).heap.size = w.heap.size + 2 := by rw [sz, sz]
 unfold World.iter
 refine ⟨?_, ?_, ?_, ?_, ?_⟩
 ·rw [heap_alloc_old _ _ (by rw [s2]; omega), heap_alloc_old _ _ (by rw [sz]; omega)]; exact new _ _
 ·rw [heap_alloc_old _ _ (by rw [s2]; omega), ← sz w (.cells Ic T)]; exact new _ _
 ·rw [← s2]; exact new _ _
 ·rw [sz, s2]; omega
 ·exact (((Below.refl _ _).alloc (Nat.le_refl _) _).alloc (by rw [sz]; omega) _).alloc (by rw [s2]; omega) _
set_option maxRecDepth 100000 in
set_option maxHeartbeats 4000000 in
theorem fields_any (i : Ins) (w : World) (hT : Tabs w) (hm1 : -2147483648 ≤ i.imm) (hm2 : i.imm ≤ 2147483647) :
  Calls Tryz.prog 48 #[.agg (insC i)] w fun e w' => Below w.heap.size w w' ∧ ∃ v, e = .returned (.tuple #[v, .agg (insC (restI i))]) ∧ w'.ownsRow w.heap.size 139 5 v (fieldsI i).length (fldsC (fieldsI i)) := by
 obtain ⟨i0, z0, hi, hz0, hz1, hz2, hz3⟩ := infoFld_parts
 obtain ⟨op, k, a, b, c, imm⟩ := i
 simp only at hm1 hm2
 have hwr : IntKind.i64.wrap imm = imm := by rw [IntKind.wrap_i64]; omega
 obtain ⟨R, hR⟩ : ∃ R, restI ⟨op, k, a, b, c, imm⟩ = R := ⟨_, rfl⟩
 obtain ⟨F, hF⟩ : ∃ F, fieldsI ⟨op, k, a, b, c, imm⟩ = F := ⟨_, rfl⟩
 rw [hR, hF]
 change Calls Tryz.prog _ #[.agg #[.int .i64 op, .int .i64 k, .int .i64 a, .int .i64 b, .int .i64 c, .int .i32 imm]] _ _
 go_enter Tryz.func48, Tryz.ntmps48
 obtain ⟨L, hL⟩ : ∃ L, shapeI op = L := ⟨_, rfl⟩
 have hasc : ∀ c ∈ L, c.toNat < 128 := by rw [← hL]; exact shape_ascii op
 have hlen : L.length ≤ 3 := by rw [← hL]; exact shape_len op
 obtain ⟨I, hI⟩ : ∃ I : Ins, (⟨op, k, a, b, c, imm⟩ : Ins) = I := ⟨_, rfl⟩
 have hR0 : L.foldl rest1 ⟨0, k, a, b, c, imm⟩ = R := by rw [← hR, ← hL]; rfl
 have hF0 : L.map (fld I) = F := by rw [← hF, ← hI, ← hL]; rfl
 have hSz : (strS L).size = L.length := by simp [strS, ByteArray.size]
 clear hR hF
 go_wp2_with (go_at_call 51; refine (shape_any _ _ (hT.later (((Below.refl _ _).alloc (Nat.le_refl _) _).alloc (by simp) _))).mono ?_; rintro e w2 ⟨rfl, hw⟩; rw [hw, hL]; clear hw w2)
 go_loopw [2] (fun v wl => ∃ (r : Ins) (fs : List Fld) (pos : Nat), FldSt w.heap.size w wl I r (strS L) pos v fs ∧ pos ≤ L.length ∧ fs.length ≤ pos ∧ fs ++ (L.drop pos).map (fld I) = F ∧ (L.drop pos).foldl rest1 r = R) (fun _ wl => L.length - wl.iterPos (w.heap.size + 2))
 case atStart =>
  have hs := fld_start w (insC ⟨op, k, a, b, c, imm⟩) (insC ⟨0, k, a, b, c, imm⟩) 92 (strS L)
  exact ⟨⟨0, k, a, b, c, imm⟩, [], 0, ⟨by rw [← hI]; exact hs.1, hs.2.1, hs.2.2.1, World.ownsRow_nil _ _ _ _, hs.2.2.2.1, hs.2.2.2.2⟩, Nat.zero_le _, Nat.zero_le _, hF0, hR0⟩
 case round =>
  obtain ⟨wo, rfl⟩ : ∃ wo, wo = wr := ⟨wr, rfl⟩
  obtain ⟨va, rfl⟩ : ∃ b, b = u2 := ⟨u2, rfl⟩
  obtain ⟨r, fs, pos, hst, hpl, hfl, hFs, hRs⟩ := hrel
  clear hT hR0 hF0 hL
  obtain ⟨ao, ca, rfl⟩ := hst.form
  have hpos0 := iterPos_of hst.it
  by_cases hp : pos < L.length
  ·obtain ⟨x, hx⟩ : ∃ x, L[pos] = x := ⟨_, rfl⟩
   have hxa : x.toNat < 128 := by rw [← hx]; exact hasc _ (List.getElem_mem hp)
   have hxs : (strS L)[pos]'(by rw [hSz]; exact hp) = x := by rw [← hx]; rfl
   have hnx : ∀ ty, (Instr.next (.pointer (some ⟨w.heap.size + 2, 0, none⟩)) true ty).run Tryz.prog wo = .ok (.tuple #[.bool true, .int .i64 pos, .int .i32 x.toNat]) (wo.iterAt (w.heap.size + 2) (strS L) (pos + 1)) := fun ty => by
    have := Lib.run_next_ascii_at (P := Tryz.prog) wo (w.heap.size + 2) (strS L) pos ty hst.it (by rw [hSz]; exact hp) (by rw [hxs]; exact hxa)
    rw [hxs] at this; exact this
   have hst2 := hst.next (pos + 1)
   rw [List.drop_eq_getElem_cons hp, hx] at hFs hRs
   rw [List.map_cons] at hFs
   rw [List.foldl_cons] at hRs
   obtain ⟨W1, hW1⟩ : ∃ W1, wo.iterAt (w.heap.size + 2) (strS L) (pos + 1) = W1 := ⟨_, rfl⟩
   rw [hW1] at hnx hst2
   clear hW1 hst hx hxs
   have hsz1 := hst2.size
   have hcI := hst2.cI
   rw [← hI] at hcI
   obtain ⟨ck, ca', cb, cc, ci⟩ := hcI
   simp only at ck ca' cb cc ci
   have HS := Lib.hid hst2
   clear hst2
   by_cases h97 : x = 97
   ·have hf : fld I x = ⟨a, 0, 14, 22, 4⟩ := by rw [← hI]; simp [fld, h97]
    have hr2 : rest1 r x = { r with a := 0 } := by simp [rest1, h97]
    rw [hf] at hFs
    rw [hr2] at hRs
    have hxn : (x.toNat : Int) = 97 := by rw [h97]; rfl
    rw [hxn] at hnx
    clear h97 hxn
    clear hf hr2
    replace hFs := Lib.hid hFs; replace hRs := Lib.hid hRs
    go_wp2_with (at_builtin; refine wpList_append_onto' _ rfl _ _ 135 rfl (w.heap.size + 3) 139 i0 z0 5 40 Tryz.underlying135 hi hz0 hz1 hz2 hz3 (by omega) _ _ _ rfl (HS.out.own.alloc _) ⟨W1.heap.size, 0, none⟩ 1 1 [.int .i64 a, .int .i64 0, .int .i64 14, .int .i64 22, .int .i64 4] rfl rfl ?a1 ?a2 ?a3 ?a4 ?a5 ?_)
    case a1 => exact cells_new _ _ _ _
    case a2 => intro u hu; simp only [List.mem_cons, List.not_mem_nil, or_false] at hu; rcases hu with rfl | rfl | rfl | rfl | rfl <;> rfl
    case a3 => simp only [maxLen]; omega
    case a4 => omega
    case a5 => simp; omega
    intro v3 w3 hoN hON
    have hg3 := HS.out.grown (f := ⟨a, 0, 14, 22, 4⟩) hON.1 hoN
    clear hoN hON HS
    have hcR : w3.cell? ⟨w.heap.size + 1, 2, none⟩ = some (.int .i64 r.a) := cell_of_row _ _ _ _ _ _ hg3.blkR
    have hfR := frozen_of_row _ _ 2 _ _ hg3.blkR
    have hg4 := Lib.hid (hg3.struck 2 (.int .i64 0) ({ r with a := 0 }) rfl)
    clear hg3
    go_wp2_with fail
    go_roundw
    case rel => exact ⟨_, _, pos + 1, hg4.out, by omega, by simp; omega, by simpa using hFs.out, hRs.out⟩
    case measure => rw [iterPos_of hg4.out.it, hpos0]; omega
   have d97 : ¬ ((x.toNat : Int) = 97) := fun e => h97 (UInt8.toNat.inj (by show x.toNat = 97; omega))
   by_cases h98 : x = 98
   ·have hf : fld I x = ⟨b, 0, 14, 18, 4⟩ := by rw [← hI]; simp [fld, h98]
    have hr2 : rest1 r x = { r with b := 0 } := by simp [rest1, h98]
    rw [hf] at hFs
    rw [hr2] at hRs
    have hxn : (x.toNat : Int) = 98 := by rw [h98]; rfl
    rw [hxn] at hnx
    clear h98 hxn
    clear hf hr2
    replace hFs := Lib.hid hFs; replace hRs := Lib.hid hRs
    go_wp2_with (at_builtin; refine wpList_append_onto' _ rfl _ _ 135 rfl (w.heap.size + 3) 139 i0 z0 5 40 Tryz.underlying135 hi hz0 hz1 hz2 hz3 (by omega) _ _ _ rfl (HS.out.own.alloc _) ⟨W1.heap.size, 0, none⟩ 1 1 [.int .i64 b, .int .i64 0, .int .i64 14, .int .i64 18, .int .i64 4] rfl rfl ?b1 ?b2 ?b3 ?b4 ?b5 ?_)
    case b1 => exact cells_new _ _ _ _
    case b2 => intro u hu; simp only [List.mem_cons, List.not_mem_nil, or_false] at hu; rcases hu with rfl | rfl | rfl | rfl | rfl <;> rfl
    case b3 => simp only [maxLen]; omega
    case b4 => omega
    case b5 => simp; omega
    intro v3 w3 hoN hON
    have hg3 := HS.out.grown (f := ⟨b, 0, 14, 18, 4⟩) hON.1 hoN
    clear hoN hON HS
    have hcR : w3.cell? ⟨w.heap.size + 1, 3, none⟩ = some (.int .i64 r.b) := cell_of_row _ _ _ _ _ _ hg3.blkR
    have hfR := frozen_of_row _ _ 3 _ _ hg3.blkR
    have hg4 := Lib.hid (hg3.struck 3 (.int .i64 0) ({ r with b := 0 }) rfl)
    clear hg3
    go_wp2_with fail
    go_roundw
    case rel => exact ⟨_, _, pos + 1, hg4.out, by omega, by simp; omega, by simpa using hFs.out, hRs.out⟩
    case measure => rw [iterPos_of hg4.out.it, hpos0]; omega
   have d98 : ¬ ((x.toNat : Int) = 98) := fun e => h98 (UInt8.toNat.inj (by show x.toNat = 98; omega))
   by_cases h99 : x = 99
   ·have hf : fld I x = ⟨c, 0, 14, 14, 4⟩ := by rw [← hI]; simp [fld, h99]
    have hr2 : rest1 r x = { r with c := 0 } := by simp [rest1, h99]
    rw [hf] at hFs
    rw [hr2] at hRs
    have hxn : (x.toNat : Int) = 99 := by rw [h99]; rfl
    rw [hxn] at hnx
    clear h99 hxn
    clear hf hr2
    replace hFs := Lib.hid hFs; replace hRs := Lib.hid hRs
    go_wp2_with (at_builtin; refine wpList_append_onto' _ rfl _ _ 135 rfl (w.heap.size + 3) 139 i0 z0 5 40 Tryz.underlying135 hi hz0 hz1 hz2 hz3 (by omega) _ _ _ rfl (HS.out.own.alloc _) ⟨W1.heap.size, 0, none⟩ 1 1 [.int .i64 c, .int .i64 0, .int .i64 14, .int .i64 14, .int .i64 4] rfl rfl ?c1 ?c2 ?c3 ?c4 ?c5 ?_)
    case c1 => exact cells_new _ _ _ _
    case c2 => intro u hu; simp only [List.mem_cons, List.not_mem_nil, or_false] at hu; rcases hu with rfl | rfl | rfl | rfl | rfl <;> rfl
    case c3 => simp only [maxLen]; omega
    case c4 => omega
    case c5 => simp; omega
    intro v3 w3 hoN hON
    have hg3 := HS.out.grown (f := ⟨c, 0, 14, 14, 4⟩) hON.1 hoN
    clear hoN hON HS
    have hcR : w3.cell? ⟨w.heap.size + 1, 4, none⟩ = some (.int .i64 r.c) := cell_of_row _ _ _ _ _ _ hg3.blkR
    have hfR := frozen_of_row _ _ 4 _ _ hg3.blkR
    have hg4 := Lib.hid (hg3.struck 4 (.int .i64 0) ({ r with c := 0 }) rfl)
    clear hg3
    go_wp2_with fail
    go_roundw
    case rel => exact ⟨_, _, pos + 1, hg4.out, by omega, by simp; omega, by simpa using hFs.out, hRs.out⟩
    case measure => rw [iterPos_of hg4.out.it, hpos0]; omega
   have d99 : ¬ ((x.toNat : Int) = 99) := fun e => h99 (UInt8.toNat.inj (by show x.toNat = 99; omega))
   by_cases h107 : x = 107
   ·have hf : fld I x = ⟨k, 0, 6, 22, 3⟩ := by rw [← hI]; simp [fld, h107]
    have hr2 : rest1 r x = { r with k := 0 } := by simp [rest1, h107]
    rw [hf] at hFs
    rw [hr2] at hRs
    have hxn : (x.toNat : Int) = 107 := by rw [h107]; rfl
    rw [hxn] at hnx
    clear h107 hxn
    clear hf hr2
    replace hFs := Lib.hid hFs; replace hRs := Lib.hid hRs
    go_wp2_with (at_builtin; refine wpList_append_onto' _ rfl _ _ 135 rfl (w.heap.size + 3) 139 i0 z0 5 40 Tryz.underlying135 hi hz0 hz1 hz2 hz3 (by omega) _ _ _ rfl (HS.out.own.alloc _) ⟨W1.heap.size, 0, none⟩ 1 1 [.int .i64 k, .int .i64 0, .int .i64 6, .int .i64 22, .int .i64 3] rfl rfl ?k1 ?k2 ?k3 ?k4 ?k5 ?_)
    case k1 => exact cells_new _ _ _ _
    case k2 => intro u hu; simp only [List.mem_cons, List.not_mem_nil, or_false] at hu; rcases hu with rfl | rfl | rfl | rfl | rfl <;> rfl
    case k3 => simp only [maxLen]; omega
    case k4 => omega
    case k5 => simp; omega
    intro v3 w3 hoN hON
    have hg3 := HS.out.grown (f := ⟨k, 0, 6, 22, 3⟩) hON.1 hoN
    clear hoN hON HS
    have hcR : w3.cell? ⟨w.heap.size + 1, 1, none⟩ = some (.int .i64 r.k) := cell_of_row _ _ _ _ _ _ hg3.blkR
    have hfR := frozen_of_row _ _ 1 _ _ hg3.blkR
    have hg4 := Lib.hid (hg3.struck 1 (.int .i64 0) ({ r with k := 0 }) rfl)
    clear hg3
    go_wp2_with fail
    go_roundw
    case rel => exact ⟨_, _, pos + 1, hg4.out, by omega, by simp; omega, by simpa using hFs.out, hRs.out⟩
    case measure => rw [iterPos_of hg4.out.it, hpos0]; omega
   have d107 : ¬ ((x.toNat : Int) = 107) := fun e => h107 (UInt8.toNat.inj (by show x.toNat = 107; omega))
   by_cases h117 : x = 117
   ·have hf : fld I x = ⟨imm, 0, 65535, 0, 16⟩ := by rw [← hI]; simp [fld, h117]
    have hr2 : rest1 r x = { r with imm := 0 } := by simp [rest1, h117]
    rw [hf] at hFs
    rw [hr2] at hRs
    have hxn : (x.toNat : Int) = 117 := by rw [h117]; rfl
    rw [hxn] at hnx
    clear h117 hxn
    clear hf hr2
    replace hFs := Lib.hid hFs; replace hRs := Lib.hid hRs
    go_wp2_with (at_builtin; refine wpList_append_onto' _ rfl _ _ 135 rfl (w.heap.size + 3) 139 i0 z0 5 40 Tryz.underlying135 hi hz0 hz1 hz2 hz3 (by omega) _ _ _ rfl (HS.out.own.alloc _) ⟨W1.heap.size, 0, none⟩ 1 1 [.int .i64 imm, .int .i64 0, .int .i64 65535, .int .i64 0, .int .i64 16] rfl rfl ?u1 ?u2 ?u3 ?u4 ?u5 ?_)
    case u1 => exact cells_new _ _ _ _
    case u2 => intro u hu; simp only [List.mem_cons, List.not_mem_nil, or_false] at hu; rcases hu with rfl | rfl | rfl | rfl | rfl <;> rfl
    case u3 => simp only [maxLen]; omega
    case u4 => omega
    case u5 => simp; omega
    intro v3 w3 hoN hON
    have hg3 := HS.out.grown (f := ⟨imm, 0, 65535, 0, 16⟩) hON.1 hoN
    clear hoN hON HS
    have hcR : w3.cell? ⟨w.heap.size + 1, 5, none⟩ = some (.int .i32 r.imm) := cell_of_row _ _ _ _ _ _ hg3.blkR
    have hfR := frozen_of_row _ _ 5 _ _ hg3.blkR
    have hg4 := Lib.hid (hg3.struck 5 (.int .i32 0) ({ r with imm := 0 }) rfl)
    clear hg3
    go_wp2_with fail
    go_roundw
    case rel => exact ⟨_, _, pos + 1, hg4.out, by omega, by simp; omega, by simpa using hFs.out, hRs.out⟩
    case measure => rw [iterPos_of hg4.out.it, hpos0]; omega
   have d117 : ¬ ((x.toNat : Int) = 117) := fun e => h117 (UInt8.toNat.inj (by show x.toNat = 117; omega))
   have hf : fld I x = ⟨imm, -32768, 32767, 0, 16⟩ := by rw [← hI]; simp [fld, h97, h98, h99, h107, h117]
   have hr2 : rest1 r x = { r with imm := 0 } := by simp [rest1, h97, h98, h99, h107]
   rw [hf] at hFs
   rw [hr2] at hRs
   clear h97 h98 h99 h107 h117
   clear hf hr2
   replace hFs := Lib.hid hFs; replace hRs := Lib.hid hRs
   go_wp2_with (at_builtin; refine wpList_append_onto' _ rfl _ _ 135 rfl (w.heap.size + 3) 139 i0 z0 5 40 Tryz.underlying135 hi hz0 hz1 hz2 hz3 (by omega) _ _ _ rfl (HS.out.own.alloc _) ⟨W1.heap.size, 0, none⟩ 1 1 [.int .i64 imm, .int .i64 (-32768), .int .i64 32767, .int .i64 0, .int .i64 16] rfl rfl ?s1 ?s2 ?s3 ?s4 ?s5 ?_)
   case s1 => exact cells_new _ _ _ _
   case s2 => intro u hu; simp only [List.mem_cons, List.not_mem_nil, or_false] at hu; rcases hu with rfl | rfl | rfl | rfl | rfl <;> rfl
   case s3 => simp only [maxLen]; omega
   case s4 => omega
   case s5 => simp; omega
   intro v3 w3 hoN hON
   have hg3 := HS.out.grown (f := ⟨imm, -32768, 32767, 0, 16⟩) hON.1 hoN
   clear hoN hON HS
   have hcR : w3.cell? ⟨w.heap.size + 1, 5, none⟩ = some (.int .i32 r.imm) := cell_of_row _ _ _ _ _ _ hg3.blkR
   have hfR := frozen_of_row _ _ 5 _ _ hg3.blkR
   have hg4 := Lib.hid (hg3.struck 5 (.int .i32 0) ({ r with imm := 0 }) rfl)
   clear hg3
   go_wp2_with fail
   go_roundw
   case rel => exact ⟨_, _, pos + 1, hg4.out, by omega, by simp; omega, by simpa using hFs.out, hRs.out⟩
   case measure => rw [iterPos_of hg4.out.it, hpos0]; omega
  ·have hnx : ∀ ty, (Instr.next (.pointer (some ⟨w.heap.size + 2, 0, none⟩)) true ty).run Tryz.prog wo = .ok (.tuple #[.bool false]) wo := fun ty => Lib.run_next_end_at wo _ (strS L) pos ty hst.it (by rw [hSz]; exact hp)
   rw [List.drop_eq_nil_of_le (by omega)] at hFs hRs
   have hF : fs = F := by rw [← hFs]; simp
   have hR : r = R := hRs
   subst hF; subst hR
   have h0 : wo.cell? ⟨w.heap.size + 1, 0, none⟩ = some (.int .i64 r.op) := cell_of_row _ _ _ _ _ _ hst.blkR
   have h1 : wo.cell? ⟨w.heap.size + 1, 1, none⟩ = some (.int .i64 r.k) := cell_of_row _ _ _ _ _ _ hst.blkR
   have h2 : wo.cell? ⟨w.heap.size + 1, 2, none⟩ = some (.int .i64 r.a) := cell_of_row _ _ _ _ _ _ hst.blkR
   have h3 : wo.cell? ⟨w.heap.size + 1, 3, none⟩ = some (.int .i64 r.b) := cell_of_row _ _ _ _ _ _ hst.blkR
   have h4 : wo.cell? ⟨w.heap.size + 1, 4, none⟩ = some (.int .i64 r.c) := cell_of_row _ _ _ _ _ _ hst.blkR
   have h5 : wo.cell? ⟨w.heap.size + 1, 5, none⟩ = some (.int .i32 r.imm) := cell_of_row _ _ _ _ _ _ hst.blkR
   have hfz : ∀ j, wo.frozen? ⟨w.heap.size + 1, j, none⟩ = false := fun j => frozen_of_row _ _ j _ _ hst.blkR
   have s0 : wo.setCell ⟨w.heap.size + 1, 0, none⟩ (.int .i64 r.op) = wo := setCell_idI hst.blkR rfl
   have s1 : wo.setCell ⟨w.heap.size + 1, 1, none⟩ (.int .i64 r.k) = wo := setCell_idI hst.blkR rfl
   have s2 : wo.setCell ⟨w.heap.size + 1, 2, none⟩ (.int .i64 r.a) = wo := setCell_idI hst.blkR rfl
   have s3 : wo.setCell ⟨w.heap.size + 1, 3, none⟩ (.int .i64 r.b) = wo := setCell_idI hst.blkR rfl
   have s4 : wo.setCell ⟨w.heap.size + 1, 4, none⟩ (.int .i64 r.c) = wo := setCell_idI hst.blkR rfl
   have s5 : wo.setCell ⟨w.heap.size + 1, 5, none⟩ (.int .i32 r.imm) = wo := setCell_idI hst.blkR rfl
   have HS := Lib.hid hst
   clear hFs hRs hst
   go_upto_region 18 with fail
   go_region_held3 (fun w' => w'.cell? ⟨w.heap.size + 1, 0, none⟩ = some (.int .i64 r.op) ∧ w'.cell? ⟨w.heap.size + 1, 1, none⟩ = some (.int .i64 r.k) ∧ w'.cell? ⟨w.heap.size + 1, 2, none⟩ = some (.int .i64 r.a) ∧ w'.cell? ⟨w.heap.size + 1, 3, none⟩ = some (.int .i64 r.b) ∧ w'.cell? ⟨w.heap.size + 1, 4, none⟩ = some (.int .i64 r.c) ∧ w'.cell? ⟨w.heap.size + 1, 5, none⟩ = some (.int .i32 r.imm)) (first | exact ⟨h0, h1, h2, h3, h4, h5⟩ | assumption) (fail)
   all_goals
    go_wp2_with fail
    refine bodyPost_ret (v := .tuple #[.slice ao fs.length ca, .agg (insC r)]) (results_snd rfl rfl rfl (w := wo.drew) HS.out.blkR Tryz.underlying92 rfl infoIns) rfl ⟨HS.out.below.drew, _, rfl, Joins.ownsRow_le (w := wo.drew) HS.out.own (by omega)⟩
end YtiknookfnameiaaGreatDoor
end Go.Proofs
