/- What AsmPrints lays out: words that came in; the listed tables. -/
import Derived.Test.YtiknookfnameiaaDoorAsU
import Derived.Test.YtiknookfnameiaaDoorOpenB
import Derived.Deep.Fields
import Derived.LaidMore
import Derived.Lib.LaidU8
namespace Go.Proofs.YtiknookfnameiaaDoor
open Go.ChangeShapes Go.WideShapes Go.ChangeAt Go.RowKit Go.Joins Go.Deep
set_option maxRecDepth 100000
theorem gPow : Tryd.prog.globalNamed "internal/strconv.uint64pow10" = some 5 := by kernel_rfl
theorem tPow : (Tryd.prog.globals[5]?).map (·.type) = some 95 := by kernel_rfl
theorem cellsU64 : Tryd.prog.cellsOf 87 = 1 := by kernel_rfl
theorem cellsT20 : Tryd.prog.cellsOf 95 = 20 := by kernel_rfl
theorem pow10_of {W : World} (h : Lib.VarReads Tryd.prog W "internal/strconv.uint64pow10" Rows.laid_internal_strconv_uint64pow10) : Pow10 W := by
  obtain ⟨g, t, cs, fuel, p, hg, ht, hv, hd⟩ := h
  obtain rfl := Option.some.inj (gPow.symm.trans hg)
  obtain rfl := Option.some.inj (tPow.symm.trans ht)
  have hc := Lib.cells_of_tab (zs := Lib.pow10Tab) Tryd.underlying95 Tryd.underlying87 cellsU64 cellsT20 hd
  unfold Pow10 Lib.TabIs
  rw [hv, ← hc]
theorem cellsStr : Tryd.prog.cellsOf 9 = 1 := by kernel_rfl
/-- a listed variable's block -/
theorem var_block {W : World} {g : Nat} {nm : String} {cs : Array Value} (hg : Tryd.prog.globalNamed nm = some g) (hv : W.var? Tryd.prog nm = some cs) : ∃ t fr, W.heap[g]? = some (.cells cs t fr) := by
  unfold World.var? at hv
  rw [hg, Option.bind_some] at hv
  split at hv
  · rename_i cs' t' fr' h
    simp only [Option.some.injEq] at hv
    subst hv
    exact ⟨_, _, h⟩
  · cases hv
theorem var_cell {W : World} {g : Nat} {cs : Array Value} {t : TypeId} {fr : Nat × Nat} (h : W.heap[g]? = some (.cells cs t fr)) (o : Nat) : W.cell? ⟨g, o, none⟩ = cs[o]? := by
  simp only [World.cell?, h]; rfl
def strsData (L : List (List UInt8)) : DataW Unit := .agg (L.map fun s => .lit (.string s))
/-- an array of strings, listed -/
theorem strs_of {W : World} {nm : String} {L : List (List UInt8)} {g n : Nat} {t : TypeId} (hg : Tryd.prog.globalNamed nm = some g) (ht : (Tryd.prog.globals[g]?).map (·.type) = some t) (hu : Tryd.prog.underlying t = some (.array n 9)) (hn : L.length = n)
    (h : Lib.VarReads Tryd.prog W nm (strsData L)) : StrAt W g 1 0 L := by
  obtain ⟨g', t', cs, fuel, p, hg', ht', hv, hd⟩ := h
  obtain rfl := Option.some.inj (hg.symm.trans hg')
  obtain rfl := Option.some.inj (ht.symm.trans ht')
  obtain ⟨tt, fr, hb⟩ := var_block hg hv
  refine ⟨(Array.getElem?_eq_some_iff.1 hb).1, ?_⟩
  intro i hi
  obtain ⟨f2, d, q, hds, hf⟩ := Lib.array_elem hu hd i (by omega)
  rw [cellsStr, Nat.mul_one] at hf
  obtain ⟨s, hcs, hx, _⟩ := DataW.trod_string Tryd.underlying9 hf
  rw [List.getElem?_map, List.getElem?_eq_getElem hi] at hds
  simp only [Option.map_some, Option.some.injEq] at hds
  simp only [Prod.mk.injEq] at hx
  rw [hx.1] at hds
  simp only [DataW.lit.injEq, Lit.string.injEq] at hds
  have hc : cs.toList[i]? = some (.string s) := by
    have := congrArg (·[0]?) hcs
    simpa [List.getElem?_take, List.getElem?_drop] using this
  rw [Nat.mul_one, Nat.add_zero, var_cell hb, ← Array.getElem?_toList, hc]
  congr 2
  apply ByteArray.ext
  rw [List.getD_eq_getElem?_getD, List.getElem?_eq_getElem hi]
  show s.data = (L[i]).toArray
  rw [hds]
def usesData : DataW Unit := .agg ((nameT.zip shapeT).map fun x => .agg [.lit (.string x.1), .lit (.string x.2)])
theorem gUses : Tryd.prog.globalNamed "warden/isa.uses" = some 0 := by kernel_rfl
theorem tUses : (Tryd.prog.globals[0]?).map (·.type) = some 70 := by kernel_rfl
theorem cellsUse : Tryd.prog.cellsOf 69 = 2 := by kernel_rfl
theorem uses_of {W : World} (h : Lib.VarReads Tryd.prog W "warden/isa.uses" usesData) : StrAt W 0 2 0 nameT ∧ StrAt W 0 2 1 shapeT := by
  obtain ⟨g', t', cs, fuel, p, hg', ht', hv, hd⟩ := h
  obtain rfl := Option.some.inj (gUses.symm.trans hg')
  obtain rfl := Option.some.inj (tUses.symm.trans ht')
  obtain ⟨tt, fr, hb⟩ := var_block gUses hv
  have hlt := (Array.getElem?_eq_some_iff.1 hb).1
  have key : ∀ i, i < 25 → cs.toList[i * 2]? = some (.string ⟨(nameT.getD i []).toArray⟩) ∧ cs.toList[i * 2 + 1]? = some (.string ⟨(shapeT.getD i []).toArray⟩) := by
    intro i hi
    obtain ⟨f2, d, q, hds, hf⟩ := Lib.array_elem Tryd.underlying70 hd i hi
    rw [cellsUse] at hf
    have hn : i < nameT.length := hi
    have hs : i < shapeT.length := hi
    obtain ⟨hlen, n, Y, hx, hff⟩ := trod_fields Tryd.underlying69 (fun i f hi => by
      match i, hi with
      | 0, hi => cases hi; exact ⟨rfl, by kernel_rfl⟩
      | 1, hi => cases hi; exact ⟨rfl, by kernel_rfl⟩
      | i + 2, hi => exact absurd hi (by simp)) (by kernel_rfl) hf
    obtain ⟨s0, e0, y0, _⟩ := DataW.trod_string Tryd.underlying9 (hff 0 _ rfl)
    obtain ⟨s1, e1, y1, _⟩ := DataW.trod_string Tryd.underlying9 (hff 1 _ rfl)
    have hx2 : d = DataW.agg [(Y 0).1, (Y 1).1] := hx
    rw [y0, y1] at hx2
    rw [List.getElem?_map, List.getElem?_eq_getElem (by simp; omega)] at hds
    simp only [Option.map_some, Option.some.injEq] at hds
    rw [hx2] at hds
    simp only [List.getElem_zip, DataW.agg.injEq, List.cons.injEq, DataW.lit.injEq, Lit.string.injEq, and_true] at hds
    simp only [List.cons.injEq, and_true] at e0 e1
    have hl2 : ((cs.toList.drop (i * 2)).take 2).length = 2 := hlen
    have c0 : ((cs.toList.drop (i * 2)).take 2)[0]? = some (.string s0) := by
      rw [List.getElem?_eq_getElem (by omega)]
      rw [List.getD_eq_getElem?_getD, List.getElem?_eq_getElem (by omega)] at e0
      simpa using e0
    have c1 : ((cs.toList.drop (i * 2)).take 2)[1]? = some (.string s1) := by
      rw [List.getElem?_eq_getElem (by omega)]
      rw [List.getD_eq_getElem?_getD, List.getElem?_eq_getElem (by omega)] at e1
      simpa using e1
    rw [List.getElem?_take, if_pos (by omega), List.getElem?_drop] at c0 c1
    refine ⟨?_, ?_⟩
    · rw [Nat.add_zero] at c0
      rw [c0]
      congr 2
      apply ByteArray.ext
      rw [List.getD_eq_getElem?_getD, List.getElem?_eq_getElem hn]
      exact ((congrArg List.toArray hds.1).trans (by simp)).symm
    · rw [c1]
      congr 2
      apply ByteArray.ext
      rw [List.getD_eq_getElem?_getD, List.getElem?_eq_getElem hs]
      exact ((congrArg List.toArray hds.2).trans (by simp)).symm
  refine ⟨⟨hlt, fun i hi => ?_⟩, ⟨hlt, fun i hi => ?_⟩⟩
  · rw [Nat.add_zero, var_cell hb, ← Array.getElem?_toList]; exact (key i hi).1
  · rw [var_cell hb, ← Array.getElem?_toList]; exact (key i hi).2
theorem tabs_of {W : World} (h1 : Lib.VarReads Tryd.prog W "warden/isa.uses" Rows.laid_warden_isa_uses) (h2 : Lib.VarReads Tryd.prog W "warden/isa.conds" Rows.laid_warden_isa_conds) : Tabs W :=
  ⟨(uses_of h1).1, (uses_of h1).2, strs_of (n := 7) (t := 71) (by kernel_rfl) (by kernel_rfl) Tryd.underlying71 rfl h2⟩
theorem rtabs_of {W : World} (h1 : Lib.VarReads Tryd.prog W "warden/wardenref05.names" Rows.laid_warden_wardenref05_names) (h2 : Lib.VarReads Tryd.prog W "warden/wardenref05.shapes" Rows.laid_warden_wardenref05_shapes) (h3 : Lib.VarReads Tryd.prog W "warden/wardenref05.conds" Rows.laid_warden_wardenref05_conds) : RTabs W :=
  ⟨strs_of (n := 25) (t := 75) (by kernel_rfl) (by kernel_rfl) Tryd.underlying75 rfl h1, strs_of (n := 25) (t := 75) (by kernel_rfl) (by kernel_rfl) Tryd.underlying75 rfl h2, strs_of (n := 7) (t := 71) (by kernel_rfl) (by kernel_rfl) Tryd.underlying71 rfl h3⟩
end Go.Proofs.YtiknookfnameiaaDoor
