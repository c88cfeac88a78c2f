/- What AsmPrints lays out: words that came in; the listed tables. -/
import Derived.Test.YtiknookfnameiaaGreatDoorJn46
import Derived.Test.YtiknookfnameiaaGreatDoorJn19
import Derived.Deep.Fields
import Derived.LaidMore
import Derived.Lib.LaidU8
namespace Go.Proofs.YtiknookfnameiaaGreatDoor
open Go.ChangeShapes Go.WideShapes Go.ChangeAt Go.RowKit Go.Joins Go.Deep
set_option maxRecDepth 100000
theorem gPowP : Tryz.prog.globalNamed "internal/strconv.uint64pow10" = some 5 := by kernel_rfl
theorem tPowP : (Tryz.prog.globals[5]?).map (·.type) = some 238 := by kernel_rfl
theorem cellsU64P : Tryz.prog.cellsOf 132 = 1 := by kernel_rfl
theorem cellsT20P : Tryz.prog.cellsOf 238 = 20 := by kernel_rfl
theorem pow10P_of {W : World} (h : Lib.VarReads Tryz.prog W "internal/strconv.uint64pow10" Rows.laid_internal_strconv_uint64pow10) : Pow10P W := by
  obtain ⟨g, t, cs, fuel, p, hg, ht, hv, hd⟩ := h
  obtain rfl := Option.some.inj (gPowP.symm.trans hg)
  obtain rfl := Option.some.inj (tPowP.symm.trans ht)
  have hc := Lib.cells_of_tab (zs := Lib.pow10Tab) Tryz.underlying238 Tryz.underlying132 cellsU64P cellsT20P hd
  unfold Pow10P Lib.TabIs
  rw [hv, ← hc]
end Go.Proofs.YtiknookfnameiaaGreatDoor
