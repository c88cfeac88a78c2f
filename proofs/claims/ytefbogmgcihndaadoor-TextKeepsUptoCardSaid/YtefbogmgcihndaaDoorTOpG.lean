/- The listed table of powers of ten; small counts of cells. -/
import Derived.Test.YtefbogmgcihndaaDoorOpenB
import Derived.Test.YtefbogmgcihndaaDoorTTen
import Derived.Deep.Fields
import Derived.Deep.Slices
import Derived.LaidMore
import Derived.Lib.LaidU8
namespace Go.Proofs.YtefbogmgcihndaaDoor
open Go.ChangeShapes Go.WideShapes Go.ChangeAt Go.RowKit Go.Joins Go.Deep
set_option maxRecDepth 100000
theorem cellsB : Tryd.prog.cellsOf 5 = 1 := by kernel_rfl
theorem add_at (b off i j : Nat) : ((⟨b, off, none⟩ : Addr).add i).add j = ⟨b, off + i + j, none⟩ := by
  rw [Deep.add_add]; unfold Addr.add; split <;> simp_all; omega
theorem gPow : Tryd.prog.globalNamed "internal/strconv.uint64pow10" = some 0 := by kernel_rfl
theorem tPow : (Tryd.prog.globals[0]?).map (·.type) = some 136 := by kernel_rfl
theorem cellsU64 : Tryd.prog.cellsOf 74 = 1 := by kernel_rfl
theorem cellsT20 : Tryd.prog.cellsOf 136 = 20 := by kernel_rfl
theorem pow10_of {W : World} (h : Lib.VarReads Tryd.prog W "internal/strconv.uint64pow10" Rows.laid_internal_strconv_uint64pow10) : Pow10 W := by
  obtain ⟨g, t, cs, fuel, p, hg, ht, hv, hd⟩ := h
  obtain rfl := Option.some.inj (gPow.symm.trans hg)
  obtain rfl := Option.some.inj (tPow.symm.trans ht)
  have hc := Lib.cells_of_tab (zs := Lib.pow10Tab) Tryd.underlying136 Tryd.underlying74 cellsU64 cellsT20 hd
  unfold Pow10 Lib.TabIs
  rw [hv, ← hc]
end Go.Proofs.YtefbogmgcihndaaDoor
