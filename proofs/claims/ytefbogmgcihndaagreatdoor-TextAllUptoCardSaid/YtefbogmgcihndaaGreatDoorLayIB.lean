/- The library's strings.IndexByte at this program's numbers. (Printed by wip/sh/layplain.py, laymark.py.) -/
import Derived.Test.YtefbogmgcihndaaGreatDoorProg
import Derived.Shelf.Small.Strs
namespace Go.Proofs
open Go.Shelf
def YtefbogmgcihndaaGreatDoor.laysIB_ren : Go.Shelf.Ren := ⟨fun | 137 => 69 | 217 => 88 | 266 => 103 | n => n, fun | 9 => 9 | 5 => 5 | 3 => 3 | n => n, fun | n => n⟩
theorem YtefbogmgcihndaaGreatDoor.laysIB : Go.Proofs.Lays.n137 Tryz.prog YtefbogmgcihndaaGreatDoor.laysIB_ren := {
  mixed := by kernel_rfl
  f137 := Tryz.func69.trans (congrArg some (by kernel_rfl))
  f217 := Tryz.func88.trans (congrArg some (by kernel_rfl))
  f266 := Tryz.func103.trans (congrArg some (by kernel_rfl))
  t3 := Tryz.underlying3
  a3 := Tryz.isAgg3
  z3 := Tryz.sizeOf3
  v3 := Tryz.zeroValue3
  t5 := Tryz.underlying5
  a5 := Tryz.isAgg5
  z5 := Tryz.sizeOf5
  v5 := Tryz.zeroValue5
  t9 := Tryz.underlying9
  a9 := Tryz.isAgg9
  z9 := Tryz.sizeOf9
  v9 := Tryz.zeroValue9 }
end Go.Proofs
