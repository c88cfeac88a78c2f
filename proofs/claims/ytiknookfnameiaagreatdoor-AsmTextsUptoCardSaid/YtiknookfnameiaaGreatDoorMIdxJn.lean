/- The library's IndexByte, HasSuffix, TrimSuffix at this dump. -/
import Derived.Test.YtiknookfnameiaaGreatDoorJn33
import Derived.Shelf.Strings.Search1
import Derived.Laws.Strings3
namespace Go.Proofs.YtiknookfnameiaaGreatDoor
open Go.RowKit WP
set_option linter.unusedSimpArgs false
set_option maxRecDepth 100000 in
theorem sidx_any (s : ByteArray) (c : Int) (w : World) : Calls Tryz.prog 137 #[.string s, .int .u8 c] w fun e w' => e = .returned (.int .i64 (Lib.indexByte s.data.toList c.toNat.toUInt8)) ∧ w' = w := by
 go_enter Tryz.func137, Tryz.ntmps137
 go_wp2
 rw [run_callFunc_extern Tryz.func155 (by kernel_rfl) (by kernel_rfl) (by kernel_rfl) (e := Extern.BytealgIndexByte.indexByte) (by kernel_rfl), Lib.run_indexByteString]
 simp only [Result.andThen]
 rw [Oper.upon_value]
 go_wp2
 go_ret
 exact ⟨rfl, rfl⟩
set_option maxRecDepth 100000 in
theorem idx_any (s : ByteArray) (c : Int) (w : World) : Calls Tryz.prog 109 #[.string s, .int .u8 c] w fun e w' => e = .returned (.int .i64 (Lib.indexByte s.data.toList c.toNat.toUInt8)) ∧ w' = w := by
 have h := fun W => sidx_any s c W
 replace h := Lib.hid h
 go_enter Tryz.func109, Tryz.ntmps109
 go_wp2_with (go_at_call 137; refine (h.out _).mono ?_; rintro e w' ⟨rfl, rfl⟩)
 go_ret
 exact ⟨rfl, rfl⟩
end Go.Proofs.YtiknookfnameiaaGreatDoor
