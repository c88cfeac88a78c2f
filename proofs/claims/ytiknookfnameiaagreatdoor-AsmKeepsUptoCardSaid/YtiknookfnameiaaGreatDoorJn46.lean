/- The contract of the reference's Print (printed by genAsS.py). The walk of AsmPrints. AsmBack's walk. -/
import Derived.Test.YtiknookfnameiaaGreatDoorAsRJn
import Derived.Deep.CutRange
import Derived.Deep.RegionHeld3
import Derived.Test.YtiknookfnameiaaGreatDoorJn42
import Derived.Test.YtiknookfnameiaaGreatDoorJn41
namespace Go.Proofs
open Go.RowKit
namespace YtiknookfnameiaaGreatDoor
open WP
/-- the names while they are given: the first i places have theirs, the others a mark -/
def nm2 (B : List Bool) (n i : Nat) : List Value := (List.range n).map fun j => .string (strS (if j < i then nmAt B j else if B.getD j false then [108] else []))
end YtiknookfnameiaaGreatDoor
end Go.Proofs

namespace Go.Proofs
open Go.RowKit
namespace YtiknookfnameiaaGreatDoor
open WP
/-- what both Prints answer -/
def prS (l : List UInt32) : ByteArray := if l.length ≤ 2048 then strS (printL l (l.length + 1)) else ⟨#[]⟩
def prE (l : List UInt32) : Int := if l.length ≤ 2048 then 0 else 66
theorem print_all (v : Value) (l : List UInt32) (base : Int) (w : World) (hT : Tabs w) (hP : Pow10P w) (hv : Rd w v (vw l)) :
    Calls Tryz.prog 19 #[v, .int .u32 base] w fun e w' => Below w.heap.size w w' ∧ e = .returned (.tuple #[.string (prS l), .int .i64 (prE l)]) := by
  unfold prS prE
  by_cases hn : l.length ≤ 2048
  · rw [if_pos hn, if_pos hn]; exact print_any v l base w hT hP hv hn
  · rw [if_neg hn, if_neg hn]
    obtain ⟨ao, cap, rfl, _⟩ := hv.words
    obtain ⟨n, hnn⟩ : ∃ n, l.length = n := ⟨_, rfl⟩
    rw [hnn] at hn ⊢
    have d0 : decide ((n : Int) > 2048) = true := decide_eq_true (by omega)
    go_enter Tryz.func19, Tryz.ntmps19
    go_wp2
    refine bodyPost_ret (v := .tuple #[.string ⟨#[]⟩, .int .i64 66]) (by simp [results, Tryz.results19, go_sem]) rfl ⟨Below.refl _ _, rfl⟩
section
variable {P : Program} (w : World)
end
end YtiknookfnameiaaGreatDoor
end Go.Proofs

namespace Go.Proofs.YtiknookfnameiaaGreatDoor
open Go.RowKit WP
set_option linter.unusedSimpArgs false
set_option linter.unusedVariables false
theorem wi_words (l : List UInt32) : wi ((List.range l.length).map (wAt l)) = vw l := by
  refine List.ext_getElem? fun j => ?_
  by_cases hj : j < l.length
  · rw [vw_get l j hj]
    unfold wi
    rw [List.getElem?_map, List.getElem?_map, List.getElem?_range hj]; rfl
  · rw [List.getElem?_eq_none (by simp [wi]; omega), List.getElem?_eq_none (by simp; omega)]
end Go.Proofs.YtiknookfnameiaaGreatDoor
