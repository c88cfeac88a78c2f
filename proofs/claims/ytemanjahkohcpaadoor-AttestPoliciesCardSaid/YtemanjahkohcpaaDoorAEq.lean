/- Arrays of eight words compared. -/
import Derived.Test.YtemanjahkohcpaaDoorASame
import Derived.ChangeKeysEq
import Derived.Laws.StructEq
namespace Go.Proofs.YtemanjahkohcpaaDoor
open Go.RowKit WP
theorem cellsW : Tryd.prog.cellsOf 22 = 1 := by kernel_rfl
theorem plainW : Tryd.prog.plainKey 22 = true := by kernel_rfl
theorem eqItems_words (a b : List UInt32) (w : World) : ∀ is : List Nat, (∀ i ∈ is, i < a.length ∧ i < b.length) →
    (Op.eqItems 9999 22 (Tryd.prog.cellsOf 22) (vw a).toArray (vw b).toArray is).run Tryd.prog w = .ok (decide (∀ i ∈ is, wAt a i = wAt b i)) w
  | [], _ => by simp [Op.eqItems]
  | i :: is, h => by
    obtain ⟨ha, hb⟩ := h i (by simp)
    have ih := eqItems_words a b w is (fun j hj => h j (by simp [hj]))
    have p1 := run_part_plain (P := Tryd.prog) w plainW (vw_getD a i ha)
    have p2 := run_part_plain (P := Tryd.prog) w plainW (vw_getD b i hb)
    have p3 := run_equalIn_int (P := Tryd.prog) w 9998 22 .u32 .u32 (wAt a i) (wAt b i) Tryd.underlying22
    simp only [Op.eqItems, Sem.run_bind]
    rw [cellsW, Nat.mul_one, p1]
    simp only [Result.andThen_ok]
    rw [p2]
    simp only [Result.andThen_ok]
    rw [p3]
    simp only [Result.andThen_ok]
    by_cases he : wAt a i = wAt b i
    · rw [if_neg (by simp [he])]
      rw [cellsW] at ih
      rw [ih]
      simp [he]
    · rw [if_pos (by simp [he])]
      simp [he]
theorem eq_words (a b : List UInt32) (w : World) (la : a.length = 8) (lb : b.length = 8) :
    (Op.equalIn 10000 23 (.agg (vw a).toArray) (.agg (vw b).toArray)).run Tryd.prog w = .ok (decide (a = b)) w := by
  obtain ⟨i, hi, _⟩ := info_parts info22
  rw [show (10000 : Nat) = 9999 + 1 from rfl, run_equalIn_array (P := Tryd.prog) w 9999 _ _ Tryd.underlying23 hi, eqItems_words a b w _ (fun i hi => by simp at hi; omega)]
  refine congrArg (fun c => Result.ok c w) (decide_eq_decide.2 ?_)
  constructor
  · intro h
    apply List.ext_getElem (by omega)
    intro i h1 h2
    exact (wAt_inj a b i h1 h2).1 (h i (by simp; omega))
  · rintro rfl i _; rfl
end Go.Proofs.YtemanjahkohcpaaDoor
