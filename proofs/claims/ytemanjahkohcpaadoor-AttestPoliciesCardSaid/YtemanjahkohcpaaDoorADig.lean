/- The contracts of sha's First and New. -/
import Derived.Test.YtemanjahkohcpaaDoorADigP
namespace Go.Proofs.YtemanjahkohcpaaDoor
open Go.RowKit WP
def firstL : List UInt32 := [1779033703, 3144134277, 1013904242, 2773480762, 1359893119, 2600822924, 528734635, 1541459225]
theorem firstL_vals : (vw firstL).toArray = #[.int .u32 1779033703, .int .u32 3144134277, .int .u32 1013904242, .int .u32 2773480762, .int .u32 1359893119, .int .u32 2600822924, .int .u32 528734635, .int .u32 1541459225] := by rfl
set_option maxRecDepth 100000 in
theorem first_any (w : World) : Calls Tryd.prog 77 #[] w fun e w' => e = .returned (.agg (vw firstL).toArray) ∧ Below w.heap.size w w' := by
  go_enter Tryd.func77, Tryd.ntmps77
  have a0 : Arr (w.alloc (.cells (vw (List.replicate 8 0)).toArray 23)) w.heap.size 23 (List.replicate 8 0) := Arr.new _ _ _
  have hb0 : Below w.heap.size w (w.alloc (.cells (vw (List.replicate 8 0)).toArray 23)) := (Below.refl _ _).alloc (Nat.le_refl _) _
  go_wp2_with (refine wpList_store_arr rfl 23 _ _ rfl w.heap.size rfl firstL (by rw [firstL_vals]; rfl) a0 info23 (by simp) (by rfl) ?_; intro w2 a2 g2; have hb2 := hb0.grown g2 hb0.size (by simp))
  refine bodyPost_ret (results_arr rfl rfl a2 Tryd.underlying23 info23 (by rfl)) rfl ⟨rfl, hb2⟩
set_option maxRecDepth 100000 in
theorem new_any (w : World) : Calls Tryd.prog 56 #[] w fun e w' => ∃ g, e = .returned (.pointer (some ⟨g, 0, none⟩)) ∧ w.heap.size ≤ g ∧ Dig w' g firstL 0 (.slice none 0 0) ∧ Below w.heap.size w w' := by
  go_enter Tryd.func56, Tryd.ntmps56
  go_wp2_with fail
  refine (first_any _).mono ?_
  rintro e w1 ⟨rfl, b1⟩
  rw [firstL_vals]
  go_wp2_with fail
  go_ret
  exact ⟨_, rfl, b1.size, Dig.of_block (S := firstL) (t := 106) (heap_alloc_new w1 _) rfl, b1.alloc b1.size _⟩
end Go.Proofs.YtemanjahkohcpaaDoor
