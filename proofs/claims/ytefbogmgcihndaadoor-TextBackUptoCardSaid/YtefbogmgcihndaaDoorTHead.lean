/- The contract of the law's head: it always says yes. -/
import Derived.Test.YtefbogmgcihndaaDoorTTen
namespace Go.Proofs.YtefbogmgcihndaaDoor
open Go.RowKit WP
theorem numbers_yes (w : World) : Calls Tryd.prog 26 #[] w fun e w' => e = .returned (.bool true) ∧ w' = w := by
  go_enter Tryd.func26, Tryd.ntmps26
  go_wp2
  go_ret
  exact ⟨rfl, rfl⟩
set_option maxRecDepth 100000 in
theorem tens_ten (w : World) (h : Pow10 w) : Calls Tryd.prog 11 #[.int .u32 10] w fun e w' => e = .returned (.string ⟨#[49, 48]⟩) ∧ Below w.heap.size w w' := by
  have h1 := tens_any 10 (by decide) w h
  rw [Lib.decDigits_two (by decide) (by decide)] at h1
  exact h1
set_option maxRecDepth 100000 in
set_option maxHeartbeats 4000000 in
theorem head_yes (w : World) (h : Pow10 w) : Calls Tryd.prog 7 #[] w fun e w' => e = .returned (.bool true) ∧ Below w.heap.size w w' := by
  have hF : wordsF ⟨#[97, 32, 34, 98, 34]⟩ = .inl [(⟨#[97]⟩, false, 1), (⟨#[98]⟩, true, 3)] := by kernel_rfl
  go_enter Tryd.func7, Tryd.ntmps7
  go_wp2_with fail
  refine (words_any _ _ (by decide)).mono ?_
  rintro e w1 ⟨hb, hr⟩
  rw [hF] at hr
  obtain ⟨v, rfl, ho⟩ := hr
  obtain ⟨g, cap, rfl, q1, q2⟩ := ho.form (by simp)
  have c3 := (ho.cellAt 3 (by simp)).trans (show _ = some (.string ⟨#[98]⟩) from rfl)
  have c4 := (ho.cellAt 4 (by simp)).trans (show _ = some (.bool true) from rfl)
  have c5 := (ho.cellAt 5 (by simp)).trans (show _ = some (.int .i64 3) from rfl)
  have hp := Lib.hid (pow10_later h hb)
  clear hF ho
  have hb := Lib.hid hb
  go_wp2_with (first | (go_at_call 26; refine (numbers_yes _).mono ?_; rintro e w2 ⟨rfl, hw⟩; rw [hw]; clear hw w2) | (go_at_call 11; refine (tens_ten _ hp.out).mono ?_; rintro e w2 ⟨rfl, hb2⟩))
  go_ret
  exact ⟨rfl, hb.out.trans (hb2.mono hb.out.size)⟩
end Go.Proofs.YtefbogmgcihndaaDoor
