/- The contract of attest's Verify. -/
import Derived.Test.YtemanjahkohcpaaDoorASame
namespace Go.Proofs.YtemanjahkohcpaaDoor
open Go.RowKit WP
set_option maxRecDepth 100000 in
set_option maxHeartbeats 2000000 in
theorem verify_any (KL key me da tag : List UInt32) (w : World) (hK : Rounds w KL) (hk : key.length = 8) (hm : me.length = 8) (hd : da.length = 8) (ht : tag.length = 8) :
    Calls Tryd.prog 11 #[.agg (vw key).toArray, .agg (vw me).toArray, .agg (vw da).toArray, .agg (vw tag).toArray] w fun e w' => e = .returned (.bool (decide (attF KL key me da = tag))) ∧ Below w.heap.size w w' := by
  obtain ⟨w1, hw1⟩ : ∃ w1, (((w.alloc (.cells (vw key).toArray 23)).alloc (.cells (vw me).toArray 23)).alloc (.cells (vw da).toArray 23)).alloc (.cells (vw tag).toArray 23) = w1 := ⟨_, rfl⟩
  have aK : Arr w1 w.heap.size 23 key := by rw [← hw1]; exact (((Arr.new w _ key).alloc _).alloc _).alloc _
  have aM : Arr w1 (w.heap.size + 1) 23 me := by
    rw [← hw1]
    have := ((Arr.new (w.alloc (.cells (vw key).toArray 23)) 23 me).alloc (.cells (vw da).toArray 23)).alloc (.cells (vw tag).toArray 23)
    simpa using this
  have aD : Arr w1 (w.heap.size + 1 + 1) 23 da := by
    rw [← hw1]
    have := (Arr.new ((w.alloc (.cells (vw key).toArray 23)).alloc (.cells (vw me).toArray 23)) 23 da).alloc (.cells (vw tag).toArray 23)
    simpa using this
  have aT : Arr w1 (w.heap.size + 1 + 1 + 1) 23 tag := by
    rw [← hw1]
    have := Arr.new (((w.alloc (.cells (vw key).toArray 23)).alloc (.cells (vw me).toArray 23)).alloc (.cells (vw da).toArray 23)) 23 tag
    simpa using this
  have hb1 : Below w.heap.size w w1 := by rw [← hw1]; exact ((((Below.refl _ _).alloc (Nat.le_refl _) _).alloc (by simp) _).alloc (by simp; omega) _).alloc (by simp; omega) _
  have hK1 : Rounds w1.drew KL := hK.below hb1.drew
  have hS : ∀ w' : World, Below w1.heap.size w1 w' → (Below w1.heap.size w1 w' ∧ w'.cell? ⟨w.heap.size, 0, none⟩ = some (.int .u32 (wAt key 0)) ∧ w'.cell? ⟨w.heap.size, 1, none⟩ = some (.int .u32 (wAt key 1)) ∧ w'.cell? ⟨w.heap.size, 2, none⟩ = some (.int .u32 (wAt key 2)) ∧ w'.cell? ⟨w.heap.size, 3, none⟩ = some (.int .u32 (wAt key 3)) ∧ w'.cell? ⟨w.heap.size, 4, none⟩ = some (.int .u32 (wAt key 4)) ∧ w'.cell? ⟨w.heap.size, 5, none⟩ = some (.int .u32 (wAt key 5)) ∧ w'.cell? ⟨w.heap.size, 6, none⟩ = some (.int .u32 (wAt key 6)) ∧ w'.cell? ⟨w.heap.size, 7, none⟩ = some (.int .u32 (wAt key 7)) ∧ w'.cell? ⟨w.heap.size + 1, 0, none⟩ = some (.int .u32 (wAt me 0)) ∧ w'.cell? ⟨w.heap.size + 1, 1, none⟩ = some (.int .u32 (wAt me 1)) ∧ w'.cell? ⟨w.heap.size + 1, 2, none⟩ = some (.int .u32 (wAt me 2)) ∧ w'.cell? ⟨w.heap.size + 1, 3, none⟩ = some (.int .u32 (wAt me 3)) ∧ w'.cell? ⟨w.heap.size + 1, 4, none⟩ = some (.int .u32 (wAt me 4)) ∧ w'.cell? ⟨w.heap.size + 1, 5, none⟩ = some (.int .u32 (wAt me 5)) ∧ w'.cell? ⟨w.heap.size + 1, 6, none⟩ = some (.int .u32 (wAt me 6)) ∧ w'.cell? ⟨w.heap.size + 1, 7, none⟩ = some (.int .u32 (wAt me 7)) ∧ w'.cell? ⟨w.heap.size + 1 + 1, 0, none⟩ = some (.int .u32 (wAt da 0)) ∧ w'.cell? ⟨w.heap.size + 1 + 1, 1, none⟩ = some (.int .u32 (wAt da 1)) ∧ w'.cell? ⟨w.heap.size + 1 + 1, 2, none⟩ = some (.int .u32 (wAt da 2)) ∧ w'.cell? ⟨w.heap.size + 1 + 1, 3, none⟩ = some (.int .u32 (wAt da 3)) ∧ w'.cell? ⟨w.heap.size + 1 + 1, 4, none⟩ = some (.int .u32 (wAt da 4)) ∧ w'.cell? ⟨w.heap.size + 1 + 1, 5, none⟩ = some (.int .u32 (wAt da 5)) ∧ w'.cell? ⟨w.heap.size + 1 + 1, 6, none⟩ = some (.int .u32 (wAt da 6)) ∧ w'.cell? ⟨w.heap.size + 1 + 1, 7, none⟩ = some (.int .u32 (wAt da 7)) ∧ w'.cell? ⟨w.heap.size + 1 + 1 + 1, 0, none⟩ = some (.int .u32 (wAt tag 0)) ∧ w'.cell? ⟨w.heap.size + 1 + 1 + 1, 1, none⟩ = some (.int .u32 (wAt tag 1)) ∧ w'.cell? ⟨w.heap.size + 1 + 1 + 1, 2, none⟩ = some (.int .u32 (wAt tag 2)) ∧ w'.cell? ⟨w.heap.size + 1 + 1 + 1, 3, none⟩ = some (.int .u32 (wAt tag 3)) ∧ w'.cell? ⟨w.heap.size + 1 + 1 + 1, 4, none⟩ = some (.int .u32 (wAt tag 4)) ∧ w'.cell? ⟨w.heap.size + 1 + 1 + 1, 5, none⟩ = some (.int .u32 (wAt tag 5)) ∧ w'.cell? ⟨w.heap.size + 1 + 1 + 1, 6, none⟩ = some (.int .u32 (wAt tag 6)) ∧ w'.cell? ⟨w.heap.size + 1 + 1 + 1, 7, none⟩ = some (.int .u32 (wAt tag 7))) := fun w' h => ⟨h, (aK.below h).cell 0 (by omega), (aK.below h).cell 1 (by omega), (aK.below h).cell 2 (by omega), (aK.below h).cell 3 (by omega), (aK.below h).cell 4 (by omega), (aK.below h).cell 5 (by omega), (aK.below h).cell 6 (by omega), (aK.below h).cell 7 (by omega), (aM.below h).cell 0 (by omega), (aM.below h).cell 1 (by omega), (aM.below h).cell 2 (by omega), (aM.below h).cell 3 (by omega), (aM.below h).cell 4 (by omega), (aM.below h).cell 5 (by omega), (aM.below h).cell 6 (by omega), (aM.below h).cell 7 (by omega), (aD.below h).cell 0 (by omega), (aD.below h).cell 1 (by omega), (aD.below h).cell 2 (by omega), (aD.below h).cell 3 (by omega), (aD.below h).cell 4 (by omega), (aD.below h).cell 5 (by omega), (aD.below h).cell 6 (by omega), (aD.below h).cell 7 (by omega), (aT.below h).cell 0 (by omega), (aT.below h).cell 1 (by omega), (aT.below h).cell 2 (by omega), (aT.below h).cell 3 (by omega), (aT.below h).cell 4 (by omega), (aT.below h).cell 5 (by omega), (aT.below h).cell 6 (by omega), (aT.below h).cell 7 (by omega)⟩
  replace hS := Lib.hid hS
  have vk := Lib.hid (vw_lit8 key hk); have vm := Lib.hid (vw_lit8 me hm); have vd := Lib.hid (vw_lit8 da hd); have vt := Lib.hid (vw_lit8 tag ht)
  have lA := Lib.hid (attF_len KL key me da)
  replace hK1 := Lib.hid hK1; replace aT := Lib.hid aT; replace hb1 := Lib.hid hb1
  clear aK aM aD hK
  go_enter Tryd.func11, Tryd.ntmps11
  go_upto_region 1 with fail
  go_cut [9, 10] from 11 to 19 (fun r _ wx => r = .bool (decide (attF KL key me da = tag)) ∧ Below w.heap.size w wx)
  case first =>
    go_region_held3 (fun w' => Below w1.heap.size w1 w' ∧ w'.cell? ⟨w.heap.size, 0, none⟩ = some (.int .u32 (wAt key 0)) ∧ w'.cell? ⟨w.heap.size, 1, none⟩ = some (.int .u32 (wAt key 1)) ∧ w'.cell? ⟨w.heap.size, 2, none⟩ = some (.int .u32 (wAt key 2)) ∧ w'.cell? ⟨w.heap.size, 3, none⟩ = some (.int .u32 (wAt key 3)) ∧ w'.cell? ⟨w.heap.size, 4, none⟩ = some (.int .u32 (wAt key 4)) ∧ w'.cell? ⟨w.heap.size, 5, none⟩ = some (.int .u32 (wAt key 5)) ∧ w'.cell? ⟨w.heap.size, 6, none⟩ = some (.int .u32 (wAt key 6)) ∧ w'.cell? ⟨w.heap.size, 7, none⟩ = some (.int .u32 (wAt key 7)) ∧ w'.cell? ⟨w.heap.size + 1, 0, none⟩ = some (.int .u32 (wAt me 0)) ∧ w'.cell? ⟨w.heap.size + 1, 1, none⟩ = some (.int .u32 (wAt me 1)) ∧ w'.cell? ⟨w.heap.size + 1, 2, none⟩ = some (.int .u32 (wAt me 2)) ∧ w'.cell? ⟨w.heap.size + 1, 3, none⟩ = some (.int .u32 (wAt me 3)) ∧ w'.cell? ⟨w.heap.size + 1, 4, none⟩ = some (.int .u32 (wAt me 4)) ∧ w'.cell? ⟨w.heap.size + 1, 5, none⟩ = some (.int .u32 (wAt me 5)) ∧ w'.cell? ⟨w.heap.size + 1, 6, none⟩ = some (.int .u32 (wAt me 6)) ∧ w'.cell? ⟨w.heap.size + 1, 7, none⟩ = some (.int .u32 (wAt me 7)) ∧ w'.cell? ⟨w.heap.size + 1 + 1, 0, none⟩ = some (.int .u32 (wAt da 0)) ∧ w'.cell? ⟨w.heap.size + 1 + 1, 1, none⟩ = some (.int .u32 (wAt da 1)) ∧ w'.cell? ⟨w.heap.size + 1 + 1, 2, none⟩ = some (.int .u32 (wAt da 2)) ∧ w'.cell? ⟨w.heap.size + 1 + 1, 3, none⟩ = some (.int .u32 (wAt da 3)) ∧ w'.cell? ⟨w.heap.size + 1 + 1, 4, none⟩ = some (.int .u32 (wAt da 4)) ∧ w'.cell? ⟨w.heap.size + 1 + 1, 5, none⟩ = some (.int .u32 (wAt da 5)) ∧ w'.cell? ⟨w.heap.size + 1 + 1, 6, none⟩ = some (.int .u32 (wAt da 6)) ∧ w'.cell? ⟨w.heap.size + 1 + 1, 7, none⟩ = some (.int .u32 (wAt da 7)) ∧ w'.cell? ⟨w.heap.size + 1 + 1 + 1, 0, none⟩ = some (.int .u32 (wAt tag 0)) ∧ w'.cell? ⟨w.heap.size + 1 + 1 + 1, 1, none⟩ = some (.int .u32 (wAt tag 1)) ∧ w'.cell? ⟨w.heap.size + 1 + 1 + 1, 2, none⟩ = some (.int .u32 (wAt tag 2)) ∧ w'.cell? ⟨w.heap.size + 1 + 1 + 1, 3, none⟩ = some (.int .u32 (wAt tag 3)) ∧ w'.cell? ⟨w.heap.size + 1 + 1 + 1, 4, none⟩ = some (.int .u32 (wAt tag 4)) ∧ w'.cell? ⟨w.heap.size + 1 + 1 + 1, 5, none⟩ = some (.int .u32 (wAt tag 5)) ∧ w'.cell? ⟨w.heap.size + 1 + 1 + 1, 6, none⟩ = some (.int .u32 (wAt tag 6)) ∧ w'.cell? ⟨w.heap.size + 1 + 1 + 1, 7, none⟩ = some (.int .u32 (wAt tag 7)))
      (first
        | exact hS.out _ (Below.refl _ _)
        | exact hS.out _ (Below.drew (Below.refl _ _))
        | assumption
        | exact hS.out _ (Below.drew (And.left (by assumption)))
        | exact hS.out _ (bX.trans (b2.mono bX.size))
        | exact hS.out _ (bY.trans (b3.mono bY.size)))
      (first
        | (go_at_call 10; rw [← vk.out, ← vm.out, ← vd.out]; obtain ⟨bX, _⟩ := (by assumption : Below w1.heap.size w1 _ ∧ _); refine (atag_any KL key me da _ (Rounds.below (w := w1) hK1.out bX) hk hm hd).mono ?_; rintro e w2 ⟨rfl, b2⟩)
        | (go_at_call 33; rw [← vt.out]; obtain ⟨bY, _⟩ := (by assumption : Below w1.heap.size w1 _ ∧ _); refine (msame_any (attF KL key me da) tag _ lA.out ht).mono ?_; rintro e w3 ⟨rfl, b3⟩))
    all_goals
      go_wp2_with fail
      go_meet
      case rel => exact ⟨rfl, (hb1.out.trans (bY.mono hb1.out.size)).trans (b3.mono (Nat.le_trans hb1.out.size bY.size))⟩
  case rest =>
    obtain ⟨rfl, hb⟩ := hcut
    go_wp2_with fail
    go_ret
    exact ⟨rfl, hb⟩
end Go.Proofs.YtemanjahkohcpaaDoor
