/- The contracts of wardenref16's Key, Tag, Verify. -/
import Derived.Test.YtemanjahkohcpaaGreatDoorJn40
import Derived.Test.YtemanjahkohcpaaGreatDoorJn09
namespace Go.Proofs.YtemanjahkohcpaaGreatDoor
open Go.RowKit WP
set_option maxRecDepth 100000 in
set_option maxHeartbeats 2000000 in
theorem rkey_any (KL seed : List UInt32) (w : World) (hK : RoundsR w KL) (hs : seed.length = 8) :
    Calls Tryz.prog 39 #[.agg (vw seed).toArray] w fun e w' => e = .returned (.agg (vw (keyF KL seed)).toArray) ∧ Below w.heap.size w w' := by
  have h3 := hK.1
  have lO := Lib.hid (keyF_len KL seed)
  replace hK := Lib.hid hK
  go_enter Tryz.func39, Tryz.ntmps39
  go_upto_region 1 with fail
  change Code.wp _ _ _ _ ((w.alloc (.cells (vw seed).toArray 26)).alloc (.cells (vw (List.replicate 8 0)).toArray 26))
  obtain ⟨w1, hw1⟩ : ∃ w1, (w.alloc (.cells (vw seed).toArray 26)).alloc (.cells (vw (List.replicate 8 0)).toArray 26) = w1 := ⟨_, rfl⟩
  have aS : Arr w1 w.heap.size 26 seed := by rw [← hw1]; exact (Arr.new w _ seed).alloc _
  have aR : Arr w1 (w.heap.size + 1) 26 (List.replicate 8 0) := by
    rw [← hw1]
    have := Arr.new (w.alloc (.cells (vw seed).toArray 26)) 26 (List.replicate 8 0)
    simpa using this
  have hb1 : Below w.heap.size w w1 := by rw [← hw1]; exact ((Below.refl _ _).alloc (Nat.le_refl _) _).alloc (by simp) _
  have hz : w1.heap.size = w.heap.size + 1 + 1 := by rw [← hw1]; simp
  have hrs : Rd w1 (.slice (some ⟨w.heap.size, 0, none⟩) 8 8) (vw seed) := by
    have := aS.rd 8 (by omega) (by simp [maxLen])
    rwa [hs] at this
  have hK1 := hK.out.below hb1
  rw [hw1]
  clear hw1 hK
  have ba : Below w1.heap.size w1 (w1.alloc (.cells #[.int .u32 2002874980, .int .u32 1701716075, .int .u32 1702436913] 25)) := (Below.refl _ _).alloc (Nat.le_refl _) _
  have hrm : Rd (w1.alloc (.cells #[.int .u32 2002874980, .int .u32 1701716075, .int .u32 1702436913] 25)) (.slice (some ⟨w1.heap.size, 0, none⟩) 3 3) (vw keyMsg) := by
    rw [keyMsg_vals]; exact Rd.new w1 [.int .u32 2002874980, .int .u32 1701716075, .int .u32 1702436913] 25 (0, 0) (by simp [maxLen])
  have hK2 := hK1.below ba
  have hrs2 := hrs.mono ba
  have aR2 := aR.below ba
  have hb2 := hb1.trans (ba.mono hb1.size)
  have hsz : (w1.alloc (.cells #[.int .u32 2002874980, .int .u32 1701716075, .int .u32 1702436913] 25)).heap.size = w1.heap.size + 1 := by simp
  clear ba aS aR hb1 hrs hK1
  replace hz := Lib.hid hz; replace hrm := Lib.hid hrm; replace hK2 := Lib.hid hK2; replace hrs2 := Lib.hid hrs2; replace aR2 := Lib.hid aR2; replace hb2 := Lib.hid hb2; replace hsz := Lib.hid hsz
  go_wp2_with fail
  refine (rtag_any KL _ _ seed keyMsg _ hK2.out hrs2.out hrm.out (by omega) (by decide)).mono ?_
  rintro e w4 ⟨rfl, b4⟩
  have aR4 := Lib.hid (aR2.out.below b4)
  have hb4 := Lib.hid (hb2.out.trans (b4.mono hb2.out.size))
  have hT : tagF KL (bytesL seed) keyMsg = keyF KL seed := rfl
  rw [hT]
  clear b4 aR2 hb2 hrm hK2 hrs2 hT
  go_wp2_with (refine wpList_store_arr rfl 26 _ _ rfl (w.heap.size + 1) rfl (keyF KL seed) rfl aR4.out info23 (by simp) lO.out ?_; intro w7 a7 g7; have hb7 := hb4.out.grown g7 hb4.out.size (by simp))
  refine bodyPost_ret (results_arr rfl rfl a7 Tryz.underlying26 info23 lO.out) rfl ⟨rfl, hb7⟩
set_option maxRecDepth 100000 in
set_option maxHeartbeats 1000000 in
theorem ratag_any (KL key me da : List UInt32) (w : World) (hK : RoundsR w KL) (hk : key.length = 8) (hm : me.length = 8) (hd : da.length = 8) :
    Calls Tryz.prog 60 #[.agg (vw key).toArray, .agg (vw me).toArray, .agg (vw da).toArray] w fun e w' => e = .returned (.agg (vw (attF KL key me da)).toArray) ∧ Below w.heap.size w w' := by
  obtain ⟨i0, hi, hz0, hz1, hz2⟩ := info_parts info22
  have h3 := hK.1
  have lO := Lib.hid (attF_len KL key me da)
  have lm := Lib.hid (length_vw me)
  have ld := Lib.hid (length_vw da)
  replace hK := Lib.hid hK
  go_enter Tryz.func60, Tryz.ntmps60
  go_upto_region 1 with fail
  change Code.wp _ _ _ _ ((((w.alloc (.cells (vw key).toArray 26)).alloc (.cells (vw me).toArray 26)).alloc (.cells (vw da).toArray 26)).alloc (.cells (vw (List.replicate 8 0)).toArray 26))
  obtain ⟨w1, hw1⟩ : ∃ w1, (((w.alloc (.cells (vw key).toArray 26)).alloc (.cells (vw me).toArray 26)).alloc (.cells (vw da).toArray 26)).alloc (.cells (vw (List.replicate 8 0)).toArray 26) = w1 := ⟨_, rfl⟩
  have aK : Arr w1 w.heap.size 26 key := by rw [← hw1]; exact (((Arr.new w _ key).alloc _).alloc _).alloc _
  have aM : Arr w1 (w.heap.size + 1) 26 me := by
    rw [← hw1]
    have := ((Arr.new (w.alloc (.cells (vw key).toArray 26)) 26 me).alloc (.cells (vw da).toArray 26)).alloc (.cells (vw (List.replicate 8 0)).toArray 26)
    simpa using this
  have aD : Arr w1 (w.heap.size + 1 + 1) 26 da := by
    rw [← hw1]
    have := (Arr.new ((w.alloc (.cells (vw key).toArray 26)).alloc (.cells (vw me).toArray 26)) 26 da).alloc (.cells (vw (List.replicate 8 0)).toArray 26)
    simpa using this
  have aR : Arr w1 (w.heap.size + 1 + 1 + 1) 26 (List.replicate 8 0) := by
    rw [← hw1]
    have := Arr.new (((w.alloc (.cells (vw key).toArray 26)).alloc (.cells (vw me).toArray 26)).alloc (.cells (vw da).toArray 26)) 26 (List.replicate 8 0)
    simpa using this
  have hb1 : Below w.heap.size w w1 := by rw [← hw1]; exact ((((Below.refl _ _).alloc (Nat.le_refl _) _).alloc (by simp) _).alloc (by simp; omega) _).alloc (by simp; omega) _
  have hz : w1.heap.size = w.heap.size + 1 + 1 + 1 + 1 := by rw [← hw1]; simp
  have rK : Rd w1 (.slice (some ⟨w.heap.size, 0, none⟩) 8 8) (vw key) := by
    have := aK.rd 8 (by omega) (by simp [maxLen])
    rwa [hk] at this
  have rM : Rd w1 (.slice (some ⟨w.heap.size + 1, 0, none⟩) 8 8) (vw me) := by
    have := aM.rd 8 (by omega) (by simp [maxLen])
    rwa [hm] at this
  have rD : Rd w1 (.slice (some ⟨w.heap.size + 1 + 1, 0, none⟩) 8 8) (vw da) := by
    have := aD.rd 8 (by omega) (by simp [maxLen])
    rwa [hd] at this
  have hK1 := hK.out.below hb1
  have hT : tagF KL (bytesL key) (me ++ da) = attF KL key me da := rfl
  rw [hw1]
  clear hw1 hK aK aM aD
  replace hb1 := Lib.hid hb1; replace aR := Lib.hid aR; replace rK := Lib.hid rK; replace rM := Lib.hid rM; replace rD := Lib.hid rD; replace hK1 := Lib.hid hK1; replace hT := Lib.hid hT; replace hz := Lib.hid hz
  go_wp2_with (first
    | (at_builtin; refine wpList_append_rd _ rfl _ _ 111 rfl w1.heap.size 25 i0 (.int .u32 0) 4 Tryz.underlying111 hi hz0 hz1 hz2 rfl _ _ _ rfl (World.ownsRow_nil _ _ _ _) _ (vw me) rfl rM.out (vw_oneCell me) (by rw [lm.out]; simp only [maxLen]; omega) (by rw [lm.out]; omega) (Nat.le_refl _) ?_; intro v2 w2 o2 O2; have b12 := O2.below (Nat.le_refl _) (fun j hj => ((World.ownsRow_nil w1 w1.heap.size 25 1).lt j hj).1); rw [lm.out, hm, List.nil_append, Nat.zero_add] at o2; have rD2 := rD.out.mono b12; have hs2 := b12.size; replace o2 := Lib.hid o2; replace b12 := Lib.hid b12; replace rD2 := Lib.hid rD2; clear O2)
    | (at_builtin; refine wpList_append_rd _ rfl _ _ 111 rfl w1.heap.size 25 i0 (.int .u32 0) 4 Tryz.underlying111 hi hz0 hz1 hz2 rfl _ _ _ rfl o2.out _ (vw da) rfl rD2.out (vw_oneCell da) (by rw [ld.out]; simp only [maxLen]; omega) (by rw [ld.out]; omega) hs2 ?_; intro v3 w3 o3 O3; have b13 := b12.out.trans (O3.below hs2 (fun j hj => (o2.out.lt j hj).1)); rw [← vw_append] at o3; have rK3 := rK.out.mono b13; have hK3 := hK1.out.below b13; have aR3 := aR.out.below b13; have hb3 := hb1.out.trans (b13.mono hb1.out.size); replace o3 := Lib.hid o3; replace rK3 := Lib.hid rK3; replace hK3 := Lib.hid hK3; replace aR3 := Lib.hid aR3; replace hb3 := Lib.hid hb3; clear O3 b13))
  refine (rtag_any KL _ _ key (me ++ da) _ hK3.out rK3.out (Rd.of_own o3.out) (by omega) (by rw [List.length_append]; omega)).mono ?_
  rintro e w4 ⟨rfl, b4⟩
  rw [hT.out]
  have aR4 := Lib.hid (aR3.out.below b4)
  have hb4 := Lib.hid (hb3.out.trans (b4.mono hb3.out.size))
  clear b4
  go_wp2_with (refine wpList_store_arr rfl 26 _ _ rfl (w.heap.size + 1 + 1 + 1) rfl (attF KL key me da) rfl aR4.out info23 (by simp) lO.out ?_; intro wa aa ga; have hba := hb4.out.grown ga hb4.out.size (by simp; omega))
  refine bodyPost_ret (results_arr rfl rfl aa Tryz.underlying26 info23 lO.out) rfl ⟨rfl, hba⟩
set_option maxRecDepth 100000 in
set_option maxHeartbeats 1000000 in
theorem rverify_any (KL key me da tag : List UInt32) (w : World) (hK : RoundsR w KL) (hk : key.length = 8) (hm : me.length = 8) (hd : da.length = 8) (ht : tag.length = 8) :
    Calls Tryz.prog 63 #[.agg (vw key).toArray, .agg (vw me).toArray, .agg (vw da).toArray, .agg (vw tag).toArray] w fun e w' => e = .returned (.bool (decide (attF KL key me da = tag))) ∧ Below w.heap.size w w' := by
  obtain ⟨w1, hw1⟩ : ∃ w1, (((w.alloc (.cells (vw key).toArray 26)).alloc (.cells (vw me).toArray 26)).alloc (.cells (vw da).toArray 26)).alloc (.cells (vw tag).toArray 26) = w1 := ⟨_, rfl⟩
  have aK : Arr w1 w.heap.size 26 key := by rw [← hw1]; exact (((Arr.new w _ key).alloc _).alloc _).alloc _
  have aM : Arr w1 (w.heap.size + 1) 26 me := by
    rw [← hw1]
    have := ((Arr.new (w.alloc (.cells (vw key).toArray 26)) 26 me).alloc (.cells (vw da).toArray 26)).alloc (.cells (vw tag).toArray 26)
    simpa using this
  have aD : Arr w1 (w.heap.size + 1 + 1) 26 da := by
    rw [← hw1]
    have := (Arr.new ((w.alloc (.cells (vw key).toArray 26)).alloc (.cells (vw me).toArray 26)) 26 da).alloc (.cells (vw tag).toArray 26)
    simpa using this
  have aT : Arr w1 (w.heap.size + 1 + 1 + 1) 26 tag := by
    rw [← hw1]
    have := Arr.new (((w.alloc (.cells (vw key).toArray 26)).alloc (.cells (vw me).toArray 26)).alloc (.cells (vw da).toArray 26)) 26 tag
    simpa using this
  have hb1 : Below w.heap.size w w1 := by rw [← hw1]; exact ((((Below.refl _ _).alloc (Nat.le_refl _) _).alloc (by simp) _).alloc (by simp; omega) _).alloc (by simp; omega) _
  have hK1 : RoundsR w1 KL := hK.below hb1
  have hS : ∀ w' : World, Below w1.heap.size w1 w' → (Below w1.heap.size w1 w' ∧ w'.cell? ⟨w.heap.size, 0, none⟩ = some (.int .u32 (wAt key 0)) ∧ w'.cell? ⟨w.heap.size, 1, none⟩ = some (.int .u32 (wAt key 1)) ∧ w'.cell? ⟨w.heap.size, 2, none⟩ = some (.int .u32 (wAt key 2)) ∧ w'.cell? ⟨w.heap.size, 3, none⟩ = some (.int .u32 (wAt key 3)) ∧ w'.cell? ⟨w.heap.size, 4, none⟩ = some (.int .u32 (wAt key 4)) ∧ w'.cell? ⟨w.heap.size, 5, none⟩ = some (.int .u32 (wAt key 5)) ∧ w'.cell? ⟨w.heap.size, 6, none⟩ = some (.int .u32 (wAt key 6)) ∧ w'.cell? ⟨w.heap.size, 7, none⟩ = some (.int .u32 (wAt key 7)) ∧ w'.cell? ⟨w.heap.size + 1, 0, none⟩ = some (.int .u32 (wAt me 0)) ∧ w'.cell? ⟨w.heap.size + 1, 1, none⟩ = some (.int .u32 (wAt me 1)) ∧ w'.cell? ⟨w.heap.size + 1, 2, none⟩ = some (.int .u32 (wAt me 2)) ∧ w'.cell? ⟨w.heap.size + 1, 3, none⟩ = some (.int .u32 (wAt me 3)) ∧ w'.cell? ⟨w.heap.size + 1, 4, none⟩ = some (.int .u32 (wAt me 4)) ∧ w'.cell? ⟨w.heap.size + 1, 5, none⟩ = some (.int .u32 (wAt me 5)) ∧ w'.cell? ⟨w.heap.size + 1, 6, none⟩ = some (.int .u32 (wAt me 6)) ∧ w'.cell? ⟨w.heap.size + 1, 7, none⟩ = some (.int .u32 (wAt me 7)) ∧ w'.cell? ⟨w.heap.size + 1 + 1, 0, none⟩ = some (.int .u32 (wAt da 0)) ∧ w'.cell? ⟨w.heap.size + 1 + 1, 1, none⟩ = some (.int .u32 (wAt da 1)) ∧ w'.cell? ⟨w.heap.size + 1 + 1, 2, none⟩ = some (.int .u32 (wAt da 2)) ∧ w'.cell? ⟨w.heap.size + 1 + 1, 3, none⟩ = some (.int .u32 (wAt da 3)) ∧ w'.cell? ⟨w.heap.size + 1 + 1, 4, none⟩ = some (.int .u32 (wAt da 4)) ∧ w'.cell? ⟨w.heap.size + 1 + 1, 5, none⟩ = some (.int .u32 (wAt da 5)) ∧ w'.cell? ⟨w.heap.size + 1 + 1, 6, none⟩ = some (.int .u32 (wAt da 6)) ∧ w'.cell? ⟨w.heap.size + 1 + 1, 7, none⟩ = some (.int .u32 (wAt da 7)) ∧ w'.cell? ⟨w.heap.size + 1 + 1 + 1, 0, none⟩ = some (.int .u32 (wAt tag 0)) ∧ w'.cell? ⟨w.heap.size + 1 + 1 + 1, 1, none⟩ = some (.int .u32 (wAt tag 1)) ∧ w'.cell? ⟨w.heap.size + 1 + 1 + 1, 2, none⟩ = some (.int .u32 (wAt tag 2)) ∧ w'.cell? ⟨w.heap.size + 1 + 1 + 1, 3, none⟩ = some (.int .u32 (wAt tag 3)) ∧ w'.cell? ⟨w.heap.size + 1 + 1 + 1, 4, none⟩ = some (.int .u32 (wAt tag 4)) ∧ w'.cell? ⟨w.heap.size + 1 + 1 + 1, 5, none⟩ = some (.int .u32 (wAt tag 5)) ∧ w'.cell? ⟨w.heap.size + 1 + 1 + 1, 6, none⟩ = some (.int .u32 (wAt tag 6)) ∧ w'.cell? ⟨w.heap.size + 1 + 1 + 1, 7, none⟩ = some (.int .u32 (wAt tag 7))) := fun w' h => ⟨h, (aK.below h).cell 0 (by omega), (aK.below h).cell 1 (by omega), (aK.below h).cell 2 (by omega), (aK.below h).cell 3 (by omega), (aK.below h).cell 4 (by omega), (aK.below h).cell 5 (by omega), (aK.below h).cell 6 (by omega), (aK.below h).cell 7 (by omega), (aM.below h).cell 0 (by omega), (aM.below h).cell 1 (by omega), (aM.below h).cell 2 (by omega), (aM.below h).cell 3 (by omega), (aM.below h).cell 4 (by omega), (aM.below h).cell 5 (by omega), (aM.below h).cell 6 (by omega), (aM.below h).cell 7 (by omega), (aD.below h).cell 0 (by omega), (aD.below h).cell 1 (by omega), (aD.below h).cell 2 (by omega), (aD.below h).cell 3 (by omega), (aD.below h).cell 4 (by omega), (aD.below h).cell 5 (by omega), (aD.below h).cell 6 (by omega), (aD.below h).cell 7 (by omega), (aT.below h).cell 0 (by omega), (aT.below h).cell 1 (by omega), (aT.below h).cell 2 (by omega), (aT.below h).cell 3 (by omega), (aT.below h).cell 4 (by omega), (aT.below h).cell 5 (by omega), (aT.below h).cell 6 (by omega), (aT.below h).cell 7 (by omega)⟩
  have lA := attF_len KL key me da
  have vk := vw_lit8 key hk; have vm := vw_lit8 me hm; have vd := vw_lit8 da hd
  obtain ⟨B, hB⟩ : ∃ B, decide (attF KL key me da = tag) = B := ⟨_, rfl⟩
  have hE : ∀ w' : World, (Op.equalIn 10000 26 (.agg (vw (attF KL key me da)).toArray) (.agg #[Value.int IntKind.u32 (wAt tag 0), Value.int IntKind.u32 (wAt tag 1), Value.int IntKind.u32 (wAt tag 2), Value.int IntKind.u32 (wAt tag 3), Value.int IntKind.u32 (wAt tag 4), Value.int IntKind.u32 (wAt tag 5), Value.int IntKind.u32 (wAt tag 6), Value.int IntKind.u32 (wAt tag 7)])).run Tryz.prog w' = .ok B w' := fun w' => by
    have := eq_words (attF KL key me da) tag w' lA ht
    rw [vw_lit8 tag ht] at this
    rw [this, hB]
  rw [hB]
  replace hK1 := Lib.hid hK1; replace hS := Lib.hid hS; replace hb1 := Lib.hid hb1; replace vk := Lib.hid vk; replace vm := Lib.hid vm; replace vd := Lib.hid vd
  clear hK aK aM aD aT lA hB
  go_enter Tryz.func63, Tryz.ntmps63
  go_upto_region 1 with fail
  clear hw1
  go_region_held3 (fun w' => Below w1.heap.size w1 w' ∧ w'.cell? ⟨w.heap.size, 0, none⟩ = some (.int .u32 (wAt key 0)) ∧ w'.cell? ⟨w.heap.size, 1, none⟩ = some (.int .u32 (wAt key 1)) ∧ w'.cell? ⟨w.heap.size, 2, none⟩ = some (.int .u32 (wAt key 2)) ∧ w'.cell? ⟨w.heap.size, 3, none⟩ = some (.int .u32 (wAt key 3)) ∧ w'.cell? ⟨w.heap.size, 4, none⟩ = some (.int .u32 (wAt key 4)) ∧ w'.cell? ⟨w.heap.size, 5, none⟩ = some (.int .u32 (wAt key 5)) ∧ w'.cell? ⟨w.heap.size, 6, none⟩ = some (.int .u32 (wAt key 6)) ∧ w'.cell? ⟨w.heap.size, 7, none⟩ = some (.int .u32 (wAt key 7)) ∧ w'.cell? ⟨w.heap.size + 1, 0, none⟩ = some (.int .u32 (wAt me 0)) ∧ w'.cell? ⟨w.heap.size + 1, 1, none⟩ = some (.int .u32 (wAt me 1)) ∧ w'.cell? ⟨w.heap.size + 1, 2, none⟩ = some (.int .u32 (wAt me 2)) ∧ w'.cell? ⟨w.heap.size + 1, 3, none⟩ = some (.int .u32 (wAt me 3)) ∧ w'.cell? ⟨w.heap.size + 1, 4, none⟩ = some (.int .u32 (wAt me 4)) ∧ w'.cell? ⟨w.heap.size + 1, 5, none⟩ = some (.int .u32 (wAt me 5)) ∧ w'.cell? ⟨w.heap.size + 1, 6, none⟩ = some (.int .u32 (wAt me 6)) ∧ w'.cell? ⟨w.heap.size + 1, 7, none⟩ = some (.int .u32 (wAt me 7)) ∧ w'.cell? ⟨w.heap.size + 1 + 1, 0, none⟩ = some (.int .u32 (wAt da 0)) ∧ w'.cell? ⟨w.heap.size + 1 + 1, 1, none⟩ = some (.int .u32 (wAt da 1)) ∧ w'.cell? ⟨w.heap.size + 1 + 1, 2, none⟩ = some (.int .u32 (wAt da 2)) ∧ w'.cell? ⟨w.heap.size + 1 + 1, 3, none⟩ = some (.int .u32 (wAt da 3)) ∧ w'.cell? ⟨w.heap.size + 1 + 1, 4, none⟩ = some (.int .u32 (wAt da 4)) ∧ w'.cell? ⟨w.heap.size + 1 + 1, 5, none⟩ = some (.int .u32 (wAt da 5)) ∧ w'.cell? ⟨w.heap.size + 1 + 1, 6, none⟩ = some (.int .u32 (wAt da 6)) ∧ w'.cell? ⟨w.heap.size + 1 + 1, 7, none⟩ = some (.int .u32 (wAt da 7)) ∧ w'.cell? ⟨w.heap.size + 1 + 1 + 1, 0, none⟩ = some (.int .u32 (wAt tag 0)) ∧ w'.cell? ⟨w.heap.size + 1 + 1 + 1, 1, none⟩ = some (.int .u32 (wAt tag 1)) ∧ w'.cell? ⟨w.heap.size + 1 + 1 + 1, 2, none⟩ = some (.int .u32 (wAt tag 2)) ∧ w'.cell? ⟨w.heap.size + 1 + 1 + 1, 3, none⟩ = some (.int .u32 (wAt tag 3)) ∧ w'.cell? ⟨w.heap.size + 1 + 1 + 1, 4, none⟩ = some (.int .u32 (wAt tag 4)) ∧ w'.cell? ⟨w.heap.size + 1 + 1 + 1, 5, none⟩ = some (.int .u32 (wAt tag 5)) ∧ w'.cell? ⟨w.heap.size + 1 + 1 + 1, 6, none⟩ = some (.int .u32 (wAt tag 6)) ∧ w'.cell? ⟨w.heap.size + 1 + 1 + 1, 7, none⟩ = some (.int .u32 (wAt tag 7)))
    (first
      | exact hS.out _ (Below.refl _ _)
      | exact hS.out _ (Below.drew (Below.refl _ _))
      | assumption
      | exact hS.out _ (Below.drew (And.left (by assumption)))
      | exact hS.out _ (bX.trans (b2.mono bX.size)))
    (first
      | (go_at_call 60; rw [← vk.out, ← vm.out, ← vd.out]; obtain ⟨bX, _⟩ := (by assumption : Below w1.heap.size w1 _ ∧ _); refine (ratag_any KL key me da _ (hK1.out.below bX) hk hm hd).mono ?_; rintro e w2 ⟨rfl, b2⟩))
  all_goals
    have hbf := Lib.hid (hb1.out.trans ((bX.trans (b2.mono bX.size)).mono hb1.out.size))
    go_wp2_with fail
    go_ret
    exact ⟨rfl, hbf.out⟩
end Go.Proofs.YtemanjahkohcpaaGreatDoor
