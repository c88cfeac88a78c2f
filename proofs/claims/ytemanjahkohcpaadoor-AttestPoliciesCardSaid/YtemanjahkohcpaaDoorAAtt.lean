/- The contracts of attest's Key and Tag. -/
import Derived.Test.YtemanjahkohcpaaDoorAMacT
namespace Go.Proofs.YtemanjahkohcpaaDoor
open Go.RowKit WP
theorem results_rng {P : Program} {fn : Func} {t : Tmp} {ty e : TypeId} {n : Nat} (h : fn.results = #[.cell t ty]) {tmps : Array Value} {w : World} {g : Nat} {l : List UInt32} (hp : tmps.getD t undef = .pointer (some ⟨g, 0, none⟩))
    (hc : w.rangeAt g 0 (vw l)) (hu : P.underlying ty = some (.array n e)) (hi : (P.info? ty).map (·.size) = some n) (hl : l.length = n) : (results fn tmps).run P w = .ok (.agg (vw l).toArray) w := by
  have hv := run_loadVar_mid (P := P) w g 0 ty (vw l) _ hc hu rfl (by rw [hi]; simp [hl])
  have hp' : tmps[t]?.getD undef = .pointer (some ⟨g, 0, none⟩) := by simpa [Array.getD_eq_getD_getElem?] using hp
  simp [results, h, hp', hv, asAddr]
def keyMsg : List UInt32 := [2002874980, 1701716075, 1702436913]
/-- the boot key of a seed -/
def keyF (KL seed : List UInt32) : List UInt32 := tagF KL (bytesL seed) keyMsg
theorem keyF_len (KL seed : List UInt32) : (keyF KL seed).length = 8 := tagF_len _ _ _
theorem keyMsg_vals : vw keyMsg = [.int .u32 2002874980, .int .u32 1701716075, .int .u32 1702436913] := by rfl
set_option maxRecDepth 100000 in
set_option maxHeartbeats 2000000 in
theorem key_any (KL seed : List UInt32) (w : World) (hK : Rounds w KL) (hs : seed.length = 8) :
    Calls Tryd.prog 8 #[.agg (vw seed).toArray] w fun e w' => e = .returned (.agg (vw (keyF KL seed)).toArray) ∧ Below w.heap.size w w' := by
  have h3 := hK.1
  have lO := Lib.hid (keyF_len KL seed)
  replace hK := Lib.hid hK
  go_enter Tryd.func8, Tryd.ntmps8
  go_upto_region 1 with fail
  change Code.wp _ _ _ _ ((w.alloc (.cells (vw seed).toArray 23)).alloc (.cells (vw (List.replicate 8 0)).toArray 23))
  obtain ⟨w1, hw1⟩ : ∃ w1, (w.alloc (.cells (vw seed).toArray 23)).alloc (.cells (vw (List.replicate 8 0)).toArray 23) = w1 := ⟨_, rfl⟩
  have aS : Arr w1 w.heap.size 23 seed := by rw [← hw1]; exact (Arr.new w _ seed).alloc _
  have aR : Arr w1 (w.heap.size + 1) 23 (List.replicate 8 0) := by
    rw [← hw1]
    have := Arr.new (w.alloc (.cells (vw seed).toArray 23)) 23 (List.replicate 8 0)
    simpa using this
  have hb1 : Below w.heap.size w w1 := by rw [← hw1]; exact ((Below.refl _ _).alloc (Nat.le_refl _) _).alloc (by simp) _
  have hz : w1.heap.size = w.heap.size + 1 + 1 := by rw [← hw1]; simp
  have hrs : Rd w1 (.slice (some ⟨w.heap.size, 0, none⟩) 8 8) (vw seed) := by
    have := aS.rd 8 (by omega) (by simp [maxLen])
    rwa [hs] at this
  have hK1 := hK.out.below hb1
  rw [hw1]
  clear hw1 hK
  have ba : Below w1.heap.size w1 (w1.alloc (.cells #[.int .u32 2002874980, .int .u32 1701716075, .int .u32 1702436913] 22)) := (Below.refl _ _).alloc (Nat.le_refl _) _
  have hrm : Rd (w1.alloc (.cells #[.int .u32 2002874980, .int .u32 1701716075, .int .u32 1702436913] 22)) (.slice (some ⟨w1.heap.size, 0, none⟩) 3 3) (vw keyMsg) := by
    rw [keyMsg_vals]; exact Rd.new w1 [.int .u32 2002874980, .int .u32 1701716075, .int .u32 1702436913] 22 (0, 0) (by simp [maxLen])
  have hK2 := hK1.below ba
  have hrs2 := hrs.mono ba
  have aR2 := aR.below ba
  have hb2 := hb1.trans (ba.mono hb1.size)
  have hsz : (w1.alloc (.cells #[.int .u32 2002874980, .int .u32 1701716075, .int .u32 1702436913] 22)).heap.size = w1.heap.size + 1 := by simp
  clear ba aS aR hb1 hrs hK1
  replace hz := Lib.hid hz; replace hrm := Lib.hid hrm; replace hK2 := Lib.hid hK2; replace hrs2 := Lib.hid hrs2; replace aR2 := Lib.hid aR2; replace hb2 := Lib.hid hb2; replace hsz := Lib.hid hsz
  go_wp2_with fail
  refine (mtag_any KL _ _ seed keyMsg _ hK2.out hrs2.out hrm.out (by intro j hj; simp [Value.ownBlock] at hj; have := hsz.out; omega) (by omega) (by decide)).mono ?_
  rintro e w4 ⟨rfl, b4⟩
  have aR4 := Lib.hid (aR2.out.below b4)
  have hb4 := Lib.hid (hb2.out.trans (b4.mono hb2.out.size))
  have hT : tagF KL (bytesL seed) keyMsg = keyF KL seed := rfl
  rw [hT]
  clear b4 aR2 hb2 hrm hK2 hrs2 hT
  go_wp2_with (refine wpList_store_arr rfl 23 _ _ rfl (w.heap.size + 1) rfl (keyF KL seed) rfl aR4.out info23 (by simp) lO.out ?_; intro w7 a7 g7; have hb7 := hb4.out.grown g7 hb4.out.size (by simp))
  refine bodyPost_ret (results_arr rfl rfl a7 Tryd.underlying23 info23 lO.out) rfl ⟨rfl, hb7⟩
/-- the tag of a measurement and data -/
def attF (KL key me da : List UInt32) : List UInt32 := tagF KL (bytesL key) (me ++ da)
theorem attF_len (KL key me da : List UInt32) : (attF KL key me da).length = 8 := tagF_len _ _ _
set_option maxRecDepth 100000 in
set_option maxHeartbeats 2000000 in
theorem atag_any (KL key me da : List UInt32) (w : World) (hK : Rounds w KL) (hk : key.length = 8) (hm : me.length = 8) (hd : da.length = 8) :
    Calls Tryd.prog 10 #[.agg (vw key).toArray, .agg (vw me).toArray, .agg (vw da).toArray] w fun e w' => e = .returned (.agg (vw (attF KL key me da)).toArray) ∧ Below w.heap.size w w' := by
  obtain ⟨i0, hi, hz0, hz1, hz2⟩ := info_parts info22
  have h3 := hK.1
  have lO := Lib.hid (attF_len KL key me da)
  have lm := Lib.hid (length_vw me)
  have ld := Lib.hid (length_vw da)
  replace hK := Lib.hid hK
  go_enter Tryd.func10, Tryd.ntmps10
  go_upto_region 1 with fail
  change Code.wp _ _ _ _ ((((w.alloc (.cells (vw key).toArray 23)).alloc (.cells (vw me).toArray 23)).alloc (.cells (vw da).toArray 23)).alloc (.cells (vw (List.replicate 8 0)).toArray 23))
  obtain ⟨w1, hw1⟩ : ∃ w1, (((w.alloc (.cells (vw key).toArray 23)).alloc (.cells (vw me).toArray 23)).alloc (.cells (vw da).toArray 23)).alloc (.cells (vw (List.replicate 8 0)).toArray 23) = w1 := ⟨_, rfl⟩
  have aK : Arr w1 w.heap.size 23 key := by rw [← hw1]; exact (((Arr.new w _ key).alloc _).alloc _).alloc _
  have aM : Arr w1 (w.heap.size + 1) 23 me := by
    rw [← hw1]
    have := ((Arr.new (w.alloc (.cells (vw key).toArray 23)) 23 me).alloc (.cells (vw da).toArray 23)).alloc (.cells (vw (List.replicate 8 0)).toArray 23)
    simpa using this
  have aD : Arr w1 (w.heap.size + 1 + 1) 23 da := by
    rw [← hw1]
    have := (Arr.new ((w.alloc (.cells (vw key).toArray 23)).alloc (.cells (vw me).toArray 23)) 23 da).alloc (.cells (vw (List.replicate 8 0)).toArray 23)
    simpa using this
  have aR : Arr w1 (w.heap.size + 1 + 1 + 1) 23 (List.replicate 8 0) := by
    rw [← hw1]
    have := Arr.new (((w.alloc (.cells (vw key).toArray 23)).alloc (.cells (vw me).toArray 23)).alloc (.cells (vw da).toArray 23)) 23 (List.replicate 8 0)
    simpa using this
  have hb1 : Below w.heap.size w w1 := by rw [← hw1]; exact ((((Below.refl _ _).alloc (Nat.le_refl _) _).alloc (by simp) _).alloc (by simp; omega) _).alloc (by simp; omega) _
  have hz : w1.heap.size = w.heap.size + 1 + 1 + 1 + 1 := by rw [← hw1]; simp
  have rK : Rd w1.drew (.slice (some ⟨w.heap.size, 0, none⟩) 8 8) (vw key) := by
    have := aK.drew.rd 8 (by omega) (by simp [maxLen])
    rwa [hk] at this
  have rM : Rd w1.drew (.slice (some ⟨w.heap.size + 1, 0, none⟩) 8 8) (vw me) := by
    have := aM.drew.rd 8 (by omega) (by simp [maxLen])
    rwa [hm] at this
  have rD : Rd w1.drew (.slice (some ⟨w.heap.size + 1 + 1, 0, none⟩) 8 8) (vw da) := by
    have := aD.drew.rd 8 (by omega) (by simp [maxLen])
    rwa [hd] at this
  have hK1 : Rounds w1.drew KL := hK.out.below hb1.drew
  have hT : tagF KL (bytesL key) (me ++ da) = attF KL key me da := rfl
  rw [hw1]
  clear hw1 hK aK aM aD
  replace hb1 := Lib.hid hb1; replace aR := Lib.hid aR; replace rK := Lib.hid rK; replace rM := Lib.hid rM; replace rD := Lib.hid rD; replace hK1 := Lib.hid hK1; replace hT := Lib.hid hT; replace hz := Lib.hid hz
  go_region_held3 (fun _ => True) (first | trivial)
    (first
    | (refine step_append_fresh _ (by rfl) _ _ _ (by rfl) 22 i0 (.int .u32 0) 4 Tryd.underlying25 hi hz0 hz1 hz2 rfl _ 8 (vw me) (by rfl) rM.out _ (vw da) (by rfl) rD.out (vw_oneCell da) (by rw [ld.out]; omega) (by rw [ld.out]; simp only [maxLen]; omega) (by rw [ld.out]; omega) ?_; intro lv w3 ho3 b3; rw [← vw_append] at ho3)
    | (go_at_call 9; refine (mtag_any KL _ _ key (me ++ da) _ (hK1.out.below b3) (rK.out.mono b3) (Rd.of_own ho3) (fun j hj => (ho3.lt j hj).2) (by omega) (by rw [List.length_append]; omega)).mono ?_; rintro e w4 ⟨rfl, b4⟩; rw [hT.out]; have aR4 := (aR.out.drew.below b3).below b4; have hb4 := (hb1.out.drew.trans (b3.mono hb1.out.size)).trans (b4.mono (Nat.le_trans hb1.out.size b3.size)); have hsc := storeCells_arr (P := Tryd.prog) (attF KL key me da) (w := w4) (b := w.heap.size + 1 + 1 + 1) (n := 8) (fun j hj => ⟨by rw [Nat.zero_add, aR4.cell j (by simpa using hj)]; rfl, by rw [Nat.zero_add]; exact aR4.frozen j⟩) lO.out; clear b3 ho3 b4))
  all_goals
    have hrg := World.rangeAt_setCells_same w4 (w.heap.size + 1 + 1 + 1) 0 (vw (attF KL key me da)) (fun j hj => ⟨by rw [Nat.zero_add, aR4.cell j (by simp only [length_vw, lO.out] at hj; simpa using hj)]; rfl, by rw [Nat.zero_add]; exact aR4.frozen j⟩)
    have hb5 := hb4.grown (grownBy_setCells w4 (w.heap.size + 1 + 1 + 1) 0 (vw (attF KL key me da))) hb4.size (by simp; omega)
    replace hrg := Lib.hid hrg; replace hb5 := Lib.hid hb5
    go_wp2_with fail
    refine bodyPost_ret (results_rng rfl rfl hrg.out Tryd.underlying23 info23 lO.out) rfl ⟨rfl, hb5.out⟩
end Go.Proofs.YtemanjahkohcpaaDoor
