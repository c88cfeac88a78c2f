/- The contract of the reference's SumBytes, for whole words. The contracts of wardenref03's TagBytes and Tag. -/
import Derived.Test.YtemanjahkohcpaaGreatDoorJn39
import Derived.Test.YtemanjahkohcpaaGreatDoorJn37
import Derived.Test.YtemanjahkohcpaaGreatDoorRWordJn
namespace Go.Proofs.YtemanjahkohcpaaGreatDoor
open Go.RowKit WP
theorem Rd.restB {w : World} {ao : Option Addr} {n cap P : Nat} {b : List UInt8} (h : Rd w (.slice ao n cap) (vb b)) (hP : P ≤ n) (_hc : ¬ cap = P) : Rd w (.slice (Option.map (fun x => x.add P) ao) (n - P) (cap - P)) (vb (b.drop P)) := by
  obtain ⟨ao', c', hv, h1, h2, h3⟩ := h
  simp only [Value.slice.injEq] at hv
  obtain ⟨rfl, rfl, rfl⟩ := hv
  have e : vb (b.drop P) = (vb b).drop P := by simp [vb]
  rw [e]
  refine ⟨_, _, by rw [List.length_drop], by rw [List.length_drop]; omega, by omega, ?_⟩
  rcases h3 with h3 | ⟨bb, off, rfl, hcell⟩
  · left; rw [h3]; simp
  · right
    refine ⟨bb, off + P, by simp [Addr.add], fun j u hu => ?_⟩
    rw [List.getElem?_drop] at hu
    rw [Nat.add_assoc]
    exact hcell _ _ hu
theorem Rd.restE {w : World} {ao : Option Addr} {n cap P : Nat} {b : List UInt8} (h : Rd w (.slice ao n cap) (vb b)) (hP : P ≤ n) (hc : cap = P) : Rd w (.slice ao (n - P) 0) (vb (b.drop P)) := by
  obtain ⟨ao', c', hv, h1, h2, h3⟩ := h
  simp only [Value.slice.injEq] at hv
  obtain ⟨rfl, rfl, rfl⟩ := hv
  have e : vb (b.drop P) = [] := by
    rw [List.drop_of_length_le (by have := length_vb b; omega)]; rfl
  rw [e]
  exact ⟨ao, 0, by have := length_vb b; simp; omega, by simp, by omega, .inl rfl⟩
set_option maxRecDepth 100000 in
set_option maxHeartbeats 4000000 in
theorem rsumbytes_any (KL : List UInt32) (va : Value) (b : List UInt8) (w : World) (hK : RoundsR w KL) (ha : Rd w va (vb b)) (hl : b.length ≤ 1048576) (h4 : b.length % 4 = 0) :
    Calls Tryz.prog 90 #[va] w fun e w' => e = .returned (.agg (vw (sumBytesF KL b)).toArray) ∧ Below w.heap.size w w' := by
  have hK0 := hK
  have hSB := Lib.hid (sum_blocks KL b h4)
  have lWd := Lib.hid (wordsL_len b)
  obtain ⟨w1, hw1⟩ : ∃ w1, w.alloc (.cells (vw (List.replicate 8 0)).toArray 26) = w1 := ⟨_, rfl⟩
  have aR1 : Arr w1 w.heap.size 26 (List.replicate 8 0) := by rw [← hw1]; exact Arr.new _ _ _
  have hb1 : Below w.heap.size w w1 := by rw [← hw1]; exact (Below.refl _ _).alloc (Nat.le_refl _) _
  obtain ⟨ao, ca, rfl, a1, a2, a3⟩ := ha.bytes
  clear a3
  obtain ⟨M, hM⟩ : ∃ M, b.length = M := ⟨_, rfl⟩
  rw [hM] at hl h4 a1 ha ⊢
  replace hM := Lib.hid hM; replace aR1 := Lib.hid aR1; replace hb1 := Lib.hid hb1; replace ha := Lib.hid ha; replace hK0 := Lib.hid hK0
  clear hK
  go_enter Tryz.func90, Tryz.ntmps90
  go_upto_region 1 with fail
  change Code.wp _ _ _ _ (w.alloc (.cells (vw (List.replicate 8 0)).toArray 26))
  rw [hw1]
  clear hw1
  go_wp2_with fail
  refine (rfirst_any _).mono ?_
  rintro e w2 ⟨rfl, b2⟩
  have aR2 := aR1.out.below b2
  have hb2 := hb1.out.trans (b2.mono hb1.out.size)
  have hs2 := aR2.lt
  have aS2 : Arr (w2.alloc (.cells (vw (List.replicate 8 0)).toArray 26)) w2.heap.size 26 (List.replicate 8 0) := Arr.new _ _ _
  clear b2 aR1 hb1
  replace aR2 := Lib.hid aR2; replace hb2 := Lib.hid hb2; replace aS2 := Lib.hid aS2
  go_wp2_with (refine wpList_store_arr rfl 26 _ _ rfl w2.heap.size rfl firstL rfl aS2.out info23 (by simp) (by rfl) ?_; intro w3 a3 g3; have b23 := below_new g3; have aR3 := aR2.out.below b23; have hb3 := hb2.out.trans (b23.mono hb2.out.size); replace a3 := Lib.hid a3; replace aR3 := Lib.hid aR3; replace hb3 := Lib.hid hb3; clear g3 b23 aS2)
  go_loopw [4] (fun i wr => ∃ q : Nat, 64 * q ≤ M ∧ i = .int .i64 ((4 * (16 * q) : Nat) : Int) ∧ Arr wr w2.heap.size 26 (stN KL firstL (wordsL b) q) ∧ Arr wr w.heap.size 26 (List.replicate 8 0) ∧ Below w.heap.size w wr) (fun i _ => M - (intOf i).toNat)
  case atStart => exact ⟨0, by omega, rfl, a3.out, aR3.out, hb3.out⟩
  case round =>
    clear a3 aR3 hb3
    obtain ⟨q, hq, rfl, aS, aR, hb⟩ := hrel
    have lS := stN_len KL firstL (wordsL b) firstL_len q
    have hsg := aS.lt
    obtain ⟨T, hT⟩ : ∃ T, stN KL firstL (wordsL b) q = T := ⟨_, rfl⟩
    have hnx : stN KL firstL (wordsL b) (q + 1) = blockF KL (stN KL firstL (wordsL b) q) (((wordsL b).drop (16 * q)).take 16) := rfl
    rw [hT] at lS aS hnx
    by_cases hlt : 64 * q + 64 ≤ M
    · have hcall := fun w' h => rblockat_any (.slice ao M ca) b (16 * q) w' h (by rw [hM.out]; omega) (by rw [hM.out]; omega)
      have hrd : Rd wr.drew (.slice ao M ca) (vb b) := ha.out.mono hb.drew
      have lX : (((wordsL b).drop (16 * q)).take 16).length = 16 := by rw [List.length_take, List.length_drop, lWd.out, hM.out]; omega
      obtain ⟨X2, hX2⟩ : ∃ X, ((wordsL b).drop (16 * q)).take 16 = X := ⟨_, rfl⟩
      rw [hX2] at hnx hcall lX
      obtain ⟨P, hP⟩ : ∃ P, 4 * (16 * q) = P := ⟨_, rfl⟩
      rw [hP] at hcall ⊢
      have lF := blockF_len KL T X2 lS
      have hPM : P + 64 ≤ M := by omega
      have vT := Lib.hid (vw_lit8 T lS)
      have hSd : Arr wr.drew w2.heap.size 26 T := aS
      have d0 := hSd.cell 0 (by omega); have d1 := hSd.cell 1 (by omega); have d2 := hSd.cell 2 (by omega); have d3 := hSd.cell 3 (by omega); have d4 := hSd.cell 4 (by omega); have d5 := hSd.cell 5 (by omega); have d6 := hSd.cell 6 (by omega); have d7 := hSd.cell 7 (by omega)
      have bX : Below wr.heap.size wr wr.drew := (Below.refl wr.heap.size wr).drew
      have hKr := hK0.out.below hb
      replace hrd := Lib.hid hrd; replace hcall := Lib.hid hcall; replace hnx := Lib.hid hnx; replace lS := Lib.hid lS; replace lX := Lib.hid lX; replace hT := Lib.hid hT; replace hX2 := Lib.hid hX2; replace hP := Lib.hid hP; replace lF := Lib.hid lF; replace aS := Lib.hid aS; replace aR := Lib.hid aR; replace hb := Lib.hid hb; replace bX := Lib.hid bX; replace hKr := Lib.hid hKr
      clear hSd
      go_upto_region 4 with fail
      go_region_with (first
        | (go_at_call 100; refine (hcall.out _ hrd.out).mono ?_; rintro e w4 ⟨rfl, b4⟩; have bY := bX.out.trans (b4.mono bX.out.size); have aS4 := aS.out.below bY; have c0 := aS4.cell 0 (by have := lS.out; omega); have c1 := aS4.cell 1 (by have := lS.out; omega); have c2 := aS4.cell 2 (by have := lS.out; omega); have c3 := aS4.cell 3 (by have := lS.out; omega); have c4 := aS4.cell 4 (by have := lS.out; omega); have c5 := aS4.cell 5 (by have := lS.out; omega); have c6 := aS4.cell 6 (by have := lS.out; omega); have c7 := aS4.cell 7 (by have := lS.out; omega))
        | (go_at_call 99; rw [← vT.out]; refine (rblock_any KL T X2 _ (hKr.out.below bY) lS.out lX.out).mono ?_; rintro e w5 ⟨rfl, b5⟩; have bZ := bY.trans (b5.mono bY.size); have aS5 := aS.out.below bZ; have hsc := storeCells_whole (P := Tryz.prog) aS5 (blockF KL T X2) (by rw [lF.out, lS.out]); have lF8 := lF.out))
      all_goals
        have st := aS5.stored (blockF KL T X2)
        have aS6 := st.1
        have aR6 := (aR.out.below bZ).grown st.2 (by simp; omega)
        have hb6 := (hb.out.trans (bZ.mono hb.out.size)).grown st.2 (hb.out.trans (bZ.mono hb.out.size)).size (by simp; omega)
        replace aS6 := Lib.hid aS6; replace aR6 := Lib.hid aR6; replace hb6 := Lib.hid hb6
        clear st hsc
        go_wp2_with fail
        go_roundw
        case rel => exact ⟨q + 1, by omega, by have := hP.out; go_num, by rw [hnx.out]; exact aS6.out, aR6.out, hb6.out⟩
        case measure => have := hP.out; simp [intOf]; omega
    · have hq64 : q = M / 64 := by omega
      have hSB1 := hSB.out
      rw [hM.out, ← hq64, hT] at hSB1
      have hq4 : 64 * q = 4 * (16 * q) := by omega
      rw [hq4] at hSB1
      obtain ⟨P, hP⟩ : ∃ P, 4 * (16 * q) = P := ⟨_, rfl⟩
      rw [hP] at hSB1 ⊢
      have hPM : ¬ P + 64 ≤ M := by omega
      have hPl : P ≤ M := by omega
      replace aS := Lib.hid aS; replace aR := Lib.hid aR; replace hb := Lib.hid hb; replace hP := Lib.hid hP; replace hSB1 := Lib.hid hSB1; replace lS := Lib.hid lS; replace hT := Lib.hid hT; replace hnx := Lib.hid hnx; replace hq64 := Lib.hid hq64
      go_upto_region 6 with fail
      have hSd : Arr wr.drew w2.heap.size 26 T := aS.out
      have hst : wr.drew.rangeAt w2.heap.size 0 (vw T) := by
        have := World.rangeAt_of_block (w := wr.drew) hSd 0 8
        simpa [lS.out, List.take_of_length_le] using this
      replace hst := Lib.hid hst
      clear hSd
      refine wp_region_still_tail 7 (by kernel_rfl) (by kernel_rfl) ?_
      simp only [List.take_succ_cons, List.take_zero, List.drop_succ_cons, List.drop_zero]
      change wpStill _ _ wr.drew _ _ _
      refine wpStill_load_mid rfl 26 _ rfl w2.heap.size 0 (by rfl) T hst.out Tryz.underlying26 info23 lS.out ?_
      iterate 6 still_step
      refine wpStill_nil ?_
      change wpList _ _ _ _ _ wr.drew
      go_wp2_with fail
      all_goals
        have hKd : RoundsR wr.drew KL := hK0.out.below hb.out.drew
        have hrd : Rd wr.drew (.slice ao M ca) (vb b) := ha.out.mono hb.out.drew
        refine (rended_any KL T _ (b.drop P) ((M - P) / 4) M wr.drew hKd lS.out (by first | exact hrd.restB hPl (by assumption) | exact hrd.restE hPl (by assumption)) (by rw [List.length_drop, hM.out]; have := hP.out; omega) (by omega) (by omega)).mono ?_
        rintro e w4 ⟨rfl, b4⟩
        rw [hSB1.out]
        have aR4 := aR.out.drew.below b4
        have hb4 := hb.out.drew.trans (b4.mono hb.out.size)
        have lO := sumBytesF_len KL b
        clear b4 hrd hKd
        replace aR4 := Lib.hid aR4; replace hb4 := Lib.hid hb4; replace lO := Lib.hid lO
        go_wp2_with (refine wpList_store_arr rfl 26 _ _ rfl w.heap.size rfl (sumBytesF KL b) rfl aR4.out info23 (by simp) lO.out ?_; intro w7 a7 g7; have hb7 := hb4.out.grown g7 hb4.out.size (by simp))
        refine bodyPost_ret (results_arr rfl rfl a7 Tryz.underlying26 info23 lO.out) rfl ⟨rfl, hb7⟩
end Go.Proofs.YtemanjahkohcpaaGreatDoor

namespace Go.Proofs.YtemanjahkohcpaaGreatDoor
open Go.RowKit WP
set_option maxRecDepth 100000 in
set_option maxHeartbeats 1000000 in
theorem rtagbytes_any (KL : List UInt32) (va vm : Value) (key m : List UInt8) (w : World) (hK : RoundsR w KL) (ha : Rd w va (vb key)) (hm : Rd w vm (vb m)) (hk : key.length ≤ 64) (hl : m.length ≤ 524288) (h4 : m.length % 4 = 0) :
    Calls Tryz.prog 77 #[va, vm] w fun e w' => e = .returned (.agg (vw (tagBytesF KL key m)).toArray) ∧ Below w.heap.size w w' := by
  obtain ⟨i0, hi, hz0, hz1, hz2⟩ := info_parts info5
  obtain ⟨oa, ca, rfl, a1, a2, a3⟩ := ha.bytes
  obtain ⟨om, cm, rfl, m1, m2, m3⟩ := hm.bytes
  clear a3 m3
  have aN : Arr (w.alloc (.cells (vw (List.replicate 8 0)).toArray 26)) w.heap.size 26 (List.replicate 8 0) := Arr.new _ _ _
  have hb1 : Below w.heap.size w (w.alloc (.cells (vw (List.replicate 8 0)).toArray 26)) := (Below.refl _ _).alloc (Nat.le_refl _) _
  obtain ⟨w1, hw1⟩ : ∃ w1, w.alloc (.cells (vw (List.replicate 8 0)).toArray 26) = w1 := ⟨_, rfl⟩
  rw [hw1] at aN hb1
  have h3 := hK.1
  have hK1 := hK.below hb1
  have ha1 := ha.mono hb1
  have hm1 := hm.mono hb1
  have lO := tagBytesF_len KL key m
  have lvm := length_vb m
  have lp := padL_len key 54 hk
  have lq := padL_len key 92 hk
  replace aN := Lib.hid aN; replace hb1 := Lib.hid hb1; replace hK1 := Lib.hid hK1; replace ha1 := Lib.hid ha1; replace hm1 := Lib.hid hm1; replace lO := Lib.hid lO; replace lvm := Lib.hid lvm; replace lp := Lib.hid lp; replace lq := Lib.hid lq
  clear hK ha hm
  go_enter Tryz.func77, Tryz.ntmps77
  go_upto_region 1 with fail
  change Code.wp _ _ _ _ (w.alloc (.cells (vw (List.replicate 8 0)).toArray 26))
  rw [hw1]
  clear hw1
  go_wp2_with fail
  refine (rpadded_any _ key 54 _ ha1.out hk (by omega) (by omega)).mono ?_
  rintro e w2 ⟨v2, rfl, o2, b2⟩
  have hm2 := hm1.out.mono b2
  have hs1 := b2.size
  replace o2 := Lib.hid o2; replace hm2 := Lib.hid hm2; replace b2 := Lib.hid b2
  go_wp2_with (at_builtin; refine wpList_append_rd _ rfl _ _ 72 rfl w1.heap.size 5 i0 (.int .u8 0) 1 Tryz.underlying72 hi hz0 hz1 hz2 rfl _ _ _ rfl o2.out _ (vb m) rfl hm2.out (vb_oneCell m) (by rw [lvm.out]; simp only [maxLen]; omega) (by rw [lvm.out]; omega) hs1 ?_; intro v3 w3 o3 O3; have b13 := b2.out.trans (O3.below hs1 (fun j hj => (o2.out.lt j hj).1)); rw [← vb_append, lvm.out] at o3; replace o3 := Lib.hid o3; replace b13 := Lib.hid b13; clear O3)
  refine (rsumbytes_any KL _ (padL key 54 ++ m) _ (hK1.out.below b13.out) (Rd.of_own o3.out) (by rw [List.length_append, lp.out]; omega) (by rw [List.length_append, lp.out]; omega)).mono ?_
  rintro e w4 ⟨rfl, b4⟩
  obtain ⟨s, hs⟩ : ∃ s, sumBytesF KL (padL key 54 ++ m) = s := ⟨_, rfl⟩
  have ls : s.length = 8 := by rw [← hs]; exact sumBytesF_len _ _
  have hT : tagBytesF KL key m = sumBytesF KL (padL key 92 ++ bytesL s) := by rw [← hs]; rfl
  have b14 := b13.out.trans (b4.mono b13.out.size)
  have hb4 := hb1.out.trans (b14.mono hb1.out.size)
  have aR4 := aN.out.below b14
  have hK4 := hK1.out.below b14
  have ha4 := ha1.out.mono b14
  have hs4 := hb4.size
  have hR4 := aR4.lt
  have aS0 : Arr (w4.alloc (.cells (vw (List.replicate 8 0)).toArray 26)) w4.heap.size 26 (List.replicate 8 0) := Arr.new _ _ _
  rw [hs]
  clear b4 b14 b13 b2 o3 o2 hm2 hm1 aN hb1 hK1 ha1 hs
  replace hT := Lib.hid hT; replace hb4 := Lib.hid hb4; replace aR4 := Lib.hid aR4; replace hK4 := Lib.hid hK4; replace ha4 := Lib.hid ha4; replace aS0 := Lib.hid aS0; replace ls := Lib.hid ls
  go_wp2_with (refine wpList_store_arr rfl 26 _ _ rfl w4.heap.size rfl s rfl aS0.out info23 (by simp) ls.out ?_; intro w5 a5 g5; have b45 := below_new g5; have hb5 := hb4.out.trans (b45.mono hb4.out.size); have aR5 := aR4.out.below b45; have hK5 := hK4.out.below b45; have ha5 := ha4.out.mono b45; replace hb5 := Lib.hid hb5; replace aR5 := Lib.hid aR5; replace hK5 := Lib.hid hK5; replace ha5 := Lib.hid ha5; replace a5 := Lib.hid a5; clear g5 b45)
  refine (rpadded_any _ key 92 _ ha5.out hk (by omega) (by omega)).mono ?_
  rintro e w6 ⟨v6, rfl, o6, b6⟩
  have a6 := a5.out.below b6
  have hrs : Rd w6 (.slice (some ⟨w4.heap.size, 0, none⟩) 8 8) (vw s) := by
    have := a6.rd 8 (by rw [ls.out]; exact Nat.le_refl _) (by simp [maxLen])
    rwa [ls.out] at this
  have lbs := Lib.hid (length_bytesL s)
  have hs6 := b6.size
  clear a6
  replace o6 := Lib.hid o6; replace b6 := Lib.hid b6; replace hrs := Lib.hid hrs
  go_wp2_with fail
  refine (rbytes_any _ s _ hrs.out (by rw [ls.out]; omega)).mono ?_
  rintro e w7 ⟨v7, rfl, o7, b7⟩
  have b57 := b6.out.trans (b7.mono b6.out.size)
  have o67 := own_belowA o6.out b7
  have r7 := Rd.of_own o7
  have l7 : (vb (bytesL s)).length = 32 := (by rw [length_vb, lbs.out, ls.out])
  have h57 := b57.size
  clear o6 o7 b7 b6 hrs
  replace o67 := Lib.hid o67; replace r7 := Lib.hid r7; replace b57 := Lib.hid b57; replace l7 := Lib.hid l7
  go_wp2_with (at_builtin; refine wpList_append_rd _ rfl _ _ 72 rfl w5.heap.size 5 i0 (.int .u8 0) 1 Tryz.underlying72 hi hz0 hz1 hz2 rfl _ _ _ rfl o67.out _ (vb (bytesL s)) rfl r7.out (vb_oneCell _) (by rw [l7.out]; simp [maxLen]) (by rw [l7.out]; omega) h57 ?_; intro v8 w8 o8 O8; have b58 := b57.out.trans (O8.below h57 (fun j hj => (o67.out.lt j hj).1)); rw [← vb_append, l7.out] at o8; replace o8 := Lib.hid o8; replace b58 := Lib.hid b58; clear O8)
  refine (rsumbytes_any KL _ (padL key 92 ++ bytesL s) _ (hK5.out.below b58.out) (Rd.of_own o8.out) (by rw [List.length_append, lq.out, lbs.out, ls.out]; omega) (by rw [List.length_append, lq.out, lbs.out, ls.out])).mono ?_
  rintro e w9 ⟨rfl, b9⟩
  rw [← hT.out]
  have b59 := b58.out.trans (b9.mono b58.out.size)
  have aR9 := Lib.hid (aR5.out.below b59)
  have hb9 := Lib.hid (hb5.out.trans (b59.mono hb5.out.size))
  clear b57 o8 b58 b9 b59
  go_wp2_with (refine wpList_store_arr rfl 26 _ _ rfl w.heap.size rfl (tagBytesF KL key m) rfl aR9.out info23 (by simp) lO.out ?_; intro wa aa ga; have hba := hb9.out.grown ga hb9.out.size (by simp))
  refine bodyPost_ret (results_arr rfl rfl aa Tryz.underlying26 info23 lO.out) rfl ⟨rfl, hba⟩
set_option maxRecDepth 100000 in
set_option maxHeartbeats 1000000 in
theorem rtag_any (KL : List UInt32) (va vm : Value) (key m : List UInt32) (w : World) (hK : RoundsR w KL) (ha : Rd w va (vw key)) (hm : Rd w vm (vw m)) (hk : key.length ≤ 16) (hl : m.length ≤ 131072) :
    Calls Tryz.prog 61 #[va, vm] w fun e w' => e = .returned (.agg (vw (tagF KL (bytesL key) m)).toArray) ∧ Below w.heap.size w w' := by
  obtain ⟨oa, ca, rfl, a1, a2, a3⟩ := ha.words
  obtain ⟨om, cm, rfl, m1, m2, m3⟩ := hm.words
  clear a3 m3
  have aN : Arr (w.alloc (.cells (vw (List.replicate 8 0)).toArray 26)) w.heap.size 26 (List.replicate 8 0) := Arr.new _ _ _
  have hb1 : Below w.heap.size w (w.alloc (.cells (vw (List.replicate 8 0)).toArray 26)) := (Below.refl _ _).alloc (Nat.le_refl _) _
  obtain ⟨w1, hw1⟩ : ∃ w1, w.alloc (.cells (vw (List.replicate 8 0)).toArray 26) = w1 := ⟨_, rfl⟩
  rw [hw1] at aN hb1
  have hK1 := hK.below hb1
  have ha1 := ha.mono hb1
  have hm1 := hm.mono hb1
  have lbk := length_bytesL key
  have lbm := length_bytesL m
  have hT := tag_bytes KL (bytesL key) m (by omega)
  have lO := tagF_len KL (bytesL key) m
  replace aN := Lib.hid aN; replace hb1 := Lib.hid hb1; replace hK1 := Lib.hid hK1; replace ha1 := Lib.hid ha1; replace hm1 := Lib.hid hm1; replace lO := Lib.hid lO; replace lbk := Lib.hid lbk; replace lbm := Lib.hid lbm; replace hT := Lib.hid hT
  clear hK ha hm
  go_enter Tryz.func61, Tryz.ntmps61
  go_upto_region 1 with fail
  change Code.wp _ _ _ _ (w.alloc (.cells (vw (List.replicate 8 0)).toArray 26))
  rw [hw1]
  clear hw1
  go_wp2_with fail
  refine (rbytes_any _ key _ ha1.out (by omega)).mono ?_
  rintro e w2 ⟨v2, rfl, o2, b2⟩
  have hm2 := hm1.out.mono b2
  replace o2 := Lib.hid o2; replace hm2 := Lib.hid hm2; replace b2 := Lib.hid b2
  go_wp2_with fail
  refine (rbytes_any _ m _ hm2.out (by omega)).mono ?_
  rintro e w3 ⟨v3, rfl, o3, b3⟩
  have b13 := b2.out.trans (b3.mono b2.out.size)
  have r2 := (Rd.of_own o2.out).mono b3
  have r3 := Rd.of_own o3
  have hb3 := hb1.out.trans (b13.mono hb1.out.size)
  have aR3 := aN.out.below b13
  have hK3 := hK1.out.below b13
  clear o2 o3 b2 b3 b13 hm2 aN hb1 hK1 ha1 hm1
  replace r2 := Lib.hid r2; replace r3 := Lib.hid r3; replace hb3 := Lib.hid hb3; replace aR3 := Lib.hid aR3; replace hK3 := Lib.hid hK3
  go_wp2_with fail
  refine (rtagbytes_any KL _ _ (bytesL key) (bytesL m) _ hK3.out r2.out r3.out (by rw [lbk.out]; omega) (by rw [lbm.out]; omega) (by rw [lbm.out]; omega)).mono ?_
  rintro e w4 ⟨rfl, b4⟩
  rw [← hT.out]
  have aR4 := Lib.hid (aR3.out.below b4)
  have hb4 := Lib.hid (hb3.out.trans (b4.mono hb3.out.size))
  clear b4 aR3 hb3
  go_wp2_with (refine wpList_store_arr rfl 26 _ _ rfl w.heap.size rfl (tagF KL (bytesL key) m) rfl aR4.out info23 (by simp) lO.out ?_; intro wa aa ga; have hba := hb4.out.grown ga hb4.out.size (by simp))
  refine bodyPost_ret (results_arr rfl rfl aa Tryz.underlying26 info23 lO.out) rfl ⟨rfl, hba⟩
end Go.Proofs.YtemanjahkohcpaaGreatDoor
