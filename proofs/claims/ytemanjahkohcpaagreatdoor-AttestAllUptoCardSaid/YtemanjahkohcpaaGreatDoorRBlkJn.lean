/- The contract of the reference's Block. -/
import Derived.Test.YtemanjahkohcpaaGreatDoorJn37
namespace Go.Proofs.YtemanjahkohcpaaGreatDoor
open Go.RowKit WP
/-- the reference's round words lie in their block -/
def RoundsR (w : World) (KL : List UInt32) : Prop := 6 < w.heap.size ∧ ∀ i, i < 64 → w.cell? ⟨6, i, none⟩ = some (.int .u32 (wAt KL i))
theorem RoundsR.below {w w' : World} {KL : List UInt32} (h : RoundsR w KL) (hb : Below w.heap.size w w') : RoundsR w' KL :=
  ⟨Nat.lt_of_lt_of_le h.1 hb.size, fun i hi => (hb.cell (p := ⟨6, i, none⟩) h.1).trans (h.2 i hi)⟩
/-- the schedule behind t steps -/
def sW (B : List UInt32) (t : Nat) : List UInt32 := if t ≤ 16 then B.take t ++ List.replicate (64 - t) 0 else schedN B (t - 16)
theorem sW_len (B : List UInt32) (hB : B.length = 16) (t : Nat) : (sW B t).length = 64 := by
  unfold sW; split
  · simp; omega
  · exact schedN_len B hB _
theorem sW_hi (B : List UInt32) (hB : B.length = 16) (t : Nat) (h : 16 ≤ t) : sW B t = schedN B (t - 16) := by
  unfold sW; split
  · obtain rfl : t = 16 := by omega
    rw [List.take_of_length_le (by omega)]; rfl
  · rfl
theorem sW_lo (B : List UInt32) (hB : B.length = 16) (t : Nat) (h : t < 16) : (sW B t).set t (ofI (wAt B t)) = sW B (t + 1) := by
  unfold sW
  rw [if_pos (by omega), if_pos (by omega)]
  have e : ofI (wAt B t) = B[t]'(by omega) := by
    apply UInt32.toNat_inj.1
    have := ofI_val (wAt B t) (wAt_bd B t).1 (wAt_bd B t).2
    have e2 : wAt B t = ((B[t]'(by omega)).toNat : Int) := by unfold wAt; rw [List.getD_eq_getElem?_getD, List.getElem?_eq_getElem (by omega)]; rfl
    omega
  rw [e, List.set_append_right _ _ (by simp; omega), List.take_add_one, List.getElem?_eq_getElem (by omega)]
  have hl : (B.take t).length = t := by simp; omega
  rw [hl, Nat.sub_self, show 64 - t = 63 - t + 1 by omega, List.replicate_succ, show 64 - (t + 1) = 63 - t by omega]
  simp only [List.set_cons_zero, List.append_assoc, Option.toList_some, List.cons_append, List.nil_append]
theorem sW_next (B : List UInt32) (hB : B.length = 16) (t : Nat) (h : 16 ≤ t) (h2 : t < 64) : (sW B t).set t (ofI (nextW (sW B t) t)) = sW B (t + 1) := by
  rw [sW_hi B hB t h, sW_hi B hB (t + 1) (by omega), show t + 1 - 16 = t - 16 + 1 by omega]
  show _ = (schedN B (t - 16)).set (16 + (t - 16)) (ofI (nextW (schedN B (t - 16)) (16 + (t - 16))))
  rw [show 16 + (t - 16) = t by omega]
set_option maxRecDepth 100000 in
set_option maxHeartbeats 4000000 in
theorem rblock_any (KL S B : List UInt32) (w : World) (hK : RoundsR w KL) (hS : S.length = 8) (hB : B.length = 16) :
    Calls Tryz.prog 99 #[.agg (vw S).toArray, .agg (vw B).toArray] w fun e w' => e = .returned (.agg (vw (blockF KL S B)).toArray) ∧ Below w.heap.size w w' := by
  go_enter Tryz.func99, Tryz.ntmps99
  go_wp2_with fail
  change Code.wp _ _ _ _ ((((w.alloc (.cells (vw S).toArray 26)).alloc (.cells (vw B).toArray 171)).alloc (.cells (vw (List.replicate 8 0)).toArray 26)).alloc (.cells (vw (List.replicate 64 0)).toArray 187))
  obtain ⟨wz, hwz⟩ : ∃ wz, (((w.alloc (.cells (vw S).toArray 26)).alloc (.cells (vw B).toArray 171)).alloc (.cells (vw (List.replicate 8 0)).toArray 26)).alloc (.cells (vw (List.replicate 64 0)).toArray 187) = wz := ⟨_, rfl⟩
  have aS : Arr wz w.heap.size 26 S := by rw [← hwz]; exact (((Arr.new w _ S).alloc _).alloc _).alloc _
  have aB : Arr wz (w.heap.size + 1) 171 B := by
    rw [← hwz]
    have := ((Arr.new (w.alloc (.cells (vw S).toArray 26)) 171 B).alloc (.cells (vw (List.replicate 8 0)).toArray 26)).alloc (.cells (vw (List.replicate 64 0)).toArray 187)
    simpa using this
  have aR : Arr wz (w.heap.size + 1 + 1) 26 (List.replicate 8 0) := by
    rw [← hwz]
    have := (Arr.new ((w.alloc (.cells (vw S).toArray 26)).alloc (.cells (vw B).toArray 171)) 26 (List.replicate 8 0)).alloc (.cells (vw (List.replicate 64 0)).toArray 187)
    simpa using this
  have aW : Arr wz (w.heap.size + 1 + 1 + 1) 187 (sW B 0) := by
    rw [← hwz, show sW B 0 = List.replicate 64 0 by unfold sW; rw [if_pos (by omega)]; rfl]
    have := Arr.new (((w.alloc (.cells (vw S).toArray 26)).alloc (.cells (vw B).toArray 171)).alloc (.cells (vw (List.replicate 8 0)).toArray 26)) 187 (List.replicate 64 0)
    simpa using this
  have hb0 : Below w.heap.size w wz := by rw [← hwz]; exact ((((Below.refl _ _).alloc (Nat.le_refl _) _).alloc (by simp) _).alloc (by simp; omega) _).alloc (by simp; omega) _
  have hz : wz.heap.size = w.heap.size + 1 + 1 + 1 + 1 := by rw [← hwz]; simp
  rw [hwz]
  clear hwz
  replace aB := Lib.hid aB; replace aR := Lib.hid aR; replace aS := Lib.hid aS; replace aW := Lib.hid aW; replace hb0 := Lib.hid hb0; replace hK := Lib.hid hK; replace hz := Lib.hid hz
  go_loopw [6] (fun i wr => ∃ t : Nat, t ≤ 64 ∧ i = .int .i64 (t : Int) ∧ Arr wr (w.heap.size + 1 + 1 + 1) 187 (sW B t) ∧ Arr wr (w.heap.size + 1 + 1) 26 (List.replicate 8 0) ∧ Arr wr w.heap.size 26 S ∧ Arr wr (w.heap.size + 1) 171 B ∧ Below w.heap.size w wr ∧ wr.heap.size = w.heap.size + 1 + 1 + 1 + 1) (fun i _ => 64 - (intOf i).toNat)
  case atStart => exact ⟨0, by omega, rfl, aW.out, aR.out, aS.out, aB.out, hb0.out, hz.out⟩
  case round =>
    clear aW aR aS aB hb0 hz
    obtain ⟨t, ht, rfl, aW, aR, aS, aB, hb, hz⟩ := hrel
    have ls := sW_len B hB t
    by_cases hlt : t < 64
    · by_cases h16 : t < 16
      · have d0 := aB.cell t (by omega)
        have f0 := aW.frozen t
        have c0 := aW.cell t (by omega)
        have hst := aW.set t (wAt B t) (wAt_bd B t).1 (wAt_bd B t).2
        rw [sW_lo B hB t h16] at hst
        replace aW := Lib.hid aW; replace aR := Lib.hid aR; replace aS := Lib.hid aS; replace aB := Lib.hid aB; replace hb := Lib.hid hb; replace hst := Lib.hid hst; replace hz := Lib.hid hz; replace ls := Lib.hid ls
        go_wp2_with fail
        refine ⟨⟨t + 1, by omega, by go_num, hst.out.1, aR.out.grown hst.out.2 (by first | (simp; done) | (simp; omega)), aS.out.grown hst.out.2 (by first | (simp; done) | (simp; omega)), aB.out.grown hst.out.2 (by first | (simp; done) | (simp; omega)), hb.out.grown hst.out.2 hb.out.size (by first | (simp; done) | (simp; omega)), by simp [hz.out]⟩, by simp [intOf]; omega⟩
      · have d15 := aW.cell (t - 15) (by omega)
        have d2 := aW.cell (t - 2) (by omega)
        have e15 : ((t : Int) - 15) = ((t - 15 : Nat) : Int) := by omega
        have e2 : ((t : Int) - 2) = ((t - 2 : Nat) : Int) := by omega
        have ⟨p1, p2⟩ := wAt_bd (sW B t) (t - 15)
        have ⟨q1, q2⟩ := wAt_bd (sW B t) (t - 2)
        have e16 : ((t : Int) - 16) = ((t - 16 : Nat) : Int) := by omega
        have e7 : ((t : Int) - 7) = ((t - 7 : Nat) : Int) := by omega
        have b16 : ((t - 16 : Nat) : Int) < 64 := by omega
        have b7 : ((t - 7 : Nat) : Int) < 64 := by omega
        have b0 : (t : Int) < 64 := by omega
        have n16 : t - 16 < 64 := by omega
        have n7 : t - 7 < 64 := by omega
        have w16 : IntKind.i64.wrap ((t - 16 : Nat) : Int) = ((t - 16 : Nat) : Int) := IntWalk.i64_in _ (by omega)
        have w7 : IntKind.i64.wrap ((t - 7 : Nat) : Int) = ((t - 7 : Nat) : Int) := IntWalk.i64_in _ (by omega)
        have b15 : ((t - 15 : Nat) : Int) < 64 := by omega
        have b2 : ((t - 2 : Nat) : Int) < 64 := by omega
        replace aW := Lib.hid aW; replace aR := Lib.hid aR; replace aS := Lib.hid aS; replace aB := Lib.hid aB; replace hb := Lib.hid hb; replace hz := Lib.hid hz; replace ls := Lib.hid ls
        go_upto_region 9 with fail
        have d16 := aW.out.drew.cell (t - 16) (by rw [ls.out]; omega)
        have d7 := aW.out.drew.cell (t - 7) (by rw [ls.out]; omega)
        have d0 := aW.out.drew.cell t (by rw [ls.out]; omega)
        have f0 := aW.out.drew.frozen t
        have hnx : nextW (sW B t) t = mix (wAt (sW B t) (t - 16)) (wAt (sW B t) (t - 15)) (wAt (sW B t) (t - 7)) (wAt (sW B t) (t - 2)) := rfl
        replace hnx := Lib.hid hnx
        generalize wAt (sW B t) (t - 15) = x15 at *
        generalize wAt (sW B t) (t - 2) = x2 at *
        generalize wAt (sW B t) (t - 16) = x16 at *
        generalize wAt (sW B t) (t - 7) = x7 at *
        clear d15 d2
        refine wp_region_still_tail 29 (by kernel_rfl) (by kernel_rfl) ?_
        simp only [List.take_succ_cons, List.take_zero, List.drop_succ_cons, List.drop_zero]
        change wpStill _ _ wr.drew _ _ _
        repeat (first | still_step | (still_call (rturn_any _ _ _ (by omega) (by omega) (by omega) (by omega))))
        refine wpStill_nil ?_
        change wpList _ _ _ _ _ wr.drew
        go_wp2_with fail
        have hmix : (bits .xor .u32 (bits .xor .u32 (sr x2 17) (sr x2 19)) (x2 / 1024) + x7 + bits .xor .u32 (bits .xor .u32 (sr x15 7) (sr x15 18)) (x15 / 8) + x16) % 4294967296 = mix x16 x15 x7 x2 := by
          unfold mix; congr 1; omega
        rw [hmix]
        have hst := aW.out.set t (mix x16 x15 x7 x2) (mix_bd _ _ _ _).1 (mix_bd _ _ _ _).2
        rw [← hnx.out, sW_next B hB t (by omega) hlt, hnx.out] at hst
        refine ⟨⟨t + 1, by omega, by go_num, hst.1.drew, (aR.out.grown hst.2 (by first | (simp; done) | (simp; omega))).drew, (aS.out.grown hst.2 (by first | (simp; done) | (simp; omega))).drew, (aB.out.grown hst.2 (by first | (simp; done) | (simp; omega))).drew, (hb.out.grown hst.2 hb.out.size (by simp; omega)).drew, by simp [hz.out]⟩, by simp [intOf]; omega⟩
    · obtain rfl : t = 64 := by omega
      rw [sW_hi B hB 64 (by decide)] at aW
      replace aW := Lib.hid aW; replace aR := Lib.hid aR; replace aS := Lib.hid aS; replace aB := Lib.hid aB; replace hb := Lib.hid hb; replace hz := Lib.hid hz; replace ls := Lib.hid ls
      go_upto_region 10 with fail
      apply wp_region_lit
      refine wpList_load_arr rfl 26 _ rfl w.heap.size rfl aS.out Tryz.underlying26 info23 hS ?_
      have aN : Arr (wr.alloc (.cells (vw (List.replicate 8 0)).toArray 26)) (w.heap.size + 1 + 1 + 1 + 1) 26 (List.replicate 8 0) := by rw [← hz.out]; exact Arr.new _ _ _
      have hbN : Below w.heap.size w (wr.alloc (.cells (vw (List.replicate 8 0)).toArray 26)) := hb.out.alloc (by have := hz.out; omega) _
      have aWN := aW.out.alloc (.cells (vw (List.replicate 8 0)).toArray 26)
      have aRN := aR.out.alloc (.cells (vw (List.replicate 8 0)).toArray 26)
      have aSN := aS.out.alloc (.cells (vw (List.replicate 8 0)).toArray 26)
      replace aN := Lib.hid aN; replace hbN := Lib.hid hbN; replace aWN := Lib.hid aWN; replace aRN := Lib.hid aRN; replace aSN := Lib.hid aSN
      clear aW aR aS aB hb
      obtain ⟨W, hW⟩ : ∃ W, schedN B 48 = W := ⟨_, rfl⟩
      have lW : W.length = 64 := by rw [← hW]; exact schedN_len B hB 48
      have hF : blockF KL S B = addN (roundsN KL W S 64) S 8 := by rw [← hW]; rfl
      simp only [show (64 : Nat) - 16 = 48 from rfl, hW] at aWN
      replace hF := Lib.hid hF; replace hW := Lib.hid hW
      have hz2 := hz.out
      go_wp2_with (refine wpList_store_arr rfl 26 _ _ rfl (w.heap.size + 1 + 1 + 1 + 1) rfl S rfl aN.out info23 (by simp) hS ?_; intro w2 aX g2; have aW2 := aWN.out.grown g2 (by first | (simp; done) | (simp; omega)); have aR2 := aRN.out.grown g2 (by first | (simp; done) | (simp; omega)); have aS2 := aSN.out.grown g2 (by first | (simp; done) | (simp; omega)); have hb2 := hbN.out.grown g2 hbN.out.size (by simp; omega); replace aX := Lib.hid aX; replace aW2 := Lib.hid aW2; replace aR2 := Lib.hid aR2; replace aS2 := Lib.hid aS2; replace hb2 := Lib.hid hb2)
      clear hz2 aN aWN aRN aSN hbN
      go_loopw [10] (fun i wr => ∃ t : Nat, t ≤ 64 ∧ i = .int .i64 (t : Int) ∧ Arr wr (w.heap.size + 1 + 1 + 1 + 1) 26 (roundsN KL W S t) ∧ Arr wr (w.heap.size + 1 + 1 + 1) 187 W ∧ Arr wr (w.heap.size + 1 + 1) 26 (List.replicate 8 0) ∧ Arr wr w.heap.size 26 S ∧ Below w.heap.size w wr) (fun i _ => 64 - (intOf i).toNat)
      case atStart => exact ⟨0, by omega, rfl, aX.out, aW2.out, aR2.out, aS2.out, hb2.out⟩
      case round =>
        clear aX aW2 aR2 aS2 hb2
        obtain ⟨t, ht, rfl, aX, aW, aR, aS, hb⟩ := hrel
        by_cases hlt : t < 64
        · have lX := roundsN_len KL W S hS t
          have hXs : roundsN KL W S (t + 1) = roundL KL W (roundsN KL W S t) t := rfl
          obtain ⟨X, hX⟩ : ∃ X, roundsN KL W S t = X := ⟨_, rfl⟩
          rw [hX] at aX lX hXs
          have ⟨m1, m2⟩ := wAt_bd W t
          have ⟨k1, k2⟩ := wAt_bd KL t
          have ⟨a0, b0⟩ := wAt_bd X 0
          have ⟨a1, b1⟩ := wAt_bd X 1
          have ⟨a2, b2⟩ := wAt_bd X 2
          have ⟨a3, b3⟩ := wAt_bd X 3
          have ⟨a4, b4⟩ := wAt_bd X 4
          have ⟨a5, b5⟩ := wAt_bd X 5
          have ⟨a6, b6⟩ := wAt_bd X 6
          have ⟨a7, b7⟩ := wAt_bd X 7
          have hkd : wr.cell? ⟨6, t, none⟩ = _ := (hb.cell (p := ⟨6, t, none⟩) hK.out.1).trans (hK.out.2 t hlt)
          have hwd := aW.cell t (by omega)
          have d0 := aX.cell 0 (by omega)
          have d1 := aX.cell 1 (by omega)
          have d2 := aX.cell 2 (by omega)
          have d3 := aX.cell 3 (by omega)
          have d4 := aX.cell 4 (by omega)
          have d5 := aX.cell 5 (by omega)
          have d6 := aX.cell 6 (by omega)
          have d7 := aX.cell 7 (by omega)
          generalize hkt : wAt KL t = kt at *
          generalize hwt : wAt W t = wt at *
          generalize hx0 : wAt X 0 = x0 at *
          generalize hx1 : wAt X 1 = x1 at *
          generalize hx2 : wAt X 2 = x2 at *
          generalize hx3 : wAt X 3 = x3 at *
          generalize hx4 : wAt X 4 = x4 at *
          generalize hx5 : wAt X 5 = x5 at *
          generalize hx6 : wAt X 6 = x6 at *
          generalize hx7 : wAt X 7 = x7 at *
          have hlt2 : (t : Int) < 64 := by omega
          replace aX := Lib.hid aX; replace aW := Lib.hid aW; replace aR := Lib.hid aR; replace aS := Lib.hid aS; replace hb := Lib.hid hb; replace hXs := Lib.hid hXs; replace hX := Lib.hid hX
          go_upto_region 16 with fail
          have e0 : wr.drew.cell? ⟨w.heap.size + 1 + 1 + 1 + 1, 0, none⟩ = some (.int .u32 x0) := d0
          have e1 : wr.drew.cell? ⟨w.heap.size + 1 + 1 + 1 + 1, 1, none⟩ = some (.int .u32 x1) := d1
          have e2 : wr.drew.cell? ⟨w.heap.size + 1 + 1 + 1 + 1, 2, none⟩ = some (.int .u32 x2) := d2
          have e3 : wr.drew.cell? ⟨w.heap.size + 1 + 1 + 1 + 1, 3, none⟩ = some (.int .u32 x3) := d3
          have e4 : wr.drew.cell? ⟨w.heap.size + 1 + 1 + 1 + 1, 4, none⟩ = some (.int .u32 x4) := d4
          have e5 : wr.drew.cell? ⟨w.heap.size + 1 + 1 + 1 + 1, 5, none⟩ = some (.int .u32 x5) := d5
          have e6 : wr.drew.cell? ⟨w.heap.size + 1 + 1 + 1 + 1, 6, none⟩ = some (.int .u32 x6) := d6
          have e7 : wr.drew.cell? ⟨w.heap.size + 1 + 1 + 1 + 1, 7, none⟩ = some (.int .u32 x7) := d7
          have hke : wr.drew.cell? ⟨6, t, none⟩ = some (.int .u32 kt) := hkd
          have hwe : wr.drew.cell? ⟨w.heap.size + 1 + 1 + 1, t, none⟩ = some (.int .u32 wt) := hwd
          clear d0 d1 d2 d3 d4 d5 d6 d7 hkd hwd
          refine wp_region_still_lit (by kernel_rfl) (by kernel_rfl) ?_
          change wpStill _ _ wr.drew _ _ _
          repeat (first | still_step | (still_call (rturn_any _ _ _ (by omega) (by omega) (by omega) (by omega))))
          refine wpStill_nil ?_
          change Exit.then _ _ _ _ wr.drew
          rw [← sum1.eq_1 x7 x4 x5 x6 kt wt]
          have ⟨t1, t2⟩ := sum1_bd x7 x4 x5 x6 kt wt
          generalize hT1 : sum1 x7 x4 x5 x6 kt wt = T1 at *
          clear hke hwe
          go_upto_region 17 with fail
          have g0 : wr.drew.drew.cell? ⟨w.heap.size + 1 + 1 + 1 + 1, 0, none⟩ = some (.int .u32 x0) := e0
          have g1 : wr.drew.drew.cell? ⟨w.heap.size + 1 + 1 + 1 + 1, 1, none⟩ = some (.int .u32 x1) := e1
          have g2 : wr.drew.drew.cell? ⟨w.heap.size + 1 + 1 + 1 + 1, 2, none⟩ = some (.int .u32 x2) := e2
          have g3 : wr.drew.drew.cell? ⟨w.heap.size + 1 + 1 + 1 + 1, 3, none⟩ = some (.int .u32 x3) := e3
          have g4 : wr.drew.drew.cell? ⟨w.heap.size + 1 + 1 + 1 + 1, 4, none⟩ = some (.int .u32 x4) := e4
          have g5 : wr.drew.drew.cell? ⟨w.heap.size + 1 + 1 + 1 + 1, 5, none⟩ = some (.int .u32 x5) := e5
          have g6 : wr.drew.drew.cell? ⟨w.heap.size + 1 + 1 + 1 + 1, 6, none⟩ = some (.int .u32 x6) := e6
          have g7 : wr.drew.drew.cell? ⟨w.heap.size + 1 + 1 + 1 + 1, 7, none⟩ = some (.int .u32 x7) := e7
          clear e0 e1 e2 e3 e4 e5 e6 e7
          refine wp_region_still_lit (by kernel_rfl) (by kernel_rfl) ?_
          change wpStill _ _ wr.drew.drew _ _ _
          repeat (first | still_step | (still_call (rturn_any _ _ _ (by omega) (by omega) (by omega) (by omega))))
          refine wpStill_nil ?_
          change Exit.then _ _ _ _ wr.drew.drew
          rw [← sum0.eq_1 x0 x1 x2]
          have ⟨t3, t4⟩ := sum0_bd x0 x1 x2
          generalize hT2 : sum0 x0 x1 x2 = T2 at *
          have hvw := vw8 (a := (T1 + T2) % 4294967296) (e := (x3 + T1) % 4294967296) (by omega) (by omega) a0 b0 a1 b1 a2 b2 (by omega) (by omega) a4 b4 a5 b5 a6 b6
          have hnew : roundsN KL W S (t + 1) = [ofI ((T1 + T2) % 4294967296), ofI x0, ofI x1, ofI x2, ofI ((x3 + T1) % 4294967296), ofI x4, ofI x5, ofI x6] := by
            rw [hXs.out]
            unfold roundL
            simp only [hx0, hx1, hx2, hx3, hx4, hx5, hx6, hx7, hkt, hwt, hT1, hT2]
          have aX7 : Arr wr.drew.drew (w.heap.size + 1 + 1 + 1 + 1) 26 X := aX.out
          have aW7 : Arr wr.drew.drew (w.heap.size + 1 + 1 + 1) 187 W := aW.out
          have aR7 : Arr wr.drew.drew (w.heap.size + 1 + 1) 26 (List.replicate 8 0) := aR.out
          have aS7 : Arr wr.drew.drew w.heap.size 26 S := aS.out
          have hb7 : Below w.heap.size w wr.drew.drew := hb.out.drew.drew
          clear hT1 hT2 hx0 hx1 hx2 hx3 hx4 hx5 hx6 hx7 hkt hwt aX aW aR aS hb
          generalize wr.drew.drew = w7 at *
          rw [← hnew] at hvw
          replace hvw := Lib.hid hvw; replace aX7 := Lib.hid aX7; replace aW7 := Lib.hid aW7; replace aR7 := Lib.hid aR7; replace aS7 := Lib.hid aS7; replace hb7 := Lib.hid hb7; replace hnew := Lib.hid hnew
          go_upto_region 18 with fail
          go_wp2_with (refine wpList_store_arr rfl 26 _ _ rfl (w.heap.size + 1 + 1 + 1 + 1) rfl (roundsN KL W S (t + 1)) (by rw [hvw.out]; rfl) aX7.out info23 lX (roundsN_len KL W S hS _) ?_; intro w8 a8 g8; have aW8 := aW7.out.grown g8 (by first | (simp; done) | (simp; omega)); have aR8 := aR7.out.grown g8 (by first | (simp; done) | (simp; omega)); have aS8 := aS7.out.grown g8 (by first | (simp; done) | (simp; omega)); have hb8 := hb7.out.grown g8 hb7.out.size (by first | (simp; done) | (simp; omega)); replace a8 := Lib.hid a8; replace aW8 := Lib.hid aW8; replace aR8 := Lib.hid aR8; replace aS8 := Lib.hid aS8; replace hb8 := Lib.hid hb8)
          exact ⟨⟨t + 1, by omega, by go_num, a8.out, aW8.out, aR8.out, aS8.out, hb8.out⟩, by simp [intOf]; omega⟩
        · obtain rfl : t = 64 := by omega
          have lX := roundsN_len KL W S hS 64
          have hF' := hF.out
          obtain ⟨X, hX⟩ : ∃ X, roundsN KL W S 64 = X := ⟨_, rfl⟩
          rw [hX] at aX lX hF'
          obtain ⟨w4, rfl⟩ : ∃ w4, w4 = wr := ⟨wr, rfl⟩
          clear hX hF hlt ht hK aW
          replace hF' := Lib.hid hF'; replace aX := Lib.hid aX; replace aR := Lib.hid aR; replace aS := Lib.hid aS; replace hb := Lib.hid hb
          go_wp2_with fail
          go_loopw [15] (fun i wr => ∃ k : Nat, k ≤ 8 ∧ i = .int .i64 (k : Int) ∧ Arr wr (w.heap.size + 1 + 1 + 1 + 1) 26 (addN X S k) ∧ Arr wr (w.heap.size + 1 + 1) 26 (List.replicate 8 0) ∧ Arr wr w.heap.size 26 S ∧ Below w.heap.size w wr) (fun i _ => 8 - (intOf i).toNat)
          case atStart => exact ⟨0, by omega, rfl, aX.out, aR.out, aS.out, hb.out⟩
          case round =>
            clear aX aR aS hb
            obtain ⟨k, hk, rfl, aX, aR, aS, hb⟩ := hrel
            have lk := addN_len X S lX k
            by_cases hlt : k < 8
            · have d0 : wr.drew.cell? ⟨w.heap.size + 1 + 1 + 1 + 1, k, none⟩ = _ := aX.cell k (by omega)
              have f0 : wr.drew.frozen? ⟨w.heap.size + 1 + 1 + 1 + 1, k, none⟩ = _ := aX.frozen k
              have s0 : wr.drew.cell? ⟨w.heap.size, k, none⟩ = _ := aS.cell k (by omega)
              have ⟨p1, p2⟩ := wAt_bd (addN X S k) k
              have ⟨q1, q2⟩ := wAt_bd S k
              have hst := aX.set k ((wAt (addN X S k) k + wAt S k) % 4294967296) (by omega) (by omega)
              have hk8 : (k : Int) < 8 := by omega
              replace aX := Lib.hid aX; replace aR := Lib.hid aR; replace aS := Lib.hid aS; replace hb := Lib.hid hb; replace hst := Lib.hid hst
              go_upto_region 22 with fail
              go_region
              go_wp2_with fail
              exact ⟨⟨k + 1, by omega, by go_num, hst.out.1, (aR.out.grown hst.out.2 (by first | (simp; done) | (simp; omega))).drew, (aS.out.grown hst.out.2 (by first | (simp; done) | (simp; omega))).drew, (hb.out.grown hst.out.2 hb.out.size (by simp; omega)).drew⟩, by simp [intOf]; omega⟩
            · obtain rfl : k = 8 := by omega
              rw [← hF'.out] at aX lk
              replace aX := Lib.hid aX; replace aR := Lib.hid aR; replace aS := Lib.hid aS; replace hb := Lib.hid hb
              go_upto_region 23 with fail
              apply wp_region_lit
              refine wpList_load_arr rfl 26 _ rfl (w.heap.size + 1 + 1 + 1 + 1) rfl aX.out Tryz.underlying26 info23 lk ?_
              refine wpList_store_arr rfl 26 _ _ rfl (w.heap.size + 1 + 1) rfl (blockF KL S B) (by rfl) aR.out info23 (by simp) lk ?_
              intro w5 a5 g5
              have hb5 := hb.out.grown g5 hb.out.size (by simp; omega)
              clear aX aR aS hb g5
              go_wp2_with fail
              refine bodyPost_ret (results_arr rfl rfl a5 Tryz.underlying26 info23 lk) rfl ⟨rfl, hb5⟩
end Go.Proofs.YtemanjahkohcpaaGreatDoor
