/- The contract of sha's schedule. -/
import Derived.Test.YtemanjahkohcpaaDoorAArr
namespace Go.Proofs.YtemanjahkohcpaaDoor
open Go.RowKit WP
/-- the word at place t, of those ahead of it -/
def mix (x16 x15 x7 x2 : Int) : Int :=
  (x16 + bits .xor .u32 (bits .xor .u32 (sr x15 7) (sr x15 18)) (x15 / 8) + x7 + bits .xor .u32 (bits .xor .u32 (sr x2 17) (sr x2 19)) (x2 / 1024)) % 4294967296
theorem mix_bd (a b c d : Int) : 0 ≤ mix a b c d ∧ mix a b c d ≤ 4294967295 := by unfold mix; omega
def nextW (l : List UInt32) (t : Nat) : Int := mix (wAt l (t - 16)) (wAt l (t - 15)) (wAt l (t - 7)) (wAt l (t - 2))
theorem nextW_bd (l : List UInt32) (t : Nat) : 0 ≤ nextW l t ∧ nextW l t ≤ 4294967295 := mix_bd _ _ _ _
def schedN (B : List UInt32) : Nat → List UInt32
  | 0 => B ++ List.replicate 48 0
  | k + 1 => (schedN B k).set (16 + k) (ofI (nextW (schedN B k) (16 + k)))
theorem schedN_len (B : List UInt32) (hB : B.length = 16) (k : Nat) : (schedN B k).length = 64 := by
  induction k with
  | zero => simp [schedN, hB]
  | succ k ih => simp [schedN, ih]
theorem info138 : (Tryd.prog.info? 138).map (·.size) = some 64 := by kernel_rfl
theorem info108 : (Tryd.prog.info? 108).map (·.size) = some 16 := by kernel_rfl
theorem infoU32 : (Tryd.prog.info? 22).map (·.size) = some 1 := by kernel_rfl
set_option maxRecDepth 100000 in
set_option maxHeartbeats 2000000 in
theorem schedule_any (B : List UInt32) (w : World) (hB : B.length = 16) :
    Calls Tryd.prog 75 #[.agg (vw B).toArray] w fun e w' => e = .returned (.agg (vw (schedN B 48)).toArray) ∧ Below w.heap.size w w' := by
  go_enter Tryd.func75, Tryd.ntmps75
  go_upto_region 2 with fail
  change Code.wp _ _ _ _ (((w.alloc (.cells (vw B).toArray 108)).alloc (.cells (vw (List.replicate 64 0)).toArray 138)).alloc (.cells (vw (List.replicate 64 0)).toArray 138))
  obtain ⟨wz, hwz⟩ : ∃ wz, ((w.alloc (.cells (vw B).toArray 108)).alloc (.cells (vw (List.replicate 64 0)).toArray 138)).alloc (.cells (vw (List.replicate 64 0)).toArray 138) = wz := ⟨_, rfl⟩
  have aB : Arr wz w.heap.size 108 B := by rw [← hwz]; exact ((Arr.new w _ B).alloc _).alloc _
  have aR : Arr wz (w.heap.size + 1) 138 (List.replicate 64 0) := by
    rw [← hwz]
    have := (Arr.new (w.alloc (.cells (vw B).toArray 108)) 138 (List.replicate 64 0)).alloc (.cells (vw (List.replicate 64 0)).toArray 138)
    simpa using this
  have aW : Arr wz (w.heap.size + 1 + 1) 138 (List.replicate 64 0) := by
    rw [← hwz]
    have := Arr.new ((w.alloc (.cells (vw B).toArray 108)).alloc (.cells (vw (List.replicate 64 0)).toArray 138)) 138 (List.replicate 64 0)
    simpa using this
  have hb0 : Below w.heap.size w wz := by rw [← hwz]; exact (((Below.refl _ _).alloc (Nat.le_refl _) _).alloc (by simp) _).alloc (by simp; omega) _
  rw [hwz]
  clear hwz
  replace aB := Lib.hid aB; replace aR := Lib.hid aR; replace aW := Lib.hid aW; replace hb0 := Lib.hid hb0
  have hsrc : ∀ j v, (vw B)[j]? = some v → wz.drew.cell? ((⟨w.heap.size, 0, none⟩ : Addr).add j) = some v := World.news_of_block (cs := (vw B).toArray) aB.out
  replace hsrc := Lib.hid hsrc
  go_region_law (refine step_copy_splice (by rfl) (.tmp 7) (.tmp 8) _ _ (by rfl) 22 Tryd.underlying25 infoU32 _ _ _ _ _ _ (by rfl) (by rfl) (w.heap.size + 1 + 1) 0 (vw (List.replicate 64 0)) 138 aW.out (vw B) (by simp [hB]) (fun _ => ⟨rfl, _, rfl, hsrc.out⟩) (by simp [hB]) (vw_oneCell B) (w.heap.size + 1 + 1) wz (Below.refl _ wz).drew (Nat.le_refl _) ?_; intro w1 h1 b1)
  have aW1 : Arr w1 (w.heap.size + 1 + 1) 138 (schedN B 0) := by
    have := h1
    have e : splice (vw (List.replicate 64 0)) 0 (vw B) = vw (schedN B 0) := by
      unfold splice schedN
      rw [vw_append, List.take_zero, List.nil_append, vw_zeros, vw_zeros]
      simp [hB]
    rw [e] at this
    exact this
  have aR1 := aR.out.belowB b1 (by omega)
  have hb1 := hb0.out.trans (b1.mono (by omega))
  clear h1 b1 aW aR aB hb0 hsrc
  replace aW1 := Lib.hid aW1; replace aR1 := Lib.hid aR1; replace hb1 := Lib.hid hb1
  go_wp2_with fail
  go_loopw [4, 5, 6] (fun i _ _ wr => ∃ k : Nat, k ≤ 48 ∧ i = .int .i64 ((16 + k : Nat) : Int) ∧ Arr wr (w.heap.size + 1 + 1) 138 (schedN B k) ∧ Arr wr (w.heap.size + 1) 138 (List.replicate 64 0) ∧ Below w.heap.size w wr) (fun i _ _ _ => 64 - (intOf i).toNat)
  case atStart => exact ⟨0, by omega, rfl, aW1.out, aR1.out, hb1.out⟩
  case round =>
    obtain ⟨k, hk, rfl, aW, aR, hb⟩ := hrel
    have ls := schedN_len B hB k
    by_cases hlt : k < 48
    · obtain ⟨t, ht⟩ : ∃ t, t = 16 + k := ⟨_, rfl⟩
      rw [← ht]
      have d15 := aW.cell (t - 15) (by omega)
      have d2 := aW.cell (t - 2) (by omega)
      have d16 := aW.cell (t - 16) (by omega)
      have d7 := aW.cell (t - 7) (by omega)
      have d0 := aW.cell t (by omega)
      have f0 := aW.frozen t
      have e15 : ((t : Int) - 15) = ((t - 15 : Nat) : Int) := by omega
      have e2 : ((t : Int) - 2) = ((t - 2 : Nat) : Int) := by omega
      have e16 : ((t : Int) - 16) = ((t - 16 : Nat) : Int) := by omega
      have e7 : ((t : Int) - 7) = ((t - 7 : Nat) : Int) := by omega
      have ⟨p1, p2⟩ := wAt_bd (schedN B k) (t - 15)
      have ⟨q1, q2⟩ := wAt_bd (schedN B k) (t - 2)
      have ht64 : t < 64 := by omega
      have ht16 : 16 ≤ t := by omega
      replace aW := Lib.hid aW; replace aR := Lib.hid aR; replace hb := Lib.hid hb; replace ht := Lib.hid ht; replace ls := Lib.hid ls
      go_upto_region 6 with fail
      go_quiet (fail)
      obtain ⟨wq, hwq⟩ : ∃ wq, wr.drewN nq = wq := ⟨_, rfl⟩
      have aWq : Arr wq (w.heap.size + 1 + 1) 138 (schedN B k) := by rw [← hwq]; exact aW.out
      have aRq : Arr wq (w.heap.size + 1) 138 (List.replicate 64 0) := by rw [← hwq]; exact aR.out
      have hbq : Below w.heap.size w wq := by rw [← hwq]; exact below_drewN hb.out _
      rw [hwq]
      have d16 := aWq.drew.cell (t - 16) (by rw [ls.out]; omega)
      have d7 := aWq.drew.cell (t - 7) (by rw [ls.out]; omega)
      have d0 := aWq.drew.cell t (by rw [ls.out]; omega)
      have f0 := aWq.drew.frozen t
      have w16 : IntKind.i64.wrap ((t - 16 : Nat) : Int) = ((t - 16 : Nat) : Int) := IntWalk.i64_in _ (by omega)
      have w7 : IntKind.i64.wrap ((t - 7 : Nat) : Int) = ((t - 7 : Nat) : Int) := IntWalk.i64_in _ (by omega)
      have b16 : ((t - 16 : Nat) : Int) < 64 := by omega
      have b7 : ((t - 7 : Nat) : Int) < 64 := by omega
      have b0 : (t : Int) < 64 := by omega
      have n16 : t - 16 < 64 := by omega
      have n7 : t - 7 < 64 := by omega
      have hnx : nextW (schedN B k) t = mix (wAt (schedN B k) (t - 16)) (wAt (schedN B k) (t - 15)) (wAt (schedN B k) (t - 7)) (wAt (schedN B k) (t - 2)) := rfl
      replace hnx := Lib.hid hnx
      generalize wAt (schedN B k) (t - 15) = x15 at *
      generalize wAt (schedN B k) (t - 2) = x2 at *
      generalize wAt (schedN B k) (t - 16) = x16 at *
      generalize wAt (schedN B k) (t - 7) = x7 at *
      clear d15 d2 hwq aW aR hb
      replace aWq := Lib.hid aWq; replace aRq := Lib.hid aRq; replace hbq := Lib.hid hbq
      go_upto_region 7 with fail
      refine wp_region_still_tail 29 (by kernel_rfl) (by kernel_rfl) ?_
      simp only [List.take_succ_cons, List.take_zero, List.drop_succ_cons, List.drop_zero]
      change wpStill _ _ wq.drew _ _ _
      repeat (first | still_step | (still_call (sright_any _ _ _ (by omega) (by omega) (by omega) (by omega))))
      refine wpStill_nil ?_
      change wpList _ _ _ _ _ wq.drew
      go_wp2_with fail
      have hst := aWq.out.set t (mix x16 x15 x7 x2) (mix_bd _ _ _ _).1 (mix_bd _ _ _ _).2
      refine ⟨⟨k + 1, by omega, by have := ht.out; go_num, ?_, (aRq.out.grown hst.2 (by simp)).drew, (hbq.out.grown hst.2 hbq.out.size (by simp; omega)).drew⟩, by have := ht.out; simp [intOf]; omega⟩
      show Arr _ _ _ ((schedN B k).set (16 + k) (ofI (nextW (schedN B k) (16 + k))))
      rw [← ht.out, hnx.out]
      exact hst.1
    · obtain rfl : k = 48 := by omega
      replace aW := Lib.hid aW; replace aR := Lib.hid aR; replace hb := Lib.hid hb
      go_upto_region 8 with fail
      apply wp_region_lit
      refine wpList_load_arr rfl 138 _ rfl (w.heap.size + 1 + 1) rfl aW.out Tryd.underlying138 info138 ls ?_
      refine wpList_store_arr rfl 138 _ _ rfl (w.heap.size + 1) rfl (schedN B 48) (by rfl) aR.out info138 (by simp) ls ?_
      intro w2 a2 g2
      have hb2 := hb.out.grown g2 hb.out.size (by simp)
      clear aW aR hb g2
      go_wp2_with fail
      refine bodyPost_ret (results_arr rfl rfl a2 Tryd.underlying138 info138 ls) rfl ⟨rfl, hb2⟩
end Go.Proofs.YtemanjahkohcpaaDoor
