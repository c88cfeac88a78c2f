/- The contract of mac's Tag, for keys of at most a block. -/
import Derived.Test.YtemanjahkohcpaaDoorAMacN
namespace Go.Proofs.YtemanjahkohcpaaDoor
open Go.RowKit WP
set_option maxRecDepth 100000 in
set_option maxHeartbeats 2000000 in
theorem mtag_any (KL : List UInt32) (va vm : Value) (k msg : List UInt32) (w : World) (hK : Rounds w KL) (ha : Rd w va (vw k)) (hm : Rd w vm (vw msg)) (hmb : ∀ j, vm.ownBlock = some j → j < w.heap.size) (hk : k.length ≤ 16) (hl : msg.length ≤ 4294967296) :
    Calls Tryd.prog 9 #[va, vm] w fun e w' => e = .returned (.agg (vw (tagF KL (bytesL k) msg)).toArray) ∧ Below w.heap.size w w' := by
  obtain ⟨oa, ca, rfl, a1, a2, _⟩ := ha.words
  obtain ⟨om, cm, rfl, m1, m2, _⟩ := hm.words
  have aN : Arr (w.alloc (.cells (vw (List.replicate 8 0)).toArray 23)) w.heap.size 23 (List.replicate 8 0) := Arr.new _ _ _
  have hb1 : Below w.heap.size w (w.alloc (.cells (vw (List.replicate 8 0)).toArray 23)) := (Below.refl _ _).alloc (Nat.le_refl _) _
  obtain ⟨w1, hw1⟩ : ∃ w1, w.alloc (.cells (vw (List.replicate 8 0)).toArray 23) = w1 := ⟨_, rfl⟩
  rw [hw1] at aN hb1
  have hK1 := hK.below hb1
  have ha1 := ha.mono hb1
  have hm1 := hm.mono hb1
  have h3 := hK.1
  have hs1 : w.heap.size < w1.heap.size := aN.lt
  clear hK ha hm
  replace aN := Lib.hid aN; replace hb1 := Lib.hid hb1; replace hK1 := Lib.hid hK1; replace ha1 := Lib.hid ha1; replace hm1 := Lib.hid hm1; replace hmb := Lib.hid hmb
  go_enter Tryd.func9, Tryd.ntmps9
  go_upto_region 1 with fail
  change Code.wp _ _ _ _ (w.alloc (.cells (vw (List.replicate 8 0)).toArray 23))
  rw [hw1]
  clear hw1
  go_wp2_with fail
  refine (mnew_any KL _ k _ hK1.out ha1.out hk).mono ?_
  rintro e w2 ⟨m, g1, g2, v1, v2, rfl, hM, b2⟩
  have c02 := hM.c0
  have aR2 := aN.out.below b2
  have hm2 := hm1.out.mono b2
  have hK2 := hK1.out.below b2
  have hb2 := hb1.out.trans (b2.mono hb1.out.size)
  have e1 := hM.b1.base
  have e2 := hM.b2.base
  have e3 := hM.ne
  have e4 := hM.m1
  have e5 := hM.lt
  clear b2 aN hm1 hK1 hb1 ha1
  replace hM := Lib.hid hM; replace aR2 := Lib.hid aR2; replace hm2 := Lib.hid hm2; replace hK2 := Lib.hid hK2; replace hb2 := Lib.hid hb2
  go_wp2_with fail
  refine (add_any KL _ (remB (padW (bytesL k) 54)) msg 16 v1 _ g1 _ hK2.out (by omega) hM.out.b1.dig hM.out.b1.rd (fun e => Nat.lt_irrefl _ (hM.out.b1.far _ e)) hm2.out (fun e => by have := hmb.out _ e; omega) (by omega) (by omega) (by have := remB_len (padW (bytesL k) 54); omega) hl).mono ?_
  rintro e w3 ⟨rfl, v3, hd3, hr3, hf3, g13⟩
  have B23 := hM.out.b2.grown g13 (by simp; omega) (fun e => by have := hM.out.b2.far _ e; omega)
  have c03 := g13.cell hM.out.c0 (by simp; omega)
  have c13 := g13.cell hM.out.c1 (by simp; omega)
  have aR3 := aR2.out.grown g13 (by simp; omega)
  have hK3 := hK2.out.grown g13 (by simp; omega)
  have hb3 := hb2.out.grown g13 hb2.out.size (by intro j hj; simp at hj; omega)
  clear g13 hM aR2 hm2 hK2 hb2 c02 hf3
  replace B23 := Lib.hid B23; replace aR3 := Lib.hid aR3; replace hK3 := Lib.hid hK3; replace hb3 := Lib.hid hb3; replace hd3 := Lib.hid hd3; replace hr3 := Lib.hid hr3
  have hT : outerF KL (bytesL k) (sumF KL (foldB KL (foldB KL firstL (padW (bytesL k) 54)) (remB (padW (bytesL k) 54) ++ msg)) (remB (remB (padW (bytesL k) 54) ++ msg)) (16 + msg.length)) = tagF KL (bytesL k) msg := rfl
  have lO := Lib.hid (tagF_len KL (bytesL k) msg)
  replace hT := Lib.hid hT
  go_wp2_with fail
  refine (mactag_any KL (bytesL k) _ _ _ m g1 g2 v3 v2 _ hK3.out c03 c13 hd3.out hr3.out (remB_len _) (by omega) (by omega) _ B23.out).mono ?_
  rintro e w4 ⟨rfl, b4⟩
  rw [hT.out]
  have aR4 := Lib.hid (aR3.out.below b4)
  have hb4 := Lib.hid (hb3.out.trans (b4.mono hb3.out.size))
  clear b4 aR3 hK3 hb3 hd3 hr3 B23
  go_wp2_with (refine wpList_store_arr rfl 23 _ _ rfl w.heap.size rfl (tagF KL (bytesL k) msg) rfl aR4.out info23 (by simp) lO.out ?_; intro w7 a7 g7; have hb7 := hb4.out.grown g7 hb4.out.size (by simp))
  refine bodyPost_ret (results_arr rfl rfl a7 Tryd.underlying23 info23 lO.out) rfl ⟨rfl, hb7⟩
end Go.Proofs.YtemanjahkohcpaaDoor
