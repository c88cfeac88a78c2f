/- The contracts of the reference's blockAt, ended, SumBytes. -/
import Derived.Test.YtemanjahkohcpaaDoorRBlkJn
import Derived.Test.YtemanjahkohcpaaDoorJn36
namespace Go.Proofs.YtemanjahkohcpaaDoor
open Go.RowKit WP
/-- the words of a block, the first ones, and a part of the next -/
def blkP (b : List UInt8) (p j k : Nat) : List UInt32 := (List.range 16).map fun n => ofI (if n < j then word4 b (p + n) else if n = j then partI b (p + n) k else 0)
theorem blkP_len (b : List UInt8) (p j k : Nat) : (blkP b p j k).length = 16 := by simp [blkP]
theorem blkP_at (b : List UInt8) (p j k : Nat) (h : j < 16) (hk : k ≤ 4) : wAt (blkP b p j k) j = partI b (p + j) k := by
  unfold wAt blkP
  rw [List.getD_eq_getElem?_getD, List.getElem?_map, List.getElem?_range h]
  simp only [Option.map_some, Option.getD_some, Nat.lt_irrefl, if_false, if_true]
  have := partI_bd b (p + j) k hk
  exact ofI_val _ this.1 this.2.1
theorem blkP_set (b : List UInt8) (p j k : Nat) (h : j < 16) : (blkP b p j k).set j (ofI (partI b (p + j) (k + 1))) = blkP b p j (k + 1) := by
  unfold blkP
  apply List.ext_getElem?
  intro t
  rw [List.getElem?_set, List.getElem?_map, List.getElem?_map]
  by_cases e : j = t
  · subst e
    rw [if_pos rfl, if_pos (by simpa using h), List.getElem?_range h, Option.map_some, if_neg (by omega), if_pos rfl]
  · rw [if_neg e]
    by_cases ht : t < 16
    · rw [List.getElem?_range ht, Option.map_some, Option.map_some]
      rw [if_neg (show ¬ t = j by omega), if_neg (show ¬ t = j by omega)]
    · rw [List.getElem?_eq_none (by simp; omega)]; rfl
theorem blkP_next (b : List UInt8) (p j : Nat) : blkP b p j 4 = blkP b p (j + 1) 0 := by
  unfold blkP
  apply List.map_congr_left
  intro t ht
  by_cases h1 : t < j
  · rw [if_pos h1, if_pos (by omega)]
  · rw [if_neg h1]
    by_cases h2 : t = j
    · rw [if_pos h2, if_pos (by omega), h2, partI_four]
    · rw [if_neg h2, if_neg (by omega)]
      by_cases h3 : t = j + 1
      · rw [if_pos h3]; rfl
      · rw [if_neg h3]
theorem blkP_zero (b : List UInt8) (p : Nat) : blkP b p 0 0 = List.replicate 16 0 := by
  unfold blkP
  apply List.ext_getElem?
  intro t
  rw [List.getElem?_map, List.getElem?_replicate]
  by_cases ht : t < 16
  · rw [List.getElem?_range ht, Option.map_some, if_pos ht, if_neg (by omega)]
    by_cases h : t = 0
    · rw [if_pos h]; rfl
    · rw [if_neg h]; rfl
  · have n1 : (List.range 16)[t]? = none := List.getElem?_eq_none (by rw [List.length_range]; omega)
    rw [n1, if_neg ht]; rfl
theorem blkP_full (b : List UInt8) (p : Nat) (h : 4 * p + 64 ≤ b.length) : blkP b p 16 0 = ((wordsL b).drop p).take 16 := by
  unfold blkP
  apply List.ext_getElem?
  intro t
  rw [List.getElem?_take, List.getElem?_map]
  by_cases ht : t < 16
  · rw [if_pos ht, List.getElem?_range ht, Option.map_some, if_pos ht, List.getElem?_drop]
    unfold wordsL
    rw [List.getElem?_map, List.getElem?_range (by omega)]; rfl
  · have n1 : (List.range 16)[t]? = none := List.getElem?_eq_none (by rw [List.length_range]; omega)
    rw [n1, if_neg ht]; rfl
set_option maxRecDepth 100000 in
set_option maxHeartbeats 4000000 in
theorem rblockat_any (va : Value) (b : List UInt8) (p : Nat) (w : World) (ha : Rd w va (vb b)) (hp : 4 * p + 64 ≤ b.length) (_hl : b.length ≤ 4611686018427387904) :
    Calls Tryd.prog 104 #[va, .int .i64 ((4 * p : Nat) : Int)] w fun e w' => e = .returned (.agg (vw (((wordsL b).drop p).take 16)).toArray) ∧ Below w.heap.size w w' := by
  obtain ⟨ao, ca, rfl, a1, a2, a3⟩ := ha.bytes
  obtain ⟨ba, oa, rfl, hba, hca⟩ := a3.resolve_left (by intro h; rw [h] at hp; simp at hp)
  obtain ⟨P, hP⟩ : ∃ P, 4 * p = P := ⟨_, rfl⟩
  rw [hP]
  go_enter Tryd.func104, Tryd.ntmps104
  go_wp2_with fail
  change Code.wp _ _ _ _ ((w.alloc (.cells (vw (List.replicate 16 0)).toArray 108)).alloc (.cells (vw (List.replicate 16 0)).toArray 108))
  obtain ⟨wz, hwz⟩ : ∃ wz, (w.alloc (.cells (vw (List.replicate 16 0)).toArray 108)).alloc (.cells (vw (List.replicate 16 0)).toArray 108) = wz := ⟨_, rfl⟩
  have aR : Arr wz w.heap.size 108 (List.replicate 16 0) := by rw [← hwz]; exact (Arr.new w _ _).alloc _
  have aW : Arr wz (w.heap.size + 1) 108 (blkP b p 0 0) := by
    rw [← hwz, blkP_zero]
    have := Arr.new (w.alloc (.cells (vw (List.replicate 16 0)).toArray 108)) 108 (List.replicate 16 0)
    simpa using this
  have hb0 : Below w.heap.size w wz := by rw [← hwz]; exact ((Below.refl _ _).alloc (Nat.le_refl _) _).alloc (by simp) _
  rw [hwz]
  clear hwz
  replace aR := Lib.hid aR; replace aW := Lib.hid aW; replace hb0 := Lib.hid hb0; replace hca := Lib.hid hca; replace hP := Lib.hid hP; replace a3 := Lib.hid a3
  go_loopw [6] (fun i wr => ∃ j : Nat, j ≤ 16 ∧ i = .int .i64 (j : Int) ∧ Arr wr (w.heap.size + 1) 108 (blkP b p j 0) ∧ Arr wr w.heap.size 108 (List.replicate 16 0) ∧ Below w.heap.size w wr) (fun i _ => 16 - (intOf i).toNat)
  case atStart => exact ⟨0, by omega, rfl, aW.out, aR.out, hb0.out⟩
  case round =>
    clear aW aR hb0
    obtain ⟨j, hj, rfl, aW, aR, hb⟩ := hrel
    by_cases hlt : j < 16
    · replace aW := Lib.hid aW; replace aR := Lib.hid aR; replace hb := Lib.hid hb
      go_wp2_with fail
      go_loopw [7] (fun i wr => ∃ k : Nat, k ≤ 4 ∧ i = .int .i64 (k : Int) ∧ Arr wr (w.heap.size + 1) 108 (blkP b p j k) ∧ Arr wr w.heap.size 108 (List.replicate 16 0) ∧ Below w.heap.size w wr) (fun i _ => 4 - (intOf i).toNat)
      case atStart => exact ⟨0, by omega, rfl, aW.out, aR.out, hb.out⟩
      case round =>
        clear aW aR hb
        obtain ⟨k, hk, rfl, aW, aR, hb⟩ := hrel
        by_cases hk4 : k < 4
        · obtain ⟨I, hI⟩ : ∃ I : Nat, 4 * (p + j) + k = I := ⟨_, rfl⟩
          have hPo := hP.out
          have em : (P : Int) + 4 * (j : Int) + (k : Int) = (I : Int) := by omega
          have hIl : I < b.length := by omega
          have d0 : wr.drew.cell? ⟨w.heap.size + 1, j, none⟩ = _ := aW.cell j (by rw [blkP_len]; exact hlt)
          have f0 : wr.drew.frozen? ⟨w.heap.size + 1, j, none⟩ = _ := aW.frozen j
          have s0 : wr.drew.cell? ⟨ba, oa + I, none⟩ = _ := (hb.cell (p := ⟨ba, oa + I, none⟩) hba).trans (hca.out I hIl)
          rw [blkP_at b p j k hlt hk] at d0
          have hst := aW.set j (partI b (p + j) (k + 1)) (partI_bd b (p + j) (k + 1) (by omega)).1 (partI_bd b (p + j) (k + 1) (by omega)).2.1
          rw [blkP_set b p j k hlt] at hst
          have hpn : partI b (p + j) (k + 1) = partI b (p + j) k * 256 + bAt b I := by rw [← hI]; rfl
          have hpb := partI_bd b (p + j) k (by omega)
          have hbb := bAt_bd b I
          rw [hpn] at hst
          generalize partI b (p + j) k = x at *
          generalize bAt b I = y at *
          have hx1 := hpb.1
          have hx2 := hpb.2.2 (by omega)
          have hy1 := hbb.1
          have hy2 := hbb.2
          have hj16 : (j : Int) < 16 := by omega
          have hIli : (I : Int) < (b.length : Int) := by omega
          clear hpn hpb hbb
          replace aW := Lib.hid aW; replace aR := Lib.hid aR; replace hb := Lib.hid hb; replace hst := Lib.hid hst; replace hI := Lib.hid hI
          clear hPo
          go_upto_region 8 with fail
          go_region
          go_wp2_with fail
          exact ⟨⟨k + 1, by omega, by go_num, hst.out.1.drew, (aR.out.grown hst.out.2 (by first | (simp; done) | (simp; omega))).drew, (hb.out.grown hst.out.2 hb.out.size (by simp)).drew⟩, by simp [intOf]; omega⟩
        · obtain rfl : k = 4 := by omega
          rw [blkP_next] at aW
          replace aW := Lib.hid aW; replace aR := Lib.hid aR; replace hb := Lib.hid hb
          go_wp2_with fail
          go_roundw
          case rel => exact ⟨j + 1, by omega, by go_num, aW.out, aR.out, hb.out⟩
          case measure => simp [intOf]; omega
    · obtain rfl : j = 16 := by omega
      rw [blkP_full b p hp] at aW
      have ll : (((wordsL b).drop p).take 16).length = 16 := by rw [← blkP_full b p hp]; exact blkP_len _ _ _ _
      generalize hl : ((wordsL b).drop p).take 16 = l at *
      replace hl := Lib.hid hl
      replace aW := Lib.hid aW; replace aR := Lib.hid aR; replace hb := Lib.hid hb
      go_upto_region 9 with fail
      apply wp_region_lit
      refine wpList_load_arr rfl 108 _ rfl (w.heap.size + 1) rfl aW.out Tryd.underlying108 info108 ll ?_
      refine wpList_store_arr rfl 108 _ _ rfl w.heap.size rfl l (by rfl) aR.out info108 (by simp) ll ?_
      intro w5 a5 g5
      have hb5 := hb.out.grown g5 hb.out.size (by simp)
      clear aW aR hb g5
      go_wp2_with fail
      refine bodyPost_ret (results_arr rfl rfl a5 Tryd.underlying108 info108 ll) rfl ⟨by rw [hl.out], hb5⟩
end Go.Proofs.YtemanjahkohcpaaDoor
