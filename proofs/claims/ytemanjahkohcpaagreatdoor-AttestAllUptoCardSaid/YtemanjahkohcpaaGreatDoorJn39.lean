/- The contracts of the reference's blockAt, ended, SumBytes. The contracts of the reference's ended and SumBytes. -/
import Derived.Test.YtemanjahkohcpaaGreatDoorRBlkJn
import Derived.Test.YtemanjahkohcpaaGreatDoorJn36
import Derived.Test.YtemanjahkohcpaaGreatDoorJn37
namespace Go.Proofs.YtemanjahkohcpaaGreatDoor
open Go.RowKit WP
/-- the words of a block, the first ones, and a part of the next -/
def blkP (b : List UInt8) (p j k : Nat) : List UInt32 := (List.range 16).map fun n => ofI (if n < j then word4 b (p + n) else if n = j then partI b (p + n) k else 0)
theorem blkP_len (b : List UInt8) (p j k : Nat) : (blkP b p j k).length = 16 := by simp [blkP]
theorem blkP_at (b : List UInt8) (p j k : Nat) (h : j < 16) (hk : k ≤ 4) : wAt (blkP b p j k) j = partI b (p + j) k := by
  unfold wAt blkP
  rw [List.getD_eq_getElem?_getD, List.getElem?_map, List.getElem?_range h]
  simp only [Option.map_some, Option.getD_some, Nat.lt_irrefl, if_false, if_true]
  have := partI_bd b (p + j) k hk
  exact ofI_val _ this.1 this.2.1
theorem blkP_set (b : List UInt8) (p j k : Nat) (h : j < 16) : (blkP b p j k).set j (ofI (partI b (p + j) (k + 1))) = blkP b p j (k + 1) := by
  unfold blkP
  apply List.ext_getElem?
  intro t
  rw [List.getElem?_set, List.getElem?_map, List.getElem?_map]
  by_cases e : j = t
  · subst e
    rw [if_pos rfl, if_pos (by simpa using h), List.getElem?_range h, Option.map_some, if_neg (by omega), if_pos rfl]
  · rw [if_neg e]
    by_cases ht : t < 16
    · rw [List.getElem?_range ht, Option.map_some, Option.map_some]
      rw [if_neg (show ¬ t = j by omega), if_neg (show ¬ t = j by omega)]
    · rw [List.getElem?_eq_none (by simp; omega)]; rfl
theorem blkP_next (b : List UInt8) (p j : Nat) : blkP b p j 4 = blkP b p (j + 1) 0 := by
  unfold blkP
  apply List.map_congr_left
  intro t ht
  by_cases h1 : t < j
  · rw [if_pos h1, if_pos (by omega)]
  · rw [if_neg h1]
    by_cases h2 : t = j
    · rw [if_pos h2, if_pos (by omega), h2, partI_four]
    · rw [if_neg h2, if_neg (by omega)]
      by_cases h3 : t = j + 1
      · rw [if_pos h3]; rfl
      · rw [if_neg h3]
theorem blkP_zero (b : List UInt8) (p : Nat) : blkP b p 0 0 = List.replicate 16 0 := by
  unfold blkP
  apply List.ext_getElem?
  intro t
  rw [List.getElem?_map, List.getElem?_replicate]
  by_cases ht : t < 16
  · rw [List.getElem?_range ht, Option.map_some, if_pos ht, if_neg (by omega)]
    by_cases h : t = 0
    · rw [if_pos h]; rfl
    · rw [if_neg h]; rfl
  · have n1 : (List.range 16)[t]? = none := List.getElem?_eq_none (by rw [List.length_range]; omega)
    rw [n1, if_neg ht]; rfl
theorem blkP_full (b : List UInt8) (p : Nat) (h : 4 * p + 64 ≤ b.length) : blkP b p 16 0 = ((wordsL b).drop p).take 16 := by
  unfold blkP
  apply List.ext_getElem?
  intro t
  rw [List.getElem?_take, List.getElem?_map]
  by_cases ht : t < 16
  · rw [if_pos ht, List.getElem?_range ht, Option.map_some, if_pos ht, List.getElem?_drop]
    unfold wordsL
    rw [List.getElem?_map, List.getElem?_range (by omega)]; rfl
  · have n1 : (List.range 16)[t]? = none := List.getElem?_eq_none (by rw [List.length_range]; omega)
    rw [n1, if_neg ht]; rfl
set_option maxRecDepth 100000 in
set_option maxHeartbeats 4000000 in
theorem rblockat_any (va : Value) (b : List UInt8) (p : Nat) (w : World) (ha : Rd w va (vb b)) (hp : 4 * p + 64 ≤ b.length) (_hl : b.length ≤ 4611686018427387904) :
    Calls Tryz.prog 100 #[va, .int .i64 ((4 * p : Nat) : Int)] w fun e w' => e = .returned (.agg (vw (((wordsL b).drop p).take 16)).toArray) ∧ Below w.heap.size w w' := by
  obtain ⟨ao, ca, rfl, a1, a2, a3⟩ := ha.bytes
  obtain ⟨ba, oa, rfl, hba, hca⟩ := a3.resolve_left (by intro h; rw [h] at hp; simp at hp)
  obtain ⟨P, hP⟩ : ∃ P, 4 * p = P := ⟨_, rfl⟩
  rw [hP]
  go_enter Tryz.func100, Tryz.ntmps100
  go_wp2_with fail
  change Code.wp _ _ _ _ ((w.alloc (.cells (vw (List.replicate 16 0)).toArray 171)).alloc (.cells (vw (List.replicate 16 0)).toArray 171))
  obtain ⟨wz, hwz⟩ : ∃ wz, (w.alloc (.cells (vw (List.replicate 16 0)).toArray 171)).alloc (.cells (vw (List.replicate 16 0)).toArray 171) = wz := ⟨_, rfl⟩
  have aR : Arr wz w.heap.size 171 (List.replicate 16 0) := by rw [← hwz]; exact (Arr.new w _ _).alloc _
  have aW : Arr wz (w.heap.size + 1) 171 (blkP b p 0 0) := by
    rw [← hwz, blkP_zero]
    have := Arr.new (w.alloc (.cells (vw (List.replicate 16 0)).toArray 171)) 171 (List.replicate 16 0)
    simpa using this
  have hb0 : Below w.heap.size w wz := by rw [← hwz]; exact ((Below.refl _ _).alloc (Nat.le_refl _) _).alloc (by simp) _
  rw [hwz]
  clear hwz
  replace aR := Lib.hid aR; replace aW := Lib.hid aW; replace hb0 := Lib.hid hb0; replace hca := Lib.hid hca; replace hP := Lib.hid hP; replace a3 := Lib.hid a3
  go_loopw [6] (fun i wr => ∃ j : Nat, j ≤ 16 ∧ i = .int .i64 (j : Int) ∧ Arr wr (w.heap.size + 1) 171 (blkP b p j 0) ∧ Arr wr w.heap.size 171 (List.replicate 16 0) ∧ Below w.heap.size w wr) (fun i _ => 16 - (intOf i).toNat)
  case atStart => exact ⟨0, by omega, rfl, aW.out, aR.out, hb0.out⟩
  case round =>
    clear aW aR hb0
    obtain ⟨j, hj, rfl, aW, aR, hb⟩ := hrel
    by_cases hlt : j < 16
    · replace aW := Lib.hid aW; replace aR := Lib.hid aR; replace hb := Lib.hid hb
      go_wp2_with fail
      go_loopw [7] (fun i wr => ∃ k : Nat, k ≤ 4 ∧ i = .int .i64 (k : Int) ∧ Arr wr (w.heap.size + 1) 171 (blkP b p j k) ∧ Arr wr w.heap.size 171 (List.replicate 16 0) ∧ Below w.heap.size w wr) (fun i _ => 4 - (intOf i).toNat)
      case atStart => exact ⟨0, by omega, rfl, aW.out, aR.out, hb.out⟩
      case round =>
        clear aW aR hb
        obtain ⟨k, hk, rfl, aW, aR, hb⟩ := hrel
        by_cases hk4 : k < 4
        · obtain ⟨I, hI⟩ : ∃ I : Nat, 4 * (p + j) + k = I := ⟨_, rfl⟩
          have hPo := hP.out
          have em : (P : Int) + 4 * (j : Int) + (k : Int) = (I : Int) := by omega
          have hIl : I < b.length := by omega
          have d0 : wr.drew.cell? ⟨w.heap.size + 1, j, none⟩ = _ := aW.cell j (by rw [blkP_len]; exact hlt)
          have f0 : wr.drew.frozen? ⟨w.heap.size + 1, j, none⟩ = _ := aW.frozen j
          have s0 : wr.drew.cell? ⟨ba, oa + I, none⟩ = _ := (hb.cell (p := ⟨ba, oa + I, none⟩) hba).trans (hca.out I hIl)
          rw [blkP_at b p j k hlt hk] at d0
          have hst := aW.set j (partI b (p + j) (k + 1)) (partI_bd b (p + j) (k + 1) (by omega)).1 (partI_bd b (p + j) (k + 1) (by omega)).2.1
          rw [blkP_set b p j k hlt] at hst
          have hpn : partI b (p + j) (k + 1) = partI b (p + j) k * 256 + bAt b I := by rw [← hI]; rfl
          have hpb := partI_bd b (p + j) k (by omega)
          have hbb := bAt_bd b I
          rw [hpn] at hst
          generalize partI b (p + j) k = x at *
          generalize bAt b I = y at *
          have hx1 := hpb.1
          have hx2 := hpb.2.2 (by omega)
          have hy1 := hbb.1
          have hy2 := hbb.2
          have hj16 : (j : Int) < 16 := by omega
          have hIli : (I : Int) < (b.length : Int) := by omega
          clear hpn hpb hbb
          replace aW := Lib.hid aW; replace aR := Lib.hid aR; replace hb := Lib.hid hb; replace hst := Lib.hid hst; replace hI := Lib.hid hI
          clear hPo
          go_upto_region 8 with fail
          go_region
          go_wp2_with fail
          exact ⟨⟨k + 1, by omega, by go_num, hst.out.1.drew, (aR.out.grown hst.out.2 (by first | (simp; done) | (simp; omega))).drew, (hb.out.grown hst.out.2 hb.out.size (by simp)).drew⟩, by simp [intOf]; omega⟩
        · obtain rfl : k = 4 := by omega
          rw [blkP_next] at aW
          replace aW := Lib.hid aW; replace aR := Lib.hid aR; replace hb := Lib.hid hb
          go_wp2_with fail
          go_roundw
          case rel => exact ⟨j + 1, by omega, by go_num, aW.out, aR.out, hb.out⟩
          case measure => simp [intOf]; omega
    · obtain rfl : j = 16 := by omega
      rw [blkP_full b p hp] at aW
      have ll : (((wordsL b).drop p).take 16).length = 16 := by rw [← blkP_full b p hp]; exact blkP_len _ _ _ _
      generalize hl : ((wordsL b).drop p).take 16 = l at *
      replace hl := Lib.hid hl
      replace aW := Lib.hid aW; replace aR := Lib.hid aR; replace hb := Lib.hid hb
      go_upto_region 9 with fail
      apply wp_region_lit
      refine wpList_load_arr rfl 171 _ rfl (w.heap.size + 1) rfl aW.out Tryz.underlying171 info108 ll ?_
      refine wpList_store_arr rfl 171 _ _ rfl w.heap.size rfl l (by rfl) aR.out info108 (by simp) ll ?_
      intro w5 a5 g5
      have hb5 := hb.out.grown g5 hb.out.size (by simp)
      clear aW aR hb g5
      go_wp2_with fail
      refine bodyPost_ret (results_arr rfl rfl a5 Tryz.underlying171 info108 ll) rfl ⟨by rw [hl.out], hb5⟩
end Go.Proofs.YtemanjahkohcpaaGreatDoor

namespace Go.Proofs.YtemanjahkohcpaaGreatDoor
open Go.RowKit WP
/-- the bytes so far, the state, the result's place -/
structure En (w0 wx : World) (S : List UInt32) (v : Value) (l : List UInt8) : Prop where
  own : wx.ownsRow (w0.heap.size + 2) 5 1 v l.length (vb l)
  aS : Arr wx w0.heap.size 26 S
  aR : Arr wx (w0.heap.size + 1) 26 (List.replicate 8 0)
  hb : Below w0.heap.size w0 wx
  size : w0.heap.size + 2 ≤ wx.heap.size
theorem own_not {w : World} {B s n g : Nat} {e : TypeId} {v : Value} {xs : List Value} (h : w.ownsRow B e s v n xs) (hg : g < B) : some g ≠ v.ownBlock := by
  intro e
  have := (h.lt g e.symm).1
  omega
theorem En.app {w0 wx w2 : World} {S : List UInt32} {v v' : Value} {l l' : List UInt8} (h : En w0 wx S v l) (hg : wx.grownBy w2 v.ownBlock) (ho : w2.ownsRow (w0.heap.size + 2) 5 1 v' l'.length (vb l')) : En w0 w2 S v' l' :=
  ⟨ho, h.aS.grown hg (own_not h.own (by omega)), h.aR.grown hg (own_not h.own (by omega)), h.hb.grown hg (Nat.le_trans (by omega) h.size) (fun k hk => by have := (h.own.lt k hk).1; omega), Nat.le_trans h.size hg.size⟩
theorem En.appA {w0 wx w2 : World} {S : List UInt32} {v v' : Value} {l l' : List UInt8} (h : En w0 wx S v l) (o : Obj) (hg : (wx.alloc o).grownBy w2 v.ownBlock) (ho : w2.ownsRow (w0.heap.size + 2) 5 1 v' l'.length (vb l')) : En w0 w2 S v' l' :=
  h.app (grownBy_trans (World.grownBy_alloc wx o _) hg (.inl rfl)) ho
theorem own_later {w w2 : World} {B s n : Nat} {e : TypeId} {v : Value} {xs : List Value} (h : w.ownsRow B e s v n xs) (hb : Below w.heap.size w w2) : w2.ownsRow B e s v n xs :=
  h.kept (row := none) ⟨hb.os, hb.tape, hb.output, hb.size, fun k hk _ => hb.block k hk⟩ (by cases v.ownBlock <;> simp)
theorem En.later {w0 wx w2 : World} {S : List UInt32} {v : Value} {l : List UInt8} (h : En w0 wx S v l) (hb : Below wx.heap.size wx w2) : En w0 w2 S v l :=
  ⟨own_later h.own hb, h.aS.below hb, h.aR.below hb, h.hb.trans (hb.mono (by have := h.size; omega)), Nat.le_trans h.size hb.size⟩
theorem En.state {w0 wx w2 : World} {S S' : List UInt32} {v : Value} {l : List UInt8} (h : En w0 wx S v l) (hg : wx.grownBy w2 (some w0.heap.size)) (ha : Arr w2 w0.heap.size 26 S') : En w0 w2 S' v l :=
  ⟨h.own.kept hg (.inr fun e => own_not h.own (by omega) e.symm), ha, h.aR.grown hg (by simp), h.hb.grown hg (Nat.le_trans (by omega) h.size) (by simp), Nat.le_trans h.size hg.size⟩
theorem storeCells_whole {P : Program} {w : World} {g : Nat} {t : TypeId} {l : List UInt32} (h : Arr w g t l) (l' : List UInt32) (hl : l'.length = l.length) : (storeCells ⟨g, 0, none⟩ (vw l')).run P w = .ok () (w.setRow g (vw l').toArray) := by
  have := run_storeCells_from (P := P) g t (vw l') 0 (vw l).toArray w h (by simp [hl]) (vw_oneCell l')
  simpa using this
theorem En.cells {w0 wx : World} {S : List UInt32} {v : Value} {l : List UInt8} (h : En w0 wx S v l) (h8 : S.length = 8) : wx.cell? ⟨w0.heap.size, 0, none⟩ = some (.int .u32 (wAt S 0)) ∧ wx.cell? ⟨w0.heap.size, 1, none⟩ = some (.int .u32 (wAt S 1)) ∧ wx.cell? ⟨w0.heap.size, 2, none⟩ = some (.int .u32 (wAt S 2)) ∧ wx.cell? ⟨w0.heap.size, 3, none⟩ = some (.int .u32 (wAt S 3)) ∧ wx.cell? ⟨w0.heap.size, 4, none⟩ = some (.int .u32 (wAt S 4)) ∧ wx.cell? ⟨w0.heap.size, 5, none⟩ = some (.int .u32 (wAt S 5)) ∧ wx.cell? ⟨w0.heap.size, 6, none⟩ = some (.int .u32 (wAt S 6)) ∧ wx.cell? ⟨w0.heap.size, 7, none⟩ = some (.int .u32 (wAt S 7)) :=
  ⟨h.aS.cell 0 (by omega), h.aS.cell 1 (by omega), h.aS.cell 2 (by omega), h.aS.cell 3 (by omega), h.aS.cell 4 (by omega), h.aS.cell 5 (by omega), h.aS.cell 6 (by omega), h.aS.cell 7 (by omega)⟩
theorem byte_of (n m : Nat) (c : Int) (hc : 7 - (m : Int) = c) (hm : m < 8) : (n : Int) * 8 / 2 ^ (8 * c).toNat % 256 = (((UInt8.ofNat (8 * n / 256 ^ (7 - m) % 256)).toNat : Nat) : Int) := by
  have e1 : (8 * c).toNat = 8 * (7 - m) := by omega
  have e2 : ((2 : Int) ^ (8 * (7 - m))) = ((256 ^ (7 - m) : Nat) : Int) := by
    rw [show (2 : Int) = ((2 : Nat) : Int) from rfl, ← Int.natCast_pow, Nat.pow_mul]
  rw [e1, e2, UInt8.toNat_ofNat', show (n : Int) * 8 = ((8 * n : Nat) : Int) by omega, ← Int.natCast_ediv]
  have : 8 * n / 256 ^ (7 - m) % 256 % 2 ^ 8 = 8 * n / 256 ^ (7 - m) % 256 := Nat.mod_eq_of_lt (Nat.mod_lt _ (by decide))
  rw [this]; rfl
theorem slice_form {w : World} {B s n : Nat} {e : TypeId} {v : Value} {xs : List Value} (h : w.ownsRow B e s v n xs) : ∃ ao ca, v = .slice ao n ca := by
  rcases h.2 with ⟨rfl, rfl⟩ | ⟨g, cap, cur, rfl, _⟩
  · exact ⟨_, _, rfl⟩
  · exact ⟨_, _, rfl⟩
set_option maxRecDepth 100000 in
set_option maxHeartbeats 4000000 in
theorem rended_any (KL S : List UInt32) (va : Value) (R : List UInt8) (r n : Nat) (w : World) (hK : RoundsR w KL) (hS : S.length = 8) (ha : Rd w va (vb R)) (hR : R.length = 4 * r) (hr : r ≤ 1000000) (hn : 8 * n < 18446744073709551616) :
    Calls Tryz.prog 101 #[.agg (vw S).toArray, va, .int .u64 (n : Int)] w fun e w' => e = .returned (.agg (vw (foldB KL S (endL (wordsL R) 2147483648 ((8 * n : Nat) : Int)))).toArray) ∧ Below w.heap.size w w' := by
  obtain ⟨i0, hi, hz0, hz1, hz2⟩ := info_parts info5
  obtain ⟨ao, ca, rfl, a1, a2, a3⟩ := ha.bytes
  replace ha := Lib.hid ha; replace a3 := Lib.hid a3
  go_enter Tryz.func101, Tryz.ntmps101
  go_upto_region 2 with fail
  change Code.wp _ _ _ _ ((w.alloc (.cells (vw S).toArray 26)).alloc (.cells (vw (List.replicate 8 0)).toArray 26))
  obtain ⟨wz, hwz⟩ : ∃ wz, (w.alloc (.cells (vw S).toArray 26)).alloc (.cells (vw (List.replicate 8 0)).toArray 26) = wz := ⟨_, rfl⟩
  have hE : En w wz S (.slice none 0 0) [] := by
    refine ⟨World.ownsRow_nil _ _ _ _, ?_, ?_, ?_, ?_⟩
    · rw [← hwz]; exact (Arr.new w _ S).alloc _
    · rw [← hwz]
      have := Arr.new (w.alloc (.cells (vw S).toArray 26)) 26 (List.replicate 8 0)
      simpa using this
    · rw [← hwz]; exact ((Below.refl _ _).alloc (Nat.le_refl _) _).alloc (by simp) _
    · rw [← hwz]; simp
  have hrd := ha.out.mono hE.hb
  rw [hwz]
  clear hwz
  have lvb := Lib.hid (length_vb R)
  have hRm : R.length ≤ 4000000 := by omega
  replace hR := Lib.hid hR
  have hes := hE.size
  replace hE := Lib.hid hE; replace hrd := Lib.hid hrd
  go_wp2_with (at_builtin; refine wpList_append_rd _ rfl _ _ 72 rfl (w.heap.size + 2) 5 i0 (.int .u8 0) 1 Tryz.underlying72 hi hz0 hz1 hz2 rfl _ _ _ rfl hE.out.own _ (vb R) rfl hrd.out (vb_oneCell R) ?h3 ?h4 ?h5 ?_)
  case h3 => rw [lvb.out]; unfold maxLen; simp; omega
  case h4 => rw [lvb.out]; simp; omega
  case h5 => exact hE.out.size
  intro v1 w1 ho1 hO1
  have hE1 := hE.out.app (l' := R) hO1.1 (by simpa [lvb.out, show vb [] = [] from rfl] using ho1)
  clear ho1 hO1 hE hrd hes
  obtain ⟨a1', c1', rfl⟩ := slice_form hE1.own
  have hes := hE1.size
  replace hE1 := Lib.hid hE1
  go_wp2_with (at_builtin; refine wpList_append_onto' _ rfl _ _ 72 rfl (w.heap.size + 2) 5 i0 (.int .u8 0) 1 1 Tryz.underlying72 hi hz0 hz1 hz2 rfl (by decide) _ _ _ rfl (hE1.out.own.alloc _) ⟨w1.heap.size, 0, none⟩ 1 1 [.int .u8 128] rfl rfl ?x1 ?x2 ?x3 ?x4 ?x5 ?_)
  all_goals try exact cell_one_new _ _ _
  case x2 => simp [Value.oneCell']
  case x3 => unfold maxLen; omega
  case x4 => omega
  case x5 => first | omega | (simp; omega)
  intro v2 w2 ho2 hO2
  have hE2 := hE1.out.appA (l' := R ++ [128]) _ hO2.1 (by rw [List.length_append, vb_append]; exact ho2)
  clear ho2 hO2 hE1 hes
  replace hE2 := Lib.hid hE2
  have hZ1 := Lib.hid (zerosN_end r)
  have hZ2 := Lib.hid (zerosN_no r)
  have hZ3 := zerosN_le r
  have hBE : endB R r (8 * n) = R ++ [128] ++ List.replicate (zerosN r) 0 ++ beN (8 * n) 8 := rfl
  obtain ⟨Z, hZ⟩ : ∃ Z, zerosN r = Z := ⟨_, rfl⟩
  rw [hZ] at hZ1 hZ2 hZ3 hBE
  replace hBE := Lib.hid hBE
  clear hZ
  go_wp2_with fail
  go_loopw [7] (fun lv wr => ∃ k : Nat, k ≤ Z ∧ En w wr S lv (R ++ [128] ++ List.replicate k 0)) (fun lv _ => 4 * r + 1 + Z - sliceLen lv)
  case atStart => exact ⟨0, by omega, by simpa using hE2.out⟩
  case round =>
    clear hE2
    obtain ⟨k, hk, hE⟩ := hrel
    obtain ⟨N, hN⟩ : ∃ N, 4 * r + 1 + k = N := ⟨_, rfl⟩
    obtain ⟨X, hX⟩ : ∃ X, R ++ [128] ++ List.replicate k 0 = X := ⟨_, rfl⟩
    have hXl : X.length = N := by rw [← hX, ← hN]; simp [hR.out]; omega
    rw [hX] at hE
    have ho := hE.own
    rw [hXl] at ho
    obtain ⟨o3, c3, rfl⟩ := slice_form ho
    have hes := hE.size
    replace hXl := Lib.hid hXl; replace ho := Lib.hid ho; replace hE := Lib.hid hE; replace hX := Lib.hid hX; replace hN := Lib.hid hN
    by_cases hlt : k < Z
    · have hne : (((N : Nat) : Int) % 64 != 56) = true := by have := hZ2.out k hlt; have := hN.out; simp; omega
      have hNm : N ≤ 8000000 := by have := hN.out; omega
      go_wp2_with (at_builtin; refine wpList_append_onto' _ rfl _ _ 72 rfl (w.heap.size + 2) 5 i0 (.int .u8 0) 1 1 Tryz.underlying72 hi hz0 hz1 hz2 rfl (by decide) _ _ _ rfl (ho.out.alloc _) ⟨wr.heap.size, 0, none⟩ 1 1 [.int .u8 0] rfl rfl ?y1 ?y2 ?y3 ?y4 ?y5 ?_)
      all_goals try exact cell_one_new _ _ _
      case y2 => simp [Value.oneCell']
      case y3 => unfold maxLen; omega
      case y4 => omega
      case y5 => first | omega | (simp; omega)
      intro v3 w3 ho3 hO3
      have hX1 : X ++ [0] = R ++ [128] ++ List.replicate (k + 1) 0 := by rw [← hX.out, List.replicate_succ', List.append_assoc, List.append_assoc]
      have hE3 := hE.out.appA (l' := X ++ [0]) _ hO3.1 (by rw [List.length_append, vb_append, hXl.out]; exact ho3)
      rw [hX1] at hE3
      obtain ⟨o4, c4, rfl⟩ := slice_form ho3
      clear ho3 hO3 hX1
      replace hE3 := Lib.hid hE3
      go_wp2_with fail
      go_roundw
      case rel => exact ⟨k + 1, by omega, hE3.out⟩
      case measure => simp [sliceLen]; have := hN.out; omega
    · obtain rfl : k = Z := by omega
      have hne : (((N : Nat) : Int) % 64 != 56) = false := by have := hZ1.out; have := hN.out; simp; omega
      rw [← hX.out] at hE
      go_wp2_with fail
      have hy : 8 * n < 18446744073709551616 := hn
      obtain ⟨Y, hY⟩ : ∃ Y, R ++ [128] ++ List.replicate k 0 = Y := ⟨_, rfl⟩
      have hYl : Y.length = N := by rw [← hY, ← hN.out]; simp [hR.out]; omega
      rw [hY] at hE hBE
      have hE0 : En w wr S (.slice o3 N c3) (Y ++ beN (8 * n) 0) := by rw [show beN (8 * n) 0 = [] from rfl, List.append_nil]; exact hE
      clear hE ho
      replace hE0 := Lib.hid hE0; replace hY := Lib.hid hY; replace hYl := Lib.hid hYl
      go_loopw [7, 8] (fun lv i wr => ∃ m : Nat, m ≤ 8 ∧ i = .int .i64 (7 - (m : Int)) ∧ En w wr S lv (Y ++ beN (8 * n) m)) (fun _ i _ => (intOf i + 1).toNat)
      case atStart => exact ⟨0, by omega, by simp, hE0.out⟩
      case round =>
        clear hE0
        obtain ⟨m, hm, rfl, hE⟩ := hrel
        obtain ⟨M, hM⟩ : ∃ M, N + m = M := ⟨_, rfl⟩
        have hXl : (Y ++ beN (8 * n) m).length = M := by rw [← hM, List.length_append, hYl.out, beN_len]
        have hsu := beN_succ (8 * n) m
        obtain ⟨Z, hZ⟩ : ∃ Z, Y ++ beN (8 * n) m = Z := ⟨_, rfl⟩
        rw [hZ] at hE hXl
        have ho := hE.own
        rw [hXl] at ho
        obtain ⟨o4, c4, rfl⟩ := slice_form ho
        have hes := hE.size
        by_cases hlt : m < 8
        · have hMm : M ≤ 8000000 := by have := hN.out; omega
          obtain ⟨c, hc⟩ : ∃ c : Int, 7 - (m : Int) = c := ⟨_, rfl⟩
          have hc0 : 0 ≤ c := by omega
          have hc7 : c ≤ 7 := by omega
          rw [hc]
          have hn8 : (n : Int) * 8 ≤ 18446744073709551615 := by omega
          have hval := byte_of n m c hc hlt
          obtain ⟨y, hy'⟩ : ∃ y, UInt8.ofNat (8 * n / 256 ^ (7 - m) % 256) = y := ⟨_, rfl⟩
          rw [hy'] at hval hsu
          obtain ⟨V, hV⟩ : ∃ V : Int, (n : Int) * 8 / 2 ^ (8 * c).toNat % 256 = V := ⟨_, rfl⟩
          replace hXl := Lib.hid hXl; replace ho := Lib.hid ho; replace hE := Lib.hid hE; replace hZ := Lib.hid hZ; replace hM := Lib.hid hM; replace hsu := Lib.hid hsu; replace hc := Lib.hid hc; replace hval := Lib.hid hval
          go_wp2_with (at_builtin; rw [hV]; refine wpList_append_onto' _ rfl _ _ 72 rfl (w.heap.size + 2) 5 i0 (.int .u8 0) 1 1 Tryz.underlying72 hi hz0 hz1 hz2 rfl (by decide) _ _ _ rfl (ho.out.alloc _) ⟨wr.heap.size, 0, none⟩ 1 1 [.int .u8 V] rfl rfl ?z1 ?z2 ?z3 ?z4 ?z5 ?_)
          all_goals try exact cell_one_new _ _ _
          case z2 => simp [Value.oneCell']
          case z3 => unfold maxLen; omega
          case z4 => omega
          case z5 => first | omega | (simp; omega)
          intro v3 w3 ho3 hO3
          have hVy : V = ((y.toNat : Nat) : Int) := hV.symm.trans hval.out
          have hE3 := hE.out.appA (l' := Z ++ [y]) _ hO3.1 (by rw [List.length_append, vb_append, hXl.out]; rw [hVy] at ho3; exact ho3)
          rw [← hZ.out, List.append_assoc, ← hsu.out] at hE3
          obtain ⟨o5, c5, rfl⟩ := slice_form ho3
          clear ho3 hO3
          replace hE3 := Lib.hid hE3
          go_wp2_with fail
          go_roundw
          case rel => exact ⟨m + 1, by omega, by have := hc.out; go_num, hE3.out⟩
          case measure => have := hc.out; simp [intOf]; omega
        · obtain rfl : m = 8 := by omega
          rw [← hZ, hBE.out.symm] at hE
          obtain ⟨B, hB⟩ : ∃ B, endB R r (8 * n) = B := ⟨_, rfl⟩
          have hBm := endB_len R r (8 * n) hR.out
          have hend := end_bytes R r (8 * n) hR.out hy
          have hBl : B.length = M := by rw [← hXl, ← hZ, ← hBE.out, hB]
          rw [hB] at hE hBm hend
          rw [hBl] at hBm
          have hMm : M ≤ 8000000 := by have := hN.out; omega
          replace ho := Lib.hid ho; replace hXl := Lib.hid hXl; replace hZ := Lib.hid hZ; replace hM := Lib.hid hM; replace hsu := Lib.hid hsu; replace hE := Lib.hid hE; replace hB := Lib.hid hB; replace hend := Lib.hid hend; replace hBl := Lib.hid hBl
          go_wp2_with fail
          rw [show (7 : Int) - ((8 : Nat) : Int) = -1 from rfl]
          go_loopw [9] (fun i wr => ∃ q : Nat, 64 * q ≤ M ∧ i = .int .i64 ((4 * (16 * q) : Nat) : Int) ∧ En w wr (stN KL S (wordsL B) q) (.slice o4 M c4) B) (fun i _ => M - (intOf i).toNat)
          case atStart => exact ⟨0, by omega, rfl, hE.out⟩
          case round =>
            clear hE
            obtain ⟨q, hq, rfl, hE⟩ := hrel
            have lS := stN_len KL S (wordsL B) hS q
            have hKd : RoundsR wr.drew KL := (hK.below hE.hb).below (Below.refl _ _).drew
            have hEd := hE.later (Below.refl _ _).drew
            have hes := hE.size
            by_cases hlt : 64 * q < M
            · have hcall := fun w' h => rblockat_any (.slice o4 M c4) B (16 * q) w' h (by rw [hBl.out]; omega) (by rw [hBl.out]; omega)
              have hrd := Rd.of_own hE.own
              have hnx : stN KL S (wordsL B) (q + 1) = blockF KL (stN KL S (wordsL B) q) (((wordsL B).drop (16 * q)).take 16) := rfl
              have lX : (((wordsL B).drop (16 * q)).take 16).length = 16 := by rw [List.length_take, List.length_drop, wordsL_len, hBl.out]; omega
              obtain ⟨T, hT⟩ : ∃ T, stN KL S (wordsL B) q = T := ⟨_, rfl⟩
              obtain ⟨X2, hX2⟩ : ∃ X, ((wordsL B).drop (16 * q)).take 16 = X := ⟨_, rfl⟩
              rw [hT] at lS hE hEd hnx
              rw [hX2] at hnx hcall lX
              obtain ⟨P, hP⟩ : ∃ P, 4 * (16 * q) = P := ⟨_, rfl⟩
              rw [hP] at hcall ⊢
              have lF := blockF_len KL T X2 lS
              have hPM : P < M := by omega
              have vT := Lib.hid (vw_lit8 T lS)
              obtain ⟨d0, d1, d2, d3, d4, d5, d6, d7⟩ := hEd.cells lS
              have hK0 := hK.below hE.hb
              replace hK0 := Lib.hid hK0; replace hrd := Lib.hid hrd; replace hcall := Lib.hid hcall; replace hnx := Lib.hid hnx; replace lS := Lib.hid lS; replace lX := Lib.hid lX; replace hT := Lib.hid hT; replace hX2 := Lib.hid hX2; replace hP := Lib.hid hP; replace lF := Lib.hid lF; replace hE := Lib.hid hE
              clear hEd hKd
              go_upto_region 13 with fail
              go_region_with (first
                  | (go_at_call 100; have bX := (Below.refl wr.heap.size wr).drew; refine (hcall.out _ (hrd.out.mono bX)).mono ?_; rintro e w2 ⟨rfl, b2⟩; have bY := bX.trans (b2.mono bX.size); obtain ⟨c0, c1, c2, c3, c4, c5, c6, c7⟩ := (hE.out.later bY).cells lS.out)
                  | (go_at_call 99; rw [← vT.out]; refine (rblock_any KL T X2 _ (hK0.out.below bY) lS.out lX.out).mono ?_; rintro e w3 ⟨rfl, b3⟩; have bZ := bY.trans (b3.mono bY.size); have hE3 := hE.out.later bZ; have hsc := storeCells_whole (P := Tryz.prog) hE3.aS (blockF KL T X2) (by rw [lF.out, lS.out]); have lF8 := lF.out))
              all_goals
                have hE6 := hE3.state (hE3.aS.stored (blockF KL T X2)).2 (hE3.aS.stored (blockF KL T X2)).1
                replace hE6 := Lib.hid hE6
                clear hE3 hsc
                go_wp2_with fail
                go_roundw
                case rel => exact ⟨q + 1, by omega, by have := hP.out; go_num, by rw [hnx.out]; exact hE6.out⟩
                case measure => have := hP.out; simp [intOf]; omega
            · have hq64 : q = B.length / 64 := by rw [hBl.out]; omega
              have hfin : stN KL S (wordsL B) q = foldB KL S (endL (wordsL R) 2147483648 ((8 * n : Nat) : Int)) := by
                rw [← hend.out, ← stN_fold, wordsL_len]
                congr 1
                omega
              rw [hfin] at hE lS
              obtain ⟨T, hTe⟩ : ∃ T, foldB KL S (endL (wordsL R) 2147483648 ((8 * n : Nat) : Int)) = T := ⟨_, rfl⟩
              rw [hTe] at hE lS
              replace hTe := Lib.hid hTe
              obtain ⟨P, hP⟩ : ∃ P, 4 * (16 * q) = P := ⟨_, rfl⟩
              rw [hP]
              have hPM : ¬ P < M := by omega
              have aS := hE.aS
              have aR := hE.aR
              have hb := hE.hb
              clear hE hEd hKd
              replace aS := Lib.hid aS; replace aR := Lib.hid aR; replace hb := Lib.hid hb; replace hP := Lib.hid hP; replace hq64 := Lib.hid hq64
              go_upto_region 14 with fail
              apply wp_region_lit
              refine wpList_load_arr rfl 26 _ rfl w.heap.size rfl aS.out Tryz.underlying26 info23 lS ?_
              refine wpList_store_arr rfl 26 _ _ rfl (w.heap.size + 1) rfl T (by rfl) aR.out info23 (by simp) lS ?_
              intro w5 a5 g5
              have hb5 := hb.out.grown g5 hb.out.size (by simp)
              clear aS aR hb g5
              go_wp2_with fail
              refine bodyPost_ret (results_arr rfl rfl a5 Tryz.underlying26 info23 lS) rfl ⟨?_, hb5⟩
              rw [hTe.out]
end Go.Proofs.YtemanjahkohcpaaGreatDoor
