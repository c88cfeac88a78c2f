/- The contract of sha's SumBytes, for whole words. -/
import Derived.Test.YtemanjahkohcpaaDoorAMacN
namespace Go.Proofs.YtemanjahkohcpaaDoor
open Go.RowKit WP
/-- the first j bytes of a word, as a number -/
def partI (b : List UInt8) (k : Nat) : Nat → Int
  | 0 => 0
  | j + 1 => partI b k j * 256 + bAt b (4 * k + j)
theorem partI_bd (b : List UInt8) (k j : Nat) (h : j ≤ 4) : 0 ≤ partI b k j ∧ partI b k j ≤ 4294967295 ∧ (j ≤ 3 → partI b k j ≤ 16777215) := by
  have h0 := bAt_bd b (4 * k); have h1 := bAt_bd b (4 * k + 1); have h2 := bAt_bd b (4 * k + 2); have h3 := bAt_bd b (4 * k + 3)
  have : j = 0 ∨ j = 1 ∨ j = 2 ∨ j = 3 ∨ j = 4 := by omega
  rcases this with rfl | rfl | rfl | rfl | rfl <;> simp only [partI, Nat.add_zero] <;> omega
theorem partI_four (b : List UInt8) (k : Nat) : partI b k 4 = word4 b k := by
  simp only [partI, word4, Nat.add_zero]; omega
theorem part_or (P c : Int) (h1 : 0 ≤ P) (h2 : P ≤ 16777215) (c1 : 0 ≤ c) (c2 : c ≤ 255) : bits .or .u32 (P * 256) c = P * 256 + c := by
  rw [u32_or (P * 256) c (by omega) (by omega) c1 (by omega), nat_join 8 _ _ (by omega) (by omega)]
  omega
theorem filled_set0 (f : Nat → Int) (n k : Nat) : (filled f n k).set k (.int .u32 0) = filled f n k := by
  apply List.ext_getElem
  · simp
  · intro i h1 h2
    rw [List.getElem_set]
    split
    · rename_i e; subst e; simp [filled]
    · rfl
def sumBytesF (KL : List UInt32) (b : List UInt8) : List UInt32 :=
  foldB KL (foldB KL firstL (wordsL b)) (endL (remB (wordsL b)) 2147483648 (8 * b.length))
theorem sumBytesF_len (KL : List UInt32) (b : List UInt8) : (sumBytesF KL b).length = 8 := foldB_len _ _ _ (foldB_len _ _ _ firstL_len)
set_option maxRecDepth 100000 in
set_option maxHeartbeats 4000000 in
theorem sumbytes_any (KL : List UInt32) (va : Value) (b : List UInt8) (w : World) (hK : Rounds w KL) (ha : Rd w va (vb b)) (hl : b.length ≤ 1048576) (h4 : b.length % 4 = 0) :
    Calls Tryd.prog 34 #[va] w fun e w' => e = .returned (.agg (vw (sumBytesF KL b)).toArray) ∧ Below w.heap.size w w' := by
  obtain ⟨i0, hi, hz0, hz1, hz2⟩ := info_parts info22
  obtain ⟨ao, ca, rfl, a1, a2, a3⟩ := ha.bytes
  obtain ⟨n, hn⟩ : ∃ n, b.length = 4 * n := ⟨b.length / 4, by omega⟩
  have aN : Arr (w.alloc (.cells (vw (List.replicate 8 0)).toArray 23)) w.heap.size 23 (List.replicate 8 0) := Arr.new _ _ _
  have hb1 : Below w.heap.size w (w.alloc (.cells (vw (List.replicate 8 0)).toArray 23)) := (Below.refl _ _).alloc (Nat.le_refl _) _
  obtain ⟨w1, hw1⟩ : ∃ w1, w.alloc (.cells (vw (List.replicate 8 0)).toArray 23) = w1 := ⟨_, rfl⟩
  rw [hw1] at aN hb1
  have h3 := hK.1
  have hK1 := hK.below hb1
  have ha1 := ha.mono hb1
  have hs1 : w.heap.size < w1.heap.size := aN.lt
  have lO := sumBytesF_len KL b
  have hO : foldB KL (foldB KL firstL (wordsL b)) (endL (remB (wordsL b)) 2147483648 (8 * b.length)) = sumBytesF KL b := rfl
  have lW : (wordsL b).length = n := by unfold wordsL; rw [List.length_map, List.length_range]; omega
  rw [hn] at a1 ha1 hO ⊢
  have hn1 : n ≤ 262144 := by omega
  have hdv : (4 * (n : Int)) / 4 = n := by omega
  replace hn := Lib.hid hn; replace aN := Lib.hid aN; replace hb1 := Lib.hid hb1; replace hK1 := Lib.hid hK1; replace ha1 := Lib.hid ha1; replace lO := Lib.hid lO; replace hO := Lib.hid hO; replace lW := Lib.hid lW
  clear hK ha a3 hl h4
  go_enter Tryd.func34, Tryd.ntmps34
  go_upto_region 1 with fail
  change Code.wp _ _ _ _ (w.alloc (.cells (vw (List.replicate 8 0)).toArray 23))
  rw [hw1]
  clear hw1
  go_wp2_with fail
  refine (new_any _).mono ?_
  rintro e w2 ⟨g, rfl, hg, hd2, b2⟩
  have aR2 := aN.out.below b2
  have hK2 := hK1.out.below b2
  have ha2 := ha1.out.mono b2
  have hb2 := hb1.out.trans (b2.mono hb1.out.size)
  have hg2 := hd2.lt
  have hs2 := b2.size
  clear b2 aN hK1 ha1 hb1
  replace aR2 := Lib.hid aR2; replace hK2 := Lib.hid hK2; replace ha2 := Lib.hid ha2; replace hb2 := Lib.hid hb2; replace hd2 := Lib.hid hd2
  go_wp2_with (at_make; refine wpList_make_full _ rfl _ _ 25 rfl w2.heap.size 22 i0 (.int .u32 0) 1 Tryd.underlying25 hi hz0 hz1 .i64 .i64 _ _ n rfl rfl ?m0 ?m4 ?m1 ?m2 ?m3 ?_)
  case m0 => rfl
  case m4 => rfl
  case m1 => rw [hz2]; omega
  case m2 => simp only [maxLen]; omega
  case m3 => exact Nat.le_refl _
  intro w3 ho hgr
  have ho : w3.ownsRow w2.heap.size 22 1 (.slice (some ⟨w2.heap.size, 0, none⟩) n n) n (filled (word4 b) n 0) := by
    rw [filled_zero, ← toList_madeCells_one]; exact ho
  have b23 : Below w2.heap.size w2 w3 := (Below.refl w2.heap.size w2).grown hgr (Nat.le_refl _) (by simp)
  clear hgr
  replace ho := Lib.hid ho; replace b23 := Lib.hid b23
  go_wp2_with fail
  go_loopw [6, 8, 21, 32] (fun _ _ i _ wr => ∃ k : Nat, k ≤ n ∧ i = .int .i64 (k : Int) ∧ wr.ownsRow w2.heap.size 22 1 (.slice (some ⟨w2.heap.size, 0, none⟩) n n) n (filled (word4 b) n k) ∧ Below w2.heap.size w2 wr) (fun _ _ i _ _ => n - (intOf i).toNat)
  case atStart => exact ⟨0, by omega, rfl, ho.out, b23.out⟩
  case round =>
    obtain ⟨wo, rfl⟩ : ∃ wo, wo = wr := ⟨wr, rfl⟩
    obtain ⟨k, hk, rfl, ho, hb⟩ := hrel
    by_cases hlt : k < n
    · have hra := ha2.out
      obtain ⟨_, _, hve, _, _, hce⟩ := hra.bytes
      simp only [Value.slice.injEq] at hve
      obtain ⟨rfl, _, rfl⟩ := hve
      obtain ⟨bb, ob, rfl, hbb, hcb⟩ := hce.resolve_left (by intro h; have := hn.out; rw [h] at this; simp at this; omega)
      have g1 : 4 * k < ca := by omega
      have lf : (filled (word4 b) n k).length = n := by simp [filled]
      have hf0 := filled_set0 (word4 b) n k
      replace ho := Lib.hid ho; replace hb := Lib.hid hb; replace hcb := Lib.hid hcb; replace hf0 := Lib.hid hf0; replace lf := Lib.hid lf
      clear hra hce
      go_wp2_with fail
      go_loopw [8, 32] (fun _ i wr => ∃ j : Nat, j ≤ 4 ∧ i = .int .i64 (j : Int) ∧ wr.ownsRow w2.heap.size 22 1 (.slice (some ⟨w2.heap.size, 0, none⟩) n n) n ((filled (word4 b) n k).set k (.int .u32 (partI b k j))) ∧ Below w2.heap.size w2 wr) (fun _ i _ => 4 - (intOf i).toNat)
      case atStart => exact ⟨0, by omega, rfl, by rw [show partI b k 0 = 0 from rfl, hf0.out]; exact ho.out, hb.out⟩
      case round =>
        obtain ⟨j, hj, rfl, hw, hbr⟩ := hrel
        have ⟨P1, P2, P3⟩ := partI_bd b k j hj
        by_cases hlj : j < 4
        · have P3 := P3 (by omega)
          have hcj := (hbr.cell (p := ⟨bb, ob + (4 * k + j), none⟩) hbb).trans (hcb.out (4 * k + j) (by have := hn.out; omega))
          rw [← Nat.add_assoc] at hcj
          have ⟨c1, c2⟩ := bAt_bd b (4 * k + j)
          have hor := part_or (partI b k j) (bAt b (4 * k + j)) P1 P3 c1 c2
          have hnx : partI b k (j + 1) = partI b k j * 256 + bAt b (4 * k + j) := rfl
          have hck := (hw.cellAt k (by omega)).trans (show ((filled (word4 b) n k).set k (.int .u32 (partI b k j)))[k]? = some (.int .u32 (partI b k j)) by rw [List.getElem?_set]; simp [lf.out, hlt])
          have hfk := hw.frozenAt k
          have hst := hw.stored k (.int .u32 (partI b k (j + 1)))
          rw [List.set_set] at hst
          have hsw := hbr.size
          replace hw := Lib.hid hw; replace hbr := Lib.hid hbr; replace hst := Lib.hid hst; replace hnx := Lib.hid hnx
          generalize bAt b (4 * k + j) = c at *
          generalize hP : partI b k j = P at *
          go_wp2_with fail
          refine ⟨⟨j + 1, by omega, by go_num, ?_, ?_⟩, by simp [intOf]; omega⟩
          · rw [← hnx.out]; exact hst.out.1
          · rw [← hnx.out]; exact hbr.out.grown hst.out.2 hsw (by simp)
        · obtain rfl : j = 4 := by omega
          rw [partI_four, filled_step _ _ _ hlt] at hw
          replace hw := Lib.hid hw; replace hbr := Lib.hid hbr
          go_wp2_with fail
          go_roundw
          case rel => exact ⟨k + 1, by omega, by go_num, hw.out, hbr.out⟩
          case measure => simp [intOf]; omega
    · obtain rfl : k = n := by omega
      rw [filled_full _ _ (word4_bd b)] at ho
      have hWd : ((List.range k).map fun i => ofI (word4 b i)) = wordsL b := by unfold wordsL; rw [show b.length / 4 = k by have := hn.out; omega]
      rw [hWd] at ho
      have hrW := Rd.of_own ho
      have hdo := hd2.out.below hb
      have hKo := hK2.out.below hb
      have aRo := aR2.out.below hb
      have hbo := hb2.out.trans (hb.mono hb2.out.size)
      have hwo := hb.size
      clear ho hb hWd hd2 hK2 aR2 hb2
      replace hrW := Lib.hid hrW; replace hdo := Lib.hid hdo; replace hKo := Lib.hid hKo; replace aRo := Lib.hid aRo; replace hbo := Lib.hid hbo
      go_wp2_with fail
      refine (add_any KL firstL [] (wordsL b) 0 (.slice none 0 0) _ g _ hKo.out (by omega) hdo.out ⟨none, 0, rfl, Nat.le_refl _, by decide, .inl rfl⟩ (by simp [Value.ownBlock]) hrW.out (by simp [Value.ownBlock]; omega) (by omega) (by omega) (by simp) (by rw [lW.out]; omega)).mono ?_
      rintro e w4 ⟨rfl, v4, hd4, hr4, hf4, g4⟩
      rw [List.nil_append] at hd4 hr4
      have hK4 := hKo.out.grown g4 (by simp; omega)
      have aR4 := aRo.out.grown g4 (by simp; omega)
      have hb4 := hbo.out.grown g4 hbo.out.size (by intro j hj; simp at hj; omega)
      clear g4 hf4 hrW hdo hKo aRo hbo
      replace hd4 := Lib.hid hd4; replace hr4 := Lib.hid hr4; replace hK4 := Lib.hid hK4; replace aR4 := Lib.hid aR4; replace hb4 := Lib.hid hb4
      have hor0 : bits .or .u32 0 2147483648 = 2147483648 := by decide
      have hO' : foldB KL (foldB KL firstL (wordsL b)) (endL (remB (wordsL b)) 2147483648 (8 * (4 * (k : Int)))) = sumBytesF KL b := by
        have := hO.out
        rwa [Int.natCast_mul] at this
      replace hO' := Lib.hid hO'
      go_wp2_with fail
      all_goals
        go_loopw [9, 11, 12, 58] (fun l _ _ i wr => l = .int .u32 0 ∧ i = .int .i64 0 ∧ wr = w4) (fun _ _ _ _ _ => 0)
        case atStart => exact ⟨rfl, rfl, rfl⟩
        case round =>
          obtain ⟨rfl, rfl, rfl⟩ := hrel
          go_wp2_with fail
          refine (end_any KL _ _ _ 2147483648 (8 * (4 * (k : Int))) v4 g _ hK4.out hd4.out hr4.out (by have := remB_len (wordsL b); omega) (by omega) (by omega) (by omega) (by omega)).mono ?_
          rintro e w5 ⟨rfl, b5⟩
          rw [hO'.out]
          have aR5 := Lib.hid (aR4.out.below b5)
          have hb5 := Lib.hid (hb4.out.trans (b5.mono hb4.out.size))
          clear b5
          go_wp2_with (refine wpList_store_arr rfl 23 _ _ rfl w.heap.size rfl (sumBytesF KL b) rfl aR5.out info23 (by simp) lO.out ?_; intro w7 a7 g7; have hb7 := hb5.out.grown g7 hb5.out.size (by simp))
          refine bodyPost_ret (results_arr rfl rfl a7 Tryd.underlying23 info23 lO.out) rfl ⟨rfl, hb7⟩
end Go.Proofs.YtemanjahkohcpaaDoor
