/- The contract of sha's SumBytes, for whole words. Plain laws of AttestMacs: the boot key is layer 3's tag of the seed's bytes and the name's. The reference's padding of whole words, as plain laws. -/
import Derived.Test.YtemanjahkohcpaaGreatDoorJn08
namespace Go.Proofs.YtemanjahkohcpaaGreatDoor
open Go.RowKit WP
/-- the first j bytes of a word, as a number -/
def partI (b : List UInt8) (k : Nat) : Nat → Int
  | 0 => 0
  | j + 1 => partI b k j * 256 + bAt b (4 * k + j)
theorem partI_bd (b : List UInt8) (k j : Nat) (h : j ≤ 4) : 0 ≤ partI b k j ∧ partI b k j ≤ 4294967295 ∧ (j ≤ 3 → partI b k j ≤ 16777215) := by
  have h0 := bAt_bd b (4 * k); have h1 := bAt_bd b (4 * k + 1); have h2 := bAt_bd b (4 * k + 2); have h3 := bAt_bd b (4 * k + 3)
  have : j = 0 ∨ j = 1 ∨ j = 2 ∨ j = 3 ∨ j = 4 := by omega
  rcases this with rfl | rfl | rfl | rfl | rfl <;> simp only [partI, Nat.add_zero] <;> omega
theorem partI_four (b : List UInt8) (k : Nat) : partI b k 4 = word4 b k := by
  simp only [partI, word4, Nat.add_zero]; omega
theorem part_or (P c : Int) (h1 : 0 ≤ P) (h2 : P ≤ 16777215) (c1 : 0 ≤ c) (c2 : c ≤ 255) : bits .or .u32 (P * 256) c = P * 256 + c := by
  rw [u32_or (P * 256) c (by omega) (by omega) c1 (by omega), nat_join 8 _ _ (by omega) (by omega)]
  omega
theorem filled_set0 (f : Nat → Int) (n k : Nat) : (filled f n k).set k (.int .u32 0) = filled f n k := by
  apply List.ext_getElem
  · simp
  · intro i h1 h2
    rw [List.getElem_set]
    split
    · rename_i e; subst e; simp [filled]
    · rfl
def sumBytesF (KL : List UInt32) (b : List UInt8) : List UInt32 :=
  foldB KL (foldB KL firstL (wordsL b)) (endL (remB (wordsL b)) 2147483648 (8 * b.length))
theorem sumBytesF_len (KL : List UInt32) (b : List UInt8) : (sumBytesF KL b).length = 8 := foldB_len _ _ _ (foldB_len _ _ _ firstL_len)
set_option maxRecDepth 100000 in
set_option maxHeartbeats 4000000 in
theorem sumbytes_any (KL : List UInt32) (va : Value) (b : List UInt8) (w : World) (hK : Rounds w KL) (ha : Rd w va (vb b)) (hl : b.length ≤ 1048576) (h4 : b.length % 4 = 0) :
    Calls Tryz.prog 121 #[va] w fun e w' => e = .returned (.agg (vw (sumBytesF KL b)).toArray) ∧ Below w.heap.size w w' := by
  obtain ⟨i0, hi, hz0, hz1, hz2⟩ := info_parts info22
  obtain ⟨ao, ca, rfl, a1, a2, a3⟩ := ha.bytes
  obtain ⟨n, hn⟩ : ∃ n, b.length = 4 * n := ⟨b.length / 4, by omega⟩
  have aN : Arr (w.alloc (.cells (vw (List.replicate 8 0)).toArray 26)) w.heap.size 26 (List.replicate 8 0) := Arr.new _ _ _
  have hb1 : Below w.heap.size w (w.alloc (.cells (vw (List.replicate 8 0)).toArray 26)) := (Below.refl _ _).alloc (Nat.le_refl _) _
  obtain ⟨w1, hw1⟩ : ∃ w1, w.alloc (.cells (vw (List.replicate 8 0)).toArray 26) = w1 := ⟨_, rfl⟩
  rw [hw1] at aN hb1
  have h3 := hK.1
  have hK1 := hK.below hb1
  have ha1 := ha.mono hb1
  have hs1 : w.heap.size < w1.heap.size := aN.lt
  have lO := sumBytesF_len KL b
  have hO : foldB KL (foldB KL firstL (wordsL b)) (endL (remB (wordsL b)) 2147483648 (8 * b.length)) = sumBytesF KL b := rfl
  have lW : (wordsL b).length = n := by unfold wordsL; rw [List.length_map, List.length_range]; omega
  rw [hn] at a1 ha1 hO ⊢
  have hn1 : n ≤ 262144 := by omega
  have hdv : (4 * (n : Int)) / 4 = n := by omega
  replace hn := Lib.hid hn; replace aN := Lib.hid aN; replace hb1 := Lib.hid hb1; replace hK1 := Lib.hid hK1; replace ha1 := Lib.hid ha1; replace lO := Lib.hid lO; replace hO := Lib.hid hO; replace lW := Lib.hid lW
  clear hK ha a3 hl h4
  go_enter Tryz.func121, Tryz.ntmps121
  go_upto_region 1 with fail
  change Code.wp _ _ _ _ (w.alloc (.cells (vw (List.replicate 8 0)).toArray 26))
  rw [hw1]
  clear hw1
  go_wp2_with fail
  refine (new_any _).mono ?_
  rintro e w2 ⟨g, rfl, hg, hd2, b2⟩
  have aR2 := aN.out.below b2
  have hK2 := hK1.out.below b2
  have ha2 := ha1.out.mono b2
  have hb2 := hb1.out.trans (b2.mono hb1.out.size)
  have hg2 := hd2.lt
  have hs2 := b2.size
  clear b2 aN hK1 ha1 hb1
  replace aR2 := Lib.hid aR2; replace hK2 := Lib.hid hK2; replace ha2 := Lib.hid ha2; replace hb2 := Lib.hid hb2; replace hd2 := Lib.hid hd2
  go_wp2_with (at_make; refine wpList_make_full _ rfl _ _ 111 rfl w2.heap.size 25 i0 (.int .u32 0) 1 Tryz.underlying111 hi hz0 hz1 .i64 .i64 _ _ n rfl rfl ?m0 ?m4 ?m1 ?m2 ?m3 ?_)
  case m0 => rfl
  case m4 => rfl
  case m1 => rw [hz2]; omega
  case m2 => simp only [maxLen]; omega
  case m3 => exact Nat.le_refl _
  intro w3 ho hgr
  have ho : w3.ownsRow w2.heap.size 25 1 (.slice (some ⟨w2.heap.size, 0, none⟩) n n) n (filled (word4 b) n 0) := by
    rw [filled_zero, ← toList_madeCells_one]; exact ho
  have b23 : Below w2.heap.size w2 w3 := (Below.refl w2.heap.size w2).grown hgr (Nat.le_refl _) (by simp)
  clear hgr
  replace ho := Lib.hid ho; replace b23 := Lib.hid b23
  go_wp2_with fail
  go_loopw [6, 8, 21, 32] (fun _ _ i _ wr => ∃ k : Nat, k ≤ n ∧ i = .int .i64 (k : Int) ∧ wr.ownsRow w2.heap.size 25 1 (.slice (some ⟨w2.heap.size, 0, none⟩) n n) n (filled (word4 b) n k) ∧ Below w2.heap.size w2 wr) (fun _ _ i _ _ => n - (intOf i).toNat)
  case atStart => exact ⟨0, by omega, rfl, ho.out, b23.out⟩
  case round =>
    obtain ⟨wo, rfl⟩ : ∃ wo, wo = wr := ⟨wr, rfl⟩
    obtain ⟨k, hk, rfl, ho, hb⟩ := hrel
    by_cases hlt : k < n
    · have hra := ha2.out
      obtain ⟨_, _, hve, _, _, hce⟩ := hra.bytes
      simp only [Value.slice.injEq] at hve
      obtain ⟨rfl, _, rfl⟩ := hve
      obtain ⟨bb, ob, rfl, hbb, hcb⟩ := hce.resolve_left (by intro h; have := hn.out; rw [h] at this; simp at this; omega)
      have g1 : 4 * k < ca := by omega
      have lf : (filled (word4 b) n k).length = n := by simp [filled]
      have hf0 := filled_set0 (word4 b) n k
      replace ho := Lib.hid ho; replace hb := Lib.hid hb; replace hcb := Lib.hid hcb; replace hf0 := Lib.hid hf0; replace lf := Lib.hid lf
      clear hra hce
      go_wp2_with fail
      go_loopw [8, 32] (fun _ i wr => ∃ j : Nat, j ≤ 4 ∧ i = .int .i64 (j : Int) ∧ wr.ownsRow w2.heap.size 25 1 (.slice (some ⟨w2.heap.size, 0, none⟩) n n) n ((filled (word4 b) n k).set k (.int .u32 (partI b k j))) ∧ Below w2.heap.size w2 wr) (fun _ i _ => 4 - (intOf i).toNat)
      case atStart => exact ⟨0, by omega, rfl, by rw [show partI b k 0 = 0 from rfl, hf0.out]; exact ho.out, hb.out⟩
      case round =>
        obtain ⟨j, hj, rfl, hw, hbr⟩ := hrel
        have ⟨P1, P2, P3⟩ := partI_bd b k j hj
        by_cases hlj : j < 4
        · have P3 := P3 (by omega)
          have hcj := (hbr.cell (p := ⟨bb, ob + (4 * k + j), none⟩) hbb).trans (hcb.out (4 * k + j) (by have := hn.out; omega))
          rw [← Nat.add_assoc] at hcj
          have ⟨c1, c2⟩ := bAt_bd b (4 * k + j)
          have hor := part_or (partI b k j) (bAt b (4 * k + j)) P1 P3 c1 c2
          have hnx : partI b k (j + 1) = partI b k j * 256 + bAt b (4 * k + j) := rfl
          have hck := (hw.cellAt k (by omega)).trans (show ((filled (word4 b) n k).set k (.int .u32 (partI b k j)))[k]? = some (.int .u32 (partI b k j)) by rw [List.getElem?_set]; simp [lf.out, hlt])
          have hfk := hw.frozenAt k
          have hst := hw.stored k (.int .u32 (partI b k (j + 1)))
          rw [List.set_set] at hst
          have hsw := hbr.size
          replace hw := Lib.hid hw; replace hbr := Lib.hid hbr; replace hst := Lib.hid hst; replace hnx := Lib.hid hnx
          generalize bAt b (4 * k + j) = c at *
          generalize hP : partI b k j = P at *
          go_wp2_with fail
          refine ⟨⟨j + 1, by omega, by go_num, ?_, ?_⟩, by simp [intOf]; omega⟩
          · rw [← hnx.out]; exact hst.out.1
          · rw [← hnx.out]; exact hbr.out.grown hst.out.2 hsw (by simp)
        · obtain rfl : j = 4 := by omega
          rw [partI_four, filled_step _ _ _ hlt] at hw
          replace hw := Lib.hid hw; replace hbr := Lib.hid hbr
          go_wp2_with fail
          go_roundw
          case rel => exact ⟨k + 1, by omega, by go_num, hw.out, hbr.out⟩
          case measure => simp [intOf]; omega
    · obtain rfl : k = n := by omega
      rw [filled_full _ _ (word4_bd b)] at ho
      have hWd : ((List.range k).map fun i => ofI (word4 b i)) = wordsL b := by unfold wordsL; rw [show b.length / 4 = k by have := hn.out; omega]
      rw [hWd] at ho
      have hrW := Rd.of_own ho
      have hdo := hd2.out.below hb
      have hKo := hK2.out.below hb
      have aRo := aR2.out.below hb
      have hbo := hb2.out.trans (hb.mono hb2.out.size)
      have hwo := hb.size
      clear ho hb hWd hd2 hK2 aR2 hb2
      replace hrW := Lib.hid hrW; replace hdo := Lib.hid hdo; replace hKo := Lib.hid hKo; replace aRo := Lib.hid aRo; replace hbo := Lib.hid hbo
      go_wp2_with fail
      refine (add_any KL firstL [] (wordsL b) 0 (.slice none 0 0) _ g _ hKo.out (by omega) hdo.out ⟨none, 0, rfl, Nat.le_refl _, by decide, .inl rfl⟩ (by simp [Value.ownBlock]) hrW.out (by simp [Value.ownBlock]; omega) (by omega) (by omega) (by simp) (by rw [lW.out]; omega)).mono ?_
      rintro e w4 ⟨rfl, v4, hd4, hr4, hf4, g4⟩
      rw [List.nil_append] at hd4 hr4
      have hK4 := hKo.out.grown g4 (by simp; omega)
      have aR4 := aRo.out.grown g4 (by simp; omega)
      have hb4 := hbo.out.grown g4 hbo.out.size (by intro j hj; simp at hj; omega)
      clear g4 hf4 hrW hdo hKo aRo hbo
      replace hd4 := Lib.hid hd4; replace hr4 := Lib.hid hr4; replace hK4 := Lib.hid hK4; replace aR4 := Lib.hid aR4; replace hb4 := Lib.hid hb4
      have hor0 : bits .or .u32 0 2147483648 = 2147483648 := by decide
      have hO' : foldB KL (foldB KL firstL (wordsL b)) (endL (remB (wordsL b)) 2147483648 (8 * (4 * (k : Int)))) = sumBytesF KL b := by
        have := hO.out
        rwa [Int.natCast_mul] at this
      replace hO' := Lib.hid hO'
      go_wp2_with fail
      all_goals
        go_loopw [9, 11, 12, 58] (fun l _ _ i wr => l = .int .u32 0 ∧ i = .int .i64 0 ∧ wr = w4) (fun _ _ _ _ _ => 0)
        case atStart => exact ⟨rfl, rfl, rfl⟩
        case round =>
          obtain ⟨rfl, rfl, rfl⟩ := hrel
          go_wp2_with fail
          refine (end_any KL _ _ _ 2147483648 (8 * (4 * (k : Int))) v4 g _ hK4.out hd4.out hr4.out (by have := remB_len (wordsL b); omega) (by omega) (by omega) (by omega) (by omega)).mono ?_
          rintro e w5 ⟨rfl, b5⟩
          rw [hO'.out]
          have aR5 := Lib.hid (aR4.out.below b5)
          have hb5 := Lib.hid (hb4.out.trans (b5.mono hb4.out.size))
          clear b5
          go_wp2_with (refine wpList_store_arr rfl 26 _ _ rfl w.heap.size rfl (sumBytesF KL b) rfl aR5.out info23 (by simp) lO.out ?_; intro w7 a7 g7; have hb7 := hb5.out.grown g7 hb5.out.size (by simp))
          refine bodyPost_ret (results_arr rfl rfl a7 Tryz.underlying26 info23 lO.out) rfl ⟨rfl, hb7⟩
end Go.Proofs.YtemanjahkohcpaaGreatDoor

namespace Go.Proofs.YtemanjahkohcpaaGreatDoor
open Go.RowKit WP
theorem remB_short (l : List UInt32) (h : l.length < 16) : remB l = l := by
  unfold remB
  rw [show l.length / 16 = 0 by omega]; simp
theorem foldB_short (KL S l : List UInt32) (h : l.length < 16) : foldB KL S l = S := by
  unfold foldB
  rw [show l.length / 16 = 0 by omega]; rfl
theorem fold_join (KL : List UInt32) (b : List UInt32) : ∀ (n : Nat) (S a : List UInt32), a.length ≤ n → foldB KL (foldB KL S a) (remB a ++ b) = foldB KL S (a ++ b) ∧ remB (remB a ++ b) = remB (a ++ b) := by
  intro n
  induction n with
  | zero => intro S a ha; rw [remB_short a (by omega), foldB_short _ _ a (by omega)]; exact ⟨rfl, rfl⟩
  | succ n ih =>
    intro S a ha
    by_cases h : a.length < 16
    · rw [remB_short a h, foldB_short _ _ a h]; exact ⟨rfl, rfl⟩
    · have h16 : 16 ≤ a.length := by omega
      have hab : 16 ≤ (a ++ b).length := by rw [List.length_append]; omega
      have e1 : (a ++ b).take 16 = a.take 16 := List.take_append_of_le_length h16
      have e2 : (a ++ b).drop 16 = a.drop 16 ++ b := List.drop_append_of_le_length h16
      rw [foldB_step KL S a h16, remB_step a h16, foldB_step KL S (a ++ b) hab, remB_step (a ++ b) hab, e1, e2]
      exact ih _ _ (by rw [List.length_drop]; omega)
theorem bAt_left (a b : List UInt8) (i : Nat) (h : i < a.length) : bAt (a ++ b) i = bAt a i := by
  simp only [bAt, List.getD_eq_getElem?_getD]; rw [List.getElem?_append_left h]
theorem bAt_right (a b : List UInt8) (i : Nat) : bAt (a ++ b) (a.length + i) = bAt b i := by
  simp only [bAt, List.getD_eq_getElem?_getD]; rw [List.getElem?_append_right (by omega)]; congr 4; omega
theorem word4_wordB (x : UInt32) (r : List UInt8) : ofI (word4 (wordB x ++ r) 0) = x := by
  have hx := x.toNat_lt
  have e : word4 (wordB x ++ r) 0 = (x.toNat : Int) := by
    simp only [word4, bAt, wordB, List.cons_append, List.nil_append, List.getD_cons_zero, List.getD_cons_succ, Nat.mul_zero, Nat.zero_add]
    simp only [UInt8.toNat_ofNat']
    omega
  rw [e]; unfold ofI; simp
theorem wordsL_cons (x : UInt32) (r : List UInt8) : wordsL (wordB x ++ r) = x :: wordsL r := by
  unfold wordsL
  have hl : (wordB x ++ r).length / 4 = r.length / 4 + 1 := by rw [List.length_append]; simp only [wordB, List.length_cons, List.length_nil]; omega
  rw [hl, List.range_succ_eq_map, List.map_cons, word4_wordB, List.map_map]
  refine congrArg (List.cons x) (List.map_congr_left fun i _ => ?_)
  simp only [Function.comp]
  refine congrArg ofI ?_
  have hw : (wordB x).length = 4 := rfl
  unfold word4
  have q : ∀ j, bAt (wordB x ++ r) (4 * (i + 1) + j) = bAt r (4 * i + j) := fun j => by
    have := bAt_right (wordB x) r (4 * i + j)
    rw [hw] at this
    rw [← this]; congr 1; omega
  have q0 := q 0; have q1 := q 1; have q2 := q 2; have q3 := q 3
  simp only [Nat.add_zero] at q0
  simp only [Nat.succ_eq_add_one]
  rw [q0, q1, q2, q3]
theorem wordsL_bytes (m : List UInt32) : wordsL (bytesL m) = m := by
  induction m with
  | nil => rfl
  | cons x m ih =>
    have e : bytesL (x :: m) = wordB x ++ bytesL m := by simp [bytesL]
    rw [e, wordsL_cons, ih]
theorem wordsL_join (m : List UInt32) : ∀ (n : Nat) (a : List UInt8), a.length = 4 * n → wordsL (a ++ bytesL m) = wordsL a ++ m := by
  intro n a ha
  unfold wordsL
  have h1 : (a ++ bytesL m).length / 4 = n + m.length := by rw [List.length_append, length_bytesL]; omega
  have h2 : a.length / 4 = n := by omega
  rw [h1, h2]
  have hm : (List.range m.length).map (fun i => ofI (word4 (bytesL m) i)) = m := by
    have := wordsL_bytes m
    unfold wordsL at this
    rwa [length_bytesL, Nat.mul_div_cancel_left _ (by decide)] at this
  apply List.ext_getElem
  · simp
  · intro i h3 h4
    simp only [List.length_map, List.length_range] at h3
    rw [List.getElem_map, List.getElem_range]
    by_cases hi : i < n
    · rw [List.getElem_append_left (by simpa using hi), List.getElem_map, List.getElem_range]
      refine congrArg ofI ?_
      unfold word4
      rw [bAt_left _ _ _ (by omega), bAt_left _ _ _ (by omega), bAt_left _ _ _ (by omega), bAt_left _ _ _ (by omega)]
    · rw [List.getElem_append_right (by simpa using hi)]
      simp only [List.length_map, List.length_range]
      have hk : i - n < m.length := by omega
      have e : m[i - n] = ofI (word4 (bytesL m) (i - n)) := by
        have := congrArg (fun l => l[i - n]?) hm
        simp only [List.getElem?_map, List.getElem?_range hk, Option.map_some, List.getElem?_eq_getElem hk, Option.some.injEq] at this
        exact this.symm
      rw [e]
      refine congrArg ofI ?_
      unfold word4
      have q : ∀ j, bAt (a ++ bytesL m) (4 * i + j) = bAt (bytesL m) (4 * (i - n) + j) := fun j => by
        rw [← bAt_right a (bytesL m)]; congr 1; omega
      have q0 := q 0
      simp only [Nat.add_zero] at q0
      rw [q0, q 1, q 2, q 3]
/-- the tag of a message under a key, both bytes -/
def tagBytesF (KL : List UInt32) (key m : List UInt8) : List UInt32 := sumBytesF KL (padL key 92 ++ bytesL (sumBytesF KL (padL key 54 ++ m)))
theorem tagBytesF_len (KL : List UInt32) (key m : List UInt8) : (tagBytesF KL key m).length = 8 := sumBytesF_len _ _
/-- the hash of a padded key and words, as the digest of words and as that of bytes -/
theorem hash_eq (KL : List UInt32) (key : List UInt8) (p : Int) (m : List UInt32) (hk : key.length ≤ 64) :
    sumF KL (foldB KL (foldB KL firstL (padW key p)) (remB (padW key p) ++ m)) (remB (remB (padW key p) ++ m)) (16 + m.length) = sumBytesF KL (padL key p ++ bytesL m) := by
  have lp := padL_len key p hk
  obtain ⟨j1, j2⟩ := fold_join KL m _ firstL (padW key p) (Nat.le_refl _)
  rw [j1, j2]
  unfold sumBytesF sumF
  rw [wordsL_join m 16 _ lp, List.length_append, lp, length_bytesL]
  have e : (32 * (16 + (m.length : Int))) = 8 * ((64 + 4 * m.length : Nat) : Int) := by omega
  rw [e]
  rfl
theorem tag_bytes (KL : List UInt32) (key : List UInt8) (m : List UInt32) (hk : key.length ≤ 64) : tagF KL key m = tagBytesF KL key (bytesL m) := by
  unfold tagF tagBytesF outerF innerF
  rw [hash_eq KL key 54 m hk, hash_eq KL key 92 _ hk]
def nameB : List UInt8 := [119, 97, 114, 100, 101, 110, 32, 107, 101, 121, 32, 49]
theorem name_bytes : bytesL keyMsg = nameB := by decide
theorem key_bytes (KL seed : List UInt32) (h : seed.length = 8) : keyF KL seed = tagBytesF KL (bytesL seed) nameB := by
  rw [← name_bytes]
  exact tag_bytes KL (bytesL seed) keyMsg (by rw [length_bytesL]; omega)
end Go.Proofs.YtemanjahkohcpaaGreatDoor

namespace Go.Proofs.YtemanjahkohcpaaGreatDoor
open Go.RowKit
theorem bytesL_append (a b : List UInt32) : bytesL (a ++ b) = bytesL a ++ bytesL b := by unfold bytesL; simp
theorem bytesL_zeros (k : Nat) : bytesL (List.replicate k 0) = List.replicate (4 * k) 0 := by
  induction k with
  | zero => rfl
  | succ k ih =>
    have e : bytesL (List.replicate (k + 1) 0) = wordB 0 ++ bytesL (List.replicate k 0) := by rw [List.replicate_succ]; rfl
    rw [e, ih, show 4 * (k + 1) = 4 + 4 * k by omega, ← List.replicate_append_replicate]
    rfl
/-- the length of a message, as bytes, the first ones -/
def beN (y m : Nat) : List UInt8 := (List.range m).map fun t => UInt8.ofNat (y / 256 ^ (7 - t) % 256)
theorem beN_len (y m : Nat) : (beN y m).length = m := by simp [beN]
theorem beN_succ (y m : Nat) : beN y (m + 1) = beN y m ++ [UInt8.ofNat (y / 256 ^ (7 - m) % 256)] := by
  unfold beN; rw [List.range_succ, List.map_append]; rfl
theorem ofNat_mod (a b : Nat) (h : a % 256 = b % 256) : UInt8.ofNat a = UInt8.ofNat b := by
  apply UInt8.toNat_inj.1
  rw [UInt8.toNat_ofNat', UInt8.toNat_ofNat']
  exact h
theorem be8_words (y : Nat) (h : y < 18446744073709551616) : beN y 8 = bytesL [ofI ((y : Int) / 4294967296), ofI ((y : Int) % 4294967296)] := by
  have h1 : (ofI ((y : Int) / 4294967296)).toNat = y / 4294967296 := by have := ofI_val ((y : Int) / 4294967296) (by omega) (by omega); omega
  have h2 : (ofI ((y : Int) % 4294967296)).toNat = y % 4294967296 := by have := ofI_val ((y : Int) % 4294967296) (by omega) (by omega); omega
  have e : beN y 8 = [UInt8.ofNat (y / 72057594037927936 % 256), UInt8.ofNat (y / 281474976710656 % 256), UInt8.ofNat (y / 1099511627776 % 256), UInt8.ofNat (y / 4294967296 % 256), UInt8.ofNat (y / 16777216 % 256), UInt8.ofNat (y / 65536 % 256), UInt8.ofNat (y / 256 % 256), UInt8.ofNat (y / 1 % 256)] := rfl
  rw [e]
  simp only [bytesL, List.flatMap_cons, List.flatMap_nil, wordB, h1, h2, List.append_nil, List.cons_append, List.nil_append]
  simp only [List.cons.injEq, and_true]
  refine ⟨ofNat_mod _ _ ?_, ofNat_mod _ _ ?_, ofNat_mod _ _ ?_, ofNat_mod _ _ ?_, ofNat_mod _ _ ?_, ofNat_mod _ _ ?_, ofNat_mod _ _ ?_, ofNat_mod _ _ ?_⟩ <;> omega
/-- how many zero bytes behind the first byte of the padding, if r words wait -/
def zerosN (r : Nat) : Nat := 3 + 4 * padK (r + 1)
theorem zerosN_end (r : Nat) : (4 * r + 1 + zerosN r) % 64 = 56 := by unfold zerosN padK; omega
theorem zerosN_no (r j : Nat) (h : j < zerosN r) : (4 * r + 1 + j) % 64 ≠ 56 := by unfold zerosN padK at h; omega
theorem zerosN_le (r : Nat) : zerosN r ≤ 63 := by unfold zerosN padK; omega
def endB (R : List UInt8) (r y : Nat) : List UInt8 := R ++ [128] ++ List.replicate (zerosN r) 0 ++ beN y 8
theorem endB_len (R : List UInt8) (r y : Nat) (hr : R.length = 4 * r) : (endB R r y).length % 64 = 0 := by
  have := zerosN_end r
  simp only [endB, List.length_append, List.length_singleton, List.length_replicate, beN_len]
  omega
theorem end_bytes (R : List UInt8) (r y : Nat) (hr : R.length = 4 * r) (hy : y < 18446744073709551616) : wordsL (endB R r y) = endL (wordsL R) 2147483648 (y : Int) := by
  have e : endB R r y = R ++ bytesL ([ofI 2147483648] ++ List.replicate (padK (r + 1)) 0 ++ [ofI ((y : Int) / 4294967296), ofI ((y : Int) % 4294967296)]) := by
    unfold endB zerosN
    rw [be8_words y hy, bytesL_append, bytesL_append, bytesL_zeros, ← List.replicate_append_replicate (n := 3) (m := 4 * padK (r + 1))]
    rw [show bytesL [ofI 2147483648] = [128] ++ List.replicate 3 0 from rfl]
    simp only [List.append_assoc]
  have hl : (wordsL R).length = r := by unfold wordsL; rw [List.length_map, List.length_range, hr]; omega
  rw [e, wordsL_join _ r R hr]
  unfold endL
  rw [hl]
  simp only [List.append_assoc]
/-- whole words ahead of a place -/
theorem wordsL_drop (b : List UInt8) (q : Nat) (h : b.length % 4 = 0) (hq : 4 * q ≤ b.length) : wordsL (b.drop (4 * q)) = (wordsL b).drop q := by
  have bd : ∀ j, bAt (b.drop (4 * q)) j = bAt b (4 * q + j) := fun j => by unfold bAt; rw [List.getD_eq_getElem?_getD, List.getD_eq_getElem?_getD, List.getElem?_drop]
  have wd : ∀ i, word4 (b.drop (4 * q)) i = word4 b (q + i) := fun i => by
    unfold word4
    rw [bd, bd, bd, bd, show 4 * q + 4 * i = 4 * (q + i) by omega, show 4 * q + (4 * i + 1) = 4 * (q + i) + 1 by omega, show 4 * q + (4 * i + 2) = 4 * (q + i) + 2 by omega, show 4 * q + (4 * i + 3) = 4 * (q + i) + 3 by omega]
  apply List.ext_getElem?
  intro i
  rw [List.getElem?_drop]
  unfold wordsL
  rw [List.getElem?_map, List.getElem?_map]
  by_cases hi : q + i < b.length / 4
  · rw [List.getElem?_range hi, List.getElem?_range (by rw [List.length_drop]; omega), Option.map_some, Option.map_some, wd]
  · have n1 : (List.range (b.length / 4))[q + i]? = none := List.getElem?_eq_none (by rw [List.length_range]; omega)
    have n2 : (List.range ((b.drop (4 * q)).length / 4))[i]? = none := List.getElem?_eq_none (by rw [List.length_range, List.length_drop]; omega)
    rw [n1, n2, Option.map_none, Option.map_none]
theorem wordsL_len (b : List UInt8) : (wordsL b).length = b.length / 4 := by simp [wordsL]
/-- the state behind the first whole blocks -/
def stN (KL S l : List UInt32) : Nat → List UInt32
  | 0 => S
  | k + 1 => blockF KL (stN KL S l k) ((l.drop (16 * k)).take 16)
theorem stN_len (KL S l : List UInt32) (h : S.length = 8) : ∀ k, (stN KL S l k).length = 8
  | 0 => h
  | k + 1 => blockF_len _ _ _ (stN_len KL S l h k)
theorem foldN_stN (KL l : List UInt32) : ∀ (n k : Nat) (S : List UInt32), foldN KL n (stN KL S l k) (l.drop (16 * k)) = stN KL S l (k + n)
  | 0, k, S => rfl
  | n + 1, k, S => by
    have ih := foldN_stN KL l n (k + 1) S
    simp only [foldN]
    rw [List.drop_drop, show 16 * k + 16 = 16 * (k + 1) by omega]
    rw [show k + (n + 1) = k + 1 + n by omega, ← ih]
    rfl
theorem stN_fold (KL S l : List UInt32) : stN KL S l (l.length / 16) = foldB KL S l := by
  have := foldN_stN KL l (l.length / 16) 0 S
  simp only [Nat.mul_zero, List.drop_zero, Nat.zero_add] at this
  rw [← this]; rfl
end Go.Proofs.YtemanjahkohcpaaGreatDoor
