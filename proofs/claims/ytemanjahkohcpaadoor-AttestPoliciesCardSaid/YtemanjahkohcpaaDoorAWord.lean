/- The contracts of word.Bytes and word.Words. -/
import Derived.Test.YtemanjahkohcpaaDoorARot
namespace Go.Proofs.YtemanjahkohcpaaDoor
open Go.RowKit WP
theorem info5 : (Tryd.prog.info? 5).map (fun i => (i.zero, i.size, i.bytes)) = some (some (.int .u8 0), 1, 1) := by kernel_rfl
theorem info22 : (Tryd.prog.info? 22).map (fun i => (i.zero, i.size, i.bytes)) = some (some (.int .u32 0), 1, 4) := by kernel_rfl
def wordB (x : UInt32) : List UInt8 := [UInt8.ofNat (x.toNat / 16777216), UInt8.ofNat (x.toNat / 65536), UInt8.ofNat (x.toNat / 256), UInt8.ofNat x.toNat]
def bytesL (l : List UInt32) : List UInt8 := l.flatMap wordB
theorem length_bytesL (l : List UInt32) : (bytesL l).length = 4 * l.length := by
  induction l with
  | nil => rfl
  | cons a l ih => simp only [bytesL, List.flatMap_cons, List.length_append, List.length_cons] at ih ⊢; rw [ih]; simp [wordB]; omega
theorem bytesL_take (l : List UInt32) (k : Nat) (h : k < l.length) : bytesL (l.take (k + 1)) = bytesL (l.take k) ++ wordB l[k] := by
  unfold bytesL; rw [List.take_succ_eq_append_getElem h, List.flatMap_append]; simp
theorem wordB_val (l : List UInt32) (k : Nat) (h : k < l.length) :
    [Value.int .u8 (wAt l k / 16777216), .int .u8 (wAt l k / 65536 % 256), .int .u8 (wAt l k / 256 % 256), .int .u8 (wAt l k % 256)] = vb (wordB l[k]) := by
  have hlt := (l[k]).toNat_lt
  simp only [wordB, vb, List.map_cons, List.map_nil, wAt, List.getD_eq_getElem?_getD, List.getElem?_eq_getElem h, Option.getD_some, UInt8.toNat_ofNat']
  simp
  omega
set_option maxRecDepth 100000 in
set_option maxHeartbeats 1600000 in
theorem bytes_any (va : Value) (l : List UInt32) (w : World) (ha : Rd w va (vw l)) (hl : l.length ≤ 4294967296) :
    Calls Tryd.prog 13 #[va] w fun e w' => ∃ v', e = .returned v' ∧ w'.ownsRow w.heap.size 5 1 v' (4 * l.length) (vb (bytesL l)) ∧ Below w.heap.size w w' := by
  obtain ⟨ao, ca, rfl, a1, a2, a3⟩ := ha.words
  obtain ⟨i0, hi, hz0, hz1, hz2⟩ := info_parts info5
  have a3 := Lib.hid a3
  go_enter Tryd.func13, Tryd.ntmps13
  go_wp2_with (at_make; refine wpList_make_own _ rfl _ _ 30 rfl w.heap.size 5 i0 (.int .u8 0) 1 Tryd.underlying30 hi hz0 hz1 .i64 .i64 _ (4 * l.length) rfl rfl ?m0 ?m1 ?m2 ?m3 ?_)
  case m0 => simp
  case m1 => rw [hz2]; omega
  case m2 => simp only [maxLen]; omega
  case m3 => omega
  intro w1 ho hg
  have hb := (Below.refl w.heap.size w).grown hg (Nat.le_refl _) (by simp)
  clear hg
  have ho := Lib.hid ho; have hb := Lib.hid hb
  go_wp2
  go_loopw [3, 4, 5, 12] (fun b _ _ i wr => ∃ k : Nat, k ≤ l.length ∧ i = .int .i64 k ∧ wr.ownsRow w.heap.size 5 1 b (4 * k) (vb (bytesL (l.take k))) ∧ Below w.heap.size w wr) (fun _ _ _ i _ => l.length - (intOf i).toNat)
  case atStart => exact ⟨0, by omega, rfl, ho.out, hb.out⟩
  case round =>
    obtain ⟨k, hk, rfl, ho, hb⟩ := hrel
    have hs := hb.size
    by_cases hlt : k < l.length
    · obtain ⟨ba, oa, rfl, hba, hca⟩ := a3.out.resolve_left (by intro h; rw [h] at hlt; simp at hlt)
      have hca := (hb.cell (p := ⟨ba, oa + k, none⟩) hba).trans (hca k hlt)
      have xb := wAt_bd l k
      have hv := Lib.hid (wordB_val l k hlt)
      obtain ⟨x1, x2⟩ := xb
      have ho := Lib.hid ho; have hb := Lib.hid hb
      go_wp2_with (at_builtin; refine wpList_append_onto' _ rfl _ _ 30 rfl w.heap.size 5 i0 (.int .u8 0) 1 1 Tryd.underlying30 hi hz0 hz1 hz2 rfl (by decide) _ _ _ rfl (ho.out.alloc _) ⟨wr.heap.size, 0, none⟩ 4 4 [.int .u8 (wAt l k / 16777216), .int .u8 (wAt l k / 65536 % 256), .int .u8 (wAt l k / 256 % 256), .int .u8 (wAt l k % 256)] rfl rfl ?c1 ?c2 ?c3 ?c4 ?c5 ?_)
      case c1 => exact cells_new _ _ _ _
      case c2 => simp [Value.oneCell']
      case c3 => simp only [maxLen]; omega
      case c4 => omega
      case c5 => simp; omega
      intro v1 w2 ho1 hO1
      have hfin : w2.ownsRow w.heap.size 5 1 v1 (4 * (k + 1)) (vb (bytesL (l.take (k + 1)))) := by
        rw [bytesL_take l k hlt, vb_append, ← hv.out]; exact ho1
      have hb2 := hb.out.trans ((Onto.alloc _ hO1 (fun g hg => (ho.out.lt g hg).2)).below (B := w.heap.size) hs (fun g hg => (ho.out.lt g hg).1))
      clear ho1 hO1 hca
      have hfin := Lib.hid hfin
      have hb2 := Lib.hid hb2
      go_wp2
      go_roundw
      case rel => exact ⟨k + 1, by omega, by go_num, hfin.out, hb2.out⟩
      case measure => simp [intOf]; omega
    · obtain rfl : k = l.length := by omega
      rw [List.take_of_length_le (Nat.le_refl _)] at ho
      go_wp2_with fail
      go_ret
      exact ⟨_, rfl, ho, hb⟩
/-! ### Words -/
def word4 (l : List UInt8) (i : Nat) : Int := bAt l (4 * i) * 16777216 + bAt l (4 * i + 1) * 65536 + bAt l (4 * i + 2) * 256 + bAt l (4 * i + 3)
theorem word4_bd (l : List UInt8) (i : Nat) : 0 ≤ word4 l i ∧ word4 l i ≤ 4294967295 := by
  have := bAt_bd l (4 * i); have := bAt_bd l (4 * i + 1); have := bAt_bd l (4 * i + 2); have := bAt_bd l (4 * i + 3)
  unfold word4; omega
theorem or4 (a b c d : Int) (a1 : 0 ≤ a) (a2 : a ≤ 255) (b1 : 0 ≤ b) (b2 : b ≤ 255) (c1 : 0 ≤ c) (c2 : c ≤ 255) (d1 : 0 ≤ d) (d2 : d ≤ 255) :
    bits .or .u32 (bits .or .u32 (bits .or .u32 (a * 16777216) (b * 65536)) (c * 256)) d = a * 16777216 + b * 65536 + c * 256 + d := by
  rw [u32_or (a * 16777216) _ (by omega) (by omega) (by omega) (by omega), nat_join 24 _ _ (by omega) (by omega)]
  rw [u32_or _ (c * 256) (by omega) (by omega) (by omega) (by omega), nat_join 16 _ _ (by omega) (by omega)]
  rw [u32_or _ d (by omega) (by omega) (by omega) (by omega), nat_join 8 _ _ (by omega) (by omega)]
  omega
def wordsL (l : List UInt8) : List UInt32 := (List.range (l.length / 4)).map fun i => ofI (word4 l i)
/-- the first k of n, then zeros -/
def filled (f : Nat → Int) (n k : Nat) : List Value := ((List.range n).map fun i => if i < k then .int .u32 (f i) else .int .u32 0)
theorem filled_zero (f : Nat → Int) (n : Nat) : filled f n 0 = List.replicate n (.int .u32 0) := by
  apply List.ext_getElem <;> simp [filled]
theorem filled_step (f : Nat → Int) (n k : Nat) (_h : k < n) : (filled f n k).set k (.int .u32 (f k)) = filled f n (k + 1) := by
  apply List.ext_getElem
  · simp [filled]
  · intro i h1 h2
    simp only [filled, List.length_set, List.length_map, List.length_range] at h1
    rw [List.getElem_set]
    simp only [filled, List.getElem_map, List.getElem_range]
    by_cases hik : k = i
    · subst hik; simp
    · rw [if_neg hik]
      by_cases h3 : i < k
      · rw [if_pos h3, if_pos (by omega)]
      · rw [if_neg h3, if_neg (by omega)]
theorem filled_full (f : Nat → Int) (n : Nat) (hf : ∀ i, 0 ≤ f i ∧ f i ≤ 4294967295) : filled f n n = vw ((List.range n).map fun i => ofI (f i)) := by
  apply List.ext_getElem
  · simp [filled, vw]
  · intro i h1 h2
    simp only [filled, List.length_map, List.length_range] at h1
    simp [filled, vw, h1, ofI_val _ (hf i).1 (hf i).2]
theorem filled_get (f : Nat → Int) (n k : Nat) (h : k < n) : ∃ u, (filled f n k)[k]? = some u := ⟨_, List.getElem?_eq_getElem (by simpa [filled] using h)⟩
set_option maxRecDepth 100000 in
set_option maxHeartbeats 1600000 in
theorem words_yes (vb_ : Value) (l : List UInt8) (w : World) (ha : Rd w vb_ (vb l)) (hl : l.length ≤ 1048576) (h4 : l.length % 4 = 0) :
    Calls Tryd.prog 74 #[vb_] w fun e w' => ∃ v', e = .returned (.tuple #[v', .int .i64 0]) ∧ w'.ownsRow w.heap.size 22 1 v' (l.length / 4) (vw (wordsL l)) ∧ Below w.heap.size w w' := by
  obtain ⟨ao, ca, rfl, a1, a2, a3⟩ := ha.bytes
  obtain ⟨i0, hi, hz0, hz1, hz2⟩ := info_parts info22
  obtain ⟨n, hn⟩ : ∃ n, l.length = 4 * n := ⟨l.length / 4, by omega⟩
  have hdiv : l.length / 4 = n := by omega
  unfold wordsL
  rw [hdiv, hn]
  have a3 := Lib.hid a3; have hn' := Lib.hid hn
  have a1' : 4 * n ≤ ca := by omega
  have hn1 : n ≤ 262144 := by omega
  have e1 : ((4 * (n : Int)) % 4 != 0) = false := by simp
  have e2 : (4 * (n : Int)) / 4 = n := by omega
  clear hn hdiv a1 h4 hl
  go_enter Tryd.func74, Tryd.ntmps74
  go_wp2_with (at_make; refine wpList_make_full _ rfl _ _ 25 rfl w.heap.size 22 i0 (.int .u32 0) 1 Tryd.underlying25 hi hz0 hz1 .i64 .i64 _ _ n rfl rfl ?m0 ?m4 ?m1 ?m2 ?m3 ?_)
  case m0 => rfl
  case m4 => rfl
  case m1 => rw [hz2]; omega
  case m2 => simp only [maxLen]; omega
  case m3 => exact Nat.le_refl _
  intro w1 ho hg
  have hb := (Below.refl w.heap.size w).grown hg (Nat.le_refl _) (by simp)
  have ho : w1.ownsRow w.heap.size 22 1 (.slice (some ⟨w.heap.size, 0, none⟩) n n) n (filled (word4 l) n 0) := by
    rw [filled_zero, ← toList_madeCells_one]; exact ho
  clear hg
  have ho := Lib.hid ho; have hb := Lib.hid hb
  go_wp2
  go_loopw [5, 6, 20] (fun _ _ i wr => ∃ k : Nat, k ≤ n ∧ i = .int .i64 k ∧ wr.ownsRow w.heap.size 22 1 (.slice (some ⟨w.heap.size, 0, none⟩) n n) n (filled (word4 l) n k) ∧ Below w.heap.size w wr) (fun _ _ i _ => n - (intOf i).toNat)
  case atStart => exact ⟨0, by omega, rfl, ho.out, hb.out⟩
  case round =>
    obtain ⟨k, hk, rfl, ho, hb⟩ := hrel
    have hs := hb.size
    by_cases hlt : k < n
    · have hl4 : 4 * k + 4 ≤ l.length := by have := hn'.out; omega
      obtain ⟨ba, oa, rfl, hba, hca⟩ := a3.out.resolve_left (by intro h; rw [h] at hl4; simp at hl4)
      have hc0 := (hb.cell (p := ⟨ba, oa + 4 * k, none⟩) hba).trans (hca (4 * k) (by omega))
      have hc1 := (hb.cell (p := ⟨ba, oa + 4 * k + 1, none⟩) hba).trans (hca (4 * k + 1) (by omega))
      have hc2 := (hb.cell (p := ⟨ba, oa + 4 * k + 2, none⟩) hba).trans (hca (4 * k + 2) (by omega))
      have hc3 := (hb.cell (p := ⟨ba, oa + 4 * k + 3, none⟩) hba).trans (hca (4 * k + 3) (by omega))
      have hor : bits .or .u32 (bits .or .u32 (bits .or .u32 (bAt l (4 * k) * 16777216) (bAt l (4 * k + 1) * 65536)) (bAt l (4 * k + 2) * 256)) (bAt l (4 * k + 3)) = word4 l k := or4 (bAt l (4 * k)) (bAt l (4 * k + 1)) (bAt l (4 * k + 2)) (bAt l (4 * k + 3)) (bAt_bd l _).1 (bAt_bd l _).2 (bAt_bd l _).1 (bAt_bd l _).2 (bAt_bd l _).1 (bAt_bd l _).2 (bAt_bd l _).1 (bAt_bd l _).2
      obtain ⟨p1, p2⟩ := bAt_bd l (4 * k)
      obtain ⟨q1, q2⟩ := bAt_bd l (4 * k + 1)
      obtain ⟨r1, r2⟩ := bAt_bd l (4 * k + 2)
      obtain ⟨s1, s2⟩ := bAt_bd l (4 * k + 3)
      obtain ⟨u, hu⟩ := filled_get (word4 l) n k hlt
      have hcu := (ho.cellAt k (by omega)).trans hu
      have hfu := ho.frozenAt k
      have hst := ho.stored k (.int .u32 (word4 l k))
      have g1 : 4 * k < ca := by omega
      have ho := Lib.hid ho; have hb := Lib.hid hb
      have hst := Lib.hid hst
      clear hu hca
      go_wp2_with fail
      go_region
      go_wp2
      go_roundw
      case rel =>
        refine ⟨k + 1, by omega, by go_num, ?_, ?_⟩
        · rw [← filled_step _ _ _ hlt]; exact hst.out.1
        · exact (hb.out.grown hst.out.2 hs (by simp)).drew
      case measure => simp [intOf]; omega
    · obtain rfl : k = n := by omega
      rw [filled_full _ _ (word4_bd l)] at ho
      have ho := Lib.hid ho; have hb := Lib.hid hb
      go_wp2
      go_ret2
      exact ⟨_, rfl, ho.out, hb.out⟩
end Go.Proofs.YtemanjahkohcpaaDoor
