/- The contracts of HexAll, Words and ParseAll of package word. -/
import Derived.Test.YtedhinekkmoheaaWordC
import Derived.StillTailTactics
namespace Go.Proofs.Ytedhinekkmoheaa
open Go.RowKit WP

def hexAllL (l : List UInt32) : List UInt8 := l.flatMap fun x => hexL x.toNat
theorem length_hexL (n : Nat) : (hexL n).length = 8 := by simp [hexL]
theorem length_hexAllL (l : List UInt32) : (hexAllL l).length = 8 * l.length := by
  induction l with
  | nil => rfl
  | cons a l ih => simp only [hexAllL, List.flatMap_cons, List.length_append, List.length_cons] at ih ⊢; rw [ih, length_hexL]; omega
theorem hexAllL_take (l : List UInt32) (k : Nat) (h : k < l.length) : hexAllL (l.take (k + 1)) = hexAllL (l.take k) ++ hexL (wAt l k).toNat := by
  unfold hexAllL; rw [List.take_succ_eq_append_getElem h, List.flatMap_append]; simp [wAt, h]
set_option maxHeartbeats 400000 in
theorem hexall_any (va : Value) (l : List UInt32) (w : World) (ha : Rd w va (vw l)) (hl : l.length ≤ 4294967296) :
    Calls Try.prog 27 #[va] w fun e w' => e = .returned (.string ⟨(hexAllL l).toArray⟩) ∧ Below w.heap.size w w' := by
  obtain ⟨ao, ca, rfl, a1, a2, a3⟩ := ha.words
  obtain ⟨i0, hi, hz0, hz1, hz2⟩ := info_parts info5
  have a3 := Lib.hid a3
  go_enter Try.func27, Try.ntmps27
  go_wp2_with (at_make; refine wpList_make_own _ rfl _ _ 48 rfl w.heap.size 5 i0 (.int .u8 0) 1 Try.underlying48 hi hz0 hz1 .i64 .i64 _ (8 * l.length) rfl rfl ?m0 ?m1 ?m2 ?m3 ?_)
  case m0 => simp
  case m1 => rw [hz2]; omega
  case m2 => simp only [maxLen]; omega
  case m3 => omega
  intro w1 ho hg
  have hb := (Below.refl w.heap.size w).grown hg (Nat.le_refl _) (by simp)
  clear hg
  have ho := Lib.hid ho; have hb := Lib.hid hb
  go_wp2
  go_loopw [3, 4, 11] (fun b _ i wr => ∃ k : Nat, k ≤ l.length ∧ i = .int .i64 k ∧ wr.ownsRow w.heap.size 5 1 b (8 * k) (vb (hexAllL (l.take k))) ∧ Below w.heap.size w wr) (fun _ _ i _ => l.length - (intOf i).toNat)
  case atStart => exact ⟨0, by omega, rfl, ho.out, hb.out⟩
  case round =>
    obtain ⟨k, hk, rfl, ho, hb⟩ := hrel
    have hs := hb.size
    by_cases hlt : k < l.length
    · obtain ⟨ba, oa, rfl, hba, hca⟩ := a3.out.resolve_left (by intro h; rw [h] at hlt; simp at hlt)
      have hca := (hb.cell (p := ⟨ba, oa + k, none⟩) hba).trans (hca k hlt)
      obtain ⟨x1, x2⟩ := wAt_bd l k
      have ho := Lib.hid ho; have hb := Lib.hid hb
      go_wp2_with fail
      refine (put_any _ _ (8 * k) w.heap.size _ _ x1 x2 ho.out hs (by omega)).mono ?_
      rintro e w2 ⟨v1, rfl, ho1, hO1⟩
      have hfin : w2.ownsRow w.heap.size 5 1 v1 (8 * (k + 1)) (vb (hexAllL (l.take (k + 1)))) := by
        rw [hexAllL_take l k hlt, vb_append]; exact ho1
      have hb2 := hb.out.trans (hO1.below (B := w.heap.size) hs (fun g hg => (ho.out.lt g hg).1))
      clear ho1 hO1 hca
      have hfin := Lib.hid hfin
      have hb2 := Lib.hid hb2
      go_wp2
      go_roundw
      case rel => exact ⟨k + 1, by omega, by go_num, hfin.out, hb2.out⟩
      case measure => simp [intOf]; omega
    · obtain rfl : k = l.length := by omega
      rw [List.take_of_length_le (Nat.le_refl _)] at ho
      have hcv := conv_bytes (P := Try.prog) (Rd.of_own ho) 48 5 9 Try.underlying48 Try.underlying5 Try.underlying9
      have ho := Lib.hid ho; have hb := Lib.hid hb
      go_wp2
      go_ret
      exact ⟨rfl, hb.out⟩
/-! ### Words -/
def word4 (l : List UInt8) (i : Nat) : Int := bAt l (4 * i) * 16777216 + bAt l (4 * i + 1) * 65536 + bAt l (4 * i + 2) * 256 + bAt l (4 * i + 3)
theorem word4_bd (l : List UInt8) (i : Nat) : 0 ≤ word4 l i ∧ word4 l i ≤ 4294967295 := by
  have := bAt_bd l (4 * i); have := bAt_bd l (4 * i + 1); have := bAt_bd l (4 * i + 2); have := bAt_bd l (4 * i + 3)
  unfold word4; omega
theorem or4 (a b c d : Int) (a1 : 0 ≤ a) (a2 : a ≤ 255) (b1 : 0 ≤ b) (b2 : b ≤ 255) (c1 : 0 ≤ c) (c2 : c ≤ 255) (d1 : 0 ≤ d) (d2 : d ≤ 255) :
    bits .or .u32 (bits .or .u32 (bits .or .u32 (a * 16777216) (b * 65536)) (c * 256)) d = a * 16777216 + b * 65536 + c * 256 + d := by
  rw [u32_or (a * 16777216) _ (by omega) (by omega) (by omega) (by omega), nat_join 24 _ _ (by omega) (by omega)]
  rw [u32_or _ (c * 256) (by omega) (by omega) (by omega) (by omega), nat_join 16 _ _ (by omega) (by omega)]
  rw [u32_or _ d (by omega) (by omega) (by omega) (by omega), nat_join 8 _ _ (by omega) (by omega)]
  omega
def wordsL (l : List UInt8) : List UInt32 := (List.range (l.length / 4)).map fun i => ofI (word4 l i)
/-- the first k of n, then zeros -/
def filled (f : Nat → Int) (n k : Nat) : List Value := ((List.range n).map fun i => if i < k then .int .u32 (f i) else .int .u32 0)
theorem filled_zero (f : Nat → Int) (n : Nat) : filled f n 0 = List.replicate n (.int .u32 0) := by
  apply List.ext_getElem <;> simp [filled]
theorem filled_step (f : Nat → Int) (n k : Nat) (h : k < n) : (filled f n k).set k (.int .u32 (f k)) = filled f n (k + 1) := by
  apply List.ext_getElem
  · simp [filled]
  · intro i h1 h2
    simp only [filled, List.length_set, List.length_map, List.length_range] at h1
    rw [List.getElem_set]
    simp only [filled, List.getElem_map, List.getElem_range]
    by_cases hik : k = i
    · subst hik; simp
    · rw [if_neg hik]
      by_cases h3 : i < k
      · rw [if_pos h3, if_pos (by omega)]
      · rw [if_neg h3, if_neg (by omega)]
theorem filled_full (f : Nat → Int) (n : Nat) (hf : ∀ i, 0 ≤ f i ∧ f i ≤ 4294967295) : filled f n n = vw ((List.range n).map fun i => ofI (f i)) := by
  apply List.ext_getElem
  · simp [filled, vw]
  · intro i h1 h2
    simp only [filled, List.length_map, List.length_range] at h1
    simp [filled, vw, h1, ofI_val _ (hf i).1 (hf i).2]
theorem filled_get (f : Nat → Int) (n k : Nat) (h : k < n) : ∃ u, (filled f n k)[k]? = some u := ⟨_, List.getElem?_eq_getElem (by simpa [filled] using h)⟩
set_option maxHeartbeats 800000 in
theorem words_yes (vb_ : Value) (l : List UInt8) (w : World) (ha : Rd w vb_ (vb l)) (hl : l.length ≤ 1048576) (h4 : l.length % 4 = 0) :
    Calls Try.prog 28 #[vb_] w fun e w' => ∃ v', e = .returned (.tuple #[v', .int .i64 0]) ∧ w'.ownsRow w.heap.size 22 1 v' (l.length / 4) (vw (wordsL l)) ∧ Below w.heap.size w w' := by
  obtain ⟨ao, ca, rfl, a1, a2, a3⟩ := ha.bytes
  obtain ⟨i0, hi, hz0, hz1, hz2⟩ := info_parts info22
  obtain ⟨n, hn⟩ : ∃ n, l.length = 4 * n := ⟨l.length / 4, by omega⟩
  have hdiv : l.length / 4 = n := by omega
  unfold wordsL
  rw [hdiv, hn]
  have a3 := Lib.hid a3; have hn' := Lib.hid hn
  have a1' : 4 * n ≤ ca := by omega
  have hn1 : n ≤ 262144 := by omega
  have e1 : ((4 * (n : Int)) % 4 != 0) = false := by simp
  have e2 : (4 * (n : Int)) / 4 = n := by omega
  clear hn hdiv a1 h4 hl
  go_enter Try.func28, Try.ntmps28
  go_wp2_with (at_make; refine wpList_make_full _ rfl _ _ 39 rfl w.heap.size 22 i0 (.int .u32 0) 1 Try.underlying39 hi hz0 hz1 .i64 .i64 _ _ n rfl rfl ?m0 ?m4 ?m1 ?m2 ?m3 ?_)
  case m0 => rfl
  case m4 => rfl
  case m1 => rw [hz2]; omega
  case m2 => simp only [maxLen]; omega
  case m3 => exact Nat.le_refl _
  intro w1 ho hg
  have hb := (Below.refl w.heap.size w).grown hg (Nat.le_refl _) (by simp)
  have ho : w1.ownsRow w.heap.size 22 1 (.slice (some ⟨w.heap.size, 0, none⟩) n n) n (filled (word4 l) n 0) := by
    rw [filled_zero, ← toList_madeCells_one]; exact ho
  clear hg
  have ho := Lib.hid ho; have hb := Lib.hid hb
  go_wp2
  go_loopw [5, 6, 20] (fun _ _ i wr => ∃ k : Nat, k ≤ n ∧ i = .int .i64 k ∧ wr.ownsRow w.heap.size 22 1 (.slice (some ⟨w.heap.size, 0, none⟩) n n) n (filled (word4 l) n k) ∧ Below w.heap.size w wr) (fun _ _ i _ => n - (intOf i).toNat)
  case atStart => exact ⟨0, by omega, rfl, ho.out, hb.out⟩
  case round =>
    obtain ⟨k, hk, rfl, ho, hb⟩ := hrel
    have hs := hb.size
    by_cases hlt : k < n
    · have hl4 : 4 * k + 4 ≤ l.length := by have := hn'.out; omega
      obtain ⟨ba, oa, rfl, hba, hca⟩ := a3.out.resolve_left (by intro h; rw [h] at hl4; simp at hl4)
      have hc0 := (hb.cell (p := ⟨ba, oa + 4 * k, none⟩) hba).trans (hca (4 * k) (by omega))
      have hc1 := (hb.cell (p := ⟨ba, oa + 4 * k + 1, none⟩) hba).trans (hca (4 * k + 1) (by omega))
      have hc2 := (hb.cell (p := ⟨ba, oa + 4 * k + 2, none⟩) hba).trans (hca (4 * k + 2) (by omega))
      have hc3 := (hb.cell (p := ⟨ba, oa + 4 * k + 3, none⟩) hba).trans (hca (4 * k + 3) (by omega))
      have hor : bits .or .u32 (bits .or .u32 (bits .or .u32 (bAt l (4 * k) * 16777216) (bAt l (4 * k + 1) * 65536)) (bAt l (4 * k + 2) * 256)) (bAt l (4 * k + 3)) = word4 l k := or4 (bAt l (4 * k)) (bAt l (4 * k + 1)) (bAt l (4 * k + 2)) (bAt l (4 * k + 3)) (bAt_bd l _).1 (bAt_bd l _).2 (bAt_bd l _).1 (bAt_bd l _).2 (bAt_bd l _).1 (bAt_bd l _).2 (bAt_bd l _).1 (bAt_bd l _).2
      obtain ⟨p1, p2⟩ := bAt_bd l (4 * k)
      obtain ⟨q1, q2⟩ := bAt_bd l (4 * k + 1)
      obtain ⟨r1, r2⟩ := bAt_bd l (4 * k + 2)
      obtain ⟨s1, s2⟩ := bAt_bd l (4 * k + 3)
      obtain ⟨u, hu⟩ := filled_get (word4 l) n k hlt
      have hcu := (ho.cellAt k (by omega)).trans hu
      have hfu := ho.frozenAt k
      have hst := ho.stored k (.int .u32 (word4 l k))
      have g1 : 4 * k < ca := by omega
      have ho := Lib.hid ho; have hb := Lib.hid hb
      have hst := Lib.hid hst
      clear hu hca
      go_wp2_with fail
      go_region
      go_wp2
      go_roundw
      case rel =>
        refine ⟨k + 1, by omega, by go_num, ?_, ?_⟩
        · rw [← filled_step _ _ _ hlt]; exact hst.out.1
        · exact (hb.out.grown hst.out.2 hs (by simp)).drew
      case measure => simp [intOf]; omega
    · obtain rfl : k = n := by omega
      rw [filled_full _ _ (word4_bd l)] at ho
      have ho := Lib.hid ho; have hb := Lib.hid hb
      go_wp2
      go_ret2
      exact ⟨_, rfl, ho.out, hb.out⟩
theorem words_long (va : Value) (l : List UInt8) (w : World) (ha : Rd w va (vb l)) (hl : 1048576 < l.length) :
    Calls Try.prog 28 #[va] w fun e w' => e = .returned (.tuple #[.slice none 0 0, .int .i64 2]) ∧ w = w' := by
  obtain ⟨ao, ca, rfl, a1, a2, a3⟩ := ha.bytes
  clear a3
  go_enter Try.func28, Try.ntmps28
  go_wp2
  go_ret2
  exact ⟨rfl, rfl⟩
theorem words_part (va : Value) (l : List UInt8) (w : World) (ha : Rd w va (vb l)) (hl : l.length ≤ 1048576) (h4 : l.length % 4 ≠ 0) :
    Calls Try.prog 28 #[va] w fun e w' => e = .returned (.tuple #[.slice none 0 0, .int .i64 11]) ∧ w = w' := by
  obtain ⟨ao, ca, rfl, a1, a2, a3⟩ := ha.bytes
  clear a3
  have e1 : ((l.length : Int) % 4 != 0) = true := by simp; omega
  clear h4
  go_enter Try.func28, Try.ntmps28
  go_wp2
  go_ret2
  exact ⟨rfl, rfl⟩
end Go.Proofs.Ytedhinekkmoheaa
