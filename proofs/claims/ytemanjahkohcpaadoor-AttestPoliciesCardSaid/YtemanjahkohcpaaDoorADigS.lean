/- The contracts of a digest's Sum and Copy. -/
import Derived.Test.YtemanjahkohcpaaDoorADigE
namespace Go.Proofs.YtemanjahkohcpaaDoor
open Go.RowKit WP
/-- the sum of a digest -/
def sumF (KL S L : List UInt32) (n : Int) : List UInt32 := foldB KL S (endL L 2147483648 (32 * n))
theorem sumF_len (KL S L : List UInt32) (n : Int) (h : S.length = 8) : (sumF KL S L n).length = 8 := foldB_len _ _ _ h
set_option maxRecDepth 100000 in
set_option maxHeartbeats 2000000 in
theorem dsum_any (KL S L : List UInt32) (n : Int) (v : Value) (g : Nat) (w : World) (hK : Rounds w KL) (hd : Dig w g S n v) (hv : Rd w v (vw L)) (hL : L.length ≤ 4294967296) (hn : 0 ≤ n) (hn2 : n ≤ 1099511627776) :
    Calls Tryd.prog 54 #[.pointer (some ⟨g, 0, none⟩)] w fun e w' => e = .returned (.agg (vw (sumF KL S L n)).toArray) ∧ Below w.heap.size w w' := by
  have aN : Arr (w.alloc (.cells (vw (List.replicate 8 0)).toArray 23)) w.heap.size 23 (List.replicate 8 0) := Arr.new _ _ _
  have hb1 : Below w.heap.size w (w.alloc (.cells (vw (List.replicate 8 0)).toArray 23)) := (Below.refl _ _).alloc (Nat.le_refl _) _
  have hd1 := hd.below hb1
  have hK1 := hK.below hb1
  have hv1 := hv.mono hb1
  have cn : (w.alloc (.cells (vw (List.replicate 8 0)).toArray 23)).cell? ⟨g, 8, none⟩ = _ := hd1.cn
  have lS := hd.len
  obtain ⟨w1, hw1⟩ : ∃ w1, w.alloc (.cells (vw (List.replicate 8 0)).toArray 23) = w1 := ⟨_, rfl⟩
  rw [hw1] at aN hb1 hd1 hK1 hv1 cn
  replace aN := Lib.hid aN; replace hb1 := Lib.hid hb1; replace hd1 := Lib.hid hd1; replace hK1 := Lib.hid hK1; replace hv1 := Lib.hid hv1
  clear hd hK hv
  go_enter Tryd.func54, Tryd.ntmps54
  go_upto_region 1 with fail
  change Code.wp _ _ _ _ (w.alloc (.cells (vw (List.replicate 8 0)).toArray 23))
  rw [hw1]
  clear hw1
  go_wp2_with fail
  refine (end_any KL S L n 2147483648 (32 * n) v g w1 hK1.out hd1.out hv1.out hL (by omega) (by omega) (by omega) (by omega)).mono ?_
  rintro e w2 ⟨rfl, b2⟩
  have a2 := Lib.hid (aN.out.below b2)
  have hb2 := Lib.hid (hb1.out.trans (b2.mono hb1.out.size))
  have lF := Lib.hid (sumF_len KL S L n lS)
  clear b2
  go_wp2_with (refine wpList_store_arr rfl 23 _ _ rfl w.heap.size rfl (sumF KL S L n) rfl a2.out info23 (by simp) lF.out ?_; intro w3 a3 g3; have hb3 := hb2.out.grown g3 hb2.out.size (by simp))
  refine bodyPost_ret (results_arr rfl rfl a3 Tryd.underlying23 info23 lF.out) rfl ⟨rfl, hb3⟩
set_option maxRecDepth 100000 in
set_option maxHeartbeats 2000000 in
theorem dcopy_any (S L : List UInt32) (n : Int) (v : Value) (g : Nat) (w : World) (hd : Dig w g S n v) (hv : Rd w v (vw L)) (hL : L.length ≤ 4294967296) :
    Calls Tryd.prog 55 #[.pointer (some ⟨g, 0, none⟩)] w fun e w' => ∃ g' v', e = .returned (.pointer (some ⟨g', 0, none⟩)) ∧ w.heap.size ≤ g' ∧ Dig w' g' S n v' ∧ Rd w' v' (vw L) ∧ v'.ownBlock ≠ some g' ∧ Below w.heap.size w w' := by
  obtain ⟨i0, hi, hz0, hz1, hz2⟩ := info_parts info22
  have lS := hd.len
  have hv8 := vw_lit8 S lS
  obtain ⟨ov, cv, rfl, v1, v2, _⟩ := hv.words
  have cn := hd.cn
  have cw := hd.cw
  have c0 : w.cell? ⟨g, 0, none⟩ = some (.int .u32 (wAt S 0)) := by simpa using hd.st 0 _ (vw_get S 0 (by omega))
  have c1 : w.cell? ⟨g, 1, none⟩ = some (.int .u32 (wAt S 1)) := by simpa using hd.st 1 _ (vw_get S 1 (by omega))
  have c2 : w.cell? ⟨g, 2, none⟩ = some (.int .u32 (wAt S 2)) := by simpa using hd.st 2 _ (vw_get S 2 (by omega))
  have c3 : w.cell? ⟨g, 3, none⟩ = some (.int .u32 (wAt S 3)) := by simpa using hd.st 3 _ (vw_get S 3 (by omega))
  have c4 : w.cell? ⟨g, 4, none⟩ = some (.int .u32 (wAt S 4)) := by simpa using hd.st 4 _ (vw_get S 4 (by omega))
  have c5 : w.cell? ⟨g, 5, none⟩ = some (.int .u32 (wAt S 5)) := by simpa using hd.st 5 _ (vw_get S 5 (by omega))
  have c6 : w.cell? ⟨g, 6, none⟩ = some (.int .u32 (wAt S 6)) := by simpa using hd.st 6 _ (vw_get S 6 (by omega))
  have c7 : w.cell? ⟨g, 7, none⟩ = some (.int .u32 (wAt S 7)) := by simpa using hd.st 7 _ (vw_get S 7 (by omega))
  replace hd := Lib.hid hd; replace hv := Lib.hid hv; replace hv8 := Lib.hid hv8
  go_enter Tryd.func55, Tryd.ntmps55
  go_upto_region 2 with fail
  have hlit : (vw S ++ [Value.int .i64 n, Value.slice ov L.length cv]).toArray = #[.int .u32 (wAt S 0), .int .u32 (wAt S 1), .int .u32 (wAt S 2), .int .u32 (wAt S 3), .int .u32 (wAt S 4), .int .u32 (wAt S 5), .int .u32 (wAt S 6), .int .u32 (wAt S 7), .int .i64 n, .slice ov L.length cv] := by
    have := hv8.out
    rw [← List.append_toArray, this]; rfl
  obtain ⟨w1, hw1⟩ : ∃ w1, w.alloc (.cells #[.int .u32 (wAt S 0), .int .u32 (wAt S 1), .int .u32 (wAt S 2), .int .u32 (wAt S 3), .int .u32 (wAt S 4), .int .u32 (wAt S 5), .int .u32 (wAt S 6), .int .u32 (wAt S 7), .int .i64 n, .slice ov L.length cv] 106) = w1 := ⟨_, rfl⟩
  have hd1 : Dig w1 w.heap.size S n (.slice ov L.length cv) := by
    rw [← hw1]; exact Dig.of_block (t := 106) (by rw [hlit]; exact heap_alloc_new w _) lS
  have hb1 : Below w.heap.size w w1 := by rw [← hw1]; exact (Below.refl _ _).alloc (Nat.le_refl _) _
  have hgd := (hd.out.below hb1).cw
  have hv1 := hv.out.mono hb1
  have lL := Lib.hid (length_vw L)
  have hne1 : g < w.heap.size := hd.out.lt
  rw [hw1]
  clear hw1 hd hv hlit hv8 cn cw c0 c1 c2 c3 c4 c5 c6 c7
  replace hd1 := Lib.hid hd1; replace hb1 := Lib.hid hb1; replace hv1 := Lib.hid hv1
  go_wp2_with (at_builtin; refine wpList_append_full _ rfl _ _ 25 rfl 22 i0 (.int .u32 0) 4 Tryd.underlying25 hi hz0 hz1 hz2 rfl none 0 [] (by rfl) ⟨none, 0, rfl, Nat.le_refl _, by decide, .inl rfl⟩ _ (vw L) (by rfl) hv1.out (vw_oneCell _) (by rw [lL.out]; simp only [maxLen]; omega) (by rw [lL.out]; omega) ?_; intro v' w7 hl7 b7 hfr; rw [List.nil_append] at hl7; obtain ⟨o7, c7, rfl, s1, s2, _⟩ := hl7.words; have hd7 := hd1.out.below b7; have f9 := (hd7.fr 9 (by decide)).2; have c9 := hd7.cw; rw [Nat.zero_add] at f9; replace hl7 := Lib.hid hl7; replace b7 := Lib.hid b7; replace hfr := Lib.hid hfr; replace hd7 := Lib.hid hd7)
  have g78 := grownBy_setCell w7 w.heap.size 9 (.slice o7 L.length c7)
  have hne : (Value.slice o7 L.length c7).ownBlock ≠ some w.heap.size := fun e => by
    rcases hfr.out with h | h
    · rw [h] at e; simp [Value.ownBlock] at e
    · have := h _ e; have := hd1.out.lt; omega
  go_ret
  exact ⟨_, _, rfl, Nat.le_refl _, hd7.out.setW _, hl7.out.grown g78 (.inr hne), hne, (hb1.out.trans (b7.out.mono hb1.out.size)).grown g78 (Nat.le_trans hb1.out.size b7.out.size) (by simp)⟩
end Go.Proofs.YtemanjahkohcpaaDoor
