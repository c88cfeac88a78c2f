/- AsmMoves' walk. -/
import Derived.Test.YtiknookfnameiaaGreatDoorJn47
namespace Go.Proofs.YtiknookfnameiaaGreatDoor
open Go.RowKit WP
set_option linter.unusedSimpArgs false
set_option linter.unusedVariables false
theorem maxl_later {w w' : World} {m : Int} (h : MaxL w m) (hb : Below w.heap.size w w') : MaxL w' m := by
  show w'.cell? _ = _
  rw [← show w.cell? _ = _ from h]
  unfold World.cell?
  rw [hb.block _ (World.block_lt_of_cell? w _ h)]
def preS : ByteArray := ⟨#[35, 32, 120, 58, 32, 121, 10, 32, 9, 10]⟩
theorem pre_list (s : ByteArray) : (preS ++ s).data.toList = preL ++ s.data.toList := by
  rw [ByteArray.data_append, Array.toList_append]; rfl
theorem pre_size (s : ByteArray) : (preS ++ s).size = 10 + s.size := by rw [ByteArray.size_append]; rfl
theorem OutW.form {w : World} {B : Nat} {e : TypeId} {size : Nat} {v : Value} {n : Nat} {xs : List Value} (h : OutW w B e size v n xs) : ∃ ao ca, v = .slice ao n ca := by
  rcases h.2 with ⟨rfl, rfl⟩ | ⟨g, cur, rfl, _⟩
  · exact ⟨_, _, rfl⟩
  · exact ⟨_, _, rfl⟩
set_option maxRecDepth 100000 in
set_option maxHeartbeats 4000000 in
theorem moves_any (s : ByteArray) (base other m : Int) (w : World) (hE : AEnv w) (hM : MaxL w m) (hT : ErrT w) (hs : s.size ≤ 4611686018427387904) (nb : base < 4294967296 ∧ 0 ≤ base) (no : other < 4294967296 ∧ 0 ≤ other) :
    Calls Tryz.prog 3 #[.string s, .int .u32 base, .int .u32 other] w fun e w' => e = .returned (.bool true) ∧ Below w.heap.size w w' := by
  have hfi := first_any m w hE hM hT
  have has1 := fun (W : World) (hb : Below w.heap.size w W) => assemble_any s base m W (hE.later hb) (maxl_later hM hb) (hT.later hb) (by omega) nb
  have has2 := fun (W : World) (hb : Below w.heap.size w W) => assemble_any s other m W (hE.later hb) (maxl_later hM hb) (hT.later hb) (by omega) no
  rcases readM_like base other s with ⟨a, b, labs, h1, h2, hab⟩ | ⟨f, h1, h2⟩
  · have hlen := readM_len h1
    rw [h1] at has1
    rw [h2] at has2
    have e1 : wordsR (.inl (a, labs)) = .inl (a.length, wi a) := rfl
    have e2 : wordsR (.inl (b, labs)) = .inl (a.length, wi b) := by unfold wordsR; rw [hab]
    rw [e1] at has1
    rw [e2] at has2
    obtain ⟨n, hn⟩ : ∃ n, a.length = n := ⟨_, rfl⟩
    rw [hn] at has1 has2 hlen
    have hfi' := Lib.hid hfi; have has1' := Lib.hid has1; have has2' := Lib.hid has2
    replace hn := Lib.hid hn
    have hE' := Lib.hid hE; have hM' := Lib.hid hM; have hT' := Lib.hid hT
    clear hfi has1 has2 h2 hab e1 e2 hE hM hT
    replace h1 := Lib.hid h1
    go_enter Tryz.func3, Tryz.ntmps3
    go_wp2_with fail
    refine hfi'.out.mono ?_
    rintro e w1 ⟨rfl, b1⟩
    replace b1 := Lib.hid b1
    go_wp2_with fail
    refine (has1'.out w1 b1.out).mono ?_
    rintro e w2 ⟨b2, v1, rfl, ho1⟩
    unfold fltV
    obtain ⟨w3, hw3, hR3, b3⟩ := flt_new w2 (.int .i64 0) (.int .i64 0) (.int .i64 0)
    have B3 := (b1.out.trans (b2.mono b1.out.size)).trans (b3.mono (Nat.le_trans b1.out.size b2.size))
    have ho3 := ho1.later b3
    replace b2 := Lib.hid b2; replace b3 := Lib.hid b3; replace B3 := Lib.hid B3; replace hR3 := Lib.hid hR3; replace ho3 := Lib.hid ho3; replace hw3 := Lib.hid hw3
    clear ho1
    go_upto_region 4 with fail
    rw [hw3.out]
    clear hw3
    go_wp2_with fail
    refine (has2'.out w3 B3.out).mono ?_
    rintro e w4 ⟨b4, v2, rfl, ho4⟩
    unfold fltV
    obtain ⟨w5, hw5, hR5, b5⟩ := flt_new w4 (.int .i64 0) (.int .i64 0) (.int .i64 0)
    have B5 := (B3.out.trans (b4.mono B3.out.size)).trans (b5.mono (Nat.le_trans B3.out.size b4.size))
    have ho5 := (ho3.out.later b4).later b5
    have hlt2 := (Array.getElem?_eq_some_iff.1 hR3.out).1
    have hR35 := ((b5.block _ (by have := b4.size; omega)).trans (b4.block _ hlt2)).trans hR3.out
    obtain ⟨ao1, ca1, rfl⟩ := ho5.form
    obtain ⟨ao2, ca2, rfl⟩ := ho4.form
    have f0 : w5.cell? ⟨w2.heap.size, 0, none⟩ = some (.int .i64 0) := cell_of_row _ _ _ _ _ _ hR35
    have f1 : w5.cell? ⟨w2.heap.size, 1, none⟩ = some (.int .i64 0) := cell_of_row _ _ _ _ _ _ hR35
    have f2 : w5.cell? ⟨w2.heap.size, 2, none⟩ = some (.int .i64 0) := cell_of_row _ _ _ _ _ _ hR35
    have g0 : w5.cell? ⟨w4.heap.size, 0, none⟩ = some (.int .i64 0) := cell_of_row _ _ _ _ _ _ hR5
    have g1 : w5.cell? ⟨w4.heap.size, 1, none⟩ = some (.int .i64 0) := cell_of_row _ _ _ _ _ _ hR5
    have g2 : w5.cell? ⟨w4.heap.size, 2, none⟩ = some (.int .i64 0) := cell_of_row _ _ _ _ _ _ hR5
    have n1 : ¬ (2048 < (n : Int)) := by omega
    have n2 : decide ((n : Int) > 2048) = false := decide_eq_false (by omega)
    replace b4 := Lib.hid b4; replace b5 := Lib.hid b5; replace B5 := Lib.hid B5; replace hR5 := Lib.hid hR5; replace hR35 := Lib.hid hR35; replace ho5 := Lib.hid ho5; replace hw5 := Lib.hid hw5
    clear ho3 ho4 hR3
    go_upto_region 5 with fail
    rw [hw5.out]
    clear hw5
    by_cases hbig : 65000 < s.size
    · have d3 : decide (65000 < (s.size : Int)) = true := decide_eq_true (by omega)
      have d4 : decide ((s.size : Int) > 65000) = true := decide_eq_true (by omega)
      go_wp2_with fail
      go_ret
      exact ⟨rfl, B5.out⟩
    · have d3 : decide (65000 < (s.size : Int)) = false := decide_eq_false (by omega)
      have d4 : decide ((s.size : Int) > 65000) = false := decide_eq_false (by omega)
      have has3 := assemble_any (preS ++ s) base m w5 (hE'.out.later B5.out) (maxl_later hM'.out B5.out) (hT'.out.later B5.out) (by rw [pre_size]; omega) nb
      rw [readM_pre base s _ (pre_list s) (by omega), h1.out] at has3
      have e3 : wordsR (shRd 2 (.inl (a, labs))) = .inl (n, wi a) := by unfold wordsR shRd; simp only [hn.out]
      rw [e3] at has3
      have hB5s := B5.out.size
      replace has3 := Lib.hid has3
      clear e3
      go_wp2_with fail
      refine has3.out.mono ?_
      rintro e w6 ⟨b6, v3, rfl, ho6⟩
      unfold fltV
      obtain ⟨w7, hw7, hR7, b7⟩ := flt_new w6 (.int .i64 0) (.int .i64 0) (.int .i64 0)
      have b57 := b6.trans (b7.mono b6.size)
      have B7 := B5.out.trans (b57.mono hB5s)
      have ho17 := (ho5.out.later b57).rd
      have ho37 := (ho6.later b7).rd
      have hR17 := (b57.block _ (Array.getElem?_eq_some_iff.1 hR35.out).1).trans hR35.out
      have hsm := asame_any _ v3 a w7 ho17 ho37
      obtain ⟨ao3, ca3, rfl⟩ := ho6.form
      clear f0 f1 f2 g0 g1 g2
      have f0 : w7.cell? ⟨w2.heap.size, 0, none⟩ = some (.int .i64 0) := cell_of_row _ _ _ _ _ _ hR17
      replace b6 := Lib.hid b6; replace b7 := Lib.hid b7; replace b57 := Lib.hid b57; replace B7 := Lib.hid B7; replace ho17 := Lib.hid ho17; replace ho37 := Lib.hid ho37; replace hR17 := Lib.hid hR17; replace hsm := Lib.hid hsm; replace hR7 := Lib.hid hR7; replace hw7 := Lib.hid hw7
      clear ho6 has3
      go_upto_region 10 with fail
      rw [hw7.out]
      clear hw7
      go_wp2_with fail
      refine hsm.out.mono ?_
      rintro e w8 ⟨rfl, b8⟩
      have hR78 := (b8.block _ (Array.getElem?_eq_some_iff.1 hR7.out).1).trans hR7.out
      have q0 : w8.cell? ⟨w6.heap.size, 0, none⟩ = some (.int .i64 0) := cell_of_row _ _ _ _ _ _ hR78
      have q1 : w8.cell? ⟨w6.heap.size, 1, none⟩ = some (.int .i64 0) := cell_of_row _ _ _ _ _ _ hR78
      have q2 : w8.cell? ⟨w6.heap.size, 2, none⟩ = some (.int .i64 0) := cell_of_row _ _ _ _ _ _ hR78
      have B8 := B7.out.trans (b8.mono B7.out.size)
      replace B8 := Lib.hid B8; replace hR78 := Lib.hid hR78
      clear b8 f0
      go_wp2_with fail
      go_ret
      exact ⟨rfl, B8.out⟩
  · obtain ⟨⟨hf1, hf2⟩, hf3⟩ := readM_flt h1
    rw [h1] at has1
    rw [h2] at has2
    obtain ⟨f1, f2, f3⟩ := f
    simp only at hf1 hf2 hf3
    have hfi' := Lib.hid hfi; have has1' := Lib.hid has1; have has2' := Lib.hid has2
    have hE' := Lib.hid hE; have hM' := Lib.hid hM; have hT' := Lib.hid hT
    clear hfi has1 has2 h2 hE hM hT
    replace h1 := Lib.hid h1
    have k1 : ¬ (f1 = 0) := by omega
    have k2 : (f1 == 0) = false := by rw [beq_eq_false_iff_ne]; exact k1
    have k3 : (f1 != 0) = true := by rw [bne_iff_ne]; exact k1
    go_enter Tryz.func3, Tryz.ntmps3
    go_wp2_with fail
    refine hfi'.out.mono ?_
    rintro e w1 ⟨rfl, b1⟩
    replace b1 := Lib.hid b1
    go_wp2_with fail
    refine (has1'.out w1 b1.out).mono ?_
    rintro e w2 ⟨b2, rfl⟩
    unfold fltV
    obtain ⟨w3, hw3, hR3, b3⟩ := flt_new w2 (.int .i64 f1) (.int .i64 (f2 : Int)) (.int .i64 (f3 : Int))
    have B3 := (b1.out.trans (b2.mono b1.out.size)).trans (b3.mono (Nat.le_trans b1.out.size b2.size))
    replace b2 := Lib.hid b2; replace b3 := Lib.hid b3; replace B3 := Lib.hid B3; replace hR3 := Lib.hid hR3; replace hw3 := Lib.hid hw3
    go_upto_region 4 with fail
    try dsimp only
    rw [hw3.out]
    clear hw3
    go_wp2_with fail
    refine (has2'.out w3 B3.out).mono ?_
    rintro e w4 ⟨b4, rfl⟩
    unfold fltV
    obtain ⟨w5, hw5, hR5, b5⟩ := flt_new w4 (.int .i64 f1) (.int .i64 (f2 : Int)) (.int .i64 (f3 : Int))
    have B5 := (B3.out.trans (b4.mono B3.out.size)).trans (b5.mono (Nat.le_trans B3.out.size b4.size))
    have hlt2 := (Array.getElem?_eq_some_iff.1 hR3.out).1
    have hR35 := ((b5.block _ (by have := b4.size; omega)).trans (b4.block _ hlt2)).trans hR3.out
    have f0 : w5.cell? ⟨w2.heap.size, 0, none⟩ = some (.int .i64 f1) := cell_of_row _ _ _ _ _ _ hR35
    have f1' : w5.cell? ⟨w2.heap.size, 1, none⟩ = some (.int .i64 (f2 : Int)) := cell_of_row _ _ _ _ _ _ hR35
    have f2' : w5.cell? ⟨w2.heap.size, 2, none⟩ = some (.int .i64 (f3 : Int)) := cell_of_row _ _ _ _ _ _ hR35
    have g0 : w5.cell? ⟨w4.heap.size, 0, none⟩ = some (.int .i64 f1) := cell_of_row _ _ _ _ _ _ hR5
    have g1 : w5.cell? ⟨w4.heap.size, 1, none⟩ = some (.int .i64 (f2 : Int)) := cell_of_row _ _ _ _ _ _ hR5
    have g2 : w5.cell? ⟨w4.heap.size, 2, none⟩ = some (.int .i64 (f3 : Int)) := cell_of_row _ _ _ _ _ _ hR5
    replace b4 := Lib.hid b4; replace b5 := Lib.hid b5; replace B5 := Lib.hid B5; replace hR5 := Lib.hid hR5; replace hR35 := Lib.hid hR35; replace hw5 := Lib.hid hw5
    clear hR3
    go_upto_region 5 with fail
    try dsimp only
    rw [hw5.out]
    clear hw5
    by_cases hbig : 65000 < s.size
    · have d3 : decide (65000 < (s.size : Int)) = true := decide_eq_true (by omega)
      have d4 : decide ((s.size : Int) > 65000) = true := decide_eq_true (by omega)
      go_wp2_with fail
      go_ret
      exact ⟨rfl, B5.out⟩
    · have d3 : decide (65000 < (s.size : Int)) = false := decide_eq_false (by omega)
      have d4 : decide ((s.size : Int) > 65000) = false := decide_eq_false (by omega)
      have has3 := assemble_any (preS ++ s) base m w5 (hE'.out.later B5.out) (maxl_later hM'.out B5.out) (hT'.out.later B5.out) (by rw [pre_size]; omega) nb
      rw [readM_pre base s _ (pre_list s) (by omega), h1.out] at has3
      have e3 : wordsR (shRd 2 (.inr (f1, f2, f3))) = .inr (f1, f2 + 2, f3) := rfl
      rw [e3] at has3
      have hB5s := B5.out.size
      replace has3 := Lib.hid has3
      clear e3
      go_wp2_with fail
      refine has3.out.mono ?_
      rintro e w6 ⟨b6, rfl⟩
      unfold fltV
      obtain ⟨w7, hw7, hR7, b7⟩ := flt_new w6 (.int .i64 f1) (.int .i64 ((f2 : Int) + 2)) (.int .i64 (f3 : Int))
      have b57 := b6.trans (b7.mono b6.size)
      have B7 := B5.out.trans (b57.mono hB5s)
      have hR17 := (b57.block _ (Array.getElem?_eq_some_iff.1 hR35.out).1).trans hR35.out
      clear f0 f1' f2' g0 g1 g2
      have f0 : w7.cell? ⟨w2.heap.size, 0, none⟩ = some (.int .i64 f1) := cell_of_row _ _ _ _ _ _ hR17
      have f1' : w7.cell? ⟨w2.heap.size, 1, none⟩ = some (.int .i64 (f2 : Int)) := cell_of_row _ _ _ _ _ _ hR17
      have f2' : w7.cell? ⟨w2.heap.size, 2, none⟩ = some (.int .i64 (f3 : Int)) := cell_of_row _ _ _ _ _ _ hR17
      have q0 : w7.cell? ⟨w6.heap.size, 0, none⟩ = some (.int .i64 f1) := cell_of_row _ _ _ _ _ _ hR7
      have q1 : w7.cell? ⟨w6.heap.size, 1, none⟩ = some (.int .i64 ((f2 : Int) + 2)) := cell_of_row _ _ _ _ _ _ hR7
      have q2 : w7.cell? ⟨w6.heap.size, 2, none⟩ = some (.int .i64 (f3 : Int)) := cell_of_row _ _ _ _ _ _ hR7
      replace b6 := Lib.hid b6; replace b7 := Lib.hid b7; replace b57 := Lib.hid b57; replace B7 := Lib.hid B7; replace hR17 := Lib.hid hR17; replace hR7 := Lib.hid hR7; replace hw7 := Lib.hid hw7
      clear has3
      have k4 : ((f2 + 2 : Nat) : Int) = (f2 : Int) + 2 := by omega
      go_upto_region 10 with fail
      try dsimp only
      rw [hw7.out]
      clear hw7
      go_wp2_with fail
      go_ret
      exact ⟨rfl, B7.out⟩
end Go.Proofs.YtiknookfnameiaaGreatDoor
