/- The contract of the document's statement. Plain laws: how many words a line has, and how long they are; how long a text's lines are. -/
import Derived.Test.YtiknookfnameiaaGreatDoorJn39
import Derived.Test.YtiknookfnameiaaGreatDoorJn05
namespace Go.Proofs.YtiknookfnameiaaGreatDoor
open Go.RowKit WP
set_option linter.unusedSimpArgs false
set_option linter.unusedVariables false
set_option maxRecDepth 100000 in
set_option maxHeartbeats 4000000 in
theorem rstmt_any {B : Nat} {w0 w : World} {R : Nat} {st : RAsm} (hP : PAt B w0 w R st) (hE : RTabs w0) (hB : w0.heap.size ≤ B) (name : W) (ops : List W) (ln : Nat) (v : Value) (hv : RWs w v (name :: ops)) (hz : ∀ x ∈ name :: ops, x.1.size ≤ 140737488355328) (hol : ops.length ≤ 1048576) (hst : st.pcs.length ≤ 2048) :
  Calls Tryz.prog 70 #[ptr R, v, .int .i64 ln] w fun e w' => RStRes B w0 w R w' e (rstmtF ln name ops st) := by
 obtain ⟨vl, vp, h⟩ := hP
 obtain ⟨b, off, cap, rfl, hc1, hc2, y0, y1, y2⟩ := hv.get 0 name rfl
 simp only [Nat.zero_mul, Nat.add_zero] at y0 y1 y2
 obtain ⟨ns, nq, nc⟩ := name
 dsimp only at y0 y1 y2
 have hbw := World.block_lt_of_cell? w _ y0
 obtain ⟨w2, hw2⟩ : ∃ w2, (w.alloc (.cells #[.int .i64 0, .int .i64 0, .int .i64 0] 33)).alloc (.cells #[.string ns, .bool nq, .int .i64 (nc : Int)] 172) = w2 := ⟨_, rfl⟩
 have b2 : Below w.heap.size w w2 := by rw [← hw2]; exact ((Below.refl _ _).alloc (Nat.le_refl _) _).alloc (by simp) _
 have hF : w2.heap[w.heap.size]? = some (.cells #[.int .i64 0, .int .i64 0, .int .i64 0] 33 (0, 0)) := by
  rw [← hw2, Below.heap_alloc _ _ _ (by simp)]; exact heap_alloc_new w _
 have hN : w2.heap[w.heap.size + 1]? = some (.cells #[.string ns, .bool nq, .int .i64 (nc : Int)] 172 (0, 0)) := by
  rw [← hw2]; have := heap_alloc_new (w.alloc (.cells #[.int .i64 0, .int .i64 0, .int .i64 0] 33)) (.cells #[.string ns, .bool nq, .int .i64 (nc : Int)] 172)
  simpa using this
 have h2 := h.later b2
 have hv2 := hv.later b2
 have hT2 : RTabs w2 := hE.later (h2.below.mono hB)
 have hBw : B ≤ w.heap.size := by have := h.hR; have := h.lt; omega
 have hk2 : KeepR w w2 := KeepR.below b2
 have hs2 : w2.heap.size = w.heap.size + 2 := by rw [← hw2]; simp
 have c0 : w2.cell? ⟨w.heap.size + 1, 0, none⟩ = some (.string ns) := cell_of_row _ _ 0 _ _ _ hN
 have c1 : w2.cell? ⟨w.heap.size + 1, 1, none⟩ = some (.bool nq) := cell_of_row _ _ 1 _ _ _ hN
 have c2 : w2.cell? ⟨w.heap.size + 1, 2, none⟩ = some (.int .i64 (nc : Int)) := cell_of_row _ _ 2 _ _ _ hN
 obtain ⟨FR, hFR⟩ : ∃ FR, rstmtF ln (ns, nq, nc) ops st = FR := ⟨_, rfl⟩
 rw [hFR]
 unfold rstmtF at hFR
 dsimp only at hFR
 have hro := rops_any ns w2 hT2
 obtain ⟨O, hO⟩ : ∃ O, ropsF ns = O := ⟨_, rfl⟩
 rw [hO] at hro hFR
 obtain ⟨n, hn⟩ : ∃ n, ((ns, nq, nc) :: ops).length = n := ⟨_, rfl⟩
 rw [hn] at hc1 hv hv2 ⊢
 have hn1 : 0 < (n : Int) := by have : ops.length + 1 = n := hn; omega
 obtain ⟨pao, pca, rfl, hp1, hp2⟩ := h2.pv
 obtain ⟨q0, q1⟩ := h2.c
 have hRw := Lib.hid h.lt
 have hb2 := Lib.hid b2
 clear h hE hv b2
 replace hF := Lib.hid hF; replace hN := Lib.hid hN; replace h2 := Lib.hid h2; replace hv2 := Lib.hid hv2; replace hT2 := Lib.hid hT2; replace hk2 := Lib.hid hk2; replace hs2 := Lib.hid hs2; replace hFR := Lib.hid hFR; replace hro := Lib.hid hro; replace hn := Lib.hid hn; replace hz := Lib.hid hz; replace hO := Lib.hid hO; replace q0 := Lib.hid q0; replace hw2 := Lib.hid hw2
 go_enter Tryz.func70, Tryz.ntmps70
 go_upto_region 2 with fail
 rw [hw2.out]
 clear hw2 y0 y1 y2
 go_wp2_with fail
 refine hro.out.mono ?_
 rintro e w3 ⟨rfl, hw3⟩
 obtain rfl := hw3.symm
 clear hw3 hro
 cases nq with
 | true =>
  have hq := hFR.out
  rw [if_pos rfl] at hq
  dsimp only at hq
  subst hq
  obtain ⟨hN2, bN, ⟨r0, r1, r2⟩, ⟨f0, f1, f2⟩, -⟩ := rflt_set (.int .i64 60) (.int .i64 (ln : Int)) (.int .i64 (nc : Int)) hF.out
  replace hN2 := Lib.hid hN2; replace bN := Lib.hid bN
  go_wp2_with fail
  exact bodyPost_ret (results_one rfl rfl hN2.out Tryz.underlying33 rfl infoRFlt) rfl ⟨rfl, h2.out.below.trans (bN.out _ hBw), FltK.below (hb2.out.trans (bN.out _ (Nat.le_refl _)))⟩
 | false =>
  have hq := hFR.out
  rw [if_neg (by decide)] at hq
  clear hFR
  cases O with
  | none =>
   dsimp only at hq
   subst hq
   obtain ⟨hN2, bN, ⟨r0, r1, r2⟩, ⟨f0, f1, f2⟩, -⟩ := rflt_set (.int .i64 60) (.int .i64 (ln : Int)) (.int .i64 (nc : Int)) hF.out
   replace hN2 := Lib.hid hN2; replace bN := Lib.hid bN
   simp only [ropsA, ropsB, Option.map_none, Option.getD_none]
   go_wp2_with fail
   exact bodyPost_ret (results_one rfl rfl hN2.out Tryz.underlying33 rfl infoRFlt) rfl ⟨rfl, h2.out.below.trans (bN.out _ hBw), FltK.below (hb2.out.trans (bN.out _ (Nat.le_refl _)))⟩
  | some y =>
   obtain ⟨a, z⟩ := y
   dsimp only at hq
   simp only [ropsA, ropsB, Option.map_some, Option.getD_some]
   have ha0 : ¬ ((a : Int) < 0) := by omega
   have da0 : decide ((a : Int) < 0) = false := decide_eq_false (by omega)
   obtain ⟨hyl, hzl⟩ := ropsF_le hO.out
   dsimp only at hyl hzl
   have hwz : IntKind.i64.wrap ((st.pcs.length : Int) + (z : Int)) = (st.pcs.length : Int) + (z : Int) := by rw [IntKind.wrap_i64]; omega
   by_cases hbig : 2048 < st.pcs.length + z
   ·rw [if_pos hbig] at hq
    subst hq
    have d3 : decide ((2048 : Int) < (st.pcs.length : Int) + (z : Int)) = true := decide_eq_true (by omega)
    obtain ⟨hN2, bN, ⟨r0, r1, r2⟩, ⟨f0, f1, f2⟩, -⟩ := rflt_set (.int .i64 66) (.int .i64 (ln : Int)) (.int .i64 (nc : Int)) hF.out
    replace hN2 := Lib.hid hN2; replace bN := Lib.hid bN
    go_wp2_with fail
    exact bodyPost_ret (results_one rfl rfl hN2.out Tryz.underlying33 rfl infoRFlt) rfl ⟨rfl, h2.out.below.trans (bN.out _ hBw), FltK.below (hb2.out.trans (bN.out _ (Nat.le_refl _)))⟩
   ·rw [if_neg hbig] at hq
    have d3 : decide ((2048 : Int) < (st.pcs.length : Int) + (z : Int)) = false := decide_eq_false (by omega)
    obtain ⟨ao1, hs1, hg1⟩ := rslice_l hv2.out 1 1 rfl (by simp)
    simp only [List.length_cons, Nat.add_sub_cancel, List.drop_succ_cons, List.drop_zero] at hs1 hg1
    replace hg1 := Lib.hid hg1
    go_upto_if 53 with fail
    go_cut [10] from 50 to 57 (fun x10 wx => wx = w2 ∧ ∃ ao ca, x10 = .slice ao (ops.take a).length ca ∧ RWs w2 x10 (ops.take a))
    case first =>
     rename_i J0 K0 aJ aK
     by_cases hgt : a < ops.length
     ·have d4 : decide ((a : Int) < (ops.length : Int)) = true := decide_eq_true (by omega)
      have hwa : IntKind.i64.wrap (1 + (a : Int)) = 1 + (a : Int) := by rw [IntKind.wrap_i64]; omega
      obtain ⟨ao2, hs2', hg2⟩ := rslice_lh hv2.out 1 a 1 (1 + (a : Int)) rfl (by omega) (by simp; omega)
      simp only [List.drop_succ_cons, List.drop_zero] at hg2
      replace hg2 := Lib.hid hg2
      go_wp2_with fail
      refine Met.intro (aJ _ _ ?_)
      (repeat apply Exists.intro)
      refine ⟨?_, rfl⟩
      refine ⟨rfl, ao2, cap - 1, ?_, hg2.out⟩
      rw [List.length_take, Nat.min_eq_left (by omega)]
     ·have d4 : decide ((a : Int) < (ops.length : Int)) = false := decide_eq_false (by omega)
      go_wp2_with fail
      refine Met.intro (aJ _ _ ?_)
      (repeat apply Exists.intro)
      refine ⟨?_, rfl⟩
      have ht : ops.take a = ops := List.take_of_length_le (by omega)
      rw [ht]
      exact ⟨rfl, ao1, cap - 1, rfl, hg1.out⟩
    case rest =>
     obtain ⟨rfl, ao3, ca3, rfl, hg⟩ := hcut
     obtain ⟨wb, rfl⟩ : ∃ b, b = wc := ⟨wc, rfl⟩
     have hz3 : ∀ x ∈ ops.take a, x.1.size ≤ 140737488355328 := fun x hx => hz.out x (List.mem_cons_of_mem _ (List.mem_of_mem_take hx))
     have hg3 := hg
     obtain ⟨aoq, caq, hvq, hcc1, hcc2, -⟩ := hg3
     simp only [Value.slice.injEq, true_and] at hvq
     obtain ⟨rfl, rfl⟩ := hvq
     have hnm := rnamed_any ns wb hT2.out
     obtain ⟨N, hN0⟩ : ∃ N, namedF ns = N := ⟨_, rfl⟩
     have hins := fun o (ho : namedF ns = some o) => rinstr_any o _ (ops.take a) ln wb hT2.out ⟨namedF_ge ho, namedF_lt ho⟩ hg hz3
     have hown := fun (ho : namedF ns = none) => own_any ns _ (ops.take a) ln wb (ropsF_own hO.out ho) hg hz3
     obtain ⟨PR, hPR⟩ : ∃ PR, rpiecesF (ns, false, nc) (ops.take a) ln = PR := ⟨_, rfl⟩
     have hPlt := fun j (hj : PR = .inr j) => rpieces_lt (hPR.trans hj)
     have hPle := fun l (hj : PR = .inl l) => rpieces_len (hPR.trans hj)
     rw [hPR] at hq
     unfold rpiecesF at hPR
     dsimp only at hPR
     rw [hN0] at hnm hPR hins hown
     have hsl : (ops.take a).length = min a ops.length := List.length_take
     obtain ⟨GL, hGL⟩ : ∃ GL, ops.take a = GL := ⟨_, rfl⟩
     rw [hGL] at hg hz3 hins hown hPR hsl hPlt hq hcc1 ⊢
     obtain ⟨gn, hgn⟩ : ∃ gn, GL.length = gn := ⟨_, rfl⟩
     rw [hgn] at hg hins hown hsl hPlt hcc1 ⊢
     replace hins := Lib.hid hins; replace hown := Lib.hid hown; replace hPlt := Lib.hid hPlt; replace hPle := Lib.hid hPle; replace hq := Lib.hid hq; replace hPR := Lib.hid hPR; replace hg := Lib.hid hg; replace hGL := Lib.hid hGL; replace hgn := Lib.hid hgn; replace hsl := Lib.hid hsl; replace hN0 := Lib.hid hN0; replace q1 := Lib.hid q1
     clear hz3 hs1 hg1
     go_wp2_with fail
     refine hnm.mono ?_
     rintro e w3 ⟨rfl, hw3⟩
     obtain rfl := hw3.symm
     clear hw3 hnm
     go_upto_if 65 with fail
     go_cut [11, 12, 13, 14, 15, 16] from 58 to 85 (fun x11 x12 x13 x14 x15 x16 wx => Below wb.heap.size wb wx ∧ GotP wx wb.heap.size x11 x12 PR)
     case first =>
      rename_i J0 K0 aJ aK
      cases N with
      | some o =>
       have hq3 := hins.out o rfl
       simp only [Option.getD_some, Option.isSome_some, if_true]
       go_wp2_with fail
       refine hq3.mono ?_
       rintro e w5 ⟨⟨p0, p1, p2, p3, p4, p5, p6, p7⟩, k, rfl, b5, hm⟩
       have hPR' := hPR.out
       simp only [pieA]
       replace b5 := Lib.hid b5; replace hm := Lib.hid hm
       clear hq3 hPR
       go_upto_region 16 with fail
       obtain ⟨w6, hw6⟩ : ∃ w6, w5.alloc (.cells #[.int .i64 p0, .int .i64 p1, .int .i64 p2, .int .i64 p3, .int .u32 p4, .string p5, .int .i64 (p6 : Int), .int .i64 (p7 : Int)] 125) = w6 := ⟨_, rfl⟩
       have hP6 : w6.heap[w5.heap.size]? = some (.cells #[.int .i64 p0, .int .i64 p1, .int .i64 p2, .int .i64 p3, .int .u32 p4, .string p5, .int .i64 (p6 : Int), .int .i64 (p7 : Int)] 125 (0, 0)) := by rw [← hw6]; exact heap_alloc_new w5 _
       have b6 : Below wb.heap.size wb w6 := by rw [← hw6]; exact b5.out.alloc b5.out.size _
       rw [hw6]
       clear hw6 b5
       have s0 := cell_of_row _ _ 0 _ _ _ hP6
       have s1 := cell_of_row _ _ 1 _ _ _ hP6
       have s2 := cell_of_row _ _ 2 _ _ _ hP6
       have s3 := cell_of_row _ _ 3 _ _ _ hP6
       have s4 := cell_of_row _ _ 4 _ _ _ hP6
       have s5 := cell_of_row _ _ 5 _ _ _ hP6
       have s6 := cell_of_row _ _ 6 _ _ _ hP6
       have s7 := cell_of_row _ _ 7 _ _ _ hP6
       simp only [List.getElem?_toArray, List.getElem?_cons_zero, List.getElem?_cons_succ] at s0 s1 s2 s3 s4 s5 s6 s7
       have hb6 := b6.size
       obtain ⟨i0, hi, hz0, hz1, hz2⟩ := info_parts infoPie3
       replace hP6 := Lib.hid hP6; replace b6 := Lib.hid b6; replace hPR' := Lib.hid hPR'; replace hz0 := Lib.hid hz0; replace hz1 := Lib.hid hz1; replace hz2 := Lib.hid hz2; replace hi := Lib.hid hi
       go_wp2_with (at_builtin; refine wpList_append_onto' _ rfl _ _ 81 rfl wb.heap.size 125 i0 (.agg pieZ) 8 72 Tryz.underlying81 hi.out hz0.out hz1.out hz2.out rfl (by decide) _ 0 [] rfl (World.ownsRow_nil _ _ _ _) ⟨w6.heap.size, 0, none⟩ 1 1 [.int .i64 p0, .int .i64 p1, .int .i64 p2, .int .i64 p3, .int .u32 p4, .string p5, .int .i64 (p6 : Int), .int .i64 (p7 : Int)] rfl rfl ?c1 ?c2 ?c3 ?c4 ?c5 ?_)
       case c1 => exact cells_new _ _ _ _
       case c2 => simp [Value.oneCell']
       case c3 => simp [maxLen]
       case c4 => omega
       case c5 => simp; omega
       intro v7 w7 ho7 hO7
       have b7 : Below wb.heap.size wb w7 := (b6.out.alloc hb6 _).grown hO7.1 (by simp; omega) (fun k hk => by cases hk)
       clear hO7 s0 s1 s2 s3 s4 s5 s6 s7
       replace ho7 := Lib.hid ho7; replace b7 := Lib.hid b7
       go_wp2_with fail
       refine Met.intro (aJ _ _ ?_)
       (repeat apply Exists.intro)
       refine ⟨?_, rfl⟩
       refine ⟨b7.out, ?_⟩
       have hp := hPR'.out
       have hm2 := hm.out
       cases hI : rinstrF o GL ln with
       | inl q =>
        rw [hI] at hp hm2
        obtain ⟨rfl, rfl⟩ := hm2
        subst hp
        exact ⟨rfl, ho7.out⟩
       | inr j =>
        rw [hI] at hp hm2
        subst hp
        exact congrArg (Value.int .i64) hm2
      | none =>
       have hq3 := hown.out rfl
       simp only [Option.getD_none, Option.isSome_none]
       go_wp2_with fail
       refine hq3.mono ?_
       rintro e w5 ⟨b5, hm⟩
       have hPR' : rownF ns GL ln = PR := hPR.out
       rw [hPR'] at hm
       cases PR with
       | inr k =>
        replace hm : e = .returned (.tuple #[.slice none 0 0, .int .i64 (k : Int)]) := hm
        subst hm
        replace b5 := Lib.hid b5
        clear hq3 hPR hPR'
        go_wp2_with fail
        refine Met.intro (aJ _ _ ?_)
        (repeat apply Exists.intro)
        refine ⟨?_, rfl⟩
        exact ⟨b5.out, rfl⟩
       | inl l =>
        obtain ⟨vl5, rfl, ho5⟩ := hm
        replace b5 := Lib.hid b5; replace ho5 := Lib.hid ho5
        clear hq3 hPR hPR'
        go_wp2_with fail
        refine Met.intro (aJ _ _ ?_)
        (repeat apply Exists.intro)
        refine ⟨?_, rfl⟩
        exact ⟨b5.out, rfl, ho5.out⟩
     case rest =>
      obtain ⟨bc, hgp⟩ := hcut
      clear hins hown hPR
      have hbc := Lib.hid (hb2.out.trans (bc.mono hb2.out.size))
      have hk5 := hk2.out.trans (KeepR.below bc)
      have h5 := h2.out.later bc
      have hgc := hg.out.later bc
      have hvc := hv2.out.later bc
      have hF5 := (bc.block w.heap.size (Array.getElem?_eq_some_iff.1 hF.out).1).trans hF.out
      have hN5 := (bc.block (w.heap.size + 1) (Array.getElem?_eq_some_iff.1 hN.out).1).trans hN.out
      have e2 : wc.cell? ⟨w.heap.size + 1, 2, none⟩ = some (.int .i64 (nc : Int)) := cell_of_row _ _ 2 _ _ _ hN5
      have q5 := h5.c.2
      have qf := h5.f 1
      have hq2 := hq.out
      unfold countM at hq2
      dsimp only at hq2
      clear hk2 h2 hg hv2 hF hN c0 c1 c2 bc hq hT2 q0 q1
      cases PR with
      | inr k =>
       have hkl := hPlt.out k rfl
       obtain ⟨x, hx⟩ : ∃ x, GL[k]? = some x := ⟨_, List.getElem?_eq_getElem (by rw [hgn.out]; exact hkl)⟩
       dsimp only at hq2
       rw [List.getD_eq_getElem?_getD, hx] at hq2
       dsimp only [Option.getD_some] at hq2
       subst hq2
       replace hgp : u12 = .int .i64 (k : Int) := hgp
       subst hgp
       have dk : decide ((0 : Int) ≤ (k : Int)) = true := decide_eq_true (by omega)
       obtain ⟨gb, go, gc, hs6, _, _, x0, x1, x2⟩ := hgc.get k x hx
       rw [hgn.out] at hs6
       simp only [Value.slice.injEq, true_and] at hs6
       obtain ⟨rfl, rfl⟩ := hs6
       have ik : (0 : Int) ≤ (k : Int) := by omega
       have ik2 : (k : Int) < (gn : Int) := by omega
       obtain ⟨hN2, bN, ⟨r0, r1, r2⟩, ⟨f0, f1, f2⟩, -⟩ := rflt_set (.int .i64 61) (.int .i64 (ln : Int)) (.int .i64 (x.2.2 : Int)) hF5
       replace hN2 := Lib.hid hN2; replace bN := Lib.hid bN; replace h5 := Lib.hid h5; replace hgc := Lib.hid hgc; replace hvc := Lib.hid hvc; replace hF5 := Lib.hid hF5; replace hN5 := Lib.hid hN5; replace hk5 := Lib.hid hk5; replace hx := Lib.hid hx
       clear q5 qf e2 x0 x1
       go_wp2_with fail
       exact bodyPost_ret (results_one rfl rfl hN2.out Tryz.underlying33 rfl infoRFlt) rfl ⟨rfl, h5.out.below.trans (bN.out _ hBw), FltK.below (hbc.out.trans (bN.out _ (Nat.le_refl _)))⟩
      | inl l =>
       obtain ⟨rfl, hol5⟩ := hgp
       have hle := hPle.out l rfl
       have hgs := hsl.out
       have hns : ops.length + 1 = n := hn.out
       dsimp only at hq2
       obtain ⟨lao, lca, rfl, hlc1, hlc2⟩ := own_shape hol5
       have hwn : IntKind.i64.wrap ((n : Int) - 1) = (n : Int) - 1 := by rw [IntKind.wrap_i64]; omega
       have hwl : IntKind.i64.wrap ((st.pcs.length : Int) + (l.length : Int)) = (st.pcs.length : Int) + (l.length : Int) := by rw [IntKind.wrap_i64]; omega
       have hwa : IntKind.i64.wrap (1 + (a : Int)) = 1 + (a : Int) := by rw [IntKind.wrap_i64]; omega
       replace h5 := Lib.hid h5; replace hgc := Lib.hid hgc; replace hvc := Lib.hid hvc; replace hN5 := Lib.hid hN5; replace hk5 := Lib.hid hk5; replace hol5 := Lib.hid hol5
       by_cases hlt : ops.length < a
       ·rw [if_pos hlt] at hq2
        subst hq2
        have d5 : decide ((gn : Int) < (a : Int)) = true := decide_eq_true (by omega)
        have g5 : gn < a := by omega
        have g5' : (gn : Int) < (a : Int) := by omega
        clear hgs hns
        obtain ⟨hN2, bN, ⟨r0, r1, r2⟩, ⟨f0, f1, f2⟩, -⟩ := rflt_set (.int .i64 62) (.int .i64 (ln : Int)) (.int .i64 (nc : Int)) hF5
        replace hN2 := Lib.hid hN2; replace bN := Lib.hid bN; replace hF5 := Lib.hid hF5
        go_wp2_with fail
        exact bodyPost_ret (results_one rfl rfl hN2.out Tryz.underlying33 rfl infoRFlt) rfl ⟨rfl, h5.out.below.trans (bN.out _ hBw), FltK.below (hbc.out.trans (bN.out _ (Nat.le_refl _)))⟩
       ·rw [if_neg hlt] at hq2
        have d5 : decide ((gn : Int) < (a : Int)) = false := decide_eq_false (by omega)
        have g5 : ¬ (gn < a) := by omega
        have g5' : (a : Int) ≤ (gn : Int) := by omega
        by_cases hgt : a < ops.length
        ·rw [if_pos hgt] at hq2
         obtain ⟨x, hx⟩ : ∃ x, ops[a]? = some x := ⟨_, List.getElem?_eq_getElem hgt⟩
         rw [List.getD_eq_getElem?_getD, hx] at hq2
         dsimp only [Option.getD_some] at hq2
         subst hq2
         have d6 : decide ((a : Int) < (n : Int) - 1) = true := decide_eq_true (by omega)
         have g6 : (a : Int) < (n : Int) - 1 := by omega
         obtain ⟨gb, go, gc, hs6, _, _, x0, x1, x2⟩ := hvc.out.get (1 + a) x (by rw [Nat.add_comm, List.getElem?_cons_succ]; exact hx)
         rw [hn.out] at hs6
         simp only [Value.slice.injEq, true_and, Option.some.injEq, Addr.mk.injEq, and_true] at hs6
         obtain ⟨⟨rfl, rfl⟩, rfl⟩ := hs6
         have ik : (0 : Int) ≤ 1 + (a : Int) := by omega
         have ik2 : 1 + (a : Int) < (n : Int) := by omega
         have itn : (1 + (a : Int)).toNat = 1 + a := by omega
         replace hx := Lib.hid hx
         clear hgs hns x0 x1 e2 q5 qf
         obtain ⟨hN2, bN, ⟨r0, r1, r2⟩, ⟨f0, f1, f2⟩, -⟩ := rflt_set (.int .i64 62) (.int .i64 (ln : Int)) (.int .i64 (x.2.2 : Int)) hF5
         replace hN2 := Lib.hid hN2; replace bN := Lib.hid bN; replace hF5 := Lib.hid hF5
         go_wp2_with fail
         exact bodyPost_ret (results_one rfl rfl hN2.out Tryz.underlying33 rfl infoRFlt) rfl ⟨rfl, h5.out.below.trans (bN.out _ hBw), FltK.below (hbc.out.trans (bN.out _ (Nat.le_refl _)))⟩
        ·rw [if_neg hgt] at hq2
         have d6 : decide ((a : Int) < (n : Int) - 1) = false := decide_eq_false (by omega)
         have g6 : (n : Int) - 1 ≤ (a : Int) := by omega
         dsimp only at hq2
         by_cases hbg : 2048 < st.pcs.length + l.length
         ·rw [if_pos hbg] at hq2
          subst hq2
          have d7 : decide ((2048 : Int) < (st.pcs.length : Int) + (l.length : Int)) = true := decide_eq_true (by omega)
          clear hgs hns
          obtain ⟨hN2, bN, ⟨r0, r1, r2⟩, ⟨f0, f1, f2⟩, -⟩ := rflt_set (.int .i64 66) (.int .i64 (ln : Int)) (.int .i64 (nc : Int)) hF5
          replace hN2 := Lib.hid hN2; replace bN := Lib.hid bN; replace hF5 := Lib.hid hF5
          go_wp2_with fail
          exact bodyPost_ret (results_one rfl rfl hN2.out Tryz.underlying33 rfl infoRFlt) rfl ⟨rfl, h5.out.below.trans (bN.out _ hBw), FltK.below (hbc.out.trans (bN.out _ (Nat.le_refl _)))⟩
         ·rw [if_neg hbg] at hq2
          subst hq2
          have d7 : decide ((2048 : Int) < (st.pcs.length : Int) + (l.length : Int)) = false := decide_eq_false (by omega)
          clear hgs hns
          obtain ⟨i0, hi, hz0, hz1, hz2⟩ := info_parts infoPie3
          have hBc : B ≤ wc.heap.size := by have := h5.out.hR; have := h5.out.lt; omega
          replace hz0 := Lib.hid hz0; replace hz1 := Lib.hid hz1; replace hz2 := Lib.hid hz2; replace hi := Lib.hid hi; replace hF5 := Lib.hid hF5
          go_wp2_with (at_builtin; refine wpList_append_row _ rfl _ _ 81 rfl B wb.heap.size 125 i0 (.agg pieZ) 8 72 Tryz.underlying81 hi.out hz0.out hz1.out hz2.out rfl (by decide) _ _ _ rfl h5.out.pcs _ _ _ rfl hol5.out (pie_one l) (by simp only [maxLen]; omega) (by omega) hBc ?_)
          intro v6 w6 ho6 hO6
          obtain ⟨vao, vca, rfl, _, _⟩ := own_shape ho6
          obtain ⟨hRk, hP6, hK6⟩ := h5.out.addP hO6 ho6
          have hF6 := (hO6.1.block w.heap.size (Array.getElem?_eq_some_iff.1 hF5.out).1 (fun e => own_ne h5.out.pcs hF5.out (by decide) e.symm)).trans hF5.out
          have hF7 : (w6.setCell ⟨R, 1, none⟩ (.slice vao (st.pcs.length + l.length) vca)).heap[w.heap.size]? = some (.cells #[.int .i64 0, .int .i64 0, .int .i64 0] 33 (0, 0)) := (Below.heap_setCell w6 ⟨R, 1, none⟩ _ w.heap.size (by have := hRw.out; simp; omega)).trans hF6
          have hR6 := hRk.trans h5.out.blk
          have z6 : w6.cell? ⟨R, 1, none⟩ = some (.slice pao st.pcs.length pca) := cell_of_row _ _ 1 _ _ _ hR6
          have zf : w6.frozen? ⟨R, 1, none⟩ = false := frozen_of_row _ _ 1 _ _ hR6
          have hK7 := hk5.out.trans hK6
          obtain ⟨hN2, bN, ⟨r0, r1, r2⟩, ⟨f0, f1, f2⟩, hoth⟩ := rflt_set (.int .i64 0) (.int .i64 0) (.int .i64 0) hF7
          have hfk := (((FltK.below hbc.out).trans (FltK.grown h5.out.pcs (by decide) hO6.1)).trans (FltK.set (o := 1) (u := .slice vao (st.pcs.length + l.length) vca) hR6 (by decide)))
          have hfk2 : FltK w _ := fun k c hk => (hoth k (by have := (Array.getElem?_eq_some_iff.1 hk).1; omega)).trans (hfk k c hk)
          clear hoth hfk
          replace hfk2 := Lib.hid hfk2
          obtain ⟨hP8, hK8⟩ := hP6.flt hF7 hBw (.int .i64 0) (.int .i64 0) (.int .i64 0)
          have hK9 := hK7.trans hK8
          clear hO6 ho6 hP6 hK6 hK7 hK8 hF6 hRk hR6 bN
          replace hP8 := Lib.hid hP8; replace hK9 := Lib.hid hK9; replace hN2 := Lib.hid hN2; replace hF7 := Lib.hid hF7
          go_wp2_with fail
          exact bodyPost_ret (results_one rfl rfl hN2.out Tryz.underlying33 rfl infoRFlt) rfl ⟨rfl, ⟨_, _, hP8.out⟩, hK9.out, hfk2.out⟩
end Go.Proofs.YtiknookfnameiaaGreatDoor

namespace Go.Proofs.YtiknookfnameiaaGreatDoor
open Go.RowKit WP
theorem qA_len (l : List UInt8) : ∀ (f i : Nat) (acc b : List UInt8) (n : Nat), qA l f i acc = .inl (b, n) → b.length + i ≤ n + acc.length
 | 0, i, acc, b, n, h => by simp [qA] at h
 | f + 1, i, acc, b, n, h => by
  unfold qA at h
  split at h
  ·simp at h
  ·split at h
   ·simp only [Sum.inl.injEq, Prod.mk.injEq] at h; obtain ⟨rfl, rfl⟩ := h; omega
   ·split at h
    ·have := qA_len l f _ _ _ _ h; simp only [List.length_append, List.length_cons, List.length_nil] at this; omega
    ·split at h
     ·simp at h
     ·split at h
      ·have := qA_len l f _ _ _ _ h; simp only [List.length_append, List.length_cons, List.length_nil] at this; omega
      ·simp at h
theorem wA_bd (s : ByteArray) : ∀ (f i : Nat) (acc ws : List W), i ≤ s.size → acc.length ≤ i → (∀ x ∈ acc, x.1.size ≤ s.size) → wA s f i acc = .inl ws → ws.length ≤ s.size ∧ ∀ x ∈ ws, x.1.size ≤ s.size
 | 0, i, acc, ws, hi, ha, hx, h => by
  simp only [wA, Sum.inl.injEq] at h; subst h; exact ⟨by omega, hx⟩
 | f + 1, i, acc, ws, hi, ha, hx, h => by
  have hl : s.data.toList.length = s.size := by rw [Array.length_toList]; rfl
  unfold wA at h
  split at h
  ·simp only [Sum.inl.injEq] at h; subst h; exact ⟨by omega, hx⟩
  ·rename_i hlt
   split at h
   ·exact wA_bd s f _ _ _ (by omega) (by omega) hx h
   ·rename_i hbl
    split at h
    ·simp only [Sum.inl.injEq] at h; subst h; exact ⟨by omega, hx⟩
    ·split at h
     ·split at h
      ·simp at h
      ·rename_i b n hq
       have h1 := qA_len _ _ _ _ _ _ hq
       have h2 := qA_bd _ _ _ _ _ _ hq
       split at h
       ·simp at h
       ·refine wA_bd s f _ _ _ (by omega) (by simp; omega) ?_ h
        intro x hx'
        rcases List.mem_append.1 hx' with hx' | hx'
        ·exact hx x hx'
        ·simp only [List.mem_cons, List.not_mem_nil, or_false] at hx'; subst hx'
         show b.length ≤ s.size
         simp at h1; omega
     ·have hgt := skipB_gt s.data.toList (s.size - 1) i (by omega) (by simpa using hbl)
      have hbd := skipB_bd s.data.toList s.size i (by omega)
      rw [show s.size - 1 + 1 = s.size by omega] at hgt
      refine wA_bd s f _ _ _ (by omega) (by simp; omega) ?_ h
      intro x hx'
      rcases List.mem_append.1 hx' with hx' | hx'
      ·exact hx x hx'
      ·simp only [List.mem_cons, List.not_mem_nil, or_false] at hx'; subst hx'
       simp; omega
theorem wordsF_bd (s : ByteArray) (ws : List W) (h : wordsF s = .inl ws) : ws.length ≤ s.size ∧ ∀ x ∈ ws, x.1.size ≤ s.size :=
 wA_bd s _ 0 [] ws (by omega) (by simp) (by simp) h
theorem linesA_bd : ∀ (l c : List UInt8), (linesA c l).length ≤ c.length + l.length ∧ ∀ b ∈ linesA c l, b.length ≤ c.length + l.length
 | [], c => by
  unfold linesA
  split
  ·simp
  ·rename_i h
   have : 0 < c.length := List.length_pos_iff.2 h
   simp; omega
 | x :: l, c => by
  unfold linesA
  split
  ·obtain ⟨h1, h2⟩ := linesA_bd l []
   simp only [List.length_nil, Nat.zero_add] at h1 h2
   refine ⟨by simp; omega, ?_⟩
   intro b hb
   simp only [List.mem_cons] at hb
   rcases hb with rfl | hb
   ·simp
   ·have := h2 b hb; simp; omega
  ·obtain ⟨h1, h2⟩ := linesA_bd l (c ++ [x])
   simp only [List.length_append, List.length_cons, List.length_nil] at h1 h2 ⊢
   exact ⟨by omega, fun b hb => by have := h2 b hb; omega⟩
theorem linesF_bd (s : ByteArray) : (linesF s).length ≤ s.size ∧ ∀ t ∈ linesF s, t.size ≤ s.size := by
 have hl : s.data.toList.length = s.size := by rw [Array.length_toList]; rfl
 obtain ⟨h1, h2⟩ := linesA_bd s.data.toList []
 simp only [List.length_nil, Nat.zero_add, hl] at h1 h2
 unfold linesF bas
 refine ⟨by simpa using h1, ?_⟩
 intro t ht
 obtain ⟨b, hb, rfl⟩ := List.mem_map.1 ht
 exact h2 b hb
end Go.Proofs.YtiknookfnameiaaGreatDoor
