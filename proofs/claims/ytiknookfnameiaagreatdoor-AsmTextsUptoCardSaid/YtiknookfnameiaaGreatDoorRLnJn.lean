/- The contract of the document's line. -/
import Derived.Test.YtiknookfnameiaaGreatDoorJn40
import Derived.Test.YtiknookfnameiaaGreatDoorJn25
import Derived.Test.YtiknookfnameiaaGreatDoorJn22
namespace Go.Proofs.YtiknookfnameiaaGreatDoor
open Go.RowKit WP
set_option linter.unusedSimpArgs false
set_option linter.unusedVariables false
theorem infoRLab : (Tryz.prog.info? 45).map (fun i => (i.zero, i.size, i.bytes)) = some (some (.agg #[.string ⟨#[]⟩, .int .i64 0]), 2, 24) := by kernel_rfl
theorem colon_last (s : ByteArray) (m : Nat) (hm : s.size = m + 1) : colonEnd s = decide (bAt s.data.toList m = 58) := by
 have hl := size_list s
 have hx : s.data.toList.getLast? = some (s.data.toList[m]'(by omega)) := by
  rw [List.getLast?_eq_getElem?, show s.data.toList.length - 1 = m by omega, List.getElem?_eq_getElem (by omega)]
 unfold colonEnd bAt
 rw [hx, List.getD_eq_getElem?_getD, List.getElem?_eq_getElem (by omega)]
 simp only [Option.getD_some, Option.some.injEq]
 congr 1
 apply propext
 constructor
 ·intro h; rw [h]; rfl
 ·intro h; exact UInt8.toNat_inj.1 (by simpa using Int.ofNat.inj h)
theorem colon_nil (s : ByteArray) (h : s.data.toList = []) : colonEnd s = false := by unfold colonEnd; rw [h]; rfl
theorem rtake_step (ln : Nat) (ws : List W) (k : Nat) (x : W) (st : RAsm) (h : ws[k]? = some x) : rtakeF ln (ws.drop k) st =
  if x.2.1 = false ∧ colonEnd x.1 = true then
   if nameF (cutC x.1) = false then .inr (60, ln, x.2.2)
   else if (findL st.labs (cutC x.1)).isSome = true then .inr (63, ln, x.2.2)
   else rtakeF ln (ws.drop (k + 1)) ⟨st.labs ++ [(cutC x.1, st.pcs.length)], st.pcs⟩
  else rstmtF ln x (ws.drop (k + 1)) st := by
 obtain ⟨h1, e⟩ := List.getElem?_eq_some_iff.1 h
 rw [List.drop_eq_getElem_cons h1, e]
 rfl
set_option maxRecDepth 100000 in
set_option maxHeartbeats 4000000 in
theorem rline_any {B : Nat} {w0 w : World} {R : Nat} {st : RAsm} (hP : PAt B w0 w R st) (hE : RTabs w0) (hB : w0.heap.size ≤ B) (s : ByteArray) (hs : s.size ≤ 65536) (n : Nat) (hst : st.pcs.length ≤ 2048) (hlb : st.labs.length ≤ 65536) :
  Calls Tryz.prog 43 #[ptr R, .string s, .int .i64 n] w fun e w' => RStRes B w0 w R w' e (rlineF n s st) := by
 have hwd := fun W => rwords_any s W (by omega)
 obtain ⟨w1, hw1⟩ : ∃ w1, w.alloc (.cells #[.int .i64 0, .int .i64 0, .int .i64 0] 33) = w1 := ⟨_, rfl⟩
 have b1 : Below w.heap.size w w1 := by rw [← hw1]; exact (Below.refl _ _).alloc (Nat.le_refl _) _
 have hF : w1.heap[w.heap.size]? = some (.cells #[.int .i64 0, .int .i64 0, .int .i64 0] 33 (0, 0)) := by rw [← hw1]; exact heap_alloc_new w _
 obtain ⟨hBw, hRw⟩ : B ≤ w.heap.size ∧ R < w.heap.size := by
  obtain ⟨vl, vp, h⟩ := hP
  have := h.hR; have := h.lt; exact ⟨by omega, by omega⟩
 have hP1 := hP.later b1
 obtain ⟨FR, hFR⟩ : ∃ FR, rlineF n s st = FR := ⟨_, rfl⟩
 rw [hFR]
 unfold rlineF at hFR
 have hbd := wordsF_bd s
 obtain ⟨WR, hWR⟩ : ∃ WR, wordsF s = WR := ⟨_, rfl⟩
 rw [hWR] at hFR hbd
 simp only [hWR] at hwd
 replace b1 := Lib.hid b1; replace hF := Lib.hid hF; replace hP1 := Lib.hid hP1; replace hFR := Lib.hid hFR; replace hwd := Lib.hid hwd; replace hbd := Lib.hid hbd; replace hE := Lib.hid hE; replace hw1 := Lib.hid hw1
 clear hP hWR
 go_enter Tryz.func43, Tryz.ntmps43
 go_upto_region 1 with fail
 rw [hw1.out]
 clear hw1
 go_wp2_with fail
 refine (hwd.out w1).mono ?_
 rintro e w2 ⟨b2, hres⟩
 have hF2 := (b2.block w.heap.size (Array.getElem?_eq_some_iff.1 hF.out).1).trans hF.out
 have hP2 := hP1.out.later b2
 have bw2 := b1.out.trans (b2.mono b1.out.size)
 cases WR with
 | inr c =>
  have hq := hFR.out
  dsimp only at hq
  subst hq
  replace hres : e = .returned (.tuple #[.slice none 0 0, .int .i64 (c : Int), .int .i64 40]) := hres
  subst hres
  obtain ⟨vl, vp, h2⟩ := hP2
  obtain ⟨hN2, bN, ⟨r0, r1, r2⟩, ⟨f0, f1, f2⟩, -⟩ := rflt_set (.int .i64 40) (.int .i64 (n : Int)) (.int .i64 (c : Int)) hF2
  replace hN2 := Lib.hid hN2; replace bN := Lib.hid bN; replace h2 := Lib.hid h2; replace bw2 := Lib.hid bw2; replace hF2 := Lib.hid hF2; replace b2 := Lib.hid b2
  go_wp2_with fail
  exact bodyPost_ret (results_one rfl rfl hN2.out Tryz.underlying33 rfl infoRFlt) rfl ⟨rfl, h2.out.below.trans (bN.out _ hBw), FltK.below (bw2.out.trans (bN.out _ (Nat.le_refl _)))⟩
 | inl ws =>
  have hq := hFR.out
  dsimp only at hq
  obtain ⟨wv, rfl, how⟩ := hres
  obtain ⟨wd1, wd2⟩ := hbd.out ws rfl
  have hW2 := RWs.of_own how rfl
  obtain ⟨N, hN⟩ : ∃ N, ws.length = N := ⟨_, rfl⟩
  have hW3 := hW2
  obtain ⟨wao, wca, rfl, hwc1, hwc2, -⟩ := hW3
  rw [hN] at hW2 wd1 hwc1 ⊢
  have hkr : KeepR w w2 := KeepR.below bw2
  have hfk : FltK w w2 := FltK.below bw2
  replace hF2 := Lib.hid hF2; replace hP2 := Lib.hid hP2; replace bw2 := Lib.hid bw2; replace b2 := Lib.hid b2; replace hq := Lib.hid hq; replace hW2 := Lib.hid hW2; replace wd2 := Lib.hid wd2; replace hN := Lib.hid hN; replace hkr := Lib.hid hkr; replace hfk := Lib.hid hfk
  clear how hbd hFR hwd hF hP1 b1
  go_wp2_with fail
  go_loopw [10] (fun kv wr => ∃ (k : Nat) (t : RAsm), k ≤ N ∧ kv = .int .i64 (k : Int) ∧ PAt B w0 wr R t ∧ KeepR w2 wr ∧ FltK w2 wr ∧ rtakeF n (ws.drop k) t = FR ∧ t.pcs.length ≤ 2048 ∧ t.labs.length ≤ 65536 + k) (fun kv _ => N - (intOf kv).toNat)
  case atStart => exact ⟨0, st, by omega, rfl, hP2.out, KeepR.refl _, fun _ _ h => h, hq.out, hst, by omega⟩
  case round =>
   obtain ⟨wz, rfl⟩ : ∃ wz, wz = wr := ⟨wr, rfl⟩
   obtain ⟨k, t, hk, rfl, ⟨vl, vp, hp⟩, hkz, hfz, hr, htp, htl⟩ := hrel
   have hFz := hfz _ _ hF2.out
   have hkw := hkr.out.trans hkz
   have hfw := hfk.out.trans hfz
   clear hq
   by_cases hlt : k < N
   ·obtain ⟨x, hx⟩ : ∃ x, ws[k]? = some x := ⟨_, List.getElem?_eq_getElem (by rw [hN.out]; exact hlt)⟩
    have hWz := hW2.out.keep hkz
    obtain ⟨g, off, cap, hs6, _, _, y0, y1, y2⟩ := hWz.get k x hx
    rw [hN.out] at hs6
    simp only [Value.slice.injEq, true_and] at hs6
    obtain ⟨rfl, rfl⟩ := hs6
    rw [rtake_step n ws k x t hx] at hr
    have hxs : x.1.size ≤ s.size := wd2.out x (List.mem_of_getElem? hx)
    have hgw := World.block_lt_of_cell? wz _ y0
    obtain ⟨ao1, hs1, hg1⟩ := rslice_l hWz k (k : Int) rfl (by rw [hN.out]; omega)
    rw [hN.out] at hs1 hg1
    have hdr : ws.drop k = x :: ws.drop (k + 1) := by
     obtain ⟨h1, e⟩ := List.getElem?_eq_some_iff.1 hx
     rw [List.drop_eq_getElem_cons h1, e]
    rw [hdr] at hg1
    have hsd : ∀ y ∈ x :: ws.drop (k + 1), y.1.size ≤ 140737488355328 := fun y hy => by
     rw [← hdr] at hy
     have := wd2.out y (List.mem_of_mem_drop hy); omega
    obtain ⟨xs, xq, xc⟩ := x
    dsimp only at y0 y1 y2 hr hxs
    have i1 : (0 : Int) ≤ (k : Int) := by omega
    have i2 : (k : Int) < (N : Int) := by omega
    have d1 : decide ((k : Int) < (N : Int)) = true := decide_eq_true (by omega)
    have bz : Below wz.heap.size wz (wz.alloc (.cells #[.string xs, .bool xq, .int .i64 (xc : Int)] 172)) := (Below.refl _ _).alloc (Nat.le_refl _) _
    have hstm := rstmt_any (B := B) (w0 := w0) (R := R) (st := t) ⟨vl, vp, hp.later bz⟩ hE.out hB (xs, xq, xc) (ws.drop (k + 1)) n _ (hg1.later bz) hsd (by rw [List.length_drop, hN.out]; omega) htp
    obtain ⟨SR, hSR⟩ : ∃ SR, rstmtF n (xs, xq, xc) (ws.drop (k + 1)) t = SR := ⟨_, rfl⟩
    rw [hSR] at hr hstm
    obtain ⟨lao, lca, rfl, hlc1, hlc2⟩ := hp.lv
    obtain ⟨pao, pca, rfl, hpc1, hpc2⟩ := hp.pv
    obtain ⟨q0, q1⟩ := hp.c
    replace hp := Lib.hid hp; replace hkz := Lib.hid hkz; replace hfz := Lib.hid hfz; replace hr := Lib.hid hr; replace hFz := Lib.hid hFz; replace hkw := Lib.hid hkw; replace hfw := Lib.hid hfw; replace hWz := Lib.hid hWz; replace hg1 := Lib.hid hg1; replace hsd := Lib.hid hsd; replace bz := Lib.hid bz; replace hstm := Lib.hid hstm; replace hdr := Lib.hid hdr; replace hx := Lib.hid hx; replace hSR := Lib.hid hSR
    cases xq with
    | true =>
      have hq := hr.out
      rw [if_neg (by simp)] at hq
      subst hq
      go_wp2_with fail
      refine hstm.out.mono ?_
      rintro e w6 hres
      have hbz := bz.out.size
      cases SR with
      | inr f =>
       obtain ⟨rfl, hb6, hfk6⟩ := hres
       have hF6 := hfk6 _ _ (FltK.below bz.out _ _ hFz.out)
       obtain ⟨hN2, bN, ⟨r0, r1, r2⟩, ⟨f0, f1, f2⟩, hoth⟩ := rflt_set (.int .i64 f.1) (.int .i64 (f.2.1 : Int)) (.int .i64 (f.2.2 : Int)) hF6
       have hfk2 : FltK w _ := fun j c hj => (hoth j (by have := (Array.getElem?_eq_some_iff.1 hj).1; omega)).trans (hfk6 j c (FltK.below bz.out j c (hfw.out j c hj)))
       clear hoth hfk6 hstm
       unfold fltV
       replace hb6 := Lib.hid hb6; replace hF6 := Lib.hid hF6; replace hN2 := Lib.hid hN2; replace hfk2 := Lib.hid hfk2; replace bN := Lib.hid bN
       go_wp2_with fail
       exact bodyPost_ret (results_one rfl rfl hN2.out Tryz.underlying33 rfl infoRFlt) rfl ⟨rfl, hb6.out.trans (bN.out _ hBw), hfk2.out⟩
      | inl t' =>
       obtain ⟨rfl, ⟨vl6, vp6, hp6⟩, hk6, hfk6⟩ := hres
       have hF6 := hfk6 _ _ (FltK.below bz.out _ _ hFz.out)
       obtain ⟨hN2, bN, ⟨r0, r1, r2⟩, ⟨f0, f1, f2⟩, hoth⟩ := rflt_set (.int .i64 0) (.int .i64 ((0 : Nat) : Int)) (.int .i64 ((0 : Nat) : Int)) hF6
       obtain ⟨hP8, hK8⟩ := hp6.flt hF6 hBw (.int .i64 0) (.int .i64 ((0 : Nat) : Int)) (.int .i64 ((0 : Nat) : Int))
       have hK9 := (hkw.out.trans (KeepR.below bz.out)).trans (hk6.trans hK8)
       have hfk2 : FltK w _ := fun j c hj => (hoth j (by have := (Array.getElem?_eq_some_iff.1 hj).1; omega)).trans (hfk6 j c (FltK.below bz.out j c (hfw.out j c hj)))
       clear hoth hfk6 hstm bN hK8 hk6
       unfold fltV
       dsimp only at hN2 r0 r1 r2 ⊢
       replace hp6 := Lib.hid hp6; replace hF6 := Lib.hid hF6; replace hN2 := Lib.hid hN2; replace hfk2 := Lib.hid hfk2; replace hP8 := Lib.hid hP8; replace hK9 := Lib.hid hK9
       go_wp2_with fail
       exact bodyPost_ret (results_one rfl rfl hN2.out Tryz.underlying33 rfl infoRFlt) rfl ⟨rfl, ⟨_, _, hP8.out⟩, hK9.out, hfk2.out⟩

    | false =>
     have hel := eq_lit [] xs
     by_cases hxe : xs.data.toList = []
     ·rw [decide_eq_true hxe] at hel
      have hq := hr.out
      rw [if_neg (by rw [colon_nil xs hxe]; simp)] at hq
      subst hq
      go_wp2_with fail
      refine hstm.out.mono ?_
      rintro e w6 hres
      have hbz := bz.out.size
      cases SR with
      | inr f =>
       obtain ⟨rfl, hb6, hfk6⟩ := hres
       have hF6 := hfk6 _ _ (FltK.below bz.out _ _ hFz.out)
       obtain ⟨hN2, bN, ⟨r0, r1, r2⟩, ⟨f0, f1, f2⟩, hoth⟩ := rflt_set (.int .i64 f.1) (.int .i64 (f.2.1 : Int)) (.int .i64 (f.2.2 : Int)) hF6
       have hfk2 : FltK w _ := fun j c hj => (hoth j (by have := (Array.getElem?_eq_some_iff.1 hj).1; omega)).trans (hfk6 j c (FltK.below bz.out j c (hfw.out j c hj)))
       clear hoth hfk6 hstm
       unfold fltV
       replace hb6 := Lib.hid hb6; replace hF6 := Lib.hid hF6; replace hN2 := Lib.hid hN2; replace hfk2 := Lib.hid hfk2; replace bN := Lib.hid bN
       go_wp2_with fail
       exact bodyPost_ret (results_one rfl rfl hN2.out Tryz.underlying33 rfl infoRFlt) rfl ⟨rfl, hb6.out.trans (bN.out _ hBw), hfk2.out⟩
      | inl t' =>
       obtain ⟨rfl, ⟨vl6, vp6, hp6⟩, hk6, hfk6⟩ := hres
       have hF6 := hfk6 _ _ (FltK.below bz.out _ _ hFz.out)
       obtain ⟨hN2, bN, ⟨r0, r1, r2⟩, ⟨f0, f1, f2⟩, hoth⟩ := rflt_set (.int .i64 0) (.int .i64 ((0 : Nat) : Int)) (.int .i64 ((0 : Nat) : Int)) hF6
       obtain ⟨hP8, hK8⟩ := hp6.flt hF6 hBw (.int .i64 0) (.int .i64 ((0 : Nat) : Int)) (.int .i64 ((0 : Nat) : Int))
       have hK9 := (hkw.out.trans (KeepR.below bz.out)).trans (hk6.trans hK8)
       have hfk2 : FltK w _ := fun j c hj => (hoth j (by have := (Array.getElem?_eq_some_iff.1 hj).1; omega)).trans (hfk6 j c (FltK.below bz.out j c (hfw.out j c hj)))
       clear hoth hfk6 hstm bN hK8 hk6
       unfold fltV
       dsimp only at hN2 r0 r1 r2 ⊢
       replace hp6 := Lib.hid hp6; replace hF6 := Lib.hid hF6; replace hN2 := Lib.hid hN2; replace hfk2 := Lib.hid hfk2; replace hP8 := Lib.hid hP8; replace hK9 := Lib.hid hK9
       go_wp2_with fail
       exact bodyPost_ret (results_one rfl rfl hN2.out Tryz.underlying33 rfl infoRFlt) rfl ⟨rfl, ⟨_, _, hP8.out⟩, hK9.out, hfk2.out⟩

     ·rw [decide_eq_false hxe] at hel
      obtain ⟨m, hm⟩ : ∃ m, xs.size = m + 1 := ⟨xs.size - 1, by have := size_list xs; have : xs.data.toList.length ≠ 0 := fun h => hxe (List.eq_nil_of_length_eq_zero h); omega⟩
      have hcl := colon_last xs m hm
      have hbg := bAt_get xs m (by omega)
      obtain ⟨c, hc⟩ : ∃ c, bAt xs.data.toList m = c := ⟨_, rfl⟩
      rw [hc] at hcl hbg
      clear hc
      by_cases h58 : c = 58
      ·have d58 : (c != 58) = false := by simp [h58]
       have hq := hr.out
       rw [if_pos ⟨rfl, by rw [hcl]; simp [h58]⟩] at hq
       have hcut : cutC xs = xs.extract 0 m := by unfold cutC; rw [hm, Nat.add_sub_cancel]
       rw [hcut] at hq
       clear hcl hr hcut hstm hSR hsd hg1 hs1
       obtain ⟨nm, hnm⟩ : ∃ nm, xs.extract 0 m = nm := ⟨_, rfl⟩
       rw [hnm] at hq
       have hnc := fun W => rname_any nm W
       have hfd := rfind_any (hp.out.later bz.out) nm
       have hfs := fnd_some t.labs nm
       replace hq := Lib.hid hq; replace hnc := Lib.hid hnc; replace hfd := Lib.hid hfd; replace hfs := Lib.hid hfs
       obtain ⟨NB, hNB⟩ : ∃ NB, nameF nm = NB := ⟨_, rfl⟩
       simp only [hNB] at hq hnc
       go_wp2_with fail
       refine (hnc.out _).mono ?_
       rintro e w6 ⟨rfl, hw6⟩
       obtain rfl := hw6.symm
       clear hw6 hnc d58
       obtain ⟨wq, hwq⟩ : ∃ wq, wz.alloc (.cells #[.string xs, .bool false, .int .i64 (xc : Int)] 172) = wq := ⟨_, rfl⟩
       have hwd := heap_alloc_new wz (.cells #[.string xs, .bool false, .int .i64 (xc : Int)] 172)
       rw [hwq] at bz hfd hwd ⊢
       clear hwq
       have hFq := Lib.hid (FltK.below bz.out _ _ hFz.out)
       have hfq := Lib.hid (hfw.out.trans (FltK.below bz.out))
       have hkq := Lib.hid (hkw.out.trans (KeepR.below bz.out))
       have hkz2 := Lib.hid (hkz.out.trans (KeepR.below bz.out))
       have hfz2 := Lib.hid (hfz.out.trans (FltK.below bz.out))
       have hpq := Lib.hid (hp.out.later bz.out)
       obtain ⟨q0, q1⟩ := hpq.out.c
       have t2 : wq.cell? ⟨wz.heap.size, 2, none⟩ = some (.int .i64 (xc : Int)) := cell_of_row _ _ 2 _ _ _ hwd
       have qf := hpq.out.f 0
       clear hwd y0 y1 y2 hgw
       cases NB with
       | false =>
        have hq2 := hq.out
        rw [if_pos rfl] at hq2
        subst hq2
        clear qf
        obtain ⟨hN2, bN, ⟨r0, r1, r2⟩, ⟨f0, f1, f2⟩, hoth⟩ := rflt_set (.int .i64 60) (.int .i64 (n : Int)) (.int .i64 (xc : Int)) hFq.out
        have hfk2 : FltK w _ := fun j c hj => (hoth j (by have := (Array.getElem?_eq_some_iff.1 hj).1; omega)).trans (hfq.out j c hj)
        clear hoth
        replace hN2 := Lib.hid hN2; replace bN := Lib.hid bN; replace hfk2 := Lib.hid hfk2
        go_wp2_with fail
        exact bodyPost_ret (results_one rfl rfl hN2.out Tryz.underlying33 rfl infoRFlt) rfl ⟨rfl, hpq.out.below.trans (bN.out _ hBw), hfk2.out⟩
       | true =>
        have hq2 := hq.out
        rw [if_neg (by decide)] at hq2
        clear hq
        go_wp2_with fail
        refine hfd.out.mono ?_
        rintro e w7 ⟨rfl, hw7⟩
        obtain rfl := hw7.symm
        clear hw7 hfd
        obtain ⟨V, hV⟩ : ∃ V, fndI t.labs nm = V := ⟨_, rfl⟩
        rw [hV] at hfs ⊢
        by_cases h0 : 0 ≤ V
        ·have d0 : decide ((0 : Int) ≤ V) = true := decide_eq_true h0
         rw [if_pos (hfs.out.2 h0)] at hq2
         subst hq2
         clear qf
         obtain ⟨hN2, bN, ⟨r0, r1, r2⟩, ⟨f0, f1, f2⟩, hoth⟩ := rflt_set (.int .i64 63) (.int .i64 (n : Int)) (.int .i64 (xc : Int)) hFq.out
         have hfk2 : FltK w _ := fun j c hj => (hoth j (by have := (Array.getElem?_eq_some_iff.1 hj).1; omega)).trans (hfq.out j c hj)
         clear hoth
         replace hN2 := Lib.hid hN2; replace bN := Lib.hid bN; replace hfk2 := Lib.hid hfk2
         go_wp2_with fail
         exact bodyPost_ret (results_one rfl rfl hN2.out Tryz.underlying33 rfl infoRFlt) rfl ⟨rfl, hpq.out.below.trans (bN.out _ hBw), hfk2.out⟩
        ·have d0 : decide ((0 : Int) ≤ V) = false := decide_eq_false h0
         rw [if_neg (fun h => h0 (hfs.out.1 h))] at hq2
         replace hq2 := Lib.hid hq2
         obtain ⟨i0, hi, hz0, hz1, hz2⟩ := info_parts infoRLab
         have hBq : B ≤ wq.heap.size := by have := bz.out.size; have := hp.out.hR; have := hp.out.lt; omega
         have b8 : Below wq.heap.size wq ((wq.alloc (.cells #[.string nm, .int .i64 (t.pcs.length : Int)] 45)).drew) := ((Below.refl _ _).alloc (Nat.le_refl _) _).drew
         have hp8 := hpq.out.later b8
         have c8 : ((wq.alloc (.cells #[.string nm, .int .i64 (t.pcs.length : Int)] 45)).drew).cell? ⟨R, 0, none⟩ = some (.slice lao t.labs.length lca) := hp8.c.1
         have c8' : ((wq.alloc (.cells #[.string nm, .int .i64 (t.pcs.length : Int)] 45)).drew).cell? ⟨R, 1, none⟩ = some (.slice pao t.pcs.length pca) := hp8.c.2
         have c7 : (wq.drew.alloc (.cells #[.string nm, .int .i64 (t.pcs.length : Int)] 45)).cell? ⟨R, 0, none⟩ = some (.slice lao t.labs.length lca) := hp8.c.1
         have c7' : (wq.drew.alloc (.cells #[.string nm, .int .i64 (t.pcs.length : Int)] 45)).cell? ⟨R, 1, none⟩ = some (.slice pao t.pcs.length pca) := hp8.c.2
         have c6 : wq.drew.cell? ⟨R, 0, none⟩ = some (.slice lao t.labs.length lca) := q0
         have c6' : wq.drew.cell? ⟨R, 1, none⟩ = some (.slice pao t.pcs.length pca) := q1
         have f8 : ((wq.alloc (.cells #[.string nm, .int .i64 (t.pcs.length : Int)] 45)).drew).frozen? ⟨R, 0, none⟩ = false := hp8.f 0
         have f7 : (wq.drew.alloc (.cells #[.string nm, .int .i64 (t.pcs.length : Int)] 45)).frozen? ⟨R, 0, none⟩ = false := hp8.f 0
         have hnw := World.news_of_block (cs := #[.string nm, .int .i64 (t.pcs.length : Int)]) (fr := (0, 0)) (heap_alloc_new wq (.cells #[.string nm, .int .i64 (t.pcs.length : Int)] 45))
         replace hi := Lib.hid hi; replace hz0 := Lib.hid hz0; replace hz1 := Lib.hid hz1; replace hz2 := Lib.hid hz2; replace b8 := Lib.hid b8; replace hp8 := Lib.hid hp8; replace hnw := Lib.hid hnw
         go_upto_region 15 with fail
         go_region_law (refine step_append_still _ (by rfl) _ _ 40 (by rfl) B 45 i0 (.agg #[.string ⟨#[]⟩, .int .i64 0]) 2 24 Tryz.underlying40 hi.out hz0.out hz1.out hz2.out (by rfl) (by omega) _ _ _ (by rfl) hp8.out.labs ⟨wq.heap.size, 0, none⟩ 1 1 [.string nm, .int .i64 (t.pcs.length : Int)] (by rfl) (by rfl) hnw.out (by simp [Value.oneCell']) (by simp only [maxLen]; omega) (by omega) (by simp; omega) ?_; intro v9 w9 ho9 hO9 hR9; obtain ⟨ao9, ca9, rfl, _, _⟩ := own_shape ho9; obtain ⟨hRk, hP9, hK9⟩ := hp8.out.addL (p := (nm, t.pcs.length)) hO9 ho9; have hR9' := hRk.trans hp8.out.blk; have x0 : w9.cell? ⟨R, 0, none⟩ = some (.slice lao t.labs.length lca) := cell_of_row _ _ 0 _ _ _ hR9'; have xf : w9.frozen? ⟨R, 0, none⟩ = false := frozen_of_row _ _ 0 _ _ hR9'; have hfk9 := ((FltK.below b8.out).trans (FltK.grown hp8.out.labs (by decide) hO9.1)).trans (FltK.set (o := 0) (u := .slice ao9 (t.labs.length + 1) ca9) hR9' (by decide)); have hkk9 := (KeepR.below b8.out).trans hK9; clear hO9 ho9 hR9 hRk hK9; replace hP9 := Lib.hid hP9; replace hfk9 := Lib.hid hfk9; replace hkk9 := Lib.hid hkk9; replace hR9' := Lib.hid hR9')
         all_goals
          go_wp2_with fail
          go_roundw
          case rel => exact ⟨k + 1, ⟨t.labs ++ [(nm, t.pcs.length)], t.pcs⟩, by omega, by go_num, ⟨_, _, hP9.out⟩, hkz2.out.trans hkk9.out, hfz2.out.trans hfk9.out, hq2.out, htp, by simp; omega⟩
          case measure => simp [intOf]; omega
      ·have d58 : (c != 58) = true := by simpa using h58
       have hq := hr.out
       rw [if_neg (by rw [hcl]; simp [h58])] at hq
       clear hcl
       subst hq
       go_wp2_with fail
       refine hstm.out.mono ?_
       rintro e w6 hres
       have hbz := bz.out.size
       cases SR with
       | inr f =>
        obtain ⟨rfl, hb6, hfk6⟩ := hres
        have hF6 := hfk6 _ _ (FltK.below bz.out _ _ hFz.out)
        obtain ⟨hN2, bN, ⟨r0, r1, r2⟩, ⟨f0, f1, f2⟩, hoth⟩ := rflt_set (.int .i64 f.1) (.int .i64 (f.2.1 : Int)) (.int .i64 (f.2.2 : Int)) hF6
        have hfk2 : FltK w _ := fun j c hj => (hoth j (by have := (Array.getElem?_eq_some_iff.1 hj).1; omega)).trans (hfk6 j c (FltK.below bz.out j c (hfw.out j c hj)))
        clear hoth hfk6 hstm
        unfold fltV
        replace hb6 := Lib.hid hb6; replace hF6 := Lib.hid hF6; replace hN2 := Lib.hid hN2; replace hfk2 := Lib.hid hfk2; replace bN := Lib.hid bN
        go_wp2_with fail
        exact bodyPost_ret (results_one rfl rfl hN2.out Tryz.underlying33 rfl infoRFlt) rfl ⟨rfl, hb6.out.trans (bN.out _ hBw), hfk2.out⟩
       | inl t' =>
        obtain ⟨rfl, ⟨vl6, vp6, hp6⟩, hk6, hfk6⟩ := hres
        have hF6 := hfk6 _ _ (FltK.below bz.out _ _ hFz.out)
        obtain ⟨hN2, bN, ⟨r0, r1, r2⟩, ⟨f0, f1, f2⟩, hoth⟩ := rflt_set (.int .i64 0) (.int .i64 ((0 : Nat) : Int)) (.int .i64 ((0 : Nat) : Int)) hF6
        obtain ⟨hP8, hK8⟩ := hp6.flt hF6 hBw (.int .i64 0) (.int .i64 ((0 : Nat) : Int)) (.int .i64 ((0 : Nat) : Int))
        have hK9 := (hkw.out.trans (KeepR.below bz.out)).trans (hk6.trans hK8)
        have hfk2 : FltK w _ := fun j c hj => (hoth j (by have := (Array.getElem?_eq_some_iff.1 hj).1; omega)).trans (hfk6 j c (FltK.below bz.out j c (hfw.out j c hj)))
        clear hoth hfk6 hstm bN hK8 hk6
        unfold fltV
        dsimp only at hN2 r0 r1 r2 ⊢
        replace hp6 := Lib.hid hp6; replace hF6 := Lib.hid hF6; replace hN2 := Lib.hid hN2; replace hfk2 := Lib.hid hfk2; replace hP8 := Lib.hid hP8; replace hK9 := Lib.hid hK9
        go_wp2_with fail
        exact bodyPost_ret (results_one rfl rfl hN2.out Tryz.underlying33 rfl infoRFlt) rfl ⟨rfl, ⟨_, _, hP8.out⟩, hK9.out, hfk2.out⟩

   ·obtain rfl : k = N := by omega
    have d1 : decide ((k : Int) < (k : Int)) = false := decide_eq_false (by omega)
    rw [List.drop_of_length_le (by rw [hN.out]; exact Nat.le_refl _)] at hr
    obtain rfl : Sum.inl t = FR := hr
    obtain ⟨hN2, bN, ⟨r0, r1, r2⟩, ⟨f0, f1, f2⟩, hoth⟩ := rflt_set (.int .i64 0) (.int .i64 0) (.int .i64 0) hFz
    obtain ⟨hP8, hK8⟩ := hp.flt hFz hBw (.int .i64 0) (.int .i64 0) (.int .i64 0)
    have hK9 := hkw.trans hK8
    have hfk2 : FltK w _ := fun j c hj => (hoth j (by have := (Array.getElem?_eq_some_iff.1 hj).1; omega)).trans (hfw j c hj)
    clear hoth hkz hfz hkw hfw hK8 bN
    replace hP8 := Lib.hid hP8; replace hK9 := Lib.hid hK9; replace hN2 := Lib.hid hN2; replace hFz := Lib.hid hFz; replace hfk2 := Lib.hid hfk2; replace hp := Lib.hid hp
    go_wp2_with fail
    exact bodyPost_ret (results_one rfl rfl hN2.out Tryz.underlying33 rfl infoRFlt) rfl ⟨rfl, ⟨_, _, hP8.out⟩, hK9.out, hfk2.out⟩
end Go.Proofs.YtiknookfnameiaaGreatDoor
