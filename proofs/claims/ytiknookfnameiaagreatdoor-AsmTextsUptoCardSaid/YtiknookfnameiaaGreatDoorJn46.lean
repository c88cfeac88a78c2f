/- The contract of asm's read: the walk. The contracts of asm's Assemble and Labels. -/
import Derived.Test.YtiknookfnameiaaGreatDoorJn43
import Derived.Test.YtiknookfnameiaaGreatDoorMTakJn
import Derived.Test.YtiknookfnameiaaGreatDoorJn16
namespace Go.Proofs.YtiknookfnameiaaGreatDoor
open Go.RowKit WP
set_option linter.unusedSimpArgs false
set_option linter.unusedVariables false
/-- the last step's reading -/
def endL (labs : List (ByteArray × Nat)) : List Int ⊕ Flt → (List Int × List (ByteArray × Nat)) ⊕ Flt
 | .inr f => .inr f
 | .inl ws => .inl (ws, labs)
theorem endM_inl (base : Int) (st : Asm) : endM base (.inl st) = endL st.labs (latersM base st.labs st.lat st.ws) := by
 unfold endM
 simp only
 cases latersM base st.labs st.lat st.ws <;> rfl
set_option maxRecDepth 100000 in
theorem read_long (s : ByteArray) (base : Int) (w : World) (hs : 65536 < s.size) (h63 : s.size ≤ 9223372036854775807) :
  Calls Tryz.prog 23 #[.string s, .int .u32 base] w fun e w' => Below w.heap.size w w' ∧ ReadRes w' w.heap.size base e (.inr (2, 0, 0)) := by
 obtain ⟨w1, hw1⟩ : ∃ w1, (w.alloc (.map #[] 0)).alloc (.cells #[.int .u32 base, .int .i64 0, .slice none 0 0, .slice none 0 0, .map (some w.heap.size), .slice none 0 0] 77) = w1 := ⟨_, rfl⟩
 have b1 : Below w.heap.size w w1 := by rw [← hw1]; exact ((Below.refl _ _).alloc (Nat.le_refl _) _).alloc (by simp) _
 have htl := tlines_no s w1 hs h63
 have hmk : (Instr.makeMap 74 none).run Tryz.prog w = .ok (.map (some w.heap.size)) (w.alloc (.map #[] 0)) := by kernel_rfl
 have hn := heap_alloc_new w1 (.cells #[.int .i64 2, .int .i64 0, .int .i64 0] 112)
 have b2 := b1.alloc b1.size (.cells #[.int .i64 2, .int .i64 0, .int .i64 0] 112)
 replace b2 := Lib.hid b2; replace hn := Lib.hid hn; replace htl := Lib.hid htl
 clear b1
 go_enter Tryz.func23, Tryz.ntmps23
 go_upto_region 2 with fail
 try (change Code.wp _ _ _ _ ((w.alloc (.map #[] 0)).alloc (.cells #[.int .u32 base, .int .i64 0, .slice none 0 0, .slice none 0 0, .map (some w.heap.size), .slice none 0 0] 77)); rw [hw1])
 clear hw1
 go_wp2_with fail
 refine htl.out.mono ?_
 rintro e w2 ⟨rfl, hw2⟩
 rw [hw2]; clear hw2 w2
 go_wp2_with fail
 go_ret2
 exact ⟨b2.out, _, rfl, _, rfl, hn.out⟩
set_option maxRecDepth 100000 in
set_option maxHeartbeats 4000000 in
theorem read_any (s : ByteArray) (base m : Int) (w : World) (hE : AEnv w) (hM : MaxL w m) (hs : s.size ≤ 65536) (nb : base < 4294967296 ∧ 0 ≤ base) :
  Calls Tryz.prog 23 #[.string s, .int .u32 base] w fun e w' => Below w.heap.size w w' ∧ ReadRes w' w.heap.size base e (readM base s) := by
 rw [readM_end base s hs]
 obtain ⟨w1, hw1⟩ : ∃ w1, (w.alloc (.map #[] 0)).alloc (.cells #[.int .u32 base, .int .i64 0, .slice none 0 0, .slice none 0 0, .map (some w.heap.size), .slice none 0 0] 77) = w1 := ⟨_, rfl⟩
 have hN := rst_new w hE base
 rw [hw1] at hN
 have b1 : Below w.heap.size w w1 := by rw [← hw1]; exact ((Below.refl _ _).alloc (Nat.le_refl _) _).alloc (by simp) _
 have hM1 : MaxL w1 m := by
  show w1.cell? _ = _
  rw [← show w.cell? _ = _ from hM]
  unfold World.cell?
  rw [b1.block _ (World.block_lt_of_cell? w _ hM)]
 have htl := tlines_any s m w1 hM1 hs
 obtain ⟨bd1, bd2⟩ := linesF_bd s
 have bd3 := linesF_tot s
 obtain ⟨G, hG⟩ : ∃ G, linesM 1 (linesF s) asm0 = G := ⟨_, rfl⟩
 rw [hG]
 obtain ⟨L, hL⟩ : ∃ L, linesF s = L := ⟨_, rfl⟩
 rw [hL] at bd1 bd2 bd3 htl hG
 obtain ⟨n, hn⟩ : ∃ n, L.length = n := ⟨_, rfl⟩
 rw [hn] at bd1 htl
 obtain ⟨B, hB⟩ : ∃ B, w.heap.size = B := ⟨_, rfl⟩
 simp only [hB]
 have hmk : (Instr.makeMap 74 none).run Tryz.prog w = .ok (.map (some w.heap.size)) (w.alloc (.map #[] 0)) := by kernel_rfl
 replace hN := Lib.hid hN; replace b1 := Lib.hid b1; replace hE := Lib.hid hE; replace hG := Lib.hid hG; replace bd2 := Lib.hid bd2; replace bd3 := Lib.hid bd3; replace htl := Lib.hid htl; replace hn := Lib.hid hn; replace hB := Lib.hid hB
 clear hM hM1 hL
 go_enter Tryz.func23, Tryz.ntmps23
 go_upto_region 2 with fail
 try (change Code.wp _ _ _ _ ((w.alloc (.map #[] 0)).alloc (.cells #[.int .u32 base, .int .i64 0, .slice none 0 0, .slice none 0 0, .map (some w.heap.size), .slice none 0 0] 77)); rw [hw1])
 clear hw1 hmk
 go_wp2_with fail
 refine htl.out.mono ?_
 rintro e w2 ⟨lv, rfl, hol, b12⟩
 have b02 := b1.out.trans (b12.mono (by have := hN.out.lt; omega))
 have hE2 : AEnv w2 := hE.out.later b02
 have hN2 := (hN.out.later b12).rebase
 rw [hB.out] at b02 hN2 ⊢
 obtain ⟨lao, lca, rfl⟩ : ∃ ao ca, lv = .slice ao n ca := by
  rcases hol.2 with ⟨hv, hn'⟩ | ⟨g, cap, cur, hv, _⟩
  ·exact ⟨none, 0, by rw [hv, hn']⟩
  ·exact ⟨_, _, hv⟩
 have hst : RAt B w2 w2 (B + 1) base 0 asm0 := ⟨_, _, _, _, _, _, hN2, rfl⟩
 clear htl b12 b1 hE hN hN2
 replace b02 := Lib.hid b02; replace hol := Lib.hid hol; replace hst := Lib.hid hst; replace hE2 := Lib.hid hE2
 go_wp2_with fail
 go_loopw [36] (fun i wr => ∃ (k : Nat) (st : Asm), k ≤ n ∧ i = .int .i64 k ∧ RAt B w2 wr (B + 1) base k st ∧ linesM (k + 1) (L.drop k) st = G ∧ AOk st ∧ BOk 65536 st ∧ st.labs.length + tot (L.drop k) ≤ 65536) (fun i _ => n - (intOf i).toNat)
 case atStart => exact ⟨0, asm0, by omega, rfl, hst.out, hG.out, asm0_ok, asm0_bok _, by have := bd3.out; simp [asm0]; omega⟩
 case round =>
  obtain ⟨wo, rfl⟩ : ∃ wo, wo = wr := ⟨wr, rfl⟩
  obtain ⟨k, st, hk, rfl, hR, hq, hA, hBk, hlb⟩ := hrel
  clear hst hG
  by_cases hlt : k < n
  ·have hkl : k < L.length := by rw [hn.out]; exact hlt
   obtain ⟨t, ht⟩ : ∃ t, L[k] = t := ⟨_, rfl⟩
   have hts : t.size ≤ 65536 := by have := bd2.out t (by rw [← ht]; exact List.getElem_mem _); omega
   rw [List.drop_eq_getElem_cons hkl, ht] at hq hlb
   obtain ⟨vw, vl, mb, vf, fs, bs, hr, hfl⟩ := hR
   obtain ⟨g, cap, hlv, hcp1, hcp2, hc⟩ := str_cell hol.out hr.strs k hlt t (by rw [List.getElem?_eq_getElem hkl, ht])
   simp only [Value.slice.injEq, true_and] at hlv
   obtain ⟨rfl, rfl⟩ := hlv
   have cl := hr.c.2.1
   have cf := hr.f 1
   have hwk : ((k + 1 : Nat) : Int) = (k : Int) + 1 := by omega
   have hr1 := hr.setLine (k + 1)
   obtain ⟨w3, hw3⟩ : ∃ w3, wo.setCell ⟨B + 1, 1, none⟩ (.int .i64 ((k : Int) + 1)) = w3 := ⟨_, rfl⟩
   rw [hwk, hw3] at hr1
   have hwd := words_any t w3 (by omega)
   clear ht hkl
   replace hr := Lib.hid hr; replace hq := Lib.hid hq; replace hwd := Lib.hid hwd; replace hr1 := Lib.hid hr1; replace hA := Lib.hid hA; replace hBk := Lib.hid hBk; replace hlb := Lib.hid hlb; replace hfl := Lib.hid hfl; replace hts := Lib.hid hts; replace hw3 := Lib.hid hw3
   go_upto_region 9 with fail
   rw [hw3.out]
   clear hw3 cl cf
   go_wp2_with fail
   refine hwd.out.mono ?_
   rintro e w4 ⟨b3, hres⟩
   clear hwd hc
   have hr4 := hr1.out.later b3
   have hq' := hq.out
   clear hq hr1
   rw [linesM] at hq'
   unfold lineM at hq'
   cases hws : wordsF t with
   | inr c =>
    rw [hws] at hres hq'
    replace hres : e = .returned (.tuple #[.slice none 0 0, .int .i64 (c : Int), .int .i64 40]) := hres
    subst hres
    replace hq' : Sum.inr (40, k + 1, c) = G := hq'
    have hat := at_any (B + 1) (k + 1) c 40 w4 hr4.c.2.1
    have hbel := b02.out.trans (hr4.below.mono (Nat.le_refl _))
    have hBw : B ≤ w4.heap.size := by have := hr4.lt; omega
    replace hat := Lib.hid hat; replace hbel := Lib.hid hbel; replace hq' := Lib.hid hq'; replace hr4 := Lib.hid hr4; replace b3 := Lib.hid b3; replace hws := Lib.hid hws
    go_wp2_with fail
    refine hat.out.mono ?_
    rintro e w5 ⟨v, rfl, hft, b5⟩
    obtain ⟨gg, rfl, hgg⟩ := hft
    have hfin := hbel.out.trans (b5.mono hBw)
    clear b5
    replace hgg := Lib.hid hgg; replace hfin := Lib.hid hfin
    go_wp2_with fail
    go_ret2
    rw [← hq'.out]
    exact ⟨hfin.out, _, rfl, _, rfl, hgg.out⟩
   | inl ws =>
    rw [hws] at hres hq'
    simp only at hq'
    obtain ⟨wv, rfl, how⟩ := hres
    obtain ⟨wd1, wd2⟩ := wordsF_bd t ws hws
    have hWs := WsAt.of_own how rfl
    have htotc : tot (t :: L.drop (k + 1)) = t.size + tot (L.drop (k + 1)) := by unfold tot; rw [List.map_cons, List.sum_cons]
    have hlb1 := hlb.out
    rw [htotc] at hlb1
    have htk := take_any (ln := k + 1) ⟨vw, vl, mb, vf, fs, bs, hr4, hfl.out⟩ hE2.out hA.out.len (by have := hBk.out.lat; have := hA.out.len; omega) ws wv hWs (fun x hx => by have := wd2 x hx; have := hts.out; omega) (by have := hts.out; omega) (by omega)
    cases htm : takeM (k + 1) ws st with
    | inr f =>
     rw [htm] at htk hq'
     replace hq' : Sum.inr f = G := hq'
     have hbel := hr4.below
     replace htk := Lib.hid htk; replace hq' := Lib.hid hq'; replace hr4 := Lib.hid hr4; replace b3 := Lib.hid b3; replace hws := Lib.hid hws; replace how := Lib.hid how; replace wd2 := Lib.hid wd2; replace hWs := Lib.hid hWs
     clear wd1 htotc hlb1 hbel htm
     go_wp2_with fail
     refine htk.out.mono ?_
     rintro e w5 ⟨⟨v, rfl, hft⟩, b5⟩
     obtain ⟨gg, rfl, hgg⟩ := hft
     have hfin := b02.out.trans b5
     clear b5
     replace hgg := Lib.hid hgg; replace hfin := Lib.hid hfin
     go_wp2_with fail
     go_ret2
     rw [← hq'.out]
     exact ⟨hfin.out, _, rfl, _, rfl, hgg.out⟩
    | inl st' =>
     rw [htm] at htk hq'
     simp only at hq'
     have hA' := take_ok ws hA.out htm
     obtain ⟨hB', hl'⟩ := take_bok ws hBk.out (fun x hx => by have := wd2 x hx; have := hts.out; omega) htm
     have hlb2 : st'.labs.length + tot (L.drop (k + 1)) ≤ 65536 := by omega
     replace htk := Lib.hid htk; replace hq' := Lib.hid hq'; replace hr4 := Lib.hid hr4; replace b3 := Lib.hid b3; replace hws := Lib.hid hws; replace how := Lib.hid how; replace wd2 := Lib.hid wd2; replace hWs := Lib.hid hWs; replace hA' := Lib.hid hA'; replace hB' := Lib.hid hB'; replace hlb2 := Lib.hid hlb2
     clear wd1 htotc hlb1 htm hl'
     go_wp2_with fail
     refine htk.out.mono ?_
     rintro e w5 ⟨rfl, hR5⟩
     replace hR5 := Lib.hid hR5
     go_wp2_with fail
     go_roundw
     case rel => exact ⟨k + 1, st', by omega, by go_num, hR5.out, hq'.out, hA'.out, hB'.out, hlb2.out⟩
     case measure => simp [intOf]; omega
  ·obtain rfl : k = n := by omega
   rw [List.drop_of_length_le (by rw [hn.out]; exact Nat.le_refl _)] at hq
   obtain rfl : Sum.inl st = G := hq
   obtain ⟨FL, hFL⟩ : ∃ FL, latersM base st.labs st.lat st.ws = FL := ⟨_, rfl⟩
   obtain ⟨vw, vl, mb, vf, fs, bs, hr, hfl⟩ := hR
   have hend := endM_inl base st
   rw [hFL] at hend
   obtain ⟨vao, vca, rfl⟩ : ∃ ao ca, vf = .slice ao fs.length ca := by
    rcases hr.lat.2 with ⟨hv, hn'⟩ | ⟨g, cap, cur, hv, _⟩
    ·exact ⟨none, 0, by rw [hv, hn']⟩
    ·exact ⟨_, _, hv⟩
   obtain ⟨M, hM⟩ : ∃ M, fs.length = M := ⟨_, rfl⟩
   have c5 := hr.c.2.2.2.2.2
   rw [hM] at c5
   have hlabs : ∀ q ∈ st.labs, q.2 ≤ 2048 := fun q hq => by have := hA.labs q hq; have := hA.len; omega
   replace hr := Lib.hid hr; replace hA := Lib.hid hA; replace hBk := Lib.hid hBk; replace hlb := Lib.hid hlb; replace hfl := Lib.hid hfl; replace hFL := Lib.hid hFL; replace hlabs := Lib.hid hlabs; replace hM := Lib.hid hM
   replace hend := Lib.hid hend
   go_wp2_with fail
   go_loopw [70] (fun i wr => ∃ (j : Nat) (ws' : List Int) (bs' : List Nat), j ≤ M ∧ i = .int .i64 j ∧ RSt B w2 wr (B + 1) base k ⟨ws', st.labs, st.lat.drop j⟩ vw vl mb (.slice vao fs.length vca) fs bs' st.labs ∧ ws'.length = st.ws.length ∧ latersM base st.labs (st.lat.drop j) ws' = FL) (fun i _ => M - (intOf i).toNat)
   case atStart => exact ⟨0, st.ws, bs, by omega, rfl, hr.out, rfl, hFL.out⟩
   case round =>
    obtain ⟨wq, rfl⟩ : ∃ wq, wq = wr := ⟨wr, rfl⟩
    obtain ⟨j, ws', bs', hj, rfl, hr2, hwl, hq⟩ := hrel
    clear hr hFL
    by_cases hjl : j < M
    ·have hjlt : j < st.lat.length := by have := hfl.out; have := hM.out; omega
     obtain ⟨x, hx⟩ : ∃ x, st.lat[j] = x := ⟨_, rfl⟩
     have hxm : x ∈ st.lat := by rw [← hx]; exact List.getElem_mem _
     rw [List.drop_eq_getElem_cons hjlt, hx] at hr2 hq
     obtain ⟨b, bs2, rfl, hup, ⟨hBb, hbl⟩, ⟨f, hf, hpd⟩, hr3⟩ := RSt.pop (st := ⟨ws', st.labs, st.lat.drop (j + 1)⟩) hr2 (by rw [hM.out, List.length_drop]; have := hfl.out; have := hM.out; omega)
     have hfj : fs[j]? = some f := by
      rw [← hf]; congr 1
      rw [List.length_drop]; have := hfl.out; have := hM.out; omega
     obtain ⟨hcf, hvg⟩ : wq.cell? ⟨(vao.getD ⟨0, 0, none⟩).block, j, none⟩ = some f ∧ ∃ g, vao = some ⟨g, 0, none⟩ := by
      rcases hr3.lat.2 with ⟨hv, h0⟩ | ⟨g, cap, cur, hv, _, hg, h1, h2, hcs, htake⟩
      ·have := hM.out; omega
      ·simp only [Value.slice.injEq, true_and] at hv
       obtain ⟨hv1, hv2⟩ := hv
       refine ⟨?_, g, hv1⟩
       rw [hv1]
       show wq.cell? ⟨g, j, none⟩ = _
       rw [cell_of_row _ _ _ _ _ _ hg]
       rw [← htake, List.getElem?_take_of_lt (by have := hM.out; omega)] at hfj
       rw [← hfj, Array.getElem?_toList]
     obtain ⟨g, rfl⟩ := hvg
     replace hcf : wq.cell? ⟨g, j, none⟩ = some f := hcf
     have hcp : fs.length ≤ vca ∧ vca ≤ 9223372036854775807 := by
      rcases hr3.lat.2 with ⟨hv, h0⟩ | ⟨g2, cap, cur, hv, _, hg, h1, h2, hcs, htake⟩
      ·have := hM.out; omega
      ·simp only [Value.slice.injEq, true_and] at hv
       rw [hv.2]; exact ⟨h1, h2⟩
     obtain ⟨hcp1, hcp2⟩ := hcp
     obtain ⟨gw, cw, hvw⟩ : ∃ gw cw, vw = .slice (some ⟨gw, 0, none⟩) ws'.length cw := by
      rcases hr3.ws.2 with ⟨_, h0⟩ | ⟨gw, cw, cur, hv, _⟩
      ·have h0 : ws'.length = 0 := h0
       have := hBk.out.lat
       omega
      ·exact ⟨gw, cw, hv⟩
     have hr4 := hr3
     rw [hvw] at hr4
     obtain ⟨fid, caps, rfl, hrn, hcl⟩ := later_any hr4 hE2.out nb (by rw [hwl]; exact hA.out.lat x hxm) (by rw [hwl]; exact hA.out.len) hlabs.out (by have := hBk.out.nm x hxm; omega) hup hBb hpd
     rw [← hvw] at hcl
     rw [latersM] at hq
     rw [hM.out] at hcp1
     have hpl : x.place + x.what.size ≤ ws'.length := by rw [hwl]; exact hA.out.lat x hxm
     clear hx hr2 hf hpd hr4 hxm hjlt hup hvw hfj
     replace hr3 := Lib.hid hr3; replace hcl := Lib.hid hcl; replace hq := Lib.hid hq; replace hwl := Lib.hid hwl
     cases hlm : laterM base st.labs x ws' with
     | inr ff =>
      rw [hlm] at hcl
      have hq' := hq.out
      rw [hlm] at hq'
      replace hq' : Sum.inr ff = FL := hq'
      replace hq' := Lib.hid hq'
      clear hlm hq
      go_wp2_with fail
      refine hcl.out.mono ?_
      rintro e w5 ⟨⟨v, rfl, hft⟩, b5⟩
      obtain ⟨gg, rfl, hgg⟩ := hft
      have hfin := b02.out.trans b5
      clear b5
      replace hgg := Lib.hid hgg; replace hfin := Lib.hid hfin
      go_wp2_with fail
      go_ret2
      rw [hend.out, ← hq'.out]
      exact ⟨hfin.out, _, rfl, _, rfl, hgg.out⟩
     | inl ws2 =>
      rw [hlm] at hcl
      have hq' := hq.out
      rw [hlm] at hq'
      replace hq' : latersM base st.labs (st.lat.drop (j + 1)) ws2 = FL := hq'
      replace hq' := Lib.hid hq'
      have hw2 : ws2.length = st.ws.length := (later_len hpl hlm).trans hwl.out
      clear hlm hq
      go_wp2_with fail
      refine hcl.out.mono ?_
      rintro e w5 ⟨rfl, hr5⟩
      replace hr5 := Lib.hid hr5
      go_wp2_with fail
      go_roundw
      case rel => exact ⟨j + 1, ws2, bs2, by omega, by go_num, hr5.out, hw2, hq'.out⟩
      case measure => simp [intOf]; omega
    ·obtain rfl : j = M := by omega
     rw [List.drop_of_length_le (by have := hfl.out; have := hM.out; omega)] at hq hr2
     obtain rfl : Sum.inl ws' = FL := hq
     have hfin := b02.out.trans hr2.below
     replace hr2 := Lib.hid hr2; replace hfin := Lib.hid hfin
     go_wp2_with fail
     go_ret2
     rw [hend.out]
     exact ⟨hfin.out, _, k, mb, vw, vl, _, rfl, Nat.le_succ B, hr2.out.blk, hr2.out.ws, hr2.out.labs⟩
end Go.Proofs.YtiknookfnameiaaGreatDoor

namespace Go.Proofs.YtiknookfnameiaaGreatDoor
open Go.RowKit WP
set_option linter.unusedSimpArgs false
set_option linter.unusedVariables false
/-- a list that is handed out: as long as its room, in a block of its own -/
def OutW (w : World) (B : Nat) (e : TypeId) (size : Nat) (v : Value) (n : Nat) (xs : List Value) : Prop :=
 xs.length = n * size ∧ ((v = .slice none 0 0 ∧ n = 0) ∨ ∃ g cur, v = .slice (some ⟨g, 0, none⟩) n n ∧ B ≤ g ∧ n ≤ 9223372036854775807 ∧ w.heap[g]? = some (.cells cur e (0, 0)) ∧ n * size ≤ cur.size ∧ cur.toList.take (n * size) = xs)
theorem OutW.same {w w' : World} {B : Nat} {e : TypeId} {size : Nat} {v : Value} {n : Nat} {xs : List Value} (h : OutW w B e size v n xs) (hk : ∀ g, v.ownBlock = some g → w'.heap[g]? = w.heap[g]?) : OutW w' B e size v n xs := by
 obtain ⟨h0, h⟩ := h
 refine ⟨h0, ?_⟩
 rcases h with h | ⟨g, cur, rfl, h1, h2, h3, h4⟩
 ·exact .inl h
 ·exact .inr ⟨g, cur, rfl, h1, h2, (hk g rfl).trans h3, h4⟩
theorem OutW.lt {w : World} {B : Nat} {e : TypeId} {size : Nat} {v : Value} {n : Nat} {xs : List Value} (h : OutW w B e size v n xs) : ∀ g, v.ownBlock = some g → B ≤ g ∧ g < w.heap.size := by
 intro g hg
 rcases h.2 with ⟨rfl, _⟩ | ⟨g', cur, rfl, h1, h2, h3, h4⟩
 ·cases hg
 ·have : g' = g := by simpa [Value.ownBlock] using hg
  subst this
  exact ⟨h1, (Array.getElem?_eq_some_iff.1 h3).1⟩
theorem OutW.later {w w' : World} {B : Nat} {e : TypeId} {size : Nat} {v : Value} {n : Nat} {xs : List Value} (h : OutW w B e size v n xs) (hb : Below w.heap.size w w') : OutW w' B e size v n xs :=
 h.same fun g hg => hb.block g (h.lt g hg).2
/-- what Assemble and Labels answer -/
def AsmRes (w' : World) (B : Nat) (T : TypeId) (size : Nat) (e : Ending) : (Nat × List Value) ⊕ Flt → Prop
 | .inl x => ∃ v, e = .returned (.tuple #[v, fltV (0, 0, 0)]) ∧ OutW w' B T size v x.1 x.2
 | .inr f => e = .returned (.tuple #[.slice none 0 0, fltV f])
def wordsR : (List Int × List (ByteArray × Nat)) ⊕ Flt → (Nat × List Value) ⊕ Flt
 | .inl x => .inl (x.1.length, wi x.1)
 | .inr f => .inr f
def labsR : (List Int × List (ByteArray × Nat)) ⊕ Flt → (Nat × List Value) ⊕ Flt
 | .inl x => .inl (x.2.length, lc x.2)
 | .inr f => .inr f
theorem read_all (s : ByteArray) (base m : Int) (w : World) (hE : AEnv w) (hM : MaxL w m) (hs : s.size ≤ 9223372036854775807) (nb : base < 4294967296 ∧ 0 ≤ base) :
  Calls Tryz.prog 23 #[.string s, .int .u32 base] w fun e w' => Below w.heap.size w w' ∧ ReadRes w' w.heap.size base e (readM base s) := by
 by_cases h : s.size ≤ 65536
 ·exact read_any s base m w hE hM h nb
 ·have e : readM base s = .inr (2, 0, 0) := by unfold readM; rw [if_pos (by omega)]
  rw [e]
  exact read_long s base w (by omega) hs
theorem flt_frame (w : World) (f0 f1 f2 : Value) {w3 : World} (hR : w3.heap[w.heap.size]? = some (.cells #[.int .i64 0, .int .i64 0, .int .i64 0] 27 (0, 0))) (hb : Below w.heap.size w w3) :
  (((w3.setCell ⟨w.heap.size, 0, none⟩ f0).setCell ⟨w.heap.size, 1, none⟩ f1).setCell ⟨w.heap.size, 2, none⟩ f2).heap[w.heap.size]? = some (.cells #[f0, f1, f2] 27 (0, 0)) ∧
  Below w.heap.size w (((w3.setCell ⟨w.heap.size, 0, none⟩ f0).setCell ⟨w.heap.size, 1, none⟩ f1).setCell ⟨w.heap.size, 2, none⟩ f2) ∧
  (w3.cell? ⟨w.heap.size, 0, none⟩ = some (.int .i64 0) ∧ w3.cell? ⟨w.heap.size, 1, none⟩ = some (.int .i64 0) ∧ w3.cell? ⟨w.heap.size, 2, none⟩ = some (.int .i64 0)) ∧
  (w3.frozen? ⟨w.heap.size, 0, none⟩ = false ∧ w3.frozen? ⟨w.heap.size, 1, none⟩ = false ∧ w3.frozen? ⟨w.heap.size, 2, none⟩ = false) ∧
  ∀ k, k ≠ w.heap.size → (((w3.setCell ⟨w.heap.size, 0, none⟩ f0).setCell ⟨w.heap.size, 1, none⟩ f1).setCell ⟨w.heap.size, 2, none⟩ f2).heap[k]? = w3.heap[k]? := by
 have h1 := heap_setCell_same w3 w.heap.size 0 _ _ f0 hR
 have h2 := heap_setCell_same _ w.heap.size 1 _ _ f1 h1
 have h3 := heap_setCell_same _ w.heap.size 2 _ _ f2 h2
 refine ⟨h3, ((hb.setCell (p := ⟨w.heap.size, 0, none⟩) (Nat.le_refl _) f0).setCell (p := ⟨w.heap.size, 1, none⟩) (Nat.le_refl _) f1).setCell (p := ⟨w.heap.size, 2, none⟩) (Nat.le_refl _) f2, ⟨cell_of_row _ _ _ _ _ _ hR, cell_of_row _ _ _ _ _ _ hR, cell_of_row _ _ _ _ _ _ hR⟩, ⟨frozen_of_row _ _ _ _ _ hR, frozen_of_row _ _ _ _ _ hR, frozen_of_row _ _ _ _ _ hR⟩, fun k hk => ?_⟩
 rw [Below.heap_setCell _ ⟨w.heap.size, 2, none⟩ _ k hk, Below.heap_setCell _ ⟨w.heap.size, 1, none⟩ _ k hk, Below.heap_setCell _ ⟨w.heap.size, 0, none⟩ _ k hk]
set_option maxRecDepth 100000 in
set_option maxHeartbeats 2000000 in
theorem assemble_any (s : ByteArray) (base m : Int) (w : World) (hE : AEnv w) (hM : MaxL w m) (hT : ErrT w) (hs : s.size ≤ 9223372036854775807) (nb : base < 4294967296 ∧ 0 ≤ base) :
  Calls Tryz.prog 9 #[.string s, .int .u32 base] w fun e w' => Below w.heap.size w w' ∧ AsmRes w' w.heap.size 22 1 e (wordsR (readM base s)) := by
 obtain ⟨FR, hFR⟩ : ∃ FR, readM base s = FR := ⟨_, rfl⟩
 obtain ⟨w1, hw1⟩ : ∃ w1, w.alloc (.cells #[.int .i64 0, .int .i64 0, .int .i64 0] 27) = w1 := ⟨_, rfl⟩
 have b1 : Below w.heap.size w w1 := by rw [← hw1]; exact (Below.refl _ _).alloc (Nat.le_refl _) _
 have hR1 : w1.heap[w.heap.size]? = some (.cells #[.int .i64 0, .int .i64 0, .int .i64 0] 27 (0, 0)) := by rw [← hw1]; exact heap_alloc_new w _
 have hl1 : w1.heap.size = w.heap.size + 1 := by rw [← hw1]; simp
 have hM1 : MaxL w1 m := by
  show w1.cell? _ = _
  rw [← show w.cell? _ = _ from hM]
  unfold World.cell?
  rw [b1.block _ (World.block_lt_of_cell? w _ hM)]
 have hrd := read_all s base m w1 (hE.later b1) hM1 hs nb
 have hT1 := hT.later b1
 rw [hFR] at hrd ⊢
 replace b1 := Lib.hid b1; replace hR1 := Lib.hid hR1; replace hrd := Lib.hid hrd; replace hT1 := Lib.hid hT1; replace hl1 := Lib.hid hl1
 clear hE hM hM1 hT hFR
 go_enter Tryz.func9, Tryz.ntmps9
 go_upto_region 1 with fail
 try (change Code.wp _ _ _ _ (w.alloc (.cells #[.int .i64 0, .int .i64 0, .int .i64 0] 27)); rw [hw1])
 clear hw1
 go_wp2_with fail
 refine hrd.out.mono ?_
 rintro e w2 ⟨b12, hres⟩
 have hR2 := (b12.block w.heap.size (by have := hl1.out; omega)).trans hR1.out
 have bel2 := b1.out.trans (b12.mono (by have := hl1.out; omega))
 have hT2 := hT1.out.later b12
 clear hrd hR1
 cases FR with
 | inr f =>
  obtain ⟨v, rfl, hft⟩ := hres
  have hfo := fault_any v f w2 hT2 hft
  obtain ⟨gg, rfl, hgg⟩ := hft
  replace hfo := Lib.hid hfo; replace b12 := Lib.hid b12; replace bel2 := Lib.hid bel2; replace hR2 := Lib.hid hR2; replace hgg := Lib.hid hgg; replace hT2 := Lib.hid hT2
  go_wp2_with fail
  refine hfo.out.mono ?_
  rintro e w3 ⟨rfl, b23⟩
  have hR3 := (b23.block w.heap.size (Array.getElem?_eq_some_iff.1 hR2.out).1).trans hR2.out
  have bel3 := bel2.out.trans (b23.mono bel2.out.size)
  obtain ⟨hN, bN, ⟨r0, r1, r2⟩, ⟨q0, q1, q2⟩, _⟩ := flt_frame w (.int .i64 f.1) (.int .i64 (f.2.1 : Int)) (.int .i64 (f.2.2 : Int)) hR3 bel3
  unfold fltV
  replace hN := Lib.hid hN; replace bN := Lib.hid bN; replace hR3 := Lib.hid hR3; replace bel3 := Lib.hid bel3; replace b23 := Lib.hid b23
  go_wp2_with fail
  refine bodyPost_ret (results_snd rfl rfl rfl hN.out Tryz.underlying27 rfl infoFlt) rfl ⟨bN.out, ?_⟩
  rfl
 | inl x =>
  obtain ⟨R, ln, mb, vw, vl, vf, rfl, hBR, hRd, how, hol⟩ := hres
  obtain ⟨ws, labs⟩ := x
  simp only at how hol
  obtain ⟨hN, bN, ⟨r0, r1, r2⟩, ⟨q0, q1, q2⟩, hoth⟩ := flt_frame w (.int .i64 0) (.int .i64 0) (.int .i64 0) hR2 bel2
  have c2 : w2.cell? ⟨R, 2, none⟩ = some vw := cell_of_row _ _ _ _ _ _ hRd
  obtain ⟨n, hn⟩ : ∃ n, ws.length = n := ⟨_, rfl⟩
  obtain ⟨xs, hxs⟩ : ∃ xs, wi ws = xs := ⟨_, rfl⟩
  have hW : wordsR (.inl (ws, labs)) = .inl (n, xs) := by unfold wordsR; simp only [hn, hxs]
  rw [hn, hxs] at how
  have hown := how.1
  rcases how.2 with ⟨rfl, hn0⟩ | ⟨g, cap, cur, rfl, hg1, hg2, hg3, hg4, hg5, hg6⟩
  ·subst hn0
   replace hN := Lib.hid hN; replace bN := Lib.hid bN; replace hR2 := Lib.hid hR2; replace bel2 := Lib.hid bel2; replace b12 := Lib.hid b12; replace hol := Lib.hid hol; replace how := Lib.hid how; replace hRd := Lib.hid hRd; replace hoth := Lib.hid hoth; replace hT2 := Lib.hid hT2; replace hW := Lib.hid hW
   clear hn hxs
   go_wp2_with fail
   go_region
   go_wp2_with fail
   refine bodyPost_ret (results_snd rfl rfl rfl hN.out Tryz.underlying27 rfl infoFlt) rfl ⟨bN.out.drew, ?_⟩
   rw [hW.out]
   exact ⟨_, rfl, hown, .inl ⟨rfl, rfl⟩⟩
  ·have hgw : g ≠ w.heap.size := fun e => by have := hl1.out; omega
   have hg7 := (hoth g hgw).trans hg2
   have hg8 : w.heap.size ≤ g := by have := hl1.out; omega
   replace hN := Lib.hid hN; replace bN := Lib.hid bN; replace hR2 := Lib.hid hR2; replace bel2 := Lib.hid bel2; replace b12 := Lib.hid b12; replace hol := Lib.hid hol; replace how := Lib.hid how; replace hRd := Lib.hid hRd; replace hoth := Lib.hid hoth; replace hT2 := Lib.hid hT2; replace hg2 := Lib.hid hg2; replace hg6 := Lib.hid hg6; replace hg7 := Lib.hid hg7; replace hW := Lib.hid hW
   clear hn hxs
   go_wp2_with fail
   go_region
   go_wp2_with fail
   refine bodyPost_ret (results_snd rfl rfl rfl hN.out Tryz.underlying27 rfl infoFlt) rfl ⟨bN.out.drew, ?_⟩
   rw [hW.out]
   exact ⟨_, rfl, hown, .inr ⟨g, cur, rfl, hg8, (Nat.le_trans hg3 hg4 : n ≤ maxLen), hg7.out, by rw [hg5]; omega, hg6.out⟩⟩
set_option maxRecDepth 100000 in
set_option maxHeartbeats 2000000 in
theorem labels_any (s : ByteArray) (m : Int) (w : World) (hE : AEnv w) (hM : MaxL w m) (hT : ErrT w) (hs : s.size ≤ 9223372036854775807) :
  Calls Tryz.prog 14 #[.string s] w fun e w' => Below w.heap.size w w' ∧ AsmRes w' w.heap.size 44 2 e (labsR (readM 0 s)) := by
 obtain ⟨FR, hFR⟩ : ∃ FR, readM 0 s = FR := ⟨_, rfl⟩
 obtain ⟨w1, hw1⟩ : ∃ w1, w.alloc (.cells #[.int .i64 0, .int .i64 0, .int .i64 0] 27) = w1 := ⟨_, rfl⟩
 have b1 : Below w.heap.size w w1 := by rw [← hw1]; exact (Below.refl _ _).alloc (Nat.le_refl _) _
 have hR1 : w1.heap[w.heap.size]? = some (.cells #[.int .i64 0, .int .i64 0, .int .i64 0] 27 (0, 0)) := by rw [← hw1]; exact heap_alloc_new w _
 have hl1 : w1.heap.size = w.heap.size + 1 := by rw [← hw1]; simp
 have hM1 : MaxL w1 m := by
  show w1.cell? _ = _
  rw [← show w.cell? _ = _ from hM]
  unfold World.cell?
  rw [b1.block _ (World.block_lt_of_cell? w _ hM)]
 have hrd := read_all s 0 m w1 (hE.later b1) hM1 hs ⟨by decide, by decide⟩
 have hT1 := hT.later b1
 rw [hFR] at hrd ⊢
 replace b1 := Lib.hid b1; replace hR1 := Lib.hid hR1; replace hrd := Lib.hid hrd; replace hT1 := Lib.hid hT1; replace hl1 := Lib.hid hl1
 clear hE hM hM1 hT hFR
 go_enter Tryz.func14, Tryz.ntmps14
 go_upto_region 1 with fail
 try (change Code.wp _ _ _ _ (w.alloc (.cells #[.int .i64 0, .int .i64 0, .int .i64 0] 27)); rw [hw1])
 clear hw1
 go_wp2_with fail
 refine hrd.out.mono ?_
 rintro e w2 ⟨b12, hres⟩
 have hR2 := (b12.block w.heap.size (by have := hl1.out; omega)).trans hR1.out
 have bel2 := b1.out.trans (b12.mono (by have := hl1.out; omega))
 have hT2 := hT1.out.later b12
 clear hrd hR1
 cases FR with
 | inr f =>
  obtain ⟨v, rfl, hft⟩ := hres
  have hfo := fault_any v f w2 hT2 hft
  obtain ⟨gg, rfl, hgg⟩ := hft
  replace hfo := Lib.hid hfo; replace b12 := Lib.hid b12; replace bel2 := Lib.hid bel2; replace hR2 := Lib.hid hR2; replace hgg := Lib.hid hgg; replace hT2 := Lib.hid hT2
  go_wp2_with fail
  refine hfo.out.mono ?_
  rintro e w3 ⟨rfl, b23⟩
  have hR3 := (b23.block w.heap.size (Array.getElem?_eq_some_iff.1 hR2.out).1).trans hR2.out
  have bel3 := bel2.out.trans (b23.mono bel2.out.size)
  obtain ⟨hN, bN, ⟨r0, r1, r2⟩, ⟨q0, q1, q2⟩, _⟩ := flt_frame w (.int .i64 f.1) (.int .i64 (f.2.1 : Int)) (.int .i64 (f.2.2 : Int)) hR3 bel3
  unfold fltV
  replace hN := Lib.hid hN; replace bN := Lib.hid bN; replace hR3 := Lib.hid hR3; replace bel3 := Lib.hid bel3; replace b23 := Lib.hid b23
  go_wp2_with fail
  refine bodyPost_ret (results_snd rfl rfl rfl hN.out Tryz.underlying27 rfl infoFlt) rfl ⟨bN.out, ?_⟩
  rfl
 | inl x =>
  obtain ⟨R, ln, mb, vw, vl, vf, rfl, hBR, hRd, how, hol⟩ := hres
  obtain ⟨ws, labs⟩ := x
  simp only at how hol
  obtain ⟨hN, bN, ⟨r0, r1, r2⟩, ⟨q0, q1, q2⟩, hoth⟩ := flt_frame w (.int .i64 0) (.int .i64 0) (.int .i64 0) hR2 bel2
  have c2 : w2.cell? ⟨R, 3, none⟩ = some vl := cell_of_row _ _ _ _ _ _ hRd
  obtain ⟨n, hn⟩ : ∃ n, labs.length = n := ⟨_, rfl⟩
  obtain ⟨xs, hxs⟩ : ∃ xs, lc labs = xs := ⟨_, rfl⟩
  have hW : labsR (.inl (ws, labs)) = .inl (n, xs) := by unfold labsR; simp only [hn, hxs]
  rw [hn, hxs] at hol
  have hown := hol.1
  rcases hol.2 with ⟨rfl, hn0⟩ | ⟨g, cap, cur, rfl, hg1, hg2, hg3, hg4, hg5, hg6⟩
  ·subst hn0
   replace hN := Lib.hid hN; replace bN := Lib.hid bN; replace hR2 := Lib.hid hR2; replace bel2 := Lib.hid bel2; replace b12 := Lib.hid b12; replace hol := Lib.hid hol; replace how := Lib.hid how; replace hRd := Lib.hid hRd; replace hoth := Lib.hid hoth; replace hT2 := Lib.hid hT2; replace hW := Lib.hid hW
   clear hn hxs
   go_wp2_with fail
   go_region
   go_wp2_with fail
   refine bodyPost_ret (results_snd rfl rfl rfl hN.out Tryz.underlying27 rfl infoFlt) rfl ⟨bN.out.drew, ?_⟩
   rw [hW.out]
   exact ⟨_, rfl, hown, .inl ⟨rfl, rfl⟩⟩
  ·have hgw : g ≠ w.heap.size := fun e => by have := hl1.out; omega
   have hg7 := (hoth g hgw).trans hg2
   have hg8 : w.heap.size ≤ g := by have := hl1.out; omega
   replace hN := Lib.hid hN; replace bN := Lib.hid bN; replace hR2 := Lib.hid hR2; replace bel2 := Lib.hid bel2; replace b12 := Lib.hid b12; replace hol := Lib.hid hol; replace how := Lib.hid how; replace hRd := Lib.hid hRd; replace hoth := Lib.hid hoth; replace hT2 := Lib.hid hT2; replace hg2 := Lib.hid hg2; replace hg6 := Lib.hid hg6; replace hg7 := Lib.hid hg7; replace hW := Lib.hid hW
   clear hn hxs
   go_wp2_with fail
   go_region
   go_wp2_with fail
   refine bodyPost_ret (results_snd rfl rfl rfl hN.out Tryz.underlying27 rfl infoFlt) rfl ⟨bN.out.drew, ?_⟩
   rw [hW.out]
   exact ⟨_, rfl, hown, .inr ⟨g, cur, rfl, hg8, (Nat.le_trans hg3 hg4 : n ≤ maxLen), hg7.out, by rw [hg5]; omega, hg6.out⟩⟩
end Go.Proofs.YtiknookfnameiaaGreatDoor
