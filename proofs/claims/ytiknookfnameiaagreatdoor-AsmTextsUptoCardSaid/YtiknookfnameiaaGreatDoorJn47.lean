/- The contracts of the document's Assemble and Labels. The contract of the document's Labels. The law's same and first. -/
import Derived.Test.YtiknookfnameiaaGreatDoorJn43
import Derived.Test.YtiknookfnameiaaGreatDoorJn44
import Derived.Test.YtiknookfnameiaaGreatDoorJn46
import Derived.BigQuiet
namespace Go.Proofs.YtiknookfnameiaaGreatDoor
open Go.RowKit WP
set_option linter.unusedSimpArgs false
set_option linter.unusedVariables false
def RAsR (w' : World) (B : Nat) (T : TypeId) (size : Nat) (e : Ending) : (Nat × List Value) ⊕ Flt → Prop
 | .inl x => ∃ v, e = .returned (.tuple #[v, fltV (0, 0, 0)]) ∧ w'.ownsRow B T size v x.1 x.2
 | .inr f => e = .returned (.tuple #[.slice none 0 0, fltV f])
def appF (acc : List Int) : (List Int) ⊕ Flt → (List Int) ⊕ Flt
 | .inr f => .inr f
 | .inl l => .inl (acc ++ l)
def outF : (List Int) ⊕ Flt → (Nat × List Value) ⊕ Flt
 | .inr f => .inr f
 | .inl l => .inl (l.length, wi l)
theorem rasm_of (base : Int) (s : ByteArray) (st : RAsm) (h : rreadF s = .inl st) : wordsR (rasmF base s) = outF (rwordsF base st.labs 0 st.pcs) := by
 unfold rasmF
 rw [h]
 dsimp only
 cases rwordsF base st.labs 0 st.pcs <;> rfl
theorem rasm_no (base : Int) (s : ByteArray) (f : Flt) (h : rreadF s = .inr f) : wordsR (rasmF base s) = .inr f := by
 unfold rasmF
 rw [h]; rfl
theorem rreadF_bd {s : ByteArray} {st : RAsm} (h : rreadF s = .inl st) : RBd st := by
 unfold rreadF at h
 split at h
 ·cases h
 ·exact rlines_bd _ rbd0 h
theorem rreadF_err {s : ByteArray} {f : Flt} (h : rreadF s = .inr f) : f.1 ≠ 0 := by
 unfold rreadF at h
 split at h
 ·cases h; simp
 ·have : ∀ (L : List ByteArray) (ln : Nat) (t : RAsm), rlinesF ln L t = .inr f → f.1 ≠ 0 := by
   intro L
   induction L with
   | nil => intro ln t h; cases h
   | cons l L ih =>
    intro ln t h
    unfold rlinesF at h
    split at h
    ·next g hg => cases h; exact rline_err hg
    ·exact ih _ _ h
  exact this _ _ _ h
theorem PSt.grown {B : Nat} {w0 w w' : World} {R : Nat} {st : RAsm} {vl vp : Value} (h : PSt B w0 w R st vl vp) {n : Nat} {v : Value} {xs : List Value} (ho : w.ownsRow B 22 1 v n xs) (hg : w.grownBy w' v.ownBlock) : PSt B w0 w' R st vl vp :=
 ⟨(hg.block R h.lt (fun e => own_ne ho h.blk (by decide) e.symm)).trans h.blk, own_grown h.labs ho (by decide) hg, own_grown h.pcs ho (by decide) hg, h.hR, h.below.trans ⟨hg.os, hg.tape, hg.output, hg.size, fun k hk => hg.block k (by have := h.lt; have := h.hR; omega) (fun e => by have := (ho.lt k e.symm).1; omega)⟩⟩
theorem rwords_cons (base : Int) (labs : List (ByteArray × Nat)) (k : Nat) (x : Pie) (L : List Pie) : rwordsF base labs k (x :: L) = match rwordF base labs k x with
  | .inr f => .inr f
  | .inl v => match rwordsF base labs (k + 1) L with
   | .inr f => .inr f
   | .inl l => .inl (v :: l) := rfl
theorem rwords_step (base : Int) (labs : List (ByteArray × Nat)) (L : List Pie) (k : Nat) (x : Pie) (acc : List Int) (h : L[k]? = some x) :
  appF acc (rwordsF base labs k (L.drop k)) = match rwordF base labs k x with
   | .inr f => .inr f
   | .inl v => appF (acc ++ [v]) (rwordsF base labs (k + 1) (L.drop (k + 1))) := by
 obtain ⟨h1, e⟩ := List.getElem?_eq_some_iff.1 h
 rw [List.drop_eq_getElem_cons h1, e, rwords_cons]
 cases rwordF base labs k x with
 | inr f => rfl
 | inl v =>
  dsimp only
  cases rwordsF base labs (k + 1) (L.drop (k + 1)) with
  | inr f => rfl
  | inl l => simp [appF]
theorem infoU323 : (Tryz.prog.info? 22).map (fun i => (i.zero, i.size, i.bytes)) = some (some (.int .u32 0), 1, 4) := by kernel_rfl
set_option maxRecDepth 100000 in
set_option maxHeartbeats 4000000 in
theorem rassemble_any (s : ByteArray) (base : Int) (w : World) (hE : RTabs w) (hs : s.size ≤ 9223372036854775807) (nb : base < 4294967296 ∧ 0 ≤ base) :
  Calls Tryz.prog 12 #[.string s, .int .u32 base] w fun e w' => Below w.heap.size w w' ∧ RAsR w' w.heap.size 22 1 e (wordsR (rasmF base s)) := by
 obtain ⟨w1, hw1⟩ : ∃ w1, w.alloc (.cells #[.int .i64 0, .int .i64 0, .int .i64 0] 33) = w1 := ⟨_, rfl⟩
 have b1 : Below w.heap.size w w1 := by rw [← hw1]; exact (Below.refl _ _).alloc (Nat.le_refl _) _
 have hF : w1.heap[w.heap.size]? = some (.cells #[.int .i64 0, .int .i64 0, .int .i64 0] 33 (0, 0)) := by rw [← hw1]; exact heap_alloc_new w _
 have hs1 : w1.heap.size = w.heap.size + 1 := by rw [← hw1]; simp
 have hE1 := hE.later b1
 have hrd := rread_any s w1 hE1 hs
 cases hRR : rreadF s with
 | inr f =>
  rw [rasm_no base s f hRR]
  rw [hRR] at hrd
  have hne := rreadF_err hRR
  have hdn : (f.1 != 0) = true := by simpa using hne
  clear hRR hE hE1
  replace b1 := Lib.hid b1; replace hF := Lib.hid hF; replace hs1 := Lib.hid hs1; replace hrd := Lib.hid hrd; replace hw1 := Lib.hid hw1
  go_enter Tryz.func12, Tryz.ntmps12
  go_upto_region 1 with fail
  rw [hw1.out]
  clear hw1
  go_wp2_with fail
  refine hrd.out.mono ?_
  rintro e w5 ⟨R, rfl, hb5⟩
  have hF5 := (hb5.block w.heap.size (by have := hs1.out; omega)).trans hF.out
  obtain ⟨hN2, bN, ⟨r0, r1, r2⟩, ⟨f0, f1, f2⟩, -⟩ := rflt_set (.int .i64 f.1) (.int .i64 (f.2.1 : Int)) (.int .i64 (f.2.2 : Int)) hF5
  have hlt5 := (Array.getElem?_eq_some_iff.1 hF5).1
  have hN4 := (Below.heap_alloc _ (.cells #[.int .i64 f.1, .int .i64 (f.2.1 : Int), .int .i64 (f.2.2 : Int)] 33) w.heap.size (Array.getElem?_eq_some_iff.1 hN2).1).trans hN2
  have hbw := b1.out.trans (hb5.mono (by have := hs1.out; omega))
  have bf := (hbw.trans (bN w.heap.size (Nat.le_refl _))).alloc (hbw.trans (bN w.heap.size (Nat.le_refl _))).size (.cells #[.int .i64 f.1, .int .i64 (f.2.1 : Int), .int .i64 (f.2.2 : Int)] 33)
  unfold fltV
  clear hrd hN2 bN hbw
  replace hb5 := Lib.hid hb5; replace hN4 := Lib.hid hN4; replace bf := Lib.hid bf; replace hF5 := Lib.hid hF5
  go_wp2_with fail
  go_region
  go_wp2_with fail
  exact bodyPost_ret (v := .tuple #[.slice none 0 0, fltV f]) (results_snd rfl rfl rfl hN4.out Tryz.underlying33 rfl infoRFlt) rfl ⟨bf.out.drew, rfl⟩
 | inl st =>
  rw [rasm_of base s st hRR]
  rw [hRR] at hrd
  have hbd := rreadF_bd hRR
  obtain ⟨G, hG⟩ : ∃ G, rwordsF base st.labs 0 st.pcs = G := ⟨_, rfl⟩
  rw [hG]
  have hG0 : appF [] (rwordsF base st.labs 0 (st.pcs.drop 0)) = G := by
   rw [List.drop_zero, hG]; cases G <;> rfl
  obtain ⟨N, hN⟩ : ∃ N, st.pcs.length = N := ⟨_, rfl⟩
  have hN2048 : N ≤ 2048 := by rw [← hN]; exact hbd.pcs
  clear hRR hE hG
  replace b1 := Lib.hid b1; replace hF := Lib.hid hF; replace hs1 := Lib.hid hs1; replace hrd := Lib.hid hrd; replace hw1 := Lib.hid hw1; replace hbd := Lib.hid hbd; replace hG0 := Lib.hid hG0; replace hE1 := Lib.hid hE1; replace hN := Lib.hid hN
  go_enter Tryz.func12, Tryz.ntmps12
  go_upto_region 1 with fail
  rw [hw1.out]
  clear hw1
  go_wp2_with fail
  refine hrd.out.mono ?_
  rintro e w5 ⟨R, rfl, hp5⟩
  have hb5 : Below w1.heap.size w1 w5 := by obtain ⟨vl, vp, h⟩ := hp5; exact h.below
  have hF5 := (hb5.block w.heap.size (by have := hs1.out; omega)).trans hF.out
  have hB5 : w1.heap.size ≤ w5.heap.size := hb5.size
  unfold fltV
  obtain ⟨w6, hw6⟩ : ∃ w6, w5.alloc (.cells #[.int .i64 0, .int .i64 0, .int .i64 0] 33) = w6 := ⟨_, rfl⟩
  have b56 : Below w5.heap.size w5 w6 := by rw [← hw6]; exact (Below.refl _ _).alloc (Nat.le_refl _) _
  have hGc : w6.heap[w5.heap.size]? = some (.cells #[.int .i64 0, .int .i64 0, .int .i64 0] 33 (0, 0)) := by rw [← hw6]; exact heap_alloc_new w5 _
  have g0 : w6.cell? ⟨w5.heap.size, 0, none⟩ = some (.int .i64 0) := cell_of_row _ _ 0 _ _ _ hGc
  have hp6 := hp5.later b56
  have hF6 := (b56.block w.heap.size (Array.getElem?_eq_some_iff.1 hF5).1).trans hF5
  clear hrd hF hb5 hGc hF5
  replace hp6 := Lib.hid hp6; replace hF6 := Lib.hid hF6; replace b56 := Lib.hid b56; replace hw6 := Lib.hid hw6; replace hp5 := Lib.hid hp5
  go_upto_region 2 with fail
  rw [hw6.out]
  clear hw6
  go_wp2_with fail
  clear g0 hp5
  go_loopw [8, 9] (fun lv kv wr => ∃ (k : Nat) (acc : List Int), k ≤ N ∧ kv = .int .i64 (k : Int) ∧ acc.length = k ∧ wr.ownsRow w1.heap.size 22 1 lv acc.length (wi acc) ∧ PAt w1.heap.size w1 wr R st ∧ wr.heap[w.heap.size]? = some (.cells #[.int .i64 0, .int .i64 0, .int .i64 0] 33 (0, 0)) ∧ appF acc (rwordsF base st.labs k (st.pcs.drop k)) = G) (fun _ kv _ => N - (intOf kv).toNat)
  case atStart => exact ⟨0, [], by omega, rfl, rfl, World.ownsRow_nil _ _ _ _, hp6.out, hF6.out, hG0.out⟩
  case round =>
   obtain ⟨wz, rfl⟩ : ∃ wz, wz = wr := ⟨wr, rfl⟩
   obtain ⟨lv, rfl⟩ : ∃ lv, lv = u8 := ⟨u8, rfl⟩
   obtain ⟨k, acc, hk, rfl, hal, hol, ⟨vl, vp, hp⟩, hFz, hr⟩ := hrel
   clear hG0 hp6 hF6
   obtain ⟨pao, pca, rfl, hpc1, hpc2⟩ := hp.pv
   obtain ⟨q0, q1⟩ := hp.c
   rw [hN.out] at q1 hpc1
   have hbz := hp.below
   by_cases hlt : k < N
   ·obtain ⟨x, hx⟩ : ∃ x, st.pcs[k]? = some x := ⟨_, List.getElem?_eq_getElem (by rw [hN.out]; exact hlt)⟩
    rw [rwords_step base st.labs st.pcs k x acc hx] at hr
    have hwo := rword_any (B := w1.heap.size) (w0 := w1) (R := R) (st := st) ⟨vl, _, hp⟩ hE1.out (Nat.le_refl _) hbd.out k x hx base nb
    obtain ⟨WR, hWR⟩ : ∃ WR, rwordF base st.labs k x = WR := ⟨_, rfl⟩
    rw [hWR] at hr hwo
    have i1 : (0 : Int) ≤ (k : Int) := by omega
    have i2 : (k : Int) < (N : Int) := by omega
    have d1 : decide ((k : Int) < (N : Int)) = true := decide_eq_true (by omega)
    obtain ⟨ao, ca, rfl, hac1, hac2⟩ := own_shape hol
    replace hol := Lib.hid hol; replace hp := Lib.hid hp; replace hFz := Lib.hid hFz; replace hr := Lib.hid hr; replace hwo := Lib.hid hwo; replace hx := Lib.hid hx; replace hWR := Lib.hid hWR; replace hbz := Lib.hid hbz; replace q0 := Lib.hid q0; replace hal := Lib.hid hal
    go_wp2_with fail
    refine hwo.out.mono ?_
    rintro e w7 ⟨b7, hres⟩
    have hF7 := (b7.block w.heap.size (Array.getElem?_eq_some_iff.1 hFz.out).1).trans hFz.out
    have hp7 := hp.out.later b7
    have hlt7 := (Array.getElem?_eq_some_iff.1 hF7).1
    clear hwo
    cases WR with
    | inr f =>
     replace hres : e = .returned (.tuple #[.int .u32 0, fltV f]) := hres
     subst hres
     have hr2 := hr.out
     dsimp only at hr2
     subst hr2
     have hne := rword_err hWR.out
     have hdn : (f.1 != 0) = true := by simpa using hne
     obtain ⟨hN2, bN, ⟨r0, r1, r2⟩, ⟨f0, f1, f2⟩, -⟩ := rflt_set (.int .i64 f.1) (.int .i64 (f.2.1 : Int)) (.int .i64 (f.2.2 : Int)) hF7
     have hN4 := (Below.heap_alloc _ (.cells #[.int .i64 f.1, .int .i64 (f.2.1 : Int), .int .i64 (f.2.2 : Int)] 33) w.heap.size (Array.getElem?_eq_some_iff.1 hN2).1).trans hN2
     have hbw := b1.out.trans (hp7.below.mono (by have := hs1.out; omega))
     have bf := (hbw.trans (bN w.heap.size (Nat.le_refl _))).alloc (hbw.trans (bN w.heap.size (Nat.le_refl _))).size (.cells #[.int .i64 f.1, .int .i64 (f.2.1 : Int), .int .i64 (f.2.2 : Int)] 33)
     unfold fltV
     clear hN2 bN hbw
     replace b7 := Lib.hid b7; replace hN4 := Lib.hid hN4; replace bf := Lib.hid bf; replace hF7 := Lib.hid hF7; replace hp7 := Lib.hid hp7
     go_wp2_with fail
     go_region
     go_wp2_with fail
     exact bodyPost_ret (v := .tuple #[.slice none 0 0, fltV f]) (results_snd rfl rfl rfl hN4.out Tryz.underlying33 rfl infoRFlt) rfl ⟨bf.out.drew, rfl⟩
    | inl V =>
     replace hres : e = .returned (.tuple #[.int .u32 V, fltV (0, 0, 0)]) := hres
     subst hres
     have hr2 := hr.out
     dsimp only at hr2
     unfold fltV
     obtain ⟨w8, hw8⟩ : ∃ w8, w7.alloc (.cells #[.int .i64 0, .int .i64 0, .int .i64 0] 33) = w8 := ⟨_, rfl⟩
     have b78 : Below w7.heap.size w7 w8 := by rw [← hw8]; exact (Below.refl _ _).alloc (Nat.le_refl _) _
     have hGc : w8.heap[w7.heap.size]? = some (.cells #[.int .i64 0, .int .i64 0, .int .i64 0] 33 (0, 0)) := by rw [← hw8]; exact heap_alloc_new w7 _
     have g0 : w8.cell? ⟨w7.heap.size, 0, none⟩ = some (.int .i64 0) := cell_of_row _ _ 0 _ _ _ hGc
     have hb8 := b7.trans (b78.mono b7.size)
     have hol8 := own_below hol.out hb8
     have hp8 := hp.out.later hb8
     have hF8 := (b78.block w.heap.size hlt7).trans hF7
     have hB8 : w1.heap.size ≤ w8.heap.size := Nat.le_trans hbz.out.size hb8.size
     have hb9 : Below w8.heap.size w8 (w8.alloc (.cells #[.int .u32 V] 22)) := (Below.refl _ _).alloc (Nat.le_refl _) _
     have hol9 := own_below hol8 hb9
     have hp9 := hp8.later hb9
     have hF9 := (hb9.block w.heap.size (Array.getElem?_eq_some_iff.1 hF8).1).trans hF8
     obtain ⟨i0, hi, hz0, hz1, hz2⟩ := info_parts infoU323
     clear hr b7 hp7 hF7 hGc hb8 hol8 hF8
     replace hol9 := Lib.hid hol9; replace hp8 := Lib.hid hp8; replace hp9 := Lib.hid hp9; replace hF9 := Lib.hid hF9; replace hr2 := Lib.hid hr2; replace b78 := Lib.hid b78; replace hw8 := Lib.hid hw8; replace hb9 := Lib.hid hb9; replace hi := Lib.hid hi; replace hz0 := Lib.hid hz0; replace hz1 := Lib.hid hz1; replace hz2 := Lib.hid hz2
     go_upto_region 9 with fail
     rw [hw8.out]
     clear hw8
     go_wp2_with (at_builtin; refine wpList_append_onto' _ rfl _ _ 24 rfl w1.heap.size 22 i0 (.int .u32 0) 1 4 Tryz.underlying24 hi.out hz0.out hz1.out hz2.out rfl (by decide) _ _ _ rfl hol9.out ⟨w8.heap.size, 0, none⟩ 1 1 [.int .u32 V] rfl rfl ?c1 ?c2 ?c3 ?c4 ?c5 ?_)
     case c1 => exact cells_new _ _ _ _
     case c2 => simp [Value.oneCell']
     case c3 => have := hal.out; simp only [maxLen]; omega
     case c4 => have := hal.out; omega
     case c5 => simp; omega
     intro v10 w10 ho10 hO10
     have hp10 := hp9.out.grown hol9.out hO10.1
     have hF10 := (hO10.1.block w.heap.size (Array.getElem?_eq_some_iff.1 hF9.out).1 (fun e => own_ne hol9.out hF9.out (by decide) e.symm)).trans hF9.out
     have ho11 : w10.ownsRow w1.heap.size 22 1 v10 (acc ++ [V]).length (wi (acc ++ [V])) := by
      rw [List.length_append, wi_append]; exact ho10
     obtain ⟨vao, vca, rfl, _, _⟩ := own_shape ho10
     clear hO10 ho10
     replace hp10 := Lib.hid hp10; replace hF10 := Lib.hid hF10; replace ho11 := Lib.hid ho11
     go_wp2_with fail
     go_roundw
     case rel => exact ⟨k + 1, acc ++ [V], by omega, by go_num, by have := hal.out; simp; omega, ho11.out, ⟨_, _, hp10.out⟩, hF10.out, hr2.out⟩
     case measure => simp [intOf]; omega
   ·obtain rfl : k = N := by omega
    have d1 : decide ((k : Int) < (k : Int)) = false := decide_eq_false (by omega)
    rw [List.drop_of_length_le (by rw [hN.out]; exact Nat.le_refl _)] at hr
    have hr2 : .inl (acc ++ []) = G := hr
    rw [List.append_nil] at hr2
    subst hr2
    obtain ⟨ao, ca, rfl, hac1, hac2⟩ := own_shape hol
    obtain ⟨hN2, bN, ⟨r0, r1, r2⟩, ⟨f0, f1, f2⟩, hoth⟩ := rflt_set (.int .i64 0) (.int .i64 0) (.int .i64 0) hFz
    have h1 := heap_setCell_same wz w.heap.size 0 _ _ (.int .i64 0) hFz
    have h2 := heap_setCell_same _ w.heap.size 1 _ _ (.int .i64 0) h1
    have ho2 := own_set (o := 2) (own_set (o := 1) (own_set (o := 0) hol hFz (by decide) (.int .i64 0)) h1 (by decide) (.int .i64 0)) h2 (by decide) (.int .i64 0)
    have ho3 := own_base ho2 (show w.heap.size ≤ w1.heap.size by have := hs1.out; omega)
    have bf := (b1.out.trans (hbz.mono (by have := hs1.out; omega))).trans (bN w.heap.size (Nat.le_refl _))
    clear hoth bN h1 h2 ho2
    replace hN2 := Lib.hid hN2; replace hFz := Lib.hid hFz; replace ho3 := Lib.hid ho3; replace bf := Lib.hid bf; replace hp := Lib.hid hp; replace hbz := Lib.hid hbz; replace hol := Lib.hid hol; replace q0 := Lib.hid q0; replace hal := Lib.hid hal
    go_wp2_with fail
    exact bodyPost_ret (v := .tuple #[.slice ao acc.length ca, fltV (0, 0, 0)]) (results_snd rfl rfl rfl hN2.out Tryz.underlying33 rfl infoRFlt) rfl ⟨bf.out, _, rfl, ho3.out⟩
end Go.Proofs.YtiknookfnameiaaGreatDoor

namespace Go.Proofs.YtiknookfnameiaaGreatDoor
open Go.RowKit WP
set_option linter.unusedSimpArgs false
set_option linter.unusedVariables false
theorem rwords_err {base : Int} {labs : List (ByteArray × Nat)} : ∀ (L : List Pie) (k : Nat) {f : Flt}, rwordsF base labs k L = .inr f → f.1 ≠ 0
 | [], _, f, h => by cases h
 | x :: L, k, f, h => by
  rw [rwords_cons] at h
  split at h
  ·next g hg => cases h; exact rword_err hg
  ·split at h
   ·next g hg => cases h; exact rwords_err L _ hg
   ·cases h
theorem rasm_err {base : Int} {s : ByteArray} {f : Flt} (h : rasmF base s = .inr f) : f.1 ≠ 0 := by
 unfold rasmF at h
 split at h
 ·next g hg => cases h; exact rreadF_err hg
 ·split at h
  ·next g hg => cases h; exact rwords_err _ _ hg
  ·cases h
theorem rasm_inl {base : Int} {s : ByteArray} {x : List Int × List (ByteArray × Nat)} (h : rasmF base s = .inl x) : ∃ st, rreadF s = .inl st ∧ x.2 = st.labs := by
 unfold rasmF at h
 split at h
 ·cases h
 ·next st hst =>
  split at h
  ·cases h
  ·cases h; exact ⟨st, hst, rfl⟩
set_option maxRecDepth 100000 in
set_option maxHeartbeats 4000000 in
theorem rlabels_any (s : ByteArray) (w : World) (hE : RTabs w) (hs : s.size ≤ 9223372036854775807) :
  Calls Tryz.prog 15 #[.string s] w fun e w' => Below w.heap.size w w' ∧ RAsR w' w.heap.size 45 2 e (labsR (rasmF 0 s)) := by
 obtain ⟨w1, hw1⟩ : ∃ w1, w.alloc (.cells #[.int .i64 0, .int .i64 0, .int .i64 0] 33) = w1 := ⟨_, rfl⟩
 have b1 : Below w.heap.size w w1 := by rw [← hw1]; exact (Below.refl _ _).alloc (Nat.le_refl _) _
 have hF : w1.heap[w.heap.size]? = some (.cells #[.int .i64 0, .int .i64 0, .int .i64 0] 33 (0, 0)) := by rw [← hw1]; exact heap_alloc_new w _
 have hs1 : w1.heap.size = w.heap.size + 1 := by rw [← hw1]; simp
 have hE1 := hE.later b1
 have has := rassemble_any s 0 w1 hE1 hs ⟨by decide, by decide⟩
 have hrdA := fun W hW => rread_any s W hW hs
 cases hRR : rasmF 0 s with
 | inr f =>
  rw [hRR] at has
  have hne := rasm_err hRR
  have hdn : (f.1 != 0) = true := by simpa using hne
  clear hRR hE hE1 hrdA
  replace b1 := Lib.hid b1; replace hF := Lib.hid hF; replace hs1 := Lib.hid hs1; replace has := Lib.hid has; replace hw1 := Lib.hid hw1
  go_enter Tryz.func15, Tryz.ntmps15
  go_upto_region 1 with fail
  rw [hw1.out]
  clear hw1
  go_wp2_with fail
  refine has.out.mono ?_
  rintro e w5 ⟨hb5, hres⟩
  replace hres : e = .returned (.tuple #[.slice none 0 0, fltV f]) := hres
  subst hres
  have hF5 := (hb5.block w.heap.size (by have := hs1.out; omega)).trans hF.out
  obtain ⟨hN2, bN, ⟨r0, r1, r2⟩, ⟨f0, f1, f2⟩, -⟩ := rflt_set (.int .i64 f.1) (.int .i64 (f.2.1 : Int)) (.int .i64 (f.2.2 : Int)) hF5
  have hlt5 := (Array.getElem?_eq_some_iff.1 hF5).1
  have hN4 := (Below.heap_alloc _ (.cells #[.int .i64 f.1, .int .i64 (f.2.1 : Int), .int .i64 (f.2.2 : Int)] 33) w.heap.size (Array.getElem?_eq_some_iff.1 hN2).1).trans hN2
  have hbw := b1.out.trans (hb5.mono (by have := hs1.out; omega))
  have bf := (hbw.trans (bN w.heap.size (Nat.le_refl _))).alloc (hbw.trans (bN w.heap.size (Nat.le_refl _))).size (.cells #[.int .i64 f.1, .int .i64 (f.2.1 : Int), .int .i64 (f.2.2 : Int)] 33)
  unfold fltV
  clear has hN2 bN hbw
  replace hb5 := Lib.hid hb5; replace hN4 := Lib.hid hN4; replace bf := Lib.hid bf; replace hF5 := Lib.hid hF5
  go_wp2_with fail
  go_region
  go_wp2_with fail
  exact bodyPost_ret (v := .tuple #[.slice none 0 0, fltV f]) (results_snd rfl rfl rfl hN4.out Tryz.underlying33 rfl infoRFlt) rfl ⟨bf.out.drew, rfl⟩
 | inl x =>
  obtain ⟨st, hst, hx2⟩ := rasm_inl hRR
  rw [hRR] at has
  simp only [hst] at hrdA
  have hlr : labsR (.inl x) = .inl (st.labs.length, lc st.labs) := by rw [← hx2]; rfl
  rw [hlr]
  clear hRR hE hst hx2 hlr
  replace b1 := Lib.hid b1; replace hF := Lib.hid hF; replace hs1 := Lib.hid hs1; replace has := Lib.hid has; replace hw1 := Lib.hid hw1; replace hrdA := Lib.hid hrdA; replace hE1 := Lib.hid hE1
  go_enter Tryz.func15, Tryz.ntmps15
  go_upto_region 1 with fail
  rw [hw1.out]
  clear hw1
  go_wp2_with fail
  refine has.out.mono ?_
  rintro e w5 ⟨hb5, v5, rfl, -⟩
  have hF5 := (hb5.block w.heap.size (by have := hs1.out; omega)).trans hF.out
  unfold fltV
  obtain ⟨w6, hw6⟩ : ∃ w6, w5.alloc (.cells #[.int .i64 0, .int .i64 0, .int .i64 0] 33) = w6 := ⟨_, rfl⟩
  have b56 : Below w5.heap.size w5 w6 := by rw [← hw6]; exact (Below.refl _ _).alloc (Nat.le_refl _) _
  have hGc : w6.heap[w5.heap.size]? = some (.cells #[.int .i64 0, .int .i64 0, .int .i64 0] 33 (0, 0)) := by rw [← hw6]; exact heap_alloc_new w5 _
  have g0 : w6.cell? ⟨w5.heap.size, 0, none⟩ = some (.int .i64 0) := cell_of_row _ _ 0 _ _ _ hGc
  have b16 := hb5.trans (b56.mono hb5.size)
  have hF6 := (b56.block w.heap.size (Array.getElem?_eq_some_iff.1 hF5).1).trans hF5
  have hrd := hrdA.out w6 (hE1.out.later b16)
  clear has hF hb5 hGc hF5
  replace hF6 := Lib.hid hF6; replace b56 := Lib.hid b56; replace hw6 := Lib.hid hw6; replace b16 := Lib.hid b16; replace hrd := Lib.hid hrd
  go_upto_region 2 with fail
  rw [hw6.out]
  clear hw6
  go_wp2_with fail
  refine hrd.out.mono ?_
  rintro e w7 ⟨R, rfl, vl, vp, hp⟩
  have hF7 := (hp.below.block w.heap.size (Array.getElem?_eq_some_iff.1 hF6.out).1).trans hF6.out
  have hlt7 := (Array.getElem?_eq_some_iff.1 hF7).1
  have b17 := b16.out.trans (hp.below.mono b16.out.size)
  have b07 := b1.out.trans (b17.mono (by have := hs1.out; omega))
  unfold fltV
  obtain ⟨w8, hw8⟩ : ∃ w8, w7.alloc (.cells #[.int .i64 0, .int .i64 0, .int .i64 0] 33) = w8 := ⟨_, rfl⟩
  have b78 : Below w7.heap.size w7 w8 := by rw [← hw8]; exact (Below.refl _ _).alloc (Nat.le_refl _) _
  have hp8 := hp.later b78
  have hF8 := (b78.block w.heap.size hlt7).trans hF7
  have b08 := b07.trans (b78.mono b07.size)
  obtain ⟨lao, lca, rfl, hlc1, hlc2⟩ := hp8.lv
  obtain ⟨q0, q1⟩ := hp8.c
  obtain ⟨hN2, bN, ⟨r0, r1, r2⟩, ⟨f0, f1, f2⟩, -⟩ := rflt_set (.int .i64 0) (.int .i64 0) (.int .i64 0) hF8
  have h1 := heap_setCell_same w8 w.heap.size 0 _ _ (.int .i64 0) hF8
  have h2 := heap_setCell_same _ w.heap.size 1 _ _ (.int .i64 0) h1
  have ho2 := own_set (o := 2) (own_set (o := 1) (own_set (o := 0) hp8.labs hF8 (by decide) (.int .i64 0)) h1 (by decide) (.int .i64 0)) h2 (by decide) (.int .i64 0)
  have ho3 := own_base ho2 (show w.heap.size ≤ w6.heap.size by have := b16.out.size; have := hs1.out; omega)
  have bf := b08.trans (bN w.heap.size (Nat.le_refl _))
  clear hrd hF7 hp h1 h2 ho2 b17 b07 b08 bN g0
  replace hN2 := Lib.hid hN2; replace ho3 := Lib.hid ho3; replace bf := Lib.hid bf; replace hp8 := Lib.hid hp8; replace hF8 := Lib.hid hF8; replace b78 := Lib.hid b78; replace hw8 := Lib.hid hw8
  go_upto_region 5 with fail
  rw [hw8.out]
  clear hw8
  go_wp2_with fail
  exact bodyPost_ret (v := .tuple #[.slice lao st.labs.length lca, fltV (0, 0, 0)]) (results_snd rfl rfl rfl hN2.out Tryz.underlying33 rfl infoRFlt) rfl ⟨bf.out, _, rfl, ho3.out⟩
end Go.Proofs.YtiknookfnameiaaGreatDoor

namespace Go.Proofs.YtiknookfnameiaaGreatDoor
open Go.RowKit WP
set_option linter.unusedSimpArgs false
set_option linter.unusedVariables false
theorem OutW.rd {w : World} {B : Nat} {e : TypeId} {v : Value} {n : Nat} {xs : List Value} (h : OutW w B e 1 v n xs) : Rd w v xs := by
 obtain ⟨h0, h⟩ := h
 rw [Nat.mul_one] at h0
 rcases h with ⟨rfl, rfl⟩ | ⟨g, cur, rfl, h1, h2, h3, h4, h5⟩
 ·have : xs = [] := List.eq_nil_of_length_eq_zero h0
  subst this
  exact ⟨none, 0, rfl, Nat.le_refl _, by decide, .inl rfl⟩
 ·refine ⟨_, _, by rw [h0], by omega, h2, .inr ⟨g, 0, rfl, fun j u hu => ?_⟩⟩
  have hj := (List.getElem?_eq_some_iff.1 hu).1
  rw [Nat.mul_one] at h5
  rw [Nat.zero_add, cell_of_row _ _ _ _ _ _ h3]
  rw [← h5, List.getElem?_take_of_lt (by omega)] at hu
  rw [← hu, Array.getElem?_toList]
theorem rd_ints {w : World} {v : Value} {l : List Int} (h : Rd w v (wi l)) : ∃ ao ca, v = .slice ao l.length ca ∧ l.length ≤ ca ∧ ca ≤ 9223372036854775807 ∧ ∀ i, i < l.length → ∃ b off, ao = some ⟨b, off, none⟩ ∧ w.cell? ⟨b, off + i, none⟩ = some (.int .u32 (l.getD i 0)) := by
 obtain ⟨ao, ca, hV, a1, a2, a3⟩ := h
 rw [wi_len] at hV a1
 refine ⟨ao, ca, hV, a1, by simpa [maxLen] using a2, fun i hi => ?_⟩
 have hg : (wi l)[i]? = some (.int .u32 (l.getD i 0)) := by
  unfold wi; rw [List.getElem?_map, List.getElem?_eq_getElem hi, List.getD_eq_getElem?_getD, List.getElem?_eq_getElem hi]; rfl
 rcases a3 with a3 | ⟨b, off, rfl, a3⟩
 ·rw [a3] at hg; simp at hg
 ·exact ⟨b, off, rfl, a3 i _ hg⟩
theorem selfDrewN (w : World) : ∀ n, Below w.heap.size w (w.drewN n)
 | 0 => Below.refl _ _
 | n + 1 => (selfDrewN w n).drew
set_option maxRecDepth 100000 in
set_option maxHeartbeats 1000000 in
theorem asame_any (v u : Value) (l : List Int) (w : World) (hv : Rd w v (wi l)) (hu : Rd w u (wi l)) :
  Calls Tryz.prog 10 #[v, u] w fun e w' => e = .returned (.bool true) ∧ Below w.heap.size w w' := by
 obtain ⟨ao, ca, rfl, a1, a2, a3⟩ := rd_ints hv
 obtain ⟨bo, cb, rfl, b1, b2, b3⟩ := rd_ints hu
 have hne : ((l.length : Int) != (l.length : Int)) = false := by simp
 have hbw : ∀ n, Below w.heap.size w (w.drewN n) := selfDrewN w
 replace a3 := Lib.hid a3; replace b3 := Lib.hid b3; replace hbw := Lib.hid hbw
 clear hv hu
 go_enter Tryz.func10, Tryz.ntmps10
 go_wp2_with fail
 go_loopw [5] (fun i wr => ∃ k : Nat, k ≤ l.length ∧ i = .int .i64 k ∧ ∃ n, wr = w.drewN n) (fun i _ => l.length - (intOf i).toNat)
 case atStart => exact ⟨0, by omega, rfl, 0, rfl⟩
 case round =>
  obtain ⟨k, hk, rfl, n, rfl⟩ := hrel
  by_cases hlt : k < l.length
  ·obtain ⟨ab, af, rfl, hc⟩ := a3.out k hlt
   obtain ⟨bb, bf, rfl, hd⟩ := b3.out k hlt
   generalize l.getD k 0 = S at *
   have i1 : (0 : Int) ≤ (k : Int) := by omega
   have i2 : (k : Int) < (l.length : Int) := by omega
   have d1 : decide ((k : Int) < (l.length : Int)) = true := decide_eq_true i2
   go_wp2_with fail
   go_quiet (fail)
   go_wp2_with fail
   go_roundw
   case rel => exact ⟨k + 1, by omega, by go_num, n + nq, rfl⟩
   case measure => simp [intOf]; omega
  ·obtain rfl : k = l.length := by omega
   have d1 : decide ((l.length : Int) < (l.length : Int)) = false := decide_eq_false (by omega)
   go_wp2_with fail
   go_ret
   exact ⟨rfl, hbw.out n⟩
def firstT : ByteArray := ⟨#[108, 105, 32, 114, 50, 32, 101, 110, 100, 10, 120, 58, 32, 98, 32, 97, 108, 32, 120, 10, 119, 111, 114, 100, 32, 101, 110, 100, 10, 101, 110, 100, 58]⟩
theorem first_read : ∃ labs, readM 4096 firstT = .inl ([75501584, 142606336, 1409351679, 4112], labs) := by
 have h : (match readM 4096 firstT with | .inl x => some x.1 | .inr _ => none) = some [75501584, 142606336, 1409351679, 4112] := by decide +kernel
 cases hr : readM 4096 firstT with
 | inr f => rw [hr] at h; cases h
 | inl x =>
  rw [hr] at h
  simp only [Option.some.injEq] at h
  obtain ⟨ws, labs⟩ := x
  exact ⟨labs, by rw [← h]⟩
/-- a fault in a variable of its own -/
theorem flt_new (w : World) (a b c : Value) : ∃ w4, w.alloc (.cells #[a, b, c] 27) = w4 ∧
  w4.heap[w.heap.size]? = some (.cells #[a, b, c] 27 (0, 0)) ∧ Below w.heap.size w w4 :=
 ⟨_, rfl, heap_alloc_new w _, (Below.refl _ _).alloc (Nat.le_refl _) _⟩
set_option maxRecDepth 100000 in
set_option maxHeartbeats 2000000 in
theorem first_any (m : Int) (w : World) (hE : AEnv w) (hM : MaxL w m) (hT : ErrT w) :
  Calls Tryz.prog 8 #[] w fun e w' => e = .returned (.bool true) ∧ Below w.heap.size w w' := by
 obtain ⟨labs, hrd⟩ := first_read
 have has := assemble_any firstT 4096 m w hE hM hT (by decide) ⟨by decide, by decide⟩
 rw [hrd] at has
 replace has := Lib.hid has
 clear hrd
 go_enter Tryz.func8, Tryz.ntmps8
 go_wp2_with fail
 refine has.out.mono ?_
 rintro e w2 ⟨b2, v, rfl, ho⟩
 unfold fltV
 obtain ⟨w4, hw4, hR4, b4⟩ := flt_new w2 (.int .i64 0) (.int .i64 0) (.int .i64 0)
 have c0 : w4.cell? ⟨w2.heap.size, 0, none⟩ = some (.int .i64 0) := cell_of_row _ _ _ _ _ _ hR4
 have c1 : w4.cell? ⟨w2.heap.size, 1, none⟩ = some (.int .i64 0) := cell_of_row _ _ _ _ _ _ hR4
 have c2 : w4.cell? ⟨w2.heap.size, 2, none⟩ = some (.int .i64 0) := cell_of_row _ _ _ _ _ _ hR4
 have hr4 := ho.rd.mono b4
 simp only at hr4
 have hsm := asame_any v (.slice (some ⟨w4.heap.size, 0, none⟩) 4 4) [75501584, 142606336, 1409351679, 4112] (w4.alloc (.cells #[.int .u32 75501584, .int .u32 142606336, .int .u32 1409351679, .int .u32 4112] 22)) (hr4.alloc _) (Rd.new w4 (wi [75501584, 142606336, 1409351679, 4112]) 22 (0, 0) (by decide))
 have bel := (b2.trans (b4.mono b2.size)).alloc (Nat.le_trans b2.size b4.size) (.cells #[.int .u32 75501584, .int .u32 142606336, .int .u32 1409351679, .int .u32 4112] 22)
 have hbs := bel.size
 replace b2 := Lib.hid b2; replace b4 := Lib.hid b4; replace hR4 := Lib.hid hR4; replace hr4 := Lib.hid hr4; replace hsm := Lib.hid hsm; replace bel := Lib.hid bel; replace ho := Lib.hid ho; replace hw4 := Lib.hid hw4; replace hbs := Lib.hid hbs
 clear has hE hM hT
 go_upto_region 2 with fail
 rw [hw4.out]
 clear hw4
 go_wp2_with fail
 refine hsm.out.mono ?_
 rintro e w5 ⟨rfl, b5⟩
 have hfin := bel.out.trans (b5.mono hbs.out)
 replace hfin := Lib.hid hfin
 clear b5
 go_wp2_with fail
 go_ret
 exact ⟨rfl, hfin.out⟩
theorem maxl_later {w w' : World} {m : Int} (h : MaxL w m) (hb : Below w.heap.size w w') : MaxL w' m := by
 show w'.cell? _ = _
 rw [← show w.cell? _ = _ from h]
 unfold World.cell?
 rw [hb.block _ (World.block_lt_of_cell? w _ h)]
theorem OutW.form {w : World} {B : Nat} {e : TypeId} {size : Nat} {v : Value} {n : Nat} {xs : List Value} (h : OutW w B e size v n xs) : ∃ ao ca, v = .slice ao n ca := by
 rcases h.2 with ⟨rfl, rfl⟩ | ⟨g, cur, rfl, _⟩
 ·exact ⟨_, _, rfl⟩
 ·exact ⟨_, _, rfl⟩
end Go.Proofs.YtiknookfnameiaaGreatDoor
