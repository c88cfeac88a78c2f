/- AsmBack's walk. What AsmPrints lays out: words that came in; the listed tables. -/
import Derived.Test.YtiknookfnameiaaGreatDoorJn38
import Derived.Test.YtiknookfnameiaaGreatDoorJn41
import Derived.Test.YtiknookfnameiaaGreatDoorJn47
import Derived.Test.YtiknookfnameiaaGreatDoorJn21
import Derived.Deep.Fields
import Derived.LaidMore
import Derived.Lib.LaidU8
namespace Go.Proofs.YtiknookfnameiaaGreatDoor
open Go.RowKit WP
set_option linter.unusedSimpArgs false
set_option linter.unusedVariables false
theorem wi_words (l : List UInt32) : wi ((List.range l.length).map (wAt l)) = vw l := by
  refine List.ext_getElem? fun j => ?_
  by_cases hj : j < l.length
  · rw [vw_get l j hj]
    unfold wi
    rw [List.getElem?_map, List.getElem?_map, List.getElem?_range hj]; rfl
  · rw [List.getElem?_eq_none (by simp [wi]; omega), List.getElem?_eq_none (by simp; omega)]
/-- a fault stored over what stands in a variable -/
theorem flt_set {w : World} {F : Nat} {a b c : Value} (f0 f1 f2 : Value) (hR : w.heap[F]? = some (.cells #[a, b, c] 27 (0, 0))) :
    (((w.setCell ⟨F, 0, none⟩ f0).setCell ⟨F, 1, none⟩ f1).setCell ⟨F, 2, none⟩ f2).heap[F]? = some (.cells #[f0, f1, f2] 27 (0, 0)) ∧
    (∀ B, B ≤ F → Below B w (((w.setCell ⟨F, 0, none⟩ f0).setCell ⟨F, 1, none⟩ f1).setCell ⟨F, 2, none⟩ f2)) ∧
    (w.cell? ⟨F, 0, none⟩ = some a ∧ w.cell? ⟨F, 1, none⟩ = some b ∧ w.cell? ⟨F, 2, none⟩ = some c) ∧
    (w.frozen? ⟨F, 0, none⟩ = false ∧ w.frozen? ⟨F, 1, none⟩ = false ∧ w.frozen? ⟨F, 2, none⟩ = false) ∧
    ∀ k, k ≠ F → (((w.setCell ⟨F, 0, none⟩ f0).setCell ⟨F, 1, none⟩ f1).setCell ⟨F, 2, none⟩ f2).heap[k]? = w.heap[k]? := by
  have h1 := heap_setCell_same w F 0 _ _ f0 hR
  have h2 := heap_setCell_same _ F 1 _ _ f1 h1
  have h3 := heap_setCell_same _ F 2 _ _ f2 h2
  refine ⟨h3, fun B hB => (((Below.refl B w).setCell (p := ⟨F, 0, none⟩) hB f0).setCell (p := ⟨F, 1, none⟩) hB f1).setCell (p := ⟨F, 2, none⟩) hB f2, ⟨cell_of_row _ _ _ _ _ _ hR, cell_of_row _ _ _ _ _ _ hR, cell_of_row _ _ _ _ _ _ hR⟩, ⟨frozen_of_row _ _ _ _ _ hR, frozen_of_row _ _ _ _ _ hR, frozen_of_row _ _ _ _ _ hR⟩, fun k hk => ?_⟩
  rw [Below.heap_setCell _ ⟨F, 2, none⟩ _ k hk, Below.heap_setCell _ ⟨F, 1, none⟩ _ k hk, Below.heap_setCell _ ⟨F, 0, none⟩ _ k hk]
theorem print_empty : ∀ l : List UInt32, strS (printL l (l.length + 1)) = ⟨#[]⟩ → printL l (l.length + 1) = [] := by
  intro l h
  unfold strS at h
  have := congrArg (fun b : ByteArray => b.data.toList) h
  simpa using this
theorem below_drewN' {w w' : World} {B : Nat} (h : Below B w w') : ∀ n, Below B w (w'.drewN n)
  | 0 => h
  | n + 1 => (below_drewN' h n).drew
set_option maxRecDepth 100000 in
set_option maxHeartbeats 4000000 in
theorem asmback_any (v : Value) (l : List UInt32) (base other m : Int) (w : World) (hE : AEnv w) (hM : MaxL w m) (hT : ErrT w) (hP : Pow10P w) (hv : Rd w v (vw l)) (nb : base < 4294967296 ∧ 0 ≤ base) (no : other < 4294967296 ∧ 0 ≤ other) :
    Calls Tryz.prog 6 #[v, .int .u32 base, .int .u32 other] w fun e w' => e = .returned (.bool true) ∧ Below w.heap.size w w' := by
  have hfi := first_any m w hE hM hT
  obtain ⟨ao, cap, rfl, hc1, hc2, hW⟩ := hv.words
  have hpr := fun (W : World) (hb : Below w.heap.size w W) => print_all (.slice ao l.length cap) l base W (hE.later hb).tabs (pow10P_later hP hb) (hv.mono hb)
  obtain ⟨n, hn⟩ : ∃ n, l.length = n := ⟨_, rfl⟩
  by_cases hbig : 2048 < n
  · have e1 : prS l = ⟨#[]⟩ := by unfold prS; rw [if_neg (by omega)]
    have e2 : prE l = 66 := by unfold prE; rw [if_neg (by omega)]
    rw [e1, e2, hn] at hpr
    have d1 : decide (2048 < (n : Int)) = true := decide_eq_true (by omega)
    have d2 : decide ((n : Int) > 2048) = true := decide_eq_true (by omega)
    rw [hn]
    have hfi' := Lib.hid hfi; have hpr' := Lib.hid hpr
    clear hfi hpr e1 e2 hE hM hT hP hv hW hc1
    replace hn := Lib.hid hn
    go_enter Tryz.func6, Tryz.ntmps6
    go_wp2_with fail
    refine hfi'.out.mono ?_
    rintro e w1 ⟨rfl, b1⟩
    replace b1 := Lib.hid b1
    go_wp2_with fail
    refine (hpr'.out w1 b1.out).mono ?_
    rintro e w2 ⟨b2, rfl⟩
    have B2 := b1.out.trans (b2.mono b1.out.size)
    replace B2 := Lib.hid B2; replace b2 := Lib.hid b2
    go_wp2_with fail
    go_ret
    exact ⟨rfl, B2.out⟩
  · have e1 : prS l = strS (printL l (l.length + 1)) := by unfold prS; rw [if_pos (by omega)]
    have e2 : prE l = 0 := by unfold prE; rw [if_pos (by omega)]
    rw [e1, e2] at hpr
    have hbd := print_bd l (by omega)
    have hend := print_end l (l.length + 1)
    have hrd := read_print other l (by omega) hbd
    obtain ⟨labs, hlabs⟩ : ∃ labs, labsTo l (l.length + 1) = labs := ⟨_, rfl⟩
    obtain ⟨ints, hints⟩ : ∃ ints, (List.range l.length).map (wAt l) = ints := ⟨_, rfl⟩
    have hwi : wi ints = vw l := by rw [← hints]; exact wi_words l
    have hil : ints.length = n := by rw [← hints]; simp [hn]
    obtain ⟨P, hPl⟩ : ∃ P, printL l (l.length + 1) = P := ⟨_, rfl⟩
    rw [hlabs, hints] at hrd
    rw [hPl] at hpr hbd hend hrd
    have hsz : (strS P).size = P.length := by unfold strS; rw [ByteArray.size]; simp
    have hS1 : strS P = ⟨P.toArray⟩ := rfl
    rw [← hS1] at hrd
    have has := fun (W : World) (hb : Below w.heap.size w W) => assemble_any (strS P) other m W (hE.later hb) (maxl_later hM hb) (hT.later hb) (by omega) no
    rw [hrd] at has
    have e3 : wordsR (.inl (ints, labs)) = .inl (n, wi ints) := by unfold wordsR; simp only [hil]
    rw [e3] at has
    have hv2 : Rd w (.slice ao l.length cap) (wi ints) := by rw [hwi]; exact hv
    have hlast : P ≠ [] → ∃ k, P.length = k + 1 ∧ bAt P k = 10 := by
      intro hne
      have h1 := hend hne
      have hpos := List.length_pos_iff.2 hne
      refine ⟨P.length - 1, by omega, ?_⟩
      rw [List.getLast?_eq_getElem?] at h1
      unfold bAt
      rw [List.getD_eq_getElem?_getD, h1]; rfl
    have d1 : decide (2048 < (n : Int)) = false := decide_eq_false (by omega)
    have d2 : decide ((n : Int) > 2048) = false := decide_eq_false (by omega)
    have d3 : decide (65536 < ((strS P).size : Int)) = false := decide_eq_false (by rw [hsz]; omega)
    have d4 : decide (((strS P).size : Int) > 65536) = false := decide_eq_false (by rw [hsz]; omega)
    rw [hn] at hpr hv2 hc1 hW ⊢
    have hfi' := Lib.hid hfi; have hpr' := Lib.hid hpr; have has' := Lib.hid has; have hW' := Lib.hid hW; have hv2' := Lib.hid hv2; have hE' := Lib.hid hE; have hM' := Lib.hid hM; have hT' := Lib.hid hT; have hP' := Lib.hid hP; have hbd' := Lib.hid hbd
    clear hfi hpr has hW hv2 hE hM hT hP hv e1 e2 e3 hrd hend hwi hints hlabs hbd hPl
    replace hn := Lib.hid hn; replace hil := Lib.hid hil; replace hlast := Lib.hid hlast; replace hS1 := Lib.hid hS1; replace hsz := Lib.hid hsz
    go_enter Tryz.func6, Tryz.ntmps6
    go_wp2_with fail
    refine hfi'.out.mono ?_
    rintro e w1 ⟨rfl, b1⟩
    replace b1 := Lib.hid b1
    go_wp2_with fail
    refine (hpr'.out w1 b1.out).mono ?_
    rintro e w2 ⟨b2, rfl⟩
    have B2 := b1.out.trans (b2.mono b1.out.size)
    replace B2 := Lib.hid B2; replace b2 := Lib.hid b2
    go_wp2_with fail
    refine (has'.out w2 B2.out).mono ?_
    rintro e w3 ⟨b3, v3, rfl, ho3⟩
    unfold fltV
    obtain ⟨w4, hw4, hR4, b4⟩ := flt_new w3 (.int .i64 0) (.int .i64 0) (.int .i64 0)
    have B4 := (B2.out.trans (b3.mono B2.out.size)).trans (b4.mono (Nat.le_trans B2.out.size b3.size))
    have ho4 := (ho3.later b4).rd
    have hsm := asame_any v3 _ ints w4 ho4 (hv2'.out.mono B4)
    obtain ⟨ao3, ca3, rfl⟩ := ho3.form
    have c0 : w4.cell? ⟨w3.heap.size, 0, none⟩ = some (.int .i64 0) := cell_of_row _ _ _ _ _ _ hR4
    replace b3 := Lib.hid b3; replace b4 := Lib.hid b4; replace B4 := Lib.hid B4; replace ho4 := Lib.hid ho4; replace hsm := Lib.hid hsm; replace hR4 := Lib.hid hR4; replace hw4 := Lib.hid hw4
    clear ho3
    go_upto_region 7 with fail
    rw [hw4.out]
    clear hw4
    go_wp2_with fail
    refine hsm.out.mono ?_
    rintro e w5 ⟨rfl, b5⟩
    have hR5 := (b5.block _ (Array.getElem?_eq_some_iff.1 hR4.out).1).trans hR4.out
    have B5 := B4.out.trans (b5.mono B4.out.size)
    replace B5 := Lib.hid B5; replace hR5 := Lib.hid hR5
    clear b5 c0 hsm
    by_cases hPe : P = []
    · subst hPe
      rw [show strS ([] : List UInt8) = (⟨#[]⟩ : ByteArray) from rfl] at *
      go_upto_region 9 with fail
      go_wp2_with fail
      go_loopw [11] (fun i wr => ∃ k : Nat, k ≤ n ∧ i = .int .i64 k ∧ Below w.heap.size w wr ∧ wr.heap[w3.heap.size]? = some (.cells #[.int .i64 0, .int .i64 0, .int .i64 0] 27 (0, 0))) (fun i _ => n - (intOf i).toNat)
      case atStart => exact ⟨0, by omega, rfl, B5.out, hR5.out⟩
      case round =>
        obtain ⟨wo, rfl⟩ : ∃ wo, wo = wr := ⟨wr, rfl⟩
        obtain ⟨k, hk, rfl, bo, hRo⟩ := hrel
        clear B5 hR5
        by_cases hlt : k < n ∧ k < 64
        · obtain ⟨hl1, hl2⟩ := hlt
          have i1 : (0 : Int) ≤ (k : Int) := by omega
          have i2 : (k : Int) < (n : Int) := by omega
          have q1 : decide ((k : Int) < (n : Int)) = true := decide_eq_true i2
          have q2 : decide ((k : Int) < 64) = true := decide_eq_true (by omega)
          obtain ⟨b, off, rfl, hbl, hc⟩ : ∃ b off, ao = some ⟨b, off, none⟩ ∧ b < w.heap.size ∧ w.cell? ⟨b, off + k, none⟩ = some (.int .u32 (wAt l k)) := by
            rcases hW'.out with h0 | ⟨b, off, h1, h2, h3⟩
            · have := hn.out; rw [h0] at this; simp at this; omega
            · exact ⟨b, off, h1, h2, h3 k hl1⟩
          obtain ⟨x, hx⟩ : ∃ x, wAt l k = x := ⟨_, rfl⟩
          have hxb := wAt_bd l k
          rw [hx] at hc hxb
          have hco : wo.cell? ⟨b, off + k, none⟩ = some (.int .u32 x) := by rw [bo.cell (p := ⟨b, off + k, none⟩) hbl]; exact hc
          have hal := aline_any x wo (hE'.out.later bo).tabs (pow10P_later hP'.out bo) hxb.1 (by omega)
          obtain ⟨LN, hLN⟩ : ∃ LN, strS (lineL x []) = LN := ⟨_, rfl⟩
          have hls := line_short x [] hxb.1 (by omega) (by simp)
          have hrl := read_line base x hxb.1 (by omega) (by omega)
          have hlz : LN.size ≤ 65536 := by rw [← hLN]; unfold strS; rw [ByteArray.size]; simp; omega
          rw [show (⟨(lineL x []).toArray⟩ : ByteArray) = LN from hLN] at hrl
          rw [hLN] at hal
          have hblo : b < wo.heap.size := Nat.lt_of_lt_of_le hbl bo.size
          replace hal := Lib.hid hal; replace bo := Lib.hid bo; replace hRo := Lib.hid hRo; replace hrl := Lib.hid hrl
          clear hx hLN hls hc
          go_wp2_with fail
          refine hal.out.mono ?_
          rintro e w6 ⟨b6, rfl⟩
          have B6 := bo.out.trans (b6.mono bo.out.size)
          have has6 := assemble_any LN base m w6 (hE'.out.later B6) (maxl_later hM'.out B6) (hT'.out.later B6) (by omega) nb
          rw [hrl.out] at has6
          have e6 : wordsR (.inl ([x], [])) = .inl (1, wi [x]) := rfl
          rw [e6] at has6
          have hR6 := (b6.block _ (Array.getElem?_eq_some_iff.1 hRo.out).1).trans hRo.out
          have hc6 : w6.cell? ⟨b, off + k, none⟩ = some (.int .u32 x) := by rw [b6.cell (p := ⟨b, off + k, none⟩) hblo]; exact hco
          have hbl6 : b < w6.heap.size := Nat.lt_of_lt_of_le hblo b6.size
          replace has6 := Lib.hid has6; replace B6 := Lib.hid B6; replace hR6 := Lib.hid hR6; replace b6 := Lib.hid b6
          clear hal e6 hco
          go_wp2_with fail
          refine has6.out.mono ?_
          rintro e w7 ⟨b7, v7, rfl, ho7⟩
          unfold fltV
          replace ho7 : OutW w7 w6.heap.size 22 1 v7 1 (wi [x]) := ho7
          have hR7 := (b7.block _ (Array.getElem?_eq_some_iff.1 hR6.out).1).trans hR6.out
          have hc7 : w7.cell? ⟨b, off + k, none⟩ = some (.int .u32 x) := by rw [b7.cell (p := ⟨b, off + k, none⟩) hbl6]; exact hc6
          obtain ⟨hR8, hB8, ⟨z0, z1, z2⟩, ⟨f0, f1, f2⟩, hoth⟩ := flt_set (.int .i64 0) (.int .i64 0) (.int .i64 0) hR7
          have hw3s : w.heap.size ≤ w3.heap.size := Nat.le_trans B2.out.size b3.out.size
          have B8 := (B6.out.trans (b7.mono B6.out.size)).trans (hB8 w.heap.size hw3s)
          obtain ⟨g, hgv, hgc, hgne⟩ : ∃ g, v7 = .slice (some ⟨g, 0, none⟩) 1 1 ∧ w7.cell? ⟨g, 0, none⟩ = some (.int .u32 x) ∧ g ≠ w3.heap.size := by
            rcases ho7.2 with ⟨_, h0⟩ | ⟨g, cur, h1, h2, h3, h4, h5, h6⟩
            · omega
            · refine ⟨g, h1, ?_, ?_⟩
              · rw [cell_of_row _ _ _ _ _ _ h4]
                have h7 : (wi [x])[0]? = some (.int .u32 x) := rfl
                rw [← h6, List.getElem?_take_of_lt (by omega)] at h7
                rw [← h7, Array.getElem?_toList]
              · intro e
                have := (Array.getElem?_eq_some_iff.1 hR6.out).1
                omega
          subst hgv
          obtain ⟨w8, hw8⟩ : ∃ w8, (((w7.setCell ⟨w3.heap.size, 0, none⟩ (.int .i64 0)).setCell ⟨w3.heap.size, 1, none⟩ (.int .i64 0)).setCell ⟨w3.heap.size, 2, none⟩ (.int .i64 0)) = w8 := ⟨_, rfl⟩
          rw [hw8] at hR8 B8 hoth
          have hbne : b ≠ w3.heap.size := by have := hw3s; omega
          have hc8 : w8.cell? ⟨b, off + k, none⟩ = some (.int .u32 x) := by
            unfold World.cell?; rw [hoth b hbne]; exact hc7
          have hg8 : w8.cell? ⟨g, 0, none⟩ = some (.int .u32 x) := by
            unfold World.cell?; rw [hoth g hgne]; exact hgc
          have z8 : w8.cell? ⟨w3.heap.size, 0, none⟩ = some (.int .i64 0) := cell_of_row _ _ _ _ _ _ hR8
          replace B8 := Lib.hid B8; replace hR8 := Lib.hid hR8; replace hw8 := Lib.hid hw8; replace ho7 := Lib.hid ho7; replace hR7 := Lib.hid hR7; replace hoth := Lib.hid hoth; replace b7 := Lib.hid b7; replace hB8 := Lib.hid hB8
          clear has6 hc6 hc7 hgc
          go_upto_region 13 with fail
          rw [hw8.out]
          clear hw8 z0 z1 z2 f0 f1 f2
          go_quiet (fail)
          go_wp2_with fail
          go_roundw
          case rel => exact ⟨k + 1, by omega, by go_num, below_drewN' B8.out _, hR8.out⟩
          case measure => simp [intOf]; omega
        · by_cases hl1 : k < n
          · have i2 : (k : Int) < (n : Int) := by omega
            have q1 : decide ((k : Int) < (n : Int)) = true := decide_eq_true i2
            have q2 : decide ((k : Int) < 64) = false := decide_eq_false (by omega)
            replace bo := Lib.hid bo
            go_wp2_with fail
            go_ret
            exact ⟨rfl, bo.out⟩
          · have q1 : decide ((k : Int) < (n : Int)) = false := decide_eq_false (by omega)
            replace bo := Lib.hid bo
            go_wp2_with fail
            go_ret
            exact ⟨rfl, bo.out⟩
    · obtain ⟨j, hj, hbj⟩ := hlast.out hPe
      obtain ⟨S, hS⟩ : ∃ S, strS P = S := ⟨_, rfl⟩
      have hz : S.size = j + 1 := by rw [← hS, hsz.out, hj]
      have hk1 : ((S.size : Int) - 1) = (j : Int) := by omega
      have hk2 : j < S.size := by omega
      have eb : (S[j].toNat : Int) = 10 := by
        have h1 : S.data.toList = P := by rw [← hS]; unfold strS; simp
        rw [← hbj]
        unfold bAt
        rw [List.getD_eq_getElem?_getD, ← h1, List.getElem?_eq_getElem (by rw [Array.length_toList]; exact hk2)]; rfl
      have hne3 : ¬ S = (⟨#[]⟩ : ByteArray) := by
        intro e
        rw [e] at hz
        have h0 : ByteArray.size ⟨#[]⟩ = 0 := rfl
        omega
      have s1 : S.toList.isEmpty = false := by rw [← hS, strS_emp]; cases P with | nil => exact absurd rfl hPe | cons a b => rfl
      have s2 : ¬ S.toList = [] := by intro e; rw [e] at s1; cases s1
      have hw64 : wrap64 (j : Int) = (j : Int) := by unfold wrap64; have := hbd'.out; omega
      have hSz : S.size ≤ 65536 := by have := hbd'.out; omega
      rw [hS] at *
      have d3 : decide (65536 < (S.size : Int)) = false := decide_eq_false (by omega)
      have d4 : decide ((S.size : Int) > 65536) = false := decide_eq_false (by omega)
      replace hSz := Lib.hid hSz
      replace hz := Lib.hid hz; replace hj := Lib.hid hj; replace hbj := Lib.hid hbj; replace hPe := Lib.hid hPe
      clear hS
      go_upto_region 9 with fail
      go_wp2_with fail
      clear eb hk1 hk2 hw64 s1 s2 hne3
      go_loopw [11] (fun i wr => ∃ k : Nat, k ≤ n ∧ i = .int .i64 k ∧ Below w.heap.size w wr ∧ wr.heap[w3.heap.size]? = some (.cells #[.int .i64 0, .int .i64 0, .int .i64 0] 27 (0, 0))) (fun i _ => n - (intOf i).toNat)
      case atStart => exact ⟨0, by omega, rfl, B5.out, hR5.out⟩
      case round =>
        obtain ⟨wo, rfl⟩ : ∃ wo, wo = wr := ⟨wr, rfl⟩
        obtain ⟨k, hk, rfl, bo, hRo⟩ := hrel
        clear B5 hR5
        by_cases hlt : k < n ∧ k < 64
        · obtain ⟨hl1, hl2⟩ := hlt
          have i1 : (0 : Int) ≤ (k : Int) := by omega
          have i2 : (k : Int) < (n : Int) := by omega
          have q1 : decide ((k : Int) < (n : Int)) = true := decide_eq_true i2
          have q2 : decide ((k : Int) < 64) = true := decide_eq_true (by omega)
          obtain ⟨b, off, rfl, hbl, hc⟩ : ∃ b off, ao = some ⟨b, off, none⟩ ∧ b < w.heap.size ∧ w.cell? ⟨b, off + k, none⟩ = some (.int .u32 (wAt l k)) := by
            rcases hW'.out with h0 | ⟨b, off, h1, h2, h3⟩
            · have := hn.out; rw [h0] at this; simp at this; omega
            · exact ⟨b, off, h1, h2, h3 k hl1⟩
          obtain ⟨x, hx⟩ : ∃ x, wAt l k = x := ⟨_, rfl⟩
          have hxb := wAt_bd l k
          rw [hx] at hc hxb
          have hco : wo.cell? ⟨b, off + k, none⟩ = some (.int .u32 x) := by rw [bo.cell (p := ⟨b, off + k, none⟩) hbl]; exact hc
          have hal := aline_any x wo (hE'.out.later bo).tabs (pow10P_later hP'.out bo) hxb.1 (by omega)
          obtain ⟨LN, hLN⟩ : ∃ LN, strS (lineL x []) = LN := ⟨_, rfl⟩
          have hls := line_short x [] hxb.1 (by omega) (by simp)
          have hrl := read_line base x hxb.1 (by omega) (by omega)
          have hlz : LN.size ≤ 65536 := by rw [← hLN]; unfold strS; rw [ByteArray.size]; simp; omega
          rw [show (⟨(lineL x []).toArray⟩ : ByteArray) = LN from hLN] at hrl
          rw [hLN] at hal
          have hblo : b < wo.heap.size := Nat.lt_of_lt_of_le hbl bo.size
          replace hal := Lib.hid hal; replace bo := Lib.hid bo; replace hRo := Lib.hid hRo; replace hrl := Lib.hid hrl
          clear hx hLN hls hc
          go_wp2_with fail
          refine hal.out.mono ?_
          rintro e w6 ⟨b6, rfl⟩
          have B6 := bo.out.trans (b6.mono bo.out.size)
          have has6 := assemble_any LN base m w6 (hE'.out.later B6) (maxl_later hM'.out B6) (hT'.out.later B6) (by omega) nb
          rw [hrl.out] at has6
          have e6 : wordsR (.inl ([x], [])) = .inl (1, wi [x]) := rfl
          rw [e6] at has6
          have hR6 := (b6.block _ (Array.getElem?_eq_some_iff.1 hRo.out).1).trans hRo.out
          have hc6 : w6.cell? ⟨b, off + k, none⟩ = some (.int .u32 x) := by rw [b6.cell (p := ⟨b, off + k, none⟩) hblo]; exact hco
          have hbl6 : b < w6.heap.size := Nat.lt_of_lt_of_le hblo b6.size
          replace has6 := Lib.hid has6; replace B6 := Lib.hid B6; replace hR6 := Lib.hid hR6; replace b6 := Lib.hid b6
          clear hal e6 hco
          go_wp2_with fail
          refine has6.out.mono ?_
          rintro e w7 ⟨b7, v7, rfl, ho7⟩
          unfold fltV
          replace ho7 : OutW w7 w6.heap.size 22 1 v7 1 (wi [x]) := ho7
          have hR7 := (b7.block _ (Array.getElem?_eq_some_iff.1 hR6.out).1).trans hR6.out
          have hc7 : w7.cell? ⟨b, off + k, none⟩ = some (.int .u32 x) := by rw [b7.cell (p := ⟨b, off + k, none⟩) hbl6]; exact hc6
          obtain ⟨hR8, hB8, ⟨z0, z1, z2⟩, ⟨f0, f1, f2⟩, hoth⟩ := flt_set (.int .i64 0) (.int .i64 0) (.int .i64 0) hR7
          have hw3s : w.heap.size ≤ w3.heap.size := Nat.le_trans B2.out.size b3.out.size
          have B8 := (B6.out.trans (b7.mono B6.out.size)).trans (hB8 w.heap.size hw3s)
          obtain ⟨g, hgv, hgc, hgne⟩ : ∃ g, v7 = .slice (some ⟨g, 0, none⟩) 1 1 ∧ w7.cell? ⟨g, 0, none⟩ = some (.int .u32 x) ∧ g ≠ w3.heap.size := by
            rcases ho7.2 with ⟨_, h0⟩ | ⟨g, cur, h1, h2, h3, h4, h5, h6⟩
            · omega
            · refine ⟨g, h1, ?_, ?_⟩
              · rw [cell_of_row _ _ _ _ _ _ h4]
                have h7 : (wi [x])[0]? = some (.int .u32 x) := rfl
                rw [← h6, List.getElem?_take_of_lt (by omega)] at h7
                rw [← h7, Array.getElem?_toList]
              · intro e
                have := (Array.getElem?_eq_some_iff.1 hR6.out).1
                omega
          subst hgv
          obtain ⟨w8, hw8⟩ : ∃ w8, (((w7.setCell ⟨w3.heap.size, 0, none⟩ (.int .i64 0)).setCell ⟨w3.heap.size, 1, none⟩ (.int .i64 0)).setCell ⟨w3.heap.size, 2, none⟩ (.int .i64 0)) = w8 := ⟨_, rfl⟩
          rw [hw8] at hR8 B8 hoth
          have hbne : b ≠ w3.heap.size := by have := hw3s; omega
          have hc8 : w8.cell? ⟨b, off + k, none⟩ = some (.int .u32 x) := by
            unfold World.cell?; rw [hoth b hbne]; exact hc7
          have hg8 : w8.cell? ⟨g, 0, none⟩ = some (.int .u32 x) := by
            unfold World.cell?; rw [hoth g hgne]; exact hgc
          have z8 : w8.cell? ⟨w3.heap.size, 0, none⟩ = some (.int .i64 0) := cell_of_row _ _ _ _ _ _ hR8
          replace B8 := Lib.hid B8; replace hR8 := Lib.hid hR8; replace hw8 := Lib.hid hw8; replace ho7 := Lib.hid ho7; replace hR7 := Lib.hid hR7; replace hoth := Lib.hid hoth; replace b7 := Lib.hid b7; replace hB8 := Lib.hid hB8
          clear has6 hc6 hc7 hgc
          go_upto_region 13 with fail
          rw [hw8.out]
          clear hw8 z0 z1 z2 f0 f1 f2
          go_quiet (fail)
          go_wp2_with fail
          go_roundw
          case rel => exact ⟨k + 1, by omega, by go_num, below_drewN' B8.out _, hR8.out⟩
          case measure => simp [intOf]; omega
        · by_cases hl1 : k < n
          · have i2 : (k : Int) < (n : Int) := by omega
            have q1 : decide ((k : Int) < (n : Int)) = true := decide_eq_true i2
            have q2 : decide ((k : Int) < 64) = false := decide_eq_false (by omega)
            replace bo := Lib.hid bo
            go_wp2_with fail
            go_ret
            exact ⟨rfl, bo.out⟩
          · have q1 : decide ((k : Int) < (n : Int)) = false := decide_eq_false (by omega)
            replace bo := Lib.hid bo
            go_wp2_with fail
            go_ret
            exact ⟨rfl, bo.out⟩
end Go.Proofs.YtiknookfnameiaaGreatDoor

namespace Go.Proofs.YtiknookfnameiaaGreatDoor
open Go.ChangeShapes Go.WideShapes Go.ChangeAt Go.RowKit Go.Joins Go.Deep
set_option maxRecDepth 100000
theorem gPowP : Tryz.prog.globalNamed "internal/strconv.uint64pow10" = some 5 := by kernel_rfl
theorem tPowP : (Tryz.prog.globals[5]?).map (·.type) = some 238 := by kernel_rfl
theorem cellsU64P : Tryz.prog.cellsOf 132 = 1 := by kernel_rfl
theorem cellsT20P : Tryz.prog.cellsOf 238 = 20 := by kernel_rfl
theorem pow10P_of {W : World} (h : Lib.VarReads Tryz.prog W "internal/strconv.uint64pow10" Rows.laid_internal_strconv_uint64pow10) : Pow10P W := by
  obtain ⟨g, t, cs, fuel, p, hg, ht, hv, hd⟩ := h
  obtain rfl := Option.some.inj (gPowP.symm.trans hg)
  obtain rfl := Option.some.inj (tPowP.symm.trans ht)
  have hc := Lib.cells_of_tab (zs := Lib.pow10Tab) Tryz.underlying238 Tryz.underlying132 cellsU64P cellsT20P hd
  unfold Pow10P Lib.TabIs
  rw [hv, ← hc]
theorem rtabs_of {W : World} (h1 : Lib.VarReads Tryz.prog W "warden/wardenref05.names" Rows.laid_warden_wardenref05_names) (h2 : Lib.VarReads Tryz.prog W "warden/wardenref05.shapes" Rows.laid_warden_wardenref05_shapes) (h3 : Lib.VarReads Tryz.prog W "warden/wardenref05.conds" Rows.laid_warden_wardenref05_conds) : RTabs W :=
  ⟨strs_of (n := 25) (t := 230) (by kernel_rfl) (by kernel_rfl) Tryz.underlying230 rfl h1, strs_of (n := 25) (t := 230) (by kernel_rfl) (by kernel_rfl) Tryz.underlying230 rfl h2, strs_of (n := 7) (t := 133) (by kernel_rfl) (by kernel_rfl) Tryz.underlying133 rfl h3⟩
end Go.Proofs.YtiknookfnameiaaGreatDoor
