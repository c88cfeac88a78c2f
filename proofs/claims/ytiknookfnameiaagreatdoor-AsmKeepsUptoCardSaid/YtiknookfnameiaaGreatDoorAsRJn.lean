/- The contract of asm's Print (printed by genAsR.py). -/
import Derived.Test.YtiknookfnameiaaGreatDoorJn44
import Derived.OwnWalk
namespace Go.Proofs
open Go.RowKit
namespace YtiknookfnameiaaGreatDoor
open WP
theorem infoBo : (Tryz.prog.info? 4).map (fun i => (i.zero, i.size, i.bytes)) = some (some (.bool false), 1, 1) := by kernel_rfl
theorem infoSt : (Tryz.prog.info? 9).map (fun i => (i.zero, i.size, i.bytes)) = some (some (.string ⟨#[]⟩), 1, 16) := by kernel_rfl
theorem strCells_strS (a : List UInt8) : Lib.strCells (strS a) = vb a := rfl
theorem strS_colon (a : List UInt8) : strS a ++ (⟨#[58, 10]⟩ : ByteArray) = strS (a ++ [58, 10]) := by
  apply ByteArray.ext; simp [strS]
theorem strS_nl (a : List UInt8) : strS a ++ (⟨#[10]⟩ : ByteArray) = strS (a ++ [10]) := by
  apply ByteArray.ext; simp [strS]
/-- the words that came in, each at its cell -/
def WordsIn (w : World) (ao : Option Addr) (l : List UInt32) (n : Nat) : Prop :=
  ∀ i, i < n → ∃ b off, ao = some ⟨b, off, none⟩ ∧ b < w.heap.size ∧ w.cell? ⟨b, off + i, none⟩ = some (.int .u32 (wAt l i))
theorem words_in {w : World} {v : Value} {l : List UInt32} {n : Nat} (h : Rd w v (vw l)) (hn : l.length = n) : ∃ ao cap, v = .slice ao n cap ∧ WordsIn w ao l n := by
  obtain ⟨ao, cap, rfl, n1, n2, hcs⟩ := h.words
  refine ⟨ao, cap, by rw [hn], ?_⟩
  intro i hi
  rcases hcs with rfl | ⟨b, off, rfl, hb, hc⟩
  · rw [← hn] at hi; cases hi
  · exact ⟨b, off, rfl, hb, hc i (by rw [hn]; exact hi)⟩
theorem below_size {C : Nat} {w w' : World} (h : Below C w w') (e : w.heap.size = C) : C ≤ w'.heap.size := by rw [← e]; exact h.size
theorem below_at {C : Nat} {w w' : World} (h : Below C w w') (e : w.heap.size = C) : Below w.heap.size w w' := by rw [e]; exact h
set_option maxRecDepth 100000 in
set_option maxHeartbeats 8000000 in
theorem print_any (v : Value) (l : List UInt32) (base : Int) (w : World) (hT : Tabs w) (hP : Pow10P w) (hv : Rd w v (vw l)) (hn : l.length ≤ 2048) :
    Calls Tryz.prog 19 #[v, .int .u32 base] w fun e w' => Below w.heap.size w w' ∧ e = .returned (.tuple #[.string (strS (printL l (l.length + 1))), .int .i64 0]) := by
  obtain ⟨ib, hib, hzb0, hzb1, hzb2⟩ := info_parts infoBo
  obtain ⟨is, his, hzs0, hzs1, hzs2⟩ := info_parts infoSt
  have hBd := fun k hk => print_len l k hk hn
  have hLb := fun i => lab_len l i hn
  have hN0 := namedL_zero l
  have hNno := namedL_no l
  have hNyes := namedL_yes l
  have hNlen := namedL_len l
  have hpc := fun k => printL_succ l k
  have hpd : ∀ i, pieceL l i = (if (namedL l l.length).getD i false then nmAt (namedL l l.length) i ++ [58, 10] else []) ++ (if i < l.length then lineL (wAt l i) (labL (namedL l l.length) (tgtO (wAt l i) i l.length)) ++ [10] else []) := fun _ => rfl
  obtain ⟨n, hnn⟩ : ∃ n, l.length = n := ⟨_, rfl⟩
  obtain ⟨ao, cap, rfl, hW⟩ := words_in hv hnn
  clear hv
  simp only [hnn] at hBd hLb hN0 hNno hNyes hNlen hpd hn ⊢
  clear hnn
  obtain ⟨B, hB⟩ : ∃ B, namedL l n = B := ⟨_, rfl⟩
  rw [hB] at hLb hpd
  have hBl : B.length = n + 1 := by rw [← hB]; exact hNlen n
  obtain ⟨R, hR⟩ : ∃ R, strS (printL l (n + 1)) = R := ⟨_, rfl⟩
  rw [hR]
  obtain ⟨C, hC⟩ : ∃ C, w.heap.size = C := ⟨_, rfl⟩
  rw [hC]
  replace hB := Lib.hid hB; replace hBl := Lib.hid hBl; replace hR := Lib.hid hR; replace hW := Lib.hid hW; replace hBd := Lib.hid hBd; replace hLb := Lib.hid hLb; replace hN0 := Lib.hid hN0; replace hNno := Lib.hid hNno; replace hNyes := Lib.hid hNyes; replace hNlen := Lib.hid hNlen; replace hpd := Lib.hid hpd; replace hpc := Lib.hid hpc; replace hC := Lib.hid hC
  have d0 : decide ((n : Int) > 2048) = false := decide_eq_false (by omega)
  go_enter Tryz.func19, Tryz.ntmps19
  go_wp2_with (at_make; refine wpList_make_full _ rfl _ _ 96 rfl w.heap.size 4 ib (.bool false) 1 Tryz.underlying96 hib hzb0 hzb1 .i64 .i64 _ _ (n + 1) rfl rfl ?m0 ?m4 ?m1 ?m2 ?m3 ?_)
  case m0 => omega
  case m4 => omega
  case m1 => rw [hzb2]; omega
  case m2 => simp only [maxLen]; omega
  case m3 => exact Nat.le_refl _
  rw [hC.out]
  intro w1 ho1 hg1
  have hb1 : Below C w w1 := (Below.refl C w).grown hg1 (by rw [hC.out]; exact Nat.le_refl _) (by simp)
  have hr1 : w1.ownsRow C 4 1 (.slice (some ⟨C, 0, none⟩) (n + 1) (n + 1)) (n + 1) ((namedL l 0).map Value.bool) := by
    rw [hN0.out, bools_zero, ← toList_madeCells_one]
    exact ho1
  clear ho1 hg1
  replace hb1 := Lib.hid hb1; replace hr1 := Lib.hid hr1
  go_wp2_with fail
  go_loopw [28] (fun i wl => ∃ k : Nat, k ≤ n ∧ i = .int .i64 k ∧ wl.ownsRow C 4 1 (.slice (some ⟨C, 0, none⟩) (n + 1) (n + 1)) (n + 1) ((namedL l k).map Value.bool) ∧ Below C w wl) (fun i _ => n - (intOf i).toNat)
  case atStart => exact ⟨0, by omega, rfl, hr1.out, hb1.out⟩
  case round =>
    obtain ⟨wo, rfl⟩ : ∃ wo, wo = wr := ⟨wr, rfl⟩
    obtain ⟨k, hk, rfl, hro, hbo⟩ := hrel
    clear hr1 hb1
    have hso := below_size hbo hC.out
    by_cases hlt : k < n
    · obtain ⟨b, off, rfl, hbl, hc⟩ := hW.out k hlt
      have hcell : wo.cell? ⟨b, off + k, none⟩ = some (.int .u32 (wAt l k)) := by rw [hbo.cell (p := ⟨b, off + k, none⟩) (by rw [← hC.out]; exact hbl)]; exact hc
      have hwb := wAt_bd l k
      have htc := fun W hW => target_any (wAt l k) k n W hW hwb.1 hwb.2 (by omega) (by omega)
      have hTo := Lib.hid (hT.later (below_at hbo hC.out))
      have i1 : (0 : Int) ≤ (k : Int) := by omega
      have i2 : (k : Int) < (n : Int) := by omega
      cases hO : tgtO (wAt l k) k n with
      | none =>
        have hnx := hNno.out k hO
        rw [hO] at htc
        obtain ⟨x, hx⟩ : ∃ x, wAt l k = x := ⟨_, rfl⟩
        rw [hx] at hcell htc hwb
        clear hc hx hO
        replace htc := Lib.hid htc; replace hnx := Lib.hid hnx; replace hro := Lib.hid hro; replace hbo := Lib.hid hbo
        go_wp2_with (go_at_call 32; refine (htc.out _ hTo.out).mono ?_; rintro e w2 ⟨hb2, rfl⟩; have hr2 := Lib.hid (own_belowI hro.out hb2); have hbA := Lib.hid (hbo.out.trans (hb2.mono hso)); clear hb2)
        go_roundw
        case rel => exact ⟨k + 1, by omega, by go_num, by rw [hnx.out]; exact hr2.out, hbA.out⟩
        case measure => simp only [intOf]; omega
      | some t =>
        have hnx := hNyes.out k t hO
        have htl := tgtO_le hO
        have htv := tgt_yes hO
        rw [hO, htv] at htc
        obtain ⟨x, hx⟩ : ∃ x, wAt l k = x := ⟨_, rfl⟩
        rw [hx] at hcell htc hwb
        have hgt := bools_get (namedL l k) t (by rw [hNlen.out]; omega)
        obtain ⟨bv, hbv⟩ : ∃ bv, (namedL l k).getD t false = bv := ⟨_, rfl⟩
        rw [hbv] at hgt
        have t1 : (0 : Int) ≤ (t : Int) := by omega
        have t2 : (t : Int) < (n : Int) + 1 := by omega
        clear hc hx hO htv hbv
        replace htc := Lib.hid htc; replace hnx := Lib.hid hnx; replace hro := Lib.hid hro; replace hbo := Lib.hid hbo; replace hgt := Lib.hid hgt
        go_wp2_with (go_at_call 32; refine (htc.out _ hTo.out).mono ?_; rintro e w2 ⟨hb2, rfl⟩; have hr2 := own_belowI hro.out hb2; have hbA := Lib.hid (hbo.out.trans (hb2.mono hso)); have hcA : w2.cell? ⟨C, t, none⟩ = some (.bool bv) := (hr2.cellAt t (by omega)).trans hgt.out; have hfA := hr2.frozenAt t; have hst := Lib.hid (hr2.stored t (.bool true)); clear hb2; replace hr2 := Lib.hid hr2)
        have hfin : (w2.setCell ⟨C, t, none⟩ (.bool true)).ownsRow C 4 1 (.slice (some ⟨C, 0, none⟩) (n + 1) (n + 1)) (n + 1) ((namedL l (k + 1)).map Value.bool) := by
          rw [hnx.out, ← bools_set]; exact hst.out.1
        have hbf : Below C w (w2.setCell ⟨C, t, none⟩ (.bool true)) := hbA.out.setCell (Nat.le_refl _) _
        replace hfin := Lib.hid hfin; replace hbf := Lib.hid hbf
        go_roundw
        case rel => exact ⟨k + 1, by omega, by go_num, hfin.out, hbf.out⟩
        case measure => simp only [intOf]; omega
    · obtain rfl : k = n := by omega
      rw [hB.out] at hro
      clear hlt
      replace hro := Lib.hid hro; replace hbo := Lib.hid hbo
      go_wp2_with (at_make; refine wpList_make_full _ rfl _ _ 99 rfl wo.heap.size 9 is (.string ⟨#[]⟩) 1 Tryz.underlying99 his hzs0 hzs1 .i64 .i64 _ _ (k + 1) rfl rfl ?p0 ?p4 ?p1 ?p2 ?p3 ?_)
      case p0 => omega
      case p4 => omega
      case p1 => rw [hzs2]; omega
      case p2 => simp only [maxLen]; omega
      case p3 => exact Nat.le_refl _
      intro w3 ho3 hg3
      obtain ⟨E, hE⟩ : ∃ E, wo.heap.size = E := ⟨_, rfl⟩
      have hr3 : w3.ownsRow E 9 1 (.slice (some ⟨E, 0, none⟩) (k + 1) (k + 1)) (k + 1) (nmK B (k + 1) 0) := by
        rw [nmK_zero, ← toList_madeCells_one]
        rw [hE] at ho3
        exact ho3
      rw [hE]
      have hCE : C < E := by rw [← hE]; exact (hro.out.lt C rfl).2
      have hb3 : Below C w w3 := hbo.out.grown hg3 hso (by simp)
      have hq3 : w3.ownsRow C 4 1 (.slice (some ⟨C, 0, none⟩) (k + 1) (k + 1)) (k + 1) (B.map Value.bool) := own_same hro.out (fun g hg => by
        simp only [Value.ownBlock, Option.some.injEq] at hg
        exact hg3.block g (by omega) (by simp))
      clear ho3 hg3 hro hbo
      replace hr3 := Lib.hid hr3; replace hq3 := Lib.hid hq3; replace hb3 := Lib.hid hb3; replace hE := Lib.hid hE
      go_wp2_with fail
      go_loopw [12, 52] (fun c i wl => ∃ j : Nat, j ≤ k + 1 ∧ i = .int .i64 j ∧ c = .int .i64 (((B.take j).count true : Nat) : Int) ∧ wl.ownsRow E 9 1 (.slice (some ⟨E, 0, none⟩) (k + 1) (k + 1)) (k + 1) (nmK B (k + 1) j) ∧ wl.ownsRow C 4 1 (.slice (some ⟨C, 0, none⟩) (k + 1) (k + 1)) (k + 1) (B.map Value.bool) ∧ Below C w wl) (fun _ i _ => k + 1 - (intOf i).toNat)
      case atStart => exact ⟨0, by omega, rfl, by simp, hr3.out, hq3.out, hb3.out⟩
      case round =>
        obtain ⟨wp, rfl⟩ : ∃ wp, wp = wr := ⟨wr, rfl⟩
        obtain ⟨j, hj, rfl, rfl, hrp, hqp, hbp⟩ := hrel
        clear hr3 hq3 hb3
        have hsp := below_size hbp hC.out
        have hlE := (hrp.lt E rfl).2
        by_cases hlt : j < k + 1
        · have hgB := bools_get B j (by rw [hBl.out]; exact hlt)
          have hcs := count_step B j (by rw [hBl.out]; exact hlt)
          have hcl := count_le B j
          have hcq : wp.cell? ⟨C, j, none⟩ = some (.bool (B.getD j false)) := (hqp.cellAt j (by omega)).trans hgB
          have i1 : (0 : Int) ≤ (j : Int) := by omega
          have i2 : (j : Int) < (k : Int) + 1 := by omega
          obtain ⟨c, hc⟩ : ∃ c, (B.take j).count true = c := ⟨_, rfl⟩
          rw [hc] at hcl hcs ⊢
          rcases hBj : B.getD j false with _ | _
          · rw [hBj] at hcq hcs
            rw [if_neg (by simp)] at hcs
            have hsk := nmK_skip B (k + 1) j hBj
            clear hBj hgB hc
            replace hcs := Lib.hid hcs; replace hsk := Lib.hid hsk; replace hrp := Lib.hid hrp; replace hqp := Lib.hid hqp; replace hbp := Lib.hid hbp
            go_wp2_with fail
            go_roundw
            case rel => exact ⟨j + 1, by omega, by go_num, by rw [hcs.out]; rfl, by rw [hsk.out]; exact hrp.out, hqp.out, hbp.out⟩
            case measure => simp only [intOf]; omega
          · rw [hBj] at hcq hcs
            rw [if_pos rfl] at hcs
            have hnm := nm_yes B j hBj
            rw [hc] at hnm
            have hst0 := nmK_step B (k + 1) j
            have hic : ∀ W, Pow10P W → Calls Tryz.prog 33 #[.int .i64 c] W fun e w' => e = .returned (.string (strS (Lib.decDigits c))) ∧ Below W.heap.size W w' := by
              intro W hW
              have := itoa_any c W (by omega) (by omega) hW
              unfold Lib.itoa at this
              rw [if_neg (by omega)] at this
              exact this
            have hz2 : (strS (Lib.decDigits c)).size ≤ 10 := by rw [strS_size]; exact (decP_len c (by omega)).2
            have hcat := strS_cons 108 (Lib.decDigits c)
            rw [← hnm] at hcat
            obtain ⟨DD, hDD⟩ : ∃ DD, strS (Lib.decDigits c) = DD := ⟨_, rfl⟩
            rw [hDD] at hic hz2 hcat
            rw [← hcat] at hst0
            have hP1 := Lib.hid (pow10P_later hP (below_at hbp hC.out))
            have hgN := nmK_get B (k + 1) j j hlt
            rw [if_neg (by omega)] at hgN
            clear hBj hgB hc hnm hDD hcat
            replace hic := Lib.hid hic; replace hst0 := Lib.hid hst0; replace hgN := Lib.hid hgN
            replace hcs := Lib.hid hcs; replace hrp := Lib.hid hrp; replace hqp := Lib.hid hqp; replace hbp := Lib.hid hbp
            go_wp2_with (go_at_call 33; refine (hic.out _ hP1.out).mono ?_; rintro e w5 ⟨rfl, hb5⟩; have hr5 := own_belowI hrp.out hb5; have hq5 := Lib.hid (own_belowI hqp.out hb5); have hbA := Lib.hid (hbp.out.trans (hb5.mono hsp)); have hcA : w5.cell? ⟨E, j, none⟩ = some (.string (strS [])) := (hr5.cellAt j (by omega)).trans hgN.out; have hfA := hr5.frozenAt j; have hs5 := hb5.size; have hst := Lib.hid (hr5.stored j (.string (⟨#[108]⟩ ++ DD))); clear hb5; replace hr5 := Lib.hid hr5)
            have hfin : (w5.setCell ⟨E, j, none⟩ (.string (⟨#[108]⟩ ++ DD))).ownsRow E 9 1 (.slice (some ⟨E, 0, none⟩) (k + 1) (k + 1)) (k + 1) (nmK B (k + 1) (j + 1)) := by
              rw [← hst0.out]; exact hst.out.1
            have hqf : (w5.setCell ⟨E, j, none⟩ (.string (⟨#[108]⟩ ++ DD))).ownsRow C 4 1 (.slice (some ⟨C, 0, none⟩) (k + 1) (k + 1)) (k + 1) (B.map Value.bool) := own_same hq5.out (fun g hg => by
              simp only [Value.ownBlock, Option.some.injEq] at hg
              exact hst.out.2.block g (by omega) (by simp; omega))
            have hbf : Below C w (w5.setCell ⟨E, j, none⟩ (.string (⟨#[108]⟩ ++ DD))) := hbA.out.setCell (by show C ≤ E; omega) _
            clear hst hcA hfA
            replace hfin := Lib.hid hfin; replace hbf := Lib.hid hbf; replace hqf := Lib.hid hqf
            go_wp2_with fail
            go_roundw
            case rel => exact ⟨j + 1, by omega, by go_num, by rw [hcs.out]; go_num, hfin.out, hqf.out, hbf.out⟩
            case measure => simp only [intOf]; omega
        · have hje : j = k + 1 := by omega
          rw [hje] at hrp
          obtain ⟨cc, hcc⟩ : ∃ c, (B.take j).count true = c := ⟨_, rfl⟩
          rw [hcc]
          clear hcc
          replace hje := Lib.hid hje
          obtain ⟨F, hF⟩ : ∃ F, wp.heap.size = F := ⟨_, rfl⟩
          have hB0 := Lib.fresh_isBuilder 103 5 wp
          rw [hF] at hB0 hlE
          have hrF : (wp.alloc (.cells #[.pointer none, .slice none 0 0] 103)).ownsRow E 9 1 (.slice (some ⟨E, 0, none⟩) (k + 1) (k + 1)) (k + 1) (nmK B (k + 1) (k + 1)) := hrp.alloc _
          have hbF : Below C w (wp.alloc (.cells #[.pointer none, .slice none 0 0] 103)) := hbp.alloc hsp _
          have hsF : (wp.alloc (.cells #[.pointer none, .slice none 0 0] 103)).heap.size = F + 1 := by rw [← hF]; simp
          obtain ⟨wz, hwz⟩ : ∃ wz, wp.alloc (.cells #[.pointer none, .slice none 0 0] 103) = wz := ⟨_, rfl⟩
          rw [hwz] at hB0 hrF hbF hsF
          clear hrp hqp hbp
          replace hB0 := Lib.hid hB0; replace hrF := Lib.hid hrF; replace hbF := Lib.hid hbF; replace hF := Lib.hid hF; replace hwz := Lib.hid hwz
          go_upto_region 21 with fail
          rw [hF.out, hwz.out]
          go_wp2_with fail
          go_loopw [70] (fun i wl => ∃ j : Nat, j ≤ k ∧ i = .int .i64 j ∧ wl.ownsRow E 9 1 (.slice (some ⟨E, 0, none⟩) (k + 1) (k + 1)) (k + 1) (nmK B (k + 1) (k + 1)) ∧ Lib.IsBuilder 103 5 F F (vb (printL l j)) wl ∧ Below C w wl ∧ F < wl.heap.size) (fun i _ => k + 1 - (intOf i).toNat)
          case atStart => exact ⟨0, by omega, rfl, hrF.out, hB0.out, hbF.out, by omega⟩
          case round =>
            obtain ⟨wq, rfl⟩ : ∃ wq, wq = wr := ⟨wr, rfl⟩
            obtain ⟨j, hj, rfl, hrq, hBq, hbq, hsq⟩ := hrel
            clear hrF hB0 hbF hsF
            have hsC := below_size hbq hC.out
            have hnj : wq.cell? ⟨E, j, none⟩ = some (.string (strS (nmAt B j))) := (hrq.cellAt j (by omega)).trans (nmK_full B (k + 1) j (by omega))
            have hnl := nm_len B j (by omega)
            have hpl := hBd.out j (by omega)
            have hpcj := hpc.out j
            have hpdj := hpd.out j
            have i1 : (0 : Int) ≤ (j : Int) := by omega
            have i2 : (j : Int) < (k : Int) + 1 := by omega
            rcases hBj : B.getD j false with _ | _
            · rw [hBj, if_neg (by simp)] at hpdj
              rw [nm_no B j hBj] at hnj
              have hQl : (printL l j).length ≤ 400 * j + 13 := by omega
              obtain ⟨P4, hP4⟩ : ∃ P4, printL l j = P4 := ⟨_, rfl⟩
              rw [hpdj, ← List.append_assoc, List.append_nil, hP4] at hpcj
              rw [hP4] at hQl hBq
              have s1 : (strS []).toList.isEmpty = true := by rw [strS_emp]; rfl
              have s2 : strS [] = (⟨#[]⟩ : ByteArray) := rfl
              rw [s2] at hnj
              clear hP4 hBj hnl hpdj s1 s2
              have hs4 := hsq
              replace hpcj := Lib.hid hpcj
              have hr4 := Lib.hid hrq; have hB4 := Lib.hid hBq; have hb4 := Lib.hid hbq
              clear hrq hBq hbq
              obtain ⟨w4, hw4⟩ : ∃ w4, w4 = wq := ⟨_, rfl⟩
              subst hw4
              go_upto_region 26 with fail
              by_cases hjk : j = k
              · have hlast := hpcj.out
                rw [if_neg (by omega), List.append_nil] at hlast
                have hRv : strS P4 = R := by rw [← hR.out, ← hlast, hjk]
                have dj : ((j : Int) == (k : Int)) = true := by simp [hjk]
                clear hlast hjk
                replace hRv := Lib.hid hRv
                go_wp2_with (go_at_call 36; refine (str_any F F _ _ hB4.out (by omega)).mono ?_; rintro e w6 ⟨rfl, b6⟩; have hb6 := Lib.hid (hb4.out.trans (b6.mono (by omega))); clear b6)
                refine bodyPost_ret (v := .tuple #[.string R, .int .i64 0]) (by rw [← hRv.out]; simp [results, Tryz.results19, go_sem]; rfl) rfl ⟨hb6.out, rfl⟩
              · have dj : ((j : Int) == (k : Int)) = false := by rw [beq_eq_false_iff_ne]; omega
                have hjl : j < k := by omega
                have hnext := hpcj.out
                rw [if_pos hjl] at hnext
                obtain ⟨b, off, rfl, hbl, hc⟩ := hW.out j hjl
                have hcell : w4.cell? ⟨b, off + j, none⟩ = some (.int .u32 (wAt l j)) := by rw [hb4.out.cell (p := ⟨b, off + j, none⟩) (by rw [← hC.out]; exact hbl)]; exact hc
                have hwb := wAt_bd l j
                have htc := fun W hW => target_any (wAt l j) j k W hW hwb.1 hwb.2 (by omega) (by omega)
                have hTo := Lib.hid (hT.later (below_at hb4.out hC.out))
                have hs4C := below_size hb4.out hC.out
                have hlb := hLb.out j
                have i2k : (j : Int) < (k : Int) := by omega
                clear hpcj
                cases hO : tgtO (wAt l j) j k with
                | none =>
                  rw [hO] at htc
                  rw [hO] at hnext hlb
                  have hlab : labL B none = [] := rfl
                  rw [hlab] at hnext hlb
                  have hLS : strS ([] : List UInt8) = (⟨#[]⟩ : ByteArray) := rfl
                  clear hlab
                  have hll := line_len (wAt l j) ([] : List UInt8) hwb.1 hwb.2 hlb
                  have hlc := fun W hW1 hW2 => lineP_any (wAt l j) ([] : List UInt8) W hW1 hW2 hwb.1 hwb.2 hlb
                  rw [hLS] at hlc
                  clear hLS
                  have hcat2 : vb P4 ++ Lib.strCells (strS (lineL (wAt l j) ([] : List UInt8)) ++ (⟨#[10]⟩ : ByteArray)) = vb (printL l (j + 1)) := by
                    rw [strS_nl, strCells_strS, ← vb_append, hnext]
                  have hz5 : (strS (lineL (wAt l j) ([] : List UInt8))).size ≤ 300 := by rw [strS_size]; exact hll
                  have hz6 : (strS (lineL (wAt l j) ([] : List UInt8)) ++ (⟨#[10]⟩ : ByteArray)).size ≤ 301 := by rw [strS_nl, strS_size]; simp; omega
                  obtain ⟨LN, hLN⟩ : ∃ LN, strS (lineL (wAt l j) ([] : List UInt8)) = LN := ⟨_, rfl⟩
                  rw [hLN] at hcat2 hz5 hz6
                  simp only [hLN] at hlc
                  have hlen2 : (vb P4).length + (LN ++ (⟨#[10]⟩ : ByteArray)).size ≤ 140737488355328 := by rw [length_vb]; omega
                  obtain ⟨x, hx⟩ : ∃ x, wAt l j = x := ⟨_, rfl⟩
                  rw [hx] at hcell htc hwb
                  simp only [hx] at hlc
                  clear hc hx hO hLN hz6 hnext hll hlb
                  replace htc := Lib.hid htc; replace hlc := Lib.hid hlc; replace hcat2 := Lib.hid hcat2; replace hlen2 := Lib.hid hlen2
                  go_wp2_with (first
                    | (go_at_call 32; refine (htc.out _ hTo.out).mono ?_; rintro e w7 ⟨b7, rfl⟩; have hcell7 : w7.cell? ⟨b, off + j, none⟩ = some (.int .u32 x) := (b7.cell (p := ⟨b, off + j, none⟩) (by rw [hC.out] at hbl; show b < _; omega)).trans hcell; have hb7 := Lib.hid (hb4.out.trans (b7.mono hs4C)); have hr7 := own_belowI hr4.out b7; have hB7 := Lib.hid (isb_later hB4.out b7); have hs7 := b7.size; have hT7 := Lib.hid (hT.later (below_at hb7.out hC.out)); have hP7 := Lib.hid (pow10P_later hP (below_at hb7.out hC.out)); clear b7; replace hr7 := Lib.hid hr7)
                    | (go_at_call 35; refine (hlc.out _ hT7.out hP7.out).mono ?_; rintro e w8 ⟨b8, rfl⟩; have hb8 := Lib.hid (hb7.out.trans (b8.mono (below_size hb7.out hC.out))); have hr8 := Lib.hid (own_belowI hr7.out b8); have hB8 := Lib.hid (isb_later hB7.out b8); have hs8 := b8.size; clear b8)
                    | (go_at_call 34; refine (ws_any F F _ _ _ hB8.out hlen2.out (by omega)).mono ?_; rintro e w9 ⟨rfl, hB9, b9⟩; rw [hcat2.out] at hB9; have hb9 := Lib.hid (hb8.out.trans (b9.mono (by omega))); have hs9 := b9.size; have hr9 := Lib.hid (own_same hr8.out (fun g hg => by simp only [Value.ownBlock, Option.some.injEq] at hg; exact b9.block g (by omega))); replace hB9 := Lib.hid (show Lib.IsBuilder 103 5 F F (vb (printL l (j + 1))) w9 from .inr hB9); clear b9))
                  go_roundw
                  case rel => exact ⟨j + 1, by omega, by go_num, hr9.out, hB9.out, hb9.out, by omega⟩
                  case measure => simp only [intOf]; omega
                | some t =>
                  have htl := tgtO_le hO
                  have htv := tgt_yes hO
                  rw [hO, htv] at htc
                  rw [hO] at hnext hlb
                  have hlab : labL B (some t) = nmAt B t := rfl
                  rw [hlab] at hnext hlb
                  obtain ⟨LB, hLB⟩ : ∃ LB, nmAt B t = LB := ⟨_, rfl⟩
                  have hnt := nmK_full B (k + 1) t (by omega)
                  rw [hLB] at hnext hlb hnt
                  have t1 : (0 : Int) ≤ (t : Int) := by omega
                  have t2 : (t : Int) < (k : Int) + 1 := by omega
                  clear hLB hlab htv
                  replace hnt := Lib.hid hnt
                  have hll := line_len (wAt l j) LB hwb.1 hwb.2 hlb
                  have hlc := fun W hW1 hW2 => lineP_any (wAt l j) LB W hW1 hW2 hwb.1 hwb.2 hlb
                  have hcat2 : vb P4 ++ Lib.strCells (strS (lineL (wAt l j) LB) ++ (⟨#[10]⟩ : ByteArray)) = vb (printL l (j + 1)) := by
                    rw [strS_nl, strCells_strS, ← vb_append, hnext]
                  have hz5 : (strS (lineL (wAt l j) LB)).size ≤ 300 := by rw [strS_size]; exact hll
                  have hz6 : (strS (lineL (wAt l j) LB) ++ (⟨#[10]⟩ : ByteArray)).size ≤ 301 := by rw [strS_nl, strS_size]; simp; omega
                  obtain ⟨LN, hLN⟩ : ∃ LN, strS (lineL (wAt l j) LB) = LN := ⟨_, rfl⟩
                  rw [hLN] at hcat2 hz5 hz6
                  simp only [hLN] at hlc
                  have hlen2 : (vb P4).length + (LN ++ (⟨#[10]⟩ : ByteArray)).size ≤ 140737488355328 := by rw [length_vb]; omega
                  obtain ⟨x, hx⟩ : ∃ x, wAt l j = x := ⟨_, rfl⟩
                  rw [hx] at hcell htc hwb
                  simp only [hx] at hlc
                  clear hc hx hO hLN hz6 hnext hll hlb
                  replace htc := Lib.hid htc; replace hlc := Lib.hid hlc; replace hcat2 := Lib.hid hcat2; replace hlen2 := Lib.hid hlen2
                  go_wp2_with (first
                    | (go_at_call 32; refine (htc.out _ hTo.out).mono ?_; rintro e w7 ⟨b7, rfl⟩; have hcell7 : w7.cell? ⟨b, off + j, none⟩ = some (.int .u32 x) := (b7.cell (p := ⟨b, off + j, none⟩) (by rw [hC.out] at hbl; show b < _; omega)).trans hcell; have hb7 := Lib.hid (hb4.out.trans (b7.mono hs4C)); have hr7 := own_belowI hr4.out b7; have hB7 := Lib.hid (isb_later hB4.out b7); have hs7 := b7.size; have hT7 := Lib.hid (hT.later (below_at hb7.out hC.out)); have hP7 := Lib.hid (pow10P_later hP (below_at hb7.out hC.out)); have hnt7 : w7.cell? ⟨E, t, none⟩ = some (.string (strS LB)) := (hr7.cellAt t (by omega)).trans hnt.out; clear b7; replace hr7 := Lib.hid hr7)
                    | (go_at_call 35; refine (hlc.out _ hT7.out hP7.out).mono ?_; rintro e w8 ⟨b8, rfl⟩; have hb8 := Lib.hid (hb7.out.trans (b8.mono (below_size hb7.out hC.out))); have hr8 := Lib.hid (own_belowI hr7.out b8); have hB8 := Lib.hid (isb_later hB7.out b8); have hs8 := b8.size; clear b8)
                    | (go_at_call 34; refine (ws_any F F _ _ _ hB8.out hlen2.out (by omega)).mono ?_; rintro e w9 ⟨rfl, hB9, b9⟩; rw [hcat2.out] at hB9; have hb9 := Lib.hid (hb8.out.trans (b9.mono (by omega))); have hs9 := b9.size; have hr9 := Lib.hid (own_same hr8.out (fun g hg => by simp only [Value.ownBlock, Option.some.injEq] at hg; exact b9.block g (by omega))); replace hB9 := Lib.hid (show Lib.IsBuilder 103 5 F F (vb (printL l (j + 1))) w9 from .inr hB9); clear b9))
                  go_roundw
                  case rel => exact ⟨j + 1, by omega, by go_num, hr9.out, hB9.out, hb9.out, by omega⟩
                  case measure => simp only [intOf]; omega
            · rw [hBj, if_pos rfl] at hpdj
              have s1 : (strS (nmAt B j)).toList.isEmpty = false := by rw [strS_emp, nm_yes B j hBj]; rfl
              have hcat : vb (printL l j) ++ Lib.strCells (strS (nmAt B j) ++ (⟨#[58, 10]⟩ : ByteArray)) = vb (printL l j ++ (nmAt B j ++ [58, 10])) := by
                rw [strS_colon, strCells_strS, ← vb_append]
              have hz1 : (strS (nmAt B j)).size ≤ 11 := by rw [strS_size]; exact hnl
              have hz3 : (strS (nmAt B j) ++ (⟨#[58, 10]⟩ : ByteArray)).size ≤ 13 := by rw [strS_colon, strS_size]; simp; omega
              have hQl : (printL l j ++ (nmAt B j ++ [58, 10])).length ≤ 400 * j + 13 := by simp; omega
              obtain ⟨P4, hP4⟩ : ∃ P4, printL l j ++ (nmAt B j ++ [58, 10]) = P4 := ⟨_, rfl⟩
              rw [hpdj, ← List.append_assoc, hP4] at hpcj
              rw [hP4] at hcat hQl
              obtain ⟨NJ, hNJ⟩ : ∃ NJ, strS (nmAt B j) = NJ := ⟨_, rfl⟩
              rw [hNJ] at s1 hcat hnj hz1 hz3
              clear hP4 hNJ hBj hnl hpdj
              have hlen1 : (vb (printL l j)).length + (NJ ++ (⟨#[58, 10]⟩ : ByteArray)).size ≤ 140737488355328 := by rw [length_vb]; omega
              clear hz3
              replace hpcj := Lib.hid hpcj; replace hcat := Lib.hid hcat; replace hrq := Lib.hid hrq; replace hBq := Lib.hid hBq; replace hbq := Lib.hid hbq; replace hlen1 := Lib.hid hlen1
              go_upto_region 26 with (go_at_call 34; refine (ws_any F F _ _ _ hBq.out hlen1.out (by omega)).mono ?_; rintro e w4 ⟨rfl, hB4, b4⟩; rw [hcat.out] at hB4; have hb4 := Lib.hid (hbq.out.trans (b4.mono (by omega))); have hs4 := b4.size; have hr4 := Lib.hid (own_same hrq.out (fun g hg => by simp only [Value.ownBlock, Option.some.injEq] at hg; exact b4.block g (by omega))); replace hB4 := Lib.hid (show Lib.IsBuilder 103 5 F F (vb P4) w4 from .inr hB4); clear b4)
              by_cases hjk : j = k
              · have hlast := hpcj.out
                rw [if_neg (by omega), List.append_nil] at hlast
                have hRv : strS P4 = R := by rw [← hR.out, ← hlast, hjk]
                have dj : ((j : Int) == (k : Int)) = true := by simp [hjk]
                clear hlast hjk
                replace hRv := Lib.hid hRv
                go_wp2_with (go_at_call 36; refine (str_any F F _ _ hB4.out (by omega)).mono ?_; rintro e w6 ⟨rfl, b6⟩; have hb6 := Lib.hid (hb4.out.trans (b6.mono (by omega))); clear b6)
                refine bodyPost_ret (v := .tuple #[.string R, .int .i64 0]) (by rw [← hRv.out]; simp [results, Tryz.results19, go_sem]; rfl) rfl ⟨hb6.out, rfl⟩
              · have dj : ((j : Int) == (k : Int)) = false := by rw [beq_eq_false_iff_ne]; omega
                have hjl : j < k := by omega
                have hnext := hpcj.out
                rw [if_pos hjl] at hnext
                obtain ⟨b, off, rfl, hbl, hc⟩ := hW.out j hjl
                have hcell : w4.cell? ⟨b, off + j, none⟩ = some (.int .u32 (wAt l j)) := by rw [hb4.out.cell (p := ⟨b, off + j, none⟩) (by rw [← hC.out]; exact hbl)]; exact hc
                have hwb := wAt_bd l j
                have htc := fun W hW => target_any (wAt l j) j k W hW hwb.1 hwb.2 (by omega) (by omega)
                have hTo := Lib.hid (hT.later (below_at hb4.out hC.out))
                have hs4C := below_size hb4.out hC.out
                have hlb := hLb.out j
                have i2k : (j : Int) < (k : Int) := by omega
                clear hpcj
                cases hO : tgtO (wAt l j) j k with
                | none =>
                  rw [hO] at htc
                  rw [hO] at hnext hlb
                  have hlab : labL B none = [] := rfl
                  rw [hlab] at hnext hlb
                  have hLS : strS ([] : List UInt8) = (⟨#[]⟩ : ByteArray) := rfl
                  clear hlab
                  have hll := line_len (wAt l j) ([] : List UInt8) hwb.1 hwb.2 hlb
                  have hlc := fun W hW1 hW2 => lineP_any (wAt l j) ([] : List UInt8) W hW1 hW2 hwb.1 hwb.2 hlb
                  rw [hLS] at hlc
                  clear hLS
                  have hcat2 : vb P4 ++ Lib.strCells (strS (lineL (wAt l j) ([] : List UInt8)) ++ (⟨#[10]⟩ : ByteArray)) = vb (printL l (j + 1)) := by
                    rw [strS_nl, strCells_strS, ← vb_append, hnext]
                  have hz5 : (strS (lineL (wAt l j) ([] : List UInt8))).size ≤ 300 := by rw [strS_size]; exact hll
                  have hz6 : (strS (lineL (wAt l j) ([] : List UInt8)) ++ (⟨#[10]⟩ : ByteArray)).size ≤ 301 := by rw [strS_nl, strS_size]; simp; omega
                  obtain ⟨LN, hLN⟩ : ∃ LN, strS (lineL (wAt l j) ([] : List UInt8)) = LN := ⟨_, rfl⟩
                  rw [hLN] at hcat2 hz5 hz6
                  simp only [hLN] at hlc
                  have hlen2 : (vb P4).length + (LN ++ (⟨#[10]⟩ : ByteArray)).size ≤ 140737488355328 := by rw [length_vb]; omega
                  obtain ⟨x, hx⟩ : ∃ x, wAt l j = x := ⟨_, rfl⟩
                  rw [hx] at hcell htc hwb
                  simp only [hx] at hlc
                  clear hc hx hO hLN hz6 hnext hll hlb
                  replace htc := Lib.hid htc; replace hlc := Lib.hid hlc; replace hcat2 := Lib.hid hcat2; replace hlen2 := Lib.hid hlen2
                  go_wp2_with (first
                    | (go_at_call 32; refine (htc.out _ hTo.out).mono ?_; rintro e w7 ⟨b7, rfl⟩; have hcell7 : w7.cell? ⟨b, off + j, none⟩ = some (.int .u32 x) := (b7.cell (p := ⟨b, off + j, none⟩) (by rw [hC.out] at hbl; show b < _; omega)).trans hcell; have hb7 := Lib.hid (hb4.out.trans (b7.mono hs4C)); have hr7 := own_belowI hr4.out b7; have hB7 := Lib.hid (isb_later hB4.out b7); have hs7 := b7.size; have hT7 := Lib.hid (hT.later (below_at hb7.out hC.out)); have hP7 := Lib.hid (pow10P_later hP (below_at hb7.out hC.out)); clear b7; replace hr7 := Lib.hid hr7)
                    | (go_at_call 35; refine (hlc.out _ hT7.out hP7.out).mono ?_; rintro e w8 ⟨b8, rfl⟩; have hb8 := Lib.hid (hb7.out.trans (b8.mono (below_size hb7.out hC.out))); have hr8 := Lib.hid (own_belowI hr7.out b8); have hB8 := Lib.hid (isb_later hB7.out b8); have hs8 := b8.size; clear b8)
                    | (go_at_call 34; refine (ws_any F F _ _ _ hB8.out hlen2.out (by omega)).mono ?_; rintro e w9 ⟨rfl, hB9, b9⟩; rw [hcat2.out] at hB9; have hb9 := Lib.hid (hb8.out.trans (b9.mono (by omega))); have hs9 := b9.size; have hr9 := Lib.hid (own_same hr8.out (fun g hg => by simp only [Value.ownBlock, Option.some.injEq] at hg; exact b9.block g (by omega))); replace hB9 := Lib.hid (show Lib.IsBuilder 103 5 F F (vb (printL l (j + 1))) w9 from .inr hB9); clear b9))
                  go_roundw
                  case rel => exact ⟨j + 1, by omega, by go_num, hr9.out, hB9.out, hb9.out, by omega⟩
                  case measure => simp only [intOf]; omega
                | some t =>
                  have htl := tgtO_le hO
                  have htv := tgt_yes hO
                  rw [hO, htv] at htc
                  rw [hO] at hnext hlb
                  have hlab : labL B (some t) = nmAt B t := rfl
                  rw [hlab] at hnext hlb
                  obtain ⟨LB, hLB⟩ : ∃ LB, nmAt B t = LB := ⟨_, rfl⟩
                  have hnt := nmK_full B (k + 1) t (by omega)
                  rw [hLB] at hnext hlb hnt
                  have t1 : (0 : Int) ≤ (t : Int) := by omega
                  have t2 : (t : Int) < (k : Int) + 1 := by omega
                  clear hLB hlab htv
                  replace hnt := Lib.hid hnt
                  have hll := line_len (wAt l j) LB hwb.1 hwb.2 hlb
                  have hlc := fun W hW1 hW2 => lineP_any (wAt l j) LB W hW1 hW2 hwb.1 hwb.2 hlb
                  have hcat2 : vb P4 ++ Lib.strCells (strS (lineL (wAt l j) LB) ++ (⟨#[10]⟩ : ByteArray)) = vb (printL l (j + 1)) := by
                    rw [strS_nl, strCells_strS, ← vb_append, hnext]
                  have hz5 : (strS (lineL (wAt l j) LB)).size ≤ 300 := by rw [strS_size]; exact hll
                  have hz6 : (strS (lineL (wAt l j) LB) ++ (⟨#[10]⟩ : ByteArray)).size ≤ 301 := by rw [strS_nl, strS_size]; simp; omega
                  obtain ⟨LN, hLN⟩ : ∃ LN, strS (lineL (wAt l j) LB) = LN := ⟨_, rfl⟩
                  rw [hLN] at hcat2 hz5 hz6
                  simp only [hLN] at hlc
                  have hlen2 : (vb P4).length + (LN ++ (⟨#[10]⟩ : ByteArray)).size ≤ 140737488355328 := by rw [length_vb]; omega
                  obtain ⟨x, hx⟩ : ∃ x, wAt l j = x := ⟨_, rfl⟩
                  rw [hx] at hcell htc hwb
                  simp only [hx] at hlc
                  clear hc hx hO hLN hz6 hnext hll hlb
                  replace htc := Lib.hid htc; replace hlc := Lib.hid hlc; replace hcat2 := Lib.hid hcat2; replace hlen2 := Lib.hid hlen2
                  go_wp2_with (first
                    | (go_at_call 32; refine (htc.out _ hTo.out).mono ?_; rintro e w7 ⟨b7, rfl⟩; have hcell7 : w7.cell? ⟨b, off + j, none⟩ = some (.int .u32 x) := (b7.cell (p := ⟨b, off + j, none⟩) (by rw [hC.out] at hbl; show b < _; omega)).trans hcell; have hb7 := Lib.hid (hb4.out.trans (b7.mono hs4C)); have hr7 := own_belowI hr4.out b7; have hB7 := Lib.hid (isb_later hB4.out b7); have hs7 := b7.size; have hT7 := Lib.hid (hT.later (below_at hb7.out hC.out)); have hP7 := Lib.hid (pow10P_later hP (below_at hb7.out hC.out)); have hnt7 : w7.cell? ⟨E, t, none⟩ = some (.string (strS LB)) := (hr7.cellAt t (by omega)).trans hnt.out; clear b7; replace hr7 := Lib.hid hr7)
                    | (go_at_call 35; refine (hlc.out _ hT7.out hP7.out).mono ?_; rintro e w8 ⟨b8, rfl⟩; have hb8 := Lib.hid (hb7.out.trans (b8.mono (below_size hb7.out hC.out))); have hr8 := Lib.hid (own_belowI hr7.out b8); have hB8 := Lib.hid (isb_later hB7.out b8); have hs8 := b8.size; clear b8)
                    | (go_at_call 34; refine (ws_any F F _ _ _ hB8.out hlen2.out (by omega)).mono ?_; rintro e w9 ⟨rfl, hB9, b9⟩; rw [hcat2.out] at hB9; have hb9 := Lib.hid (hb8.out.trans (b9.mono (by omega))); have hs9 := b9.size; have hr9 := Lib.hid (own_same hr8.out (fun g hg => by simp only [Value.ownBlock, Option.some.injEq] at hg; exact b9.block g (by omega))); replace hB9 := Lib.hid (show Lib.IsBuilder 103 5 F F (vb (printL l (j + 1))) w9 from .inr hB9); clear b9))
                  go_roundw
                  case rel => exact ⟨j + 1, by omega, by go_num, hr9.out, hB9.out, hb9.out, by omega⟩
                  case measure => simp only [intOf]; omega
end YtiknookfnameiaaGreatDoor
end Go.Proofs
