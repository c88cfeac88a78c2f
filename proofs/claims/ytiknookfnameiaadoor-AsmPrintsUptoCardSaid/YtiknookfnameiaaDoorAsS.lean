/- The contract of the reference's Print (printed by genAsS.py). -/
import Derived.Test.YtiknookfnameiaaDoorAsR
namespace Go.Proofs
open Go.RowKit
namespace YtiknookfnameiaaDoor
open WP
/-- the names while they are given: the first i places have theirs, the others a mark -/
def nm2 (B : List Bool) (n i : Nat) : List Value := (List.range n).map fun j => .string (strS (if j < i then nmAt B j else if B.getD j false then [108] else []))
theorem nm2_len (B : List Bool) (n i : Nat) : (nm2 B n i).length = n := by simp [nm2]
theorem nm2_get (B : List Bool) (n i j : Nat) (h : j < n) : (nm2 B n i)[j]? = some (.string (strS (if j < i then nmAt B j else if B.getD j false then [108] else []))) := by
  unfold nm2; rw [List.getElem?_map, List.getElem?_range h]; rfl
theorem nm2_at (B : List Bool) (n i : Nat) (h : i < n) : (nm2 B n i)[i]? = some (.string (strS (if B.getD i false then [108] else []))) := by
  rw [nm2_get B n i i h, if_neg (by omega)]
theorem nm2_start (n m : Nat) : nm2 (List.replicate m false) n 0 = List.replicate n (.string ⟨#[]⟩) := by
  unfold nm2
  rw [List.eq_replicate_iff]
  refine ⟨by simp, ?_⟩
  intro b hb
  obtain ⟨j, _, rfl⟩ := List.mem_map.1 hb
  have : (List.replicate m false).getD j false = false := by
    rw [List.getD_eq_getElem?_getD, List.getElem?_replicate]; split <;> rfl
  rw [if_neg (by omega), this, if_neg (by simp)]
  rfl
theorem nm2_mark (B : List Bool) (n t : Nat) (ht : t < B.length) : (nm2 B n 0).set t (.string (strS [108])) = nm2 (B.set t true) n 0 := by
  refine List.ext_getElem? fun j => ?_
  by_cases hj : j < n
  · rw [nm2_get (B.set t true) n 0 j hj, if_neg (show ¬ j < 0 by omega), List.getElem?_set]
    by_cases e : t = j
    · subst e
      rw [if_pos rfl, if_pos (by rw [nm2_len]; exact hj)]
      have : (B.set t true).getD t false = true := by rw [List.getD_eq_getElem?_getD, List.getElem?_set, if_pos rfl, if_pos ht]; rfl
      rw [this, if_pos rfl]
    · rw [if_neg e, nm2_get B n 0 j hj, if_neg (show ¬ j < 0 by omega)]
      have : (B.set t true).getD j false = B.getD j false := by rw [List.getD_eq_getElem?_getD, List.getElem?_set, if_neg e, ← List.getD_eq_getElem?_getD]
      rw [this]
  · rw [List.getElem?_eq_none (by rw [List.length_set, nm2_len]; omega), List.getElem?_eq_none (by rw [nm2_len]; omega)]
theorem nm2_step (B : List Bool) (n k : Nat) : (nm2 B n k).set k (.string (strS (nmAt B k))) = nm2 B n (k + 1) := by
  refine List.ext_getElem? fun j => ?_
  by_cases hj : j < n
  · rw [nm2_get B n (k + 1) j hj, List.getElem?_set]
    by_cases e : k = j
    · subst e
      rw [if_pos rfl, if_pos (by rw [nm2_len]; exact hj), if_pos (by omega)]
    · rw [if_neg e, nm2_get B n k j hj]
      by_cases h2 : j < k
      · rw [if_pos h2, if_pos (show j < k + 1 by omega)]
      · rw [if_neg h2, if_neg (show ¬ j < k + 1 by omega)]
  · rw [List.getElem?_eq_none (by rw [List.length_set, nm2_len]; omega), List.getElem?_eq_none (by rw [nm2_len]; omega)]
theorem nm2_skip (B : List Bool) (n k : Nat) (h : B.getD k false = false) : nm2 B n (k + 1) = nm2 B n k := by
  unfold nm2
  refine List.map_congr_left fun j _ => ?_
  by_cases e : j = k
  · subst e; rw [if_pos (by omega), if_neg (by omega), nm_no B j h, h, if_neg (by simp)]
  · by_cases h2 : j < k
    · rw [if_pos h2, if_pos (show j < k + 1 by omega)]
    · rw [if_neg h2, if_neg (show ¬ j < k + 1 by omega)]
theorem nm2_full (B : List Bool) (n j : Nat) (h : j < n) : (nm2 B n n)[j]? = some (.string (strS (nmAt B j))) := by rw [nm2_get B n n j h, if_pos h]
set_option maxRecDepth 100000 in
set_option maxHeartbeats 8000000 in
theorem rprint_any (v : Value) (l : List UInt32) (base : Int) (w : World) (hT : RTabs w) (hv : Rd w v (vw l)) (hn : l.length ≤ 2048) :
    Calls Tryd.prog 5 #[v, .int .u32 base] w fun e w' => Below w.heap.size w w' ∧ e = .returned (.tuple #[.string (strS (printL l (l.length + 1))), .int .i64 0]) := by
  obtain ⟨ib, hib, hzb0, hzb1, hzb2⟩ := info_parts infoB8
  obtain ⟨is, his, hzs0, hzs1, hzs2⟩ := info_parts infoSt
  have hBd := fun k hk => print_len l k hk hn
  have hLb := fun i => lab_len l i hn
  have hN0 := namedL_zero l
  have hNno := namedL_no l
  have hNyes := namedL_yes l
  have hNlen := namedL_len l
  have hpc := fun k => printL_succ l k
  have hpd : ∀ i, pieceL l i = (if (namedL l l.length).getD i false then nmAt (namedL l l.length) i ++ [58, 10] else []) ++ (if i < l.length then lineL (wAt l i) (labL (namedL l l.length) (tgtO (wAt l i) i l.length)) ++ [10] else []) := fun _ => rfl
  obtain ⟨n, hnn⟩ : ∃ n, l.length = n := ⟨_, rfl⟩
  obtain ⟨ao, cap, rfl, hW⟩ := words_in hv hnn
  clear hv
  simp only [hnn] at hBd hLb hN0 hNno hNyes hNlen hpd hn ⊢
  clear hnn
  obtain ⟨B, hB⟩ : ∃ B, namedL l n = B := ⟨_, rfl⟩
  rw [hB] at hLb hpd
  have hBl : B.length = n + 1 := by rw [← hB]; exact hNlen n
  obtain ⟨R, hR⟩ : ∃ R, strS (printL l (n + 1)) = R := ⟨_, rfl⟩
  rw [hR]
  obtain ⟨C, hC⟩ : ∃ C, w.heap.size = C := ⟨_, rfl⟩
  rw [hC]
  replace hB := Lib.hid hB; replace hBl := Lib.hid hBl; replace hR := Lib.hid hR; replace hW := Lib.hid hW; replace hBd := Lib.hid hBd; replace hLb := Lib.hid hLb; replace hN0 := Lib.hid hN0; replace hNno := Lib.hid hNno; replace hNyes := Lib.hid hNyes; replace hNlen := Lib.hid hNlen; replace hpd := Lib.hid hpd; replace hpc := Lib.hid hpc; replace hC := Lib.hid hC
  have d0 : decide ((n : Int) > 2048) = false := decide_eq_false (by omega)
  go_enter Tryd.func5, Tryd.ntmps5
  go_wp2_with (at_make; refine wpList_make_full _ rfl _ _ 35 rfl w.heap.size 9 is (.string ⟨#[]⟩) 1 Tryd.underlying35 his hzs0 hzs1 .i64 .i64 _ _ (n + 1) rfl rfl ?m0 ?m4 ?m1 ?m2 ?m3 ?_)
  case m0 => omega
  case m4 => omega
  case m1 => rw [hzs2]; omega
  case m2 => simp only [maxLen]; omega
  case m3 => exact Nat.le_refl _
  rw [hC.out]
  intro w1 ho1 hg1
  have hb1 : Below C w w1 := (Below.refl C w).grown hg1 (by rw [hC.out]; exact Nat.le_refl _) (by simp)
  have hr1 : w1.ownsRow C 9 1 (.slice (some ⟨C, 0, none⟩) (n + 1) (n + 1)) (n + 1) (nm2 (namedL l 0) (n + 1) 0) := by
    rw [hN0.out, nm2_start, ← toList_madeCells_one]
    exact ho1
  clear ho1 hg1
  replace hb1 := Lib.hid hb1; replace hr1 := Lib.hid hr1
  go_wp2_with fail
  go_loopw [8] (fun i wl => ∃ k : Nat, k ≤ n ∧ i = .int .i64 k ∧ wl.ownsRow C 9 1 (.slice (some ⟨C, 0, none⟩) (n + 1) (n + 1)) (n + 1) (nm2 (namedL l k) (n + 1) 0) ∧ Below C w wl) (fun i _ => n - (intOf i).toNat)
  case atStart => exact ⟨0, by omega, rfl, hr1.out, hb1.out⟩
  case round =>
    obtain ⟨wo, rfl⟩ : ∃ wo, wo = wr := ⟨wr, rfl⟩
    obtain ⟨k, hk, rfl, hro, hbo⟩ := hrel
    clear hr1 hb1
    have hso := below_size hbo hC.out
    by_cases hlt : k < n
    · obtain ⟨b, off, rfl, hbl, hc⟩ := hW.out k hlt
      have hcell : wo.cell? ⟨b, off + k, none⟩ = some (.int .u32 (wAt l k)) := by rw [hbo.cell (p := ⟨b, off + k, none⟩) (by rw [← hC.out]; exact hbl)]; exact hc
      have hwb := wAt_bd l k
      have htc := fun W hW => rtarget_any (wAt l k) k n W hW hwb.1 hwb.2 (by omega) (by omega)
      have hTo := Lib.hid (hT.later (below_at hbo hC.out))
      have i1 : (0 : Int) ≤ (k : Int) := by omega
      have i2 : (k : Int) < (n : Int) := by omega
      cases hO : tgtO (wAt l k) k n with
      | none =>
        have hnx := hNno.out k hO
        have hrt : rtgt (wAt l k) k n = -1 := by unfold rtgt; rw [hO]
        rw [hrt] at htc
        obtain ⟨x, hx⟩ : ∃ x, wAt l k = x := ⟨_, rfl⟩
        rw [hx] at hcell htc hwb
        clear hc hx hO hrt
        replace htc := Lib.hid htc; replace hnx := Lib.hid hnx; replace hro := Lib.hid hro; replace hbo := Lib.hid hbo
        go_wp2_with (go_at_call 14; refine (htc.out _ hTo.out).mono ?_; rintro e w2 ⟨hb2, rfl⟩; have hr2 := Lib.hid (own_below hro.out hb2); have hbA := Lib.hid (hbo.out.trans (hb2.mono hso)); clear hb2)
        go_roundw
        case rel => exact ⟨k + 1, by omega, by go_num, by rw [hnx.out]; exact hr2.out, hbA.out⟩
        case measure => simp only [intOf]; omega
      | some t =>
        have hnx := hNyes.out k t hO
        have htl := tgtO_le hO
        have hrt : rtgt (wAt l k) k n = t := by unfold rtgt; rw [hO]
        rw [hrt] at htc
        obtain ⟨x, hx⟩ : ∃ x, wAt l k = x := ⟨_, rfl⟩
        rw [hx] at hcell htc hwb
        have hgt := nm2_get (namedL l k) (n + 1) 0 t (by omega)
        have hmk := nm2_mark (namedL l k) (n + 1) t (by rw [hNlen.out]; omega)
        obtain ⟨bv, hbv⟩ : ∃ bv, strS (if t < 0 then nmAt (namedL l k) t else if (namedL l k).getD t false then [108] else []) = bv := ⟨_, rfl⟩
        rw [hbv] at hgt
        have t1 : (0 : Int) ≤ (t : Int) := by omega
        have t2 : (t : Int) < (n : Int) + 1 := by omega
        have s108 : strS [108] = (⟨#[108]⟩ : ByteArray) := rfl
        rw [s108] at hmk
        clear hc hx hO hrt hbv s108
        replace htc := Lib.hid htc; replace hnx := Lib.hid hnx; replace hro := Lib.hid hro; replace hbo := Lib.hid hbo; replace hgt := Lib.hid hgt; replace hmk := Lib.hid hmk
        go_wp2_with (go_at_call 14; refine (htc.out _ hTo.out).mono ?_; rintro e w2 ⟨hb2, rfl⟩; have hr2 := own_below hro.out hb2; have hbA := Lib.hid (hbo.out.trans (hb2.mono hso)); have hcA : w2.cell? ⟨C, t, none⟩ = some (.string bv) := (hr2.cellAt t (by omega)).trans hgt.out; have hfA := hr2.frozenAt t; have hst := Lib.hid (hr2.stored t (.string ⟨#[108]⟩)); clear hb2; replace hr2 := Lib.hid hr2)
        have hfin : (w2.setCell ⟨C, t, none⟩ (.string ⟨#[108]⟩)).ownsRow C 9 1 (.slice (some ⟨C, 0, none⟩) (n + 1) (n + 1)) (n + 1) (nm2 (namedL l (k + 1)) (n + 1) 0) := by
          rw [hnx.out, ← hmk.out]; exact hst.out.1
        have hbf : Below C w (w2.setCell ⟨C, t, none⟩ (.string ⟨#[108]⟩)) := hbA.out.setCell (Nat.le_refl _) _
        replace hfin := Lib.hid hfin; replace hbf := Lib.hid hbf
        go_roundw
        case rel => exact ⟨k + 1, by omega, by go_num, hfin.out, hbf.out⟩
        case measure => simp only [intOf]; omega
    · obtain ⟨kk, hkk⟩ : ∃ kk, k = kk := ⟨_, rfl⟩
      have hke : k = n := by omega
      have hrB : wo.ownsRow C 9 1 (.slice (some ⟨C, 0, none⟩) (n + 1) (n + 1)) (n + 1) (nm2 B (n + 1) 0) := by
        rw [← hB.out, ← hke]; rw [← hke] at hro; exact hro
      clear hro hkk
      replace hrB := Lib.hid hrB; replace hbo := Lib.hid hbo; replace hke := Lib.hid hke
      go_wp2_with fail
      go_loopw [10, 11] (fun c i wl => ∃ j : Nat, j ≤ n + 1 ∧ i = .int .i64 j ∧ c = .int .i64 (((B.take j).count true : Nat) : Int) ∧ wl.ownsRow C 9 1 (.slice (some ⟨C, 0, none⟩) (n + 1) (n + 1)) (n + 1) (nm2 B (n + 1) j) ∧ Below C w wl) (fun _ i _ => n + 1 - (intOf i).toNat)
      case atStart => exact ⟨0, by omega, rfl, by simp, hrB.out, hbo.out⟩
      case round =>
        obtain ⟨wp, rfl⟩ : ∃ wp, wp = wr := ⟨wr, rfl⟩
        obtain ⟨j, hj, rfl, rfl, hrp, hbp⟩ := hrel
        clear hrB hbo
        have hsp := below_size hbp hC.out
        have hlE := (hrp.lt C rfl).2
        by_cases hlt : j < n + 1
        · have hcs := count_step B j (by rw [hBl.out]; exact hlt)
          have hcl := count_le B j
          have hcq : wp.cell? ⟨C, j, none⟩ = some (.string (strS (if B.getD j false then [108] else []))) := (hrp.cellAt j (by omega)).trans (nm2_at B (n + 1) j hlt)
          have i1 : (0 : Int) ≤ (j : Int) := by omega
          have i2 : (j : Int) < (n : Int) + 1 := by omega
          obtain ⟨c, hc⟩ : ∃ c, (B.take j).count true = c := ⟨_, rfl⟩
          rw [hc] at hcl hcs ⊢
          rcases hBj : B.getD j false with _ | _
          · rw [hBj] at hcq hcs
            rw [if_neg (by simp)] at hcs hcq
            have hsk := nm2_skip B (n + 1) j hBj
            have s0 : strS [] = (⟨#[]⟩ : ByteArray) := rfl
            rw [s0] at hcq
            clear hBj hc s0
            replace hcs := Lib.hid hcs; replace hsk := Lib.hid hsk; replace hrp := Lib.hid hrp; replace hbp := Lib.hid hbp
            go_wp2_with fail
            go_roundw
            case rel => exact ⟨j + 1, by omega, by go_num, by rw [hcs.out]; rfl, by rw [hsk.out]; exact hrp.out, hbp.out⟩
            case measure => simp only [intOf]; omega
          · rw [hBj] at hcq hcs
            rw [if_pos rfl] at hcs hcq
            have s0 : strS [108] = (⟨#[108]⟩ : ByteArray) := rfl
            rw [s0] at hcq
            have hnm := nm_yes B j hBj
            rw [hc] at hnm
            have hst0 := nm2_step B (n + 1) j
            have hic := fun W => rtens_any c W (by omega)
            have hz2 : (strS (Lib.decDigits c)).size ≤ 10 := by rw [strS_size]; exact (dec_len c (by omega)).2
            have hcat := strS_cons 108 (Lib.decDigits c)
            rw [← hnm] at hcat
            obtain ⟨DD, hDD⟩ : ∃ DD, strS (Lib.decDigits c) = DD := ⟨_, rfl⟩
            rw [hDD] at hic hz2 hcat
            rw [← hcat] at hst0
            have hfA := hrp.frozenAt j
            have hst := hrp.stored j (.string (⟨#[108]⟩ ++ DD))
            have hfin : (wp.setCell ⟨C, j, none⟩ (.string (⟨#[108]⟩ ++ DD))).ownsRow C 9 1 (.slice (some ⟨C, 0, none⟩) (n + 1) (n + 1)) (n + 1) (nm2 B (n + 1) (j + 1)) := by
              rw [← hst0]; exact hst.1
            have hbf : Below C w (wp.setCell ⟨C, j, none⟩ (.string (⟨#[108]⟩ ++ DD))) := hbp.setCell (Nat.le_refl _) _
            clear hBj hc hnm hDD hcat hst hst0 s0
            replace hic := Lib.hid hic
            replace hcs := Lib.hid hcs; replace hrp := Lib.hid hrp; replace hbp := Lib.hid hbp; replace hfin := Lib.hid hfin; replace hbf := Lib.hid hbf
            go_wp2_with (go_at_call 15; refine (hic.out _).mono ?_; rintro e w5 ⟨rfl, rfl⟩)
            go_roundw
            case rel => exact ⟨j + 1, by omega, by go_num, by rw [hcs.out]; go_num, hfin.out, hbf.out⟩
            case measure => simp only [intOf]; omega
        · have hje : j = n + 1 := by omega
          have dle : decide (j ≤ n) = false := decide_eq_false (by omega)
          have dli : decide ((j : Int) ≤ (n : Int)) = false := decide_eq_false (by omega)
          rw [hje] at hrp
          obtain ⟨cc, hcc⟩ : ∃ c, (B.take j).count true = c := ⟨_, rfl⟩
          rw [hcc]
          clear hcc
          obtain ⟨F, hF⟩ : ∃ F, wp.heap.size = F := ⟨_, rfl⟩
          rw [hF] at hlE
          have hFl : F ≤ wp.heap.size := by omega
          have hCF : C ≤ F := by omega
          replace hje := Lib.hid hje; replace hrp := Lib.hid hrp; replace hbp := Lib.hid hbp; replace hF := Lib.hid hF
          go_wp2_with fail
          go_loopw [12, 13] (fun v i wl => ∃ j : Nat, j ≤ n + 1 ∧ i = .int .i64 j ∧ wl.ownsRow C 9 1 (.slice (some ⟨C, 0, none⟩) (n + 1) (n + 1)) (n + 1) (nm2 B (n + 1) (n + 1)) ∧ wl.ownsRow F 5 1 v (printL l j).length (vb (printL l j)) ∧ Below C w wl ∧ F ≤ wl.heap.size) (fun _ i _ => n + 1 - (intOf i).toNat)
          case atStart => exact ⟨0, by omega, rfl, hrp.out, World.ownsRow_nil _ _ _ _, hbp.out, hFl⟩
          case round =>
            obtain ⟨wq, rfl⟩ : ∃ wq, wq = wr := ⟨wr, rfl⟩
            obtain ⟨vo, rfl⟩ : ∃ b, b = u12 := ⟨u12, rfl⟩
            obtain ⟨j, hj, rfl, hrq, hoq, hbq, hsq⟩ := hrel
            clear hrp hbp hFl
            have hsC := below_size hbq hC.out
            obtain ⟨oa, oc, rfl⟩ := own_form hoq
            by_cases hlt : j < n + 1
            · have hnj : wq.cell? ⟨C, j, none⟩ = some (.string (strS (nmAt B j))) := (hrq.cellAt j (by omega)).trans (nm2_full B (n + 1) j (by omega))
              have hnl := nm_len B j (by omega)
              have hpl := hBd.out j (by omega)
              have hpcj := hpc.out j
              have hpdj := hpd.out j
              have i1 : (0 : Int) ≤ (j : Int) := by omega
              have i2 : (j : Int) < (n : Int) + 1 := by omega
              have i3 : decide ((j : Int) ≤ (n : Int)) = true := decide_eq_true (by omega)
              rcases hBj : B.getD j false with _ | _
              · rw [hBj, if_neg (by simp)] at hpdj
                rw [nm_no B j hBj] at hnj
                have hQl : (printL l j).length ≤ 400 * j + 13 := by omega
                obtain ⟨P4, hP4⟩ : ∃ P4, printL l j = P4 := ⟨_, rfl⟩
                rw [hpdj, ← List.append_assoc, List.append_nil, hP4] at hpcj
                rw [hP4] at hQl hoq ⊢
                have s2 : strS [] = (⟨#[]⟩ : ByteArray) := rfl
                rw [s2] at hnj
                clear hP4 hBj hnl hpdj s2
                have hs4 := hsq
                replace hpcj := Lib.hid hpcj
                have hr4 := Lib.hid hrq; have ho4 := Lib.hid hoq; have hb4 := Lib.hid hbq
                clear hrq hoq hbq
                obtain ⟨w4, hw4⟩ : ∃ w4, w4 = wq := ⟨_, rfl⟩
                subst hw4
                go_upto_region 25 with fail
                by_cases hjk : j = n
                · have hlast := hpcj.out
                  rw [if_neg (by omega), List.append_nil] at hlast
                  have dj : decide ((j : Int) < (n : Int)) = false := decide_eq_false (by omega)
                  have djn : ¬ j < n := by omega
                  have dji : ¬ (j : Int) < (n : Int) := by omega
                  replace hlast := Lib.hid hlast
                  replace hjk := Lib.hid hjk
                  go_wp2_with fail
                  go_roundw
                  case rel => exact ⟨j + 1, by omega, by go_num, hr4.out, by rw [hlast.out]; exact ho4.out, hb4.out, hs4⟩
                  case measure => simp only [intOf]; omega
                · have dj : decide ((j : Int) < (n : Int)) = true := decide_eq_true (by omega)
                  have hjl : j < n := by omega
                  have hnext := hpcj.out
                  rw [if_pos hjl] at hnext
                  obtain ⟨b, off, rfl, hbl, hc⟩ := hW.out j hjl
                  have hcell : w4.cell? ⟨b, off + j, none⟩ = some (.int .u32 (wAt l j)) := by rw [hb4.out.cell (p := ⟨b, off + j, none⟩) (by rw [← hC.out]; exact hbl)]; exact hc
                  have hwb := wAt_bd l j
                  have htc := fun W hW => rtarget_any (wAt l j) j n W hW hwb.1 hwb.2 (by omega) (by omega)
                  have hTo := Lib.hid (hT.later (below_at hb4.out hC.out))
                  have hs4C := below_size hb4.out hC.out
                  have hlb := hLb.out j
                  have i2k : (j : Int) < (n : Int) := by omega
                  clear hpcj
                  cases hO : tgtO (wAt l j) j n with
                  | none =>
                    have hrt : rtgt (wAt l j) j n = -1 := by unfold rtgt; rw [hO]
                    rw [hrt] at htc
                    rw [hO] at hnext hlb
                    have hlab : labL B none = [] := rfl
                    rw [hlab] at hnext hlb
                    have hLS : strS ([] : List UInt8) = (⟨#[]⟩ : ByteArray) := rfl
                    clear hlab hrt
                    have hll := line_len (wAt l j) ([] : List UInt8) hwb.1 hwb.2 hlb
                    have hlc := fun W hW1 => rtext_any (wAt l j) ([] : List UInt8) W hW1 hwb.1 hwb.2 hlb
                    rw [hLS] at hlc
                    clear hLS
                    have hcat5 : vb P4 ++ Lib.strCells (strS (lineL (wAt l j) ([] : List UInt8))) = vb (P4 ++ lineL (wAt l j) ([] : List UInt8)) := by
                      rw [strCells_strS, ← vb_append]
                    have hcat6 : vb (P4 ++ lineL (wAt l j) ([] : List UInt8)) ++ [.int .u8 10] = vb (printL l (j + 1)) := by
                      rw [hnext, ← List.append_assoc, vb_append (P4 ++ lineL (wAt l j) ([] : List UInt8))]; rfl
                    have hz5 : (strS (lineL (wAt l j) ([] : List UInt8))).size = (lineL (wAt l j) ([] : List UInt8)).length := strS_size _
                    have hP5l : (P4 ++ lineL (wAt l j) ([] : List UInt8)).length = P4.length + (lineL (wAt l j) ([] : List UInt8)).length := by simp
                    have hP6l : (printL l (j + 1)).length = (P4 ++ lineL (wAt l j) ([] : List UInt8)).length + 1 := by rw [hnext]; simp; omega
                    obtain ⟨LN, hLN⟩ : ∃ LN, strS (lineL (wAt l j) ([] : List UInt8)) = LN := ⟨_, rfl⟩
                    rw [hLN] at hcat5 hz5
                    simp only [hLN] at hlc
                    obtain ⟨P5, hP5⟩ : ∃ P5, P4 ++ lineL (wAt l j) ([] : List UInt8) = P5 := ⟨_, rfl⟩
                    rw [hP5] at hcat5 hcat6 hP5l hP6l
                    rw [← hz5] at hP5l hll
                    obtain ⟨x, hx⟩ : ∃ x, wAt l j = x := ⟨_, rfl⟩
                    rw [hx] at hcell htc hwb
                    simp only [hx] at hlc
                    clear hc hx hO hLN hnext hlb hP5 hz5
                    replace htc := Lib.hid htc; replace hlc := Lib.hid hlc; replace hcat5 := Lib.hid hcat5; replace hcat6 := Lib.hid hcat6; replace hP5l := Lib.hid hP5l; replace hP6l := Lib.hid hP6l
                    go_upto_region 31 with (first
                      | (go_at_call 14; refine (htc.out _ hTo.out).mono ?_; rintro e w7 ⟨b7, rfl⟩; have hcell7 : w7.cell? ⟨b, off + j, none⟩ = some (.int .u32 x) := (b7.cell (p := ⟨b, off + j, none⟩) (by rw [hC.out] at hbl; show b < _; omega)).trans hcell; have hb7 := Lib.hid (hb4.out.trans (b7.mono hs4C)); have hr7 := own_below hr4.out b7; have ho7 := Lib.hid (own_below ho4.out b7); have hs7 := Nat.le_trans hs4 b7.size; have hT7 := Lib.hid (hT.later (below_at hb7.out hC.out)); clear b7; replace hr7 := Lib.hid hr7)
                      | (go_at_call 16; refine (hlc.out _ hT7.out).mono ?_; rintro e w8 ⟨b8, rfl⟩; have hb8 := Lib.hid (hb7.out.trans (b8.mono (below_size hb7.out hC.out))); have hr8 := Lib.hid (own_below hr7.out b8); have ho8 := Lib.hid (own_below ho7.out b8); have hs8 := Nat.le_trans hs7 b8.size; clear b8)
                      | (at_builtin; refine Lib.wpList_append_own_string _ rfl _ _ 38 9 rfl F 5 ib Tryd.underlying38 Tryd.underlying9 hib hzb0 hzb1 hzb2 _ _ _ rfl ho8.out LN rfl ?c4 ?c5 ?c6 ?_))
                    case c4 => unfold maxLen; omega
                    case c5 => omega
                    case c6 => exact hs8
                    intro v9 w9 ho9 hg9 _
                    have hr9 := own_same hr8.out (fun g hg => by simp only [Value.ownBlock, Option.some.injEq] at hg; exact hg9.block g (by rw [← hg]; exact (hr8.out.lt C rfl).2) (fun e => by have := (ho8.out.lt g e.symm).1; omega))
                    have hb9 : Below C w w9 := hb8.out.grown hg9 (by omega) (fun g hg => by have := (ho8.out.lt g hg).1; omega)
                    have hs9 := Nat.le_trans hs8 hg9.size
                    rw [hcat5.out, ← hP5l.out] at ho9
                    obtain ⟨oa9, oc9, rfl⟩ := own_form ho9
                    clear hg9 hr8 ho8 hb8
                    replace hr9 := Lib.hid hr9; replace ho9 := Lib.hid ho9; replace hb9 := Lib.hid hb9
                    go_wp2_with (at_builtin; refine wpList_append_onto' _ rfl _ _ 38 rfl F 5 ib (.int .u8 0) 1 1 Tryd.underlying38 hib hzb0 hzb1 hzb2 rfl (by decide) _ _ _ rfl (ho9.out.alloc _) ⟨w9.heap.size, 0, none⟩ 1 1 [.int .u8 10] rfl rfl ?e1 ?e2 ?e3 ?e4 ?e5 ?_)
                    case e1 => exact cell_one_new _ _ _
                    case e2 => simp [Value.oneCell']
                    case e3 => simp only [maxLen]; rw [hP5l.out]; omega
                    case e4 => rw [hP5l.out]; omega
                    case e5 => simp; omega
                    intro vT wT hoT hOT
                    have hrT := Lib.hid (own_same (own_same hr9.out (w' := w9.alloc (.cells #[.int .u8 10] 5)) (fun g hg => by simp only [Value.ownBlock, Option.some.injEq] at hg; exact heap_alloc_old _ _ (by rw [← hg]; exact (hr9.out.lt C rfl).2))) (w' := wT) (fun g hg => by simp only [Value.ownBlock, Option.some.injEq] at hg; exact hOT.1.block g (by rw [← hg]; simp; have := (hr9.out.lt C rfl).2; omega) (fun e => by have := (ho9.out.lt g e.symm).1; omega)))
                    have hbT := Lib.hid (hb9.out.trans ((Below.alloc (Below.refl C w9) (by omega) _).trans (hOT.below (by simp; omega) (fun g hg => by have := (ho9.out.lt g hg).1; omega))))
                    have hsT : F ≤ wT.heap.size := by have := hOT.1.size; simp at this; omega
                    rw [hcat6.out, ← hP6l.out] at hoT
                    replace hoT := Lib.hid hoT
                    clear hOT
                    go_wp2_with fail
                    go_roundw
                    case rel => exact ⟨j + 1, by omega, by go_num, hrT.out, hoT.out, hbT.out, hsT⟩
                    case measure => simp only [intOf]; omega
                  | some t =>
                    have htl := tgtO_le hO
                    have hrt : rtgt (wAt l j) j n = t := by unfold rtgt; rw [hO]
                    rw [hrt] at htc
                    rw [hO] at hnext hlb
                    have hlab : labL B (some t) = nmAt B t := rfl
                    rw [hlab] at hnext hlb
                    obtain ⟨LB, hLB⟩ : ∃ LB, nmAt B t = LB := ⟨_, rfl⟩
                    have hnt := nm2_full B (n + 1) t (by omega)
                    rw [hLB] at hnext hlb hnt
                    have t1 : (0 : Int) ≤ (t : Int) := by omega
                    have t2 : (t : Int) < (n : Int) + 1 := by omega
                    clear hLB hlab hrt
                    replace hnt := Lib.hid hnt
                    have hll := line_len (wAt l j) LB hwb.1 hwb.2 hlb
                    have hlc := fun W hW1 => rtext_any (wAt l j) LB W hW1 hwb.1 hwb.2 hlb
                    have hcat5 : vb P4 ++ Lib.strCells (strS (lineL (wAt l j) LB)) = vb (P4 ++ lineL (wAt l j) LB) := by
                      rw [strCells_strS, ← vb_append]
                    have hcat6 : vb (P4 ++ lineL (wAt l j) LB) ++ [.int .u8 10] = vb (printL l (j + 1)) := by
                      rw [hnext, ← List.append_assoc, vb_append (P4 ++ lineL (wAt l j) LB)]; rfl
                    have hz5 : (strS (lineL (wAt l j) LB)).size = (lineL (wAt l j) LB).length := strS_size _
                    have hP5l : (P4 ++ lineL (wAt l j) LB).length = P4.length + (lineL (wAt l j) LB).length := by simp
                    have hP6l : (printL l (j + 1)).length = (P4 ++ lineL (wAt l j) LB).length + 1 := by rw [hnext]; simp; omega
                    obtain ⟨LN, hLN⟩ : ∃ LN, strS (lineL (wAt l j) LB) = LN := ⟨_, rfl⟩
                    rw [hLN] at hcat5 hz5
                    simp only [hLN] at hlc
                    obtain ⟨P5, hP5⟩ : ∃ P5, P4 ++ lineL (wAt l j) LB = P5 := ⟨_, rfl⟩
                    rw [hP5] at hcat5 hcat6 hP5l hP6l
                    rw [← hz5] at hP5l hll
                    obtain ⟨x, hx⟩ : ∃ x, wAt l j = x := ⟨_, rfl⟩
                    rw [hx] at hcell htc hwb
                    simp only [hx] at hlc
                    clear hc hx hO hLN hnext hlb hP5 hz5
                    replace htc := Lib.hid htc; replace hlc := Lib.hid hlc; replace hcat5 := Lib.hid hcat5; replace hcat6 := Lib.hid hcat6; replace hP5l := Lib.hid hP5l; replace hP6l := Lib.hid hP6l
                    go_upto_region 31 with (first
                      | (go_at_call 14; refine (htc.out _ hTo.out).mono ?_; rintro e w7 ⟨b7, rfl⟩; have hcell7 : w7.cell? ⟨b, off + j, none⟩ = some (.int .u32 x) := (b7.cell (p := ⟨b, off + j, none⟩) (by rw [hC.out] at hbl; show b < _; omega)).trans hcell; have hb7 := Lib.hid (hb4.out.trans (b7.mono hs4C)); have hr7 := own_below hr4.out b7; have ho7 := Lib.hid (own_below ho4.out b7); have hs7 := Nat.le_trans hs4 b7.size; have hT7 := Lib.hid (hT.later (below_at hb7.out hC.out)); have hnt7 : w7.cell? ⟨C, t, none⟩ = some (.string (strS LB)) := (hr7.cellAt t (by omega)).trans hnt.out; clear b7; replace hr7 := Lib.hid hr7)
                      | (go_at_call 16; refine (hlc.out _ hT7.out).mono ?_; rintro e w8 ⟨b8, rfl⟩; have hb8 := Lib.hid (hb7.out.trans (b8.mono (below_size hb7.out hC.out))); have hr8 := Lib.hid (own_below hr7.out b8); have ho8 := Lib.hid (own_below ho7.out b8); have hs8 := Nat.le_trans hs7 b8.size; clear b8)
                      | (at_builtin; refine Lib.wpList_append_own_string _ rfl _ _ 38 9 rfl F 5 ib Tryd.underlying38 Tryd.underlying9 hib hzb0 hzb1 hzb2 _ _ _ rfl ho8.out LN rfl ?d4 ?d5 ?d6 ?_))
                    case d4 => unfold maxLen; omega
                    case d5 => omega
                    case d6 => exact hs8
                    intro v9 w9 ho9 hg9 _
                    have hr9 := own_same hr8.out (fun g hg => by simp only [Value.ownBlock, Option.some.injEq] at hg; exact hg9.block g (by rw [← hg]; exact (hr8.out.lt C rfl).2) (fun e => by have := (ho8.out.lt g e.symm).1; omega))
                    have hb9 : Below C w w9 := hb8.out.grown hg9 (by omega) (fun g hg => by have := (ho8.out.lt g hg).1; omega)
                    have hs9 := Nat.le_trans hs8 hg9.size
                    rw [hcat5.out, ← hP5l.out] at ho9
                    obtain ⟨oa9, oc9, rfl⟩ := own_form ho9
                    clear hg9 hr8 ho8 hb8
                    replace hr9 := Lib.hid hr9; replace ho9 := Lib.hid ho9; replace hb9 := Lib.hid hb9
                    go_wp2_with (at_builtin; refine wpList_append_onto' _ rfl _ _ 38 rfl F 5 ib (.int .u8 0) 1 1 Tryd.underlying38 hib hzb0 hzb1 hzb2 rfl (by decide) _ _ _ rfl (ho9.out.alloc _) ⟨w9.heap.size, 0, none⟩ 1 1 [.int .u8 10] rfl rfl ?e1 ?e2 ?e3 ?e4 ?e5 ?_)
                    case e1 => exact cell_one_new _ _ _
                    case e2 => simp [Value.oneCell']
                    case e3 => simp only [maxLen]; rw [hP5l.out]; omega
                    case e4 => rw [hP5l.out]; omega
                    case e5 => simp; omega
                    intro vT wT hoT hOT
                    have hrT := Lib.hid (own_same (own_same hr9.out (w' := w9.alloc (.cells #[.int .u8 10] 5)) (fun g hg => by simp only [Value.ownBlock, Option.some.injEq] at hg; exact heap_alloc_old _ _ (by rw [← hg]; exact (hr9.out.lt C rfl).2))) (w' := wT) (fun g hg => by simp only [Value.ownBlock, Option.some.injEq] at hg; exact hOT.1.block g (by rw [← hg]; simp; have := (hr9.out.lt C rfl).2; omega) (fun e => by have := (ho9.out.lt g e.symm).1; omega)))
                    have hbT := Lib.hid (hb9.out.trans ((Below.alloc (Below.refl C w9) (by omega) _).trans (hOT.below (by simp; omega) (fun g hg => by have := (ho9.out.lt g hg).1; omega))))
                    have hsT : F ≤ wT.heap.size := by have := hOT.1.size; simp at this; omega
                    rw [hcat6.out, ← hP6l.out] at hoT
                    replace hoT := Lib.hid hoT
                    clear hOT
                    go_wp2_with fail
                    go_roundw
                    case rel => exact ⟨j + 1, by omega, by go_num, hrT.out, hoT.out, hbT.out, hsT⟩
                    case measure => simp only [intOf]; omega
              · rw [hBj, if_pos rfl] at hpdj
                have s1 : (strS (nmAt B j)).toList.isEmpty = false := by rw [strS_emp, nm_yes B j hBj]; rfl
                have hz1 : (strS (nmAt B j)).size = (nmAt B j).length := strS_size _
                have hcat1 : vb (printL l j) ++ Lib.strCells (strS (nmAt B j)) = vb (printL l j ++ nmAt B j) := by
                  rw [strCells_strS, ← vb_append]
                have hcat2 : vb (printL l j ++ nmAt B j) ++ Lib.strCells (⟨#[58, 10]⟩ : ByteArray) = vb (printL l j ++ (nmAt B j ++ [58, 10])) := by
                  rw [← List.append_assoc, vb_append (printL l j ++ nmAt B j)]; rfl
                have hQl : (printL l j ++ (nmAt B j ++ [58, 10])).length ≤ 400 * j + 13 := by simp; omega
                have hQ3 : (printL l j ++ nmAt B j).length = (printL l j).length + (nmAt B j).length := by simp
                have hQ4 : (printL l j ++ (nmAt B j ++ [58, 10])).length = (printL l j).length + (nmAt B j).length + 2 := by simp; omega
                obtain ⟨P4, hP4⟩ : ∃ P4, printL l j ++ (nmAt B j ++ [58, 10]) = P4 := ⟨_, rfl⟩
                rw [hpdj, ← List.append_assoc, hP4] at hpcj
                rw [hP4] at hcat2 hQl hQ4
                obtain ⟨P3, hP3⟩ : ∃ P3, printL l j ++ nmAt B j = P3 := ⟨_, rfl⟩
                rw [hP3] at hcat1 hcat2 hQ3
                obtain ⟨NJ, hNJ⟩ : ∃ NJ, strS (nmAt B j) = NJ := ⟨_, rfl⟩
                rw [hNJ] at s1 hcat1 hnj hz1
                obtain ⟨N0, hN00⟩ : ∃ N0, (printL l j).length = N0 := ⟨_, rfl⟩
                obtain ⟨NL, hNL⟩ : ∃ NL, (nmAt B j).length = NL := ⟨_, rfl⟩
                rw [hNL] at hQ3 hQ4 hz1 hnl
                rw [hN00] at hQ3 hQ4 hpl hoq ⊢
                clear hP4 hP3 hNJ hBj hpdj hNL hN00
                replace hpcj := Lib.hid hpcj; replace hcat1 := Lib.hid hcat1; replace hcat2 := Lib.hid hcat2; replace hrq := Lib.hid hrq; replace hoq := Lib.hid hoq; replace hbq := Lib.hid hbq; replace hQ3 := Lib.hid hQ3; replace hQ4 := Lib.hid hQ4; replace hz1 := Lib.hid hz1
                go_upto_region 24 with (at_builtin; refine Lib.wpList_append_own_string _ rfl _ _ 38 9 rfl F 5 ib Tryd.underlying38 Tryd.underlying9 hib hzb0 hzb1 hzb2 _ _ _ rfl hoq.out NJ rfl ?a1 ?a2 ?a3 ?_)
                case a1 => unfold maxLen; rw [hz1.out]; omega
                case a2 => rw [hz1.out]; omega
                case a3 => exact hsq
                intro v3 w3 ho3 hg3 _
                have hr3 := own_same hrq.out (fun g hg => by simp only [Value.ownBlock, Option.some.injEq] at hg; exact hg3.block g (by rw [← hg]; exact (hrq.out.lt C rfl).2) (fun e => by have := (hoq.out.lt g e.symm).1; omega))
                have hb3 : Below C w w3 := hbq.out.grown hg3 hsC (fun g hg => by have := (hoq.out.lt g hg).1; omega)
                have hs3 := Nat.le_trans hsq hg3.size
                rw [hcat1.out, hz1.out, ← hQ3.out] at ho3
                obtain ⟨oa3, oc3, rfl⟩ := own_form ho3
                clear hg3 hrq hoq hbq
                replace hr3 := Lib.hid hr3; replace ho3 := Lib.hid ho3; replace hb3 := Lib.hid hb3
                go_upto_region 25 with (at_builtin; refine Lib.wpList_append_own_string _ rfl _ _ 38 9 rfl F 5 ib Tryd.underlying38 Tryd.underlying9 hib hzb0 hzb1 hzb2 _ _ _ rfl ho3.out ⟨#[58, 10]⟩ rfl ?b1 ?b2 ?b3 ?_)
                case b1 => unfold maxLen; rw [hQ3.out]; show _ + 2 ≤ _; omega
                case b2 => rw [hQ3.out]; show _ + 2 ≤ _; omega
                case b3 => exact hs3
                intro v4 w4 ho4 hg4 _
                have hr4 := own_same hr3.out (fun g hg => by simp only [Value.ownBlock, Option.some.injEq] at hg; exact hg4.block g (by rw [← hg]; exact (hr3.out.lt C rfl).2) (fun e => by have := (ho3.out.lt g e.symm).1; omega))
                have hb4 : Below C w w4 := hb3.out.grown hg4 (by omega) (fun g hg => by have := (ho3.out.lt g hg).1; omega)
                have hs4 := Nat.le_trans hs3 hg4.size
                have hP4l : P3.length + 2 = P4.length := by rw [hQ3.out, hQ4.out]
                rw [hcat2.out, hP4l] at ho4
                obtain ⟨oa4, oc4, rfl⟩ := own_form ho4
                clear hg4 hr3 ho3 hb3 hP4l s1
                replace hr4 := Lib.hid hr4; replace ho4 := Lib.hid ho4; replace hb4 := Lib.hid hb4
                by_cases hjk : j = n
                · have hlast := hpcj.out
                  rw [if_neg (by omega), List.append_nil] at hlast
                  have dj : decide ((j : Int) < (n : Int)) = false := decide_eq_false (by omega)
                  have djn : ¬ j < n := by omega
                  have dji : ¬ (j : Int) < (n : Int) := by omega
                  replace hlast := Lib.hid hlast
                  replace hjk := Lib.hid hjk
                  go_wp2_with fail
                  go_roundw
                  case rel => exact ⟨j + 1, by omega, by go_num, hr4.out, by rw [hlast.out]; exact ho4.out, hb4.out, hs4⟩
                  case measure => simp only [intOf]; omega
                · have dj : decide ((j : Int) < (n : Int)) = true := decide_eq_true (by omega)
                  have hjl : j < n := by omega
                  have hnext := hpcj.out
                  rw [if_pos hjl] at hnext
                  obtain ⟨b, off, rfl, hbl, hc⟩ := hW.out j hjl
                  have hcell : w4.cell? ⟨b, off + j, none⟩ = some (.int .u32 (wAt l j)) := by rw [hb4.out.cell (p := ⟨b, off + j, none⟩) (by rw [← hC.out]; exact hbl)]; exact hc
                  have hwb := wAt_bd l j
                  have htc := fun W hW => rtarget_any (wAt l j) j n W hW hwb.1 hwb.2 (by omega) (by omega)
                  have hTo := Lib.hid (hT.later (below_at hb4.out hC.out))
                  have hs4C := below_size hb4.out hC.out
                  have hlb := hLb.out j
                  have i2k : (j : Int) < (n : Int) := by omega
                  clear hpcj
                  cases hO : tgtO (wAt l j) j n with
                  | none =>
                    have hrt : rtgt (wAt l j) j n = -1 := by unfold rtgt; rw [hO]
                    rw [hrt] at htc
                    rw [hO] at hnext hlb
                    have hlab : labL B none = [] := rfl
                    rw [hlab] at hnext hlb
                    have hLS : strS ([] : List UInt8) = (⟨#[]⟩ : ByteArray) := rfl
                    clear hlab hrt
                    have hll := line_len (wAt l j) ([] : List UInt8) hwb.1 hwb.2 hlb
                    have hlc := fun W hW1 => rtext_any (wAt l j) ([] : List UInt8) W hW1 hwb.1 hwb.2 hlb
                    rw [hLS] at hlc
                    clear hLS
                    have hcat5 : vb P4 ++ Lib.strCells (strS (lineL (wAt l j) ([] : List UInt8))) = vb (P4 ++ lineL (wAt l j) ([] : List UInt8)) := by
                      rw [strCells_strS, ← vb_append]
                    have hcat6 : vb (P4 ++ lineL (wAt l j) ([] : List UInt8)) ++ [.int .u8 10] = vb (printL l (j + 1)) := by
                      rw [hnext, ← List.append_assoc, vb_append (P4 ++ lineL (wAt l j) ([] : List UInt8))]; rfl
                    have hz5 : (strS (lineL (wAt l j) ([] : List UInt8))).size = (lineL (wAt l j) ([] : List UInt8)).length := strS_size _
                    have hP5l : (P4 ++ lineL (wAt l j) ([] : List UInt8)).length = P4.length + (lineL (wAt l j) ([] : List UInt8)).length := by simp
                    have hP6l : (printL l (j + 1)).length = (P4 ++ lineL (wAt l j) ([] : List UInt8)).length + 1 := by rw [hnext]; simp; omega
                    obtain ⟨LN, hLN⟩ : ∃ LN, strS (lineL (wAt l j) ([] : List UInt8)) = LN := ⟨_, rfl⟩
                    rw [hLN] at hcat5 hz5
                    simp only [hLN] at hlc
                    obtain ⟨P5, hP5⟩ : ∃ P5, P4 ++ lineL (wAt l j) ([] : List UInt8) = P5 := ⟨_, rfl⟩
                    rw [hP5] at hcat5 hcat6 hP5l hP6l
                    rw [← hz5] at hP5l hll
                    obtain ⟨x, hx⟩ : ∃ x, wAt l j = x := ⟨_, rfl⟩
                    rw [hx] at hcell htc hwb
                    simp only [hx] at hlc
                    clear hc hx hO hLN hnext hlb hP5 hz5
                    replace htc := Lib.hid htc; replace hlc := Lib.hid hlc; replace hcat5 := Lib.hid hcat5; replace hcat6 := Lib.hid hcat6; replace hP5l := Lib.hid hP5l; replace hP6l := Lib.hid hP6l
                    go_upto_region 31 with (first
                      | (go_at_call 14; refine (htc.out _ hTo.out).mono ?_; rintro e w7 ⟨b7, rfl⟩; have hcell7 : w7.cell? ⟨b, off + j, none⟩ = some (.int .u32 x) := (b7.cell (p := ⟨b, off + j, none⟩) (by rw [hC.out] at hbl; show b < _; omega)).trans hcell; have hb7 := Lib.hid (hb4.out.trans (b7.mono hs4C)); have hr7 := own_below hr4.out b7; have ho7 := Lib.hid (own_below ho4.out b7); have hs7 := Nat.le_trans hs4 b7.size; have hT7 := Lib.hid (hT.later (below_at hb7.out hC.out)); clear b7; replace hr7 := Lib.hid hr7)
                      | (go_at_call 16; refine (hlc.out _ hT7.out).mono ?_; rintro e w8 ⟨b8, rfl⟩; have hb8 := Lib.hid (hb7.out.trans (b8.mono (below_size hb7.out hC.out))); have hr8 := Lib.hid (own_below hr7.out b8); have ho8 := Lib.hid (own_below ho7.out b8); have hs8 := Nat.le_trans hs7 b8.size; clear b8)
                      | (at_builtin; refine Lib.wpList_append_own_string _ rfl _ _ 38 9 rfl F 5 ib Tryd.underlying38 Tryd.underlying9 hib hzb0 hzb1 hzb2 _ _ _ rfl ho8.out LN rfl ?c1 ?c2 ?c3 ?_))
                    case c1 => unfold maxLen; omega
                    case c2 => omega
                    case c3 => exact hs8
                    intro v9 w9 ho9 hg9 _
                    have hr9 := own_same hr8.out (fun g hg => by simp only [Value.ownBlock, Option.some.injEq] at hg; exact hg9.block g (by rw [← hg]; exact (hr8.out.lt C rfl).2) (fun e => by have := (ho8.out.lt g e.symm).1; omega))
                    have hb9 : Below C w w9 := hb8.out.grown hg9 (by omega) (fun g hg => by have := (ho8.out.lt g hg).1; omega)
                    have hs9 := Nat.le_trans hs8 hg9.size
                    rw [hcat5.out, ← hP5l.out] at ho9
                    obtain ⟨oa9, oc9, rfl⟩ := own_form ho9
                    clear hg9 hr8 ho8 hb8
                    replace hr9 := Lib.hid hr9; replace ho9 := Lib.hid ho9; replace hb9 := Lib.hid hb9
                    go_wp2_with (at_builtin; refine wpList_append_onto' _ rfl _ _ 38 rfl F 5 ib (.int .u8 0) 1 1 Tryd.underlying38 hib hzb0 hzb1 hzb2 rfl (by decide) _ _ _ rfl (ho9.out.alloc _) ⟨w9.heap.size, 0, none⟩ 1 1 [.int .u8 10] rfl rfl ?e1 ?e2 ?e3 ?e4 ?e5 ?_)
                    case e1 => exact cell_one_new _ _ _
                    case e2 => simp [Value.oneCell']
                    case e3 => simp only [maxLen]; rw [hP5l.out]; omega
                    case e4 => rw [hP5l.out]; omega
                    case e5 => simp; omega
                    intro vT wT hoT hOT
                    have hrT := Lib.hid (own_same (own_same hr9.out (w' := w9.alloc (.cells #[.int .u8 10] 5)) (fun g hg => by simp only [Value.ownBlock, Option.some.injEq] at hg; exact heap_alloc_old _ _ (by rw [← hg]; exact (hr9.out.lt C rfl).2))) (w' := wT) (fun g hg => by simp only [Value.ownBlock, Option.some.injEq] at hg; exact hOT.1.block g (by rw [← hg]; simp; have := (hr9.out.lt C rfl).2; omega) (fun e => by have := (ho9.out.lt g e.symm).1; omega)))
                    have hbT := Lib.hid (hb9.out.trans ((Below.alloc (Below.refl C w9) (by omega) _).trans (hOT.below (by simp; omega) (fun g hg => by have := (ho9.out.lt g hg).1; omega))))
                    have hsT : F ≤ wT.heap.size := by have := hOT.1.size; simp at this; omega
                    rw [hcat6.out, ← hP6l.out] at hoT
                    replace hoT := Lib.hid hoT
                    clear hOT
                    go_wp2_with fail
                    go_roundw
                    case rel => exact ⟨j + 1, by omega, by go_num, hrT.out, hoT.out, hbT.out, hsT⟩
                    case measure => simp only [intOf]; omega
                  | some t =>
                    have htl := tgtO_le hO
                    have hrt : rtgt (wAt l j) j n = t := by unfold rtgt; rw [hO]
                    rw [hrt] at htc
                    rw [hO] at hnext hlb
                    have hlab : labL B (some t) = nmAt B t := rfl
                    rw [hlab] at hnext hlb
                    obtain ⟨LB, hLB⟩ : ∃ LB, nmAt B t = LB := ⟨_, rfl⟩
                    have hnt := nm2_full B (n + 1) t (by omega)
                    rw [hLB] at hnext hlb hnt
                    have t1 : (0 : Int) ≤ (t : Int) := by omega
                    have t2 : (t : Int) < (n : Int) + 1 := by omega
                    clear hLB hlab hrt
                    replace hnt := Lib.hid hnt
                    have hll := line_len (wAt l j) LB hwb.1 hwb.2 hlb
                    have hlc := fun W hW1 => rtext_any (wAt l j) LB W hW1 hwb.1 hwb.2 hlb
                    have hcat5 : vb P4 ++ Lib.strCells (strS (lineL (wAt l j) LB)) = vb (P4 ++ lineL (wAt l j) LB) := by
                      rw [strCells_strS, ← vb_append]
                    have hcat6 : vb (P4 ++ lineL (wAt l j) LB) ++ [.int .u8 10] = vb (printL l (j + 1)) := by
                      rw [hnext, ← List.append_assoc, vb_append (P4 ++ lineL (wAt l j) LB)]; rfl
                    have hz5 : (strS (lineL (wAt l j) LB)).size = (lineL (wAt l j) LB).length := strS_size _
                    have hP5l : (P4 ++ lineL (wAt l j) LB).length = P4.length + (lineL (wAt l j) LB).length := by simp
                    have hP6l : (printL l (j + 1)).length = (P4 ++ lineL (wAt l j) LB).length + 1 := by rw [hnext]; simp; omega
                    obtain ⟨LN, hLN⟩ : ∃ LN, strS (lineL (wAt l j) LB) = LN := ⟨_, rfl⟩
                    rw [hLN] at hcat5 hz5
                    simp only [hLN] at hlc
                    obtain ⟨P5, hP5⟩ : ∃ P5, P4 ++ lineL (wAt l j) LB = P5 := ⟨_, rfl⟩
                    rw [hP5] at hcat5 hcat6 hP5l hP6l
                    rw [← hz5] at hP5l hll
                    obtain ⟨x, hx⟩ : ∃ x, wAt l j = x := ⟨_, rfl⟩
                    rw [hx] at hcell htc hwb
                    simp only [hx] at hlc
                    clear hc hx hO hLN hnext hlb hP5 hz5
                    replace htc := Lib.hid htc; replace hlc := Lib.hid hlc; replace hcat5 := Lib.hid hcat5; replace hcat6 := Lib.hid hcat6; replace hP5l := Lib.hid hP5l; replace hP6l := Lib.hid hP6l
                    go_upto_region 31 with (first
                      | (go_at_call 14; refine (htc.out _ hTo.out).mono ?_; rintro e w7 ⟨b7, rfl⟩; have hcell7 : w7.cell? ⟨b, off + j, none⟩ = some (.int .u32 x) := (b7.cell (p := ⟨b, off + j, none⟩) (by rw [hC.out] at hbl; show b < _; omega)).trans hcell; have hb7 := Lib.hid (hb4.out.trans (b7.mono hs4C)); have hr7 := own_below hr4.out b7; have ho7 := Lib.hid (own_below ho4.out b7); have hs7 := Nat.le_trans hs4 b7.size; have hT7 := Lib.hid (hT.later (below_at hb7.out hC.out)); have hnt7 : w7.cell? ⟨C, t, none⟩ = some (.string (strS LB)) := (hr7.cellAt t (by omega)).trans hnt.out; clear b7; replace hr7 := Lib.hid hr7)
                      | (go_at_call 16; refine (hlc.out _ hT7.out).mono ?_; rintro e w8 ⟨b8, rfl⟩; have hb8 := Lib.hid (hb7.out.trans (b8.mono (below_size hb7.out hC.out))); have hr8 := Lib.hid (own_below hr7.out b8); have ho8 := Lib.hid (own_below ho7.out b8); have hs8 := Nat.le_trans hs7 b8.size; clear b8)
                      | (at_builtin; refine Lib.wpList_append_own_string _ rfl _ _ 38 9 rfl F 5 ib Tryd.underlying38 Tryd.underlying9 hib hzb0 hzb1 hzb2 _ _ _ rfl ho8.out LN rfl ?d1 ?d2 ?d3 ?_))
                    case d1 => unfold maxLen; omega
                    case d2 => omega
                    case d3 => exact hs8
                    intro v9 w9 ho9 hg9 _
                    have hr9 := own_same hr8.out (fun g hg => by simp only [Value.ownBlock, Option.some.injEq] at hg; exact hg9.block g (by rw [← hg]; exact (hr8.out.lt C rfl).2) (fun e => by have := (ho8.out.lt g e.symm).1; omega))
                    have hb9 : Below C w w9 := hb8.out.grown hg9 (by omega) (fun g hg => by have := (ho8.out.lt g hg).1; omega)
                    have hs9 := Nat.le_trans hs8 hg9.size
                    rw [hcat5.out, ← hP5l.out] at ho9
                    obtain ⟨oa9, oc9, rfl⟩ := own_form ho9
                    clear hg9 hr8 ho8 hb8
                    replace hr9 := Lib.hid hr9; replace ho9 := Lib.hid ho9; replace hb9 := Lib.hid hb9
                    go_wp2_with (at_builtin; refine wpList_append_onto' _ rfl _ _ 38 rfl F 5 ib (.int .u8 0) 1 1 Tryd.underlying38 hib hzb0 hzb1 hzb2 rfl (by decide) _ _ _ rfl (ho9.out.alloc _) ⟨w9.heap.size, 0, none⟩ 1 1 [.int .u8 10] rfl rfl ?e1 ?e2 ?e3 ?e4 ?e5 ?_)
                    case e1 => exact cell_one_new _ _ _
                    case e2 => simp [Value.oneCell']
                    case e3 => simp only [maxLen]; rw [hP5l.out]; omega
                    case e4 => rw [hP5l.out]; omega
                    case e5 => simp; omega
                    intro vT wT hoT hOT
                    have hrT := Lib.hid (own_same (own_same hr9.out (w' := w9.alloc (.cells #[.int .u8 10] 5)) (fun g hg => by simp only [Value.ownBlock, Option.some.injEq] at hg; exact heap_alloc_old _ _ (by rw [← hg]; exact (hr9.out.lt C rfl).2))) (w' := wT) (fun g hg => by simp only [Value.ownBlock, Option.some.injEq] at hg; exact hOT.1.block g (by rw [← hg]; simp; have := (hr9.out.lt C rfl).2; omega) (fun e => by have := (ho9.out.lt g e.symm).1; omega)))
                    have hbT := Lib.hid (hb9.out.trans ((Below.alloc (Below.refl C w9) (by omega) _).trans (hOT.below (by simp; omega) (fun g hg => by have := (ho9.out.lt g hg).1; omega))))
                    have hsT : F ≤ wT.heap.size := by have := hOT.1.size; simp at this; omega
                    rw [hcat6.out, ← hP6l.out] at hoT
                    replace hoT := Lib.hid hoT
                    clear hOT
                    go_wp2_with fail
                    go_roundw
                    case rel => exact ⟨j + 1, by omega, by go_num, hrT.out, hoT.out, hbT.out, hsT⟩
                    case measure => simp only [intOf]; omega
            · have hje2 : j = n + 1 := by omega
              rw [hje2] at hoq
              have hcv := conv_bytes (P := Tryd.prog) (Rd.of_own hoq) 38 5 9 Tryd.underlying38 Tryd.underlying5 Tryd.underlying9
              change _ = Result.ok (Value.string (strS (printL l (n + 1)))) wq at hcv
              rw [hR.out, ← hje2] at hcv
              have i3 : decide ((j : Int) ≤ (n : Int)) = false := decide_eq_false (by omega)
              replace hje2 := Lib.hid hje2; replace hoq := Lib.hid hoq; replace hbq := Lib.hid hbq
              go_wp2_with fail
              refine bodyPost_ret (v := .tuple #[.string R, .int .i64 0]) (by simp [results, Tryd.results5, go_sem]) rfl ⟨hbq.out, rfl⟩
end YtiknookfnameiaaDoor
end Go.Proofs
