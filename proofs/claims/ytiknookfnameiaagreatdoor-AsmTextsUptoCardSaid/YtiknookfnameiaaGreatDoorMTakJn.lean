/- The contract of asm's take (printed by genMTak.py). -/
import Derived.Test.YtiknookfnameiaaGreatDoorJn44
namespace Go.Proofs.YtiknookfnameiaaGreatDoor
open Go.RowKit WP
set_option linter.unusedSimpArgs false
set_option linter.unusedVariables false
def slLen : Value → Nat
 | .slice _ n _ => n
 | _ => 0
theorem cut_size (s : ByteArray) : (cutC s).size ≤ s.size := by unfold cutC; rw [ByteArray.size_extract]; omega
set_option maxRecDepth 100000 in
set_option maxHeartbeats 4000000 in
theorem take_any {B : Nat} {w0 w : World} {R : Nat} {base : Int} {ln : Nat} {st : Asm} (hR : RAt B w0 w R base ln st) (hE : AEnv w0) (hst : st.ws.length ≤ 2048) (hlat : st.lat.length ≤ 2048) (ws : List W) (v : Value) (hws : WsAt w v ws) (hsz : ∀ x ∈ ws, x.1.size ≤ 1048576) (hol : ws.length ≤ 1048576) (hlab : st.labs.length + ws.length ≤ 1048576) :
  Calls Tryz.prog 40 #[ptr R, v] w fun e w' => StRes B w0 R base ln w' e (takeM ln ws st) := by
 obtain ⟨FR, hFR⟩ : ∃ FR, takeM ln ws st = FR := ⟨_, rfl⟩
 rw [hFR]
 have hrel0 : RAt B w0 w R base ln st ∧ WsAt w v ws ∧ takeM ln ws st = FR ∧ st.ws.length ≤ 2048 ∧ st.lat.length ≤ 2048 ∧ ws.length ≤ 1048576 ∧ st.labs.length + ws.length ≤ 1048576 ∧ ∀ x ∈ ws, x.1.size ≤ 1048576 := ⟨hR, hws, hFR, hst, hlat, hol, hlab, hsz⟩
 obtain ⟨ao, cap, hv, _⟩ := id hws
 subst hv
 clear hR hws hFR hst hlat hol hlab hsz
 replace hrel0 := Lib.hid hrel0
 go_enter Tryz.func40, Tryz.ntmps40
 go_wp2_with fail
 go_loopw [1] (fun v1 wr => ∃ (rest : List W) (s1 : Asm), RAt B w0 wr R base ln s1 ∧ WsAt wr v1 rest ∧ takeM ln rest s1 = FR ∧ s1.ws.length ≤ 2048 ∧ s1.lat.length ≤ 2048 ∧ rest.length ≤ 1048576 ∧ s1.labs.length + rest.length ≤ 1048576 ∧ ∀ x ∈ rest, x.1.size ≤ 1048576) (fun v1 _ => slLen v1)
 case atStart => exact ⟨ws, st, hrel0.out⟩
 case round =>
  obtain ⟨wo, rfl⟩ : ∃ wo, wo = wr := ⟨wr, rfl⟩
  obtain ⟨rest, s1, hRt, hWs, hTk, b1, b2, b3, b4, hsz⟩ := hrel
  clear hrel0
  cases rest with
  | nil =>
   obtain ⟨ao, cap, rfl, p1, p2, _⟩ := hWs
   simp only [List.length_nil]
   obtain rfl : Sum.inl s1 = FR := hTk
   replace hRt := Lib.hid hRt
   clear hsz b1 b2 b3 b4
   go_wp2_with fail
   go_ret
   exact ⟨rfl, hRt.out⟩
  | cons x rest =>
   obtain ⟨b, off, cap, rfl, p1, p2, hX⟩ := hWs.zero
   have hxs : x.1.size ≤ 1048576 := hsz x (by simp)
   obtain ⟨xs, xq, xc⟩ := x
   simp only at hX hxs
   obtain ⟨L, hL⟩ : ∃ L, rest.length = L := ⟨_, rfl⟩
   rw [hL] at p1 ⊢
   rw [List.length_cons, hL] at b3 b4
   have hn0 : (0 : Int) < (L : Int) + 1 := by omega
   have hn1 : decide (((L + 1 : Nat) : Int) > 0) = true := decide_eq_true (by omega)
   have hn2 : (0 : Int) < ((L + 1 : Nat) : Int) := by omega
   have hn3 : ¬ ((L : Int) + 1 = 0) := by omega
   have hn4 : ¬ (((L + 1 : Nat) : Int) = 0) := by omega
   obtain ⟨o0, o1, o2⟩ := hX wo (Keep.refl _)
   replace hX := Lib.hid hX; replace hL := Lib.hid hL; replace hRt := Lib.hid hRt; replace hWs := Lib.hid hWs; replace hsz := Lib.hid hsz
   rw [takeM] at hTk
   cases xq with
   | true =>
    rw [if_neg (by simp)] at hTk
    have hd := hRt.out.later (Below.refl _ wo).drew
    obtain ⟨v2, hsr, hw2, ao2, ca2, hv2⟩ := slice_rest hWs.out
    subst hv2
    rw [hL.out] at hsr
    have hstm := stmt_any hd hE b1 b2 (xs, true, xc) rest _ ((hw2 _ (Keep.below (Below.refl _ wo).drew))) (fun y hy => hsz.out y (by simp [hy])) (by have := hL.out; omega)
    unfold wV at hstm
    rw [hTk] at hstm
    dsimp only at hstm
    try rw [hL.out] at hstm
    obtain ⟨o0, o1, o2⟩ := hX.out wo (Keep.refl _)
    clear hd hw2
    replace hstm := Lib.hid hstm
    go_upto_region 13 with fail
    refine wp_region_held_drew (S := (fun _ : World => True)) (by kernel_rfl) (True.intro) (fun hHeld => ?_)
    refine wpAnyH_take (i := 0) (v := ?v35) rfl (by kernel_rfl) (by kernel_rfl) (by kernel_rfl) (fun _ _ _ h => h) (Or.inl ⟨by rfl, ?h35⟩) (by assumption) ?r35
    case h35 =>
     intro w' hSw
     try dsimp only at hSw
     go_simp
     try with_reducible rfl
    try simp only [Act.put, List.getElem_toArray, List.getElem_cons_succ, List.getElem_cons_zero, List.setIfInBounds_toArray, List.set_cons_zero, List.set_cons_succ]
    refine wpAnyH_take (i := 1) (v := ?v36) rfl (by kernel_rfl) (by kernel_rfl) (by kernel_rfl) (fun _ _ _ h => h) (Or.inl ⟨by rfl, ?h36⟩) (by assumption) ?r36
    case h36 =>
     intro w' hSw
     try dsimp only at hSw
     go_simp
     try with_reducible rfl
    try simp only [Act.put, List.getElem_toArray, List.getElem_cons_succ, List.getElem_cons_zero, List.setIfInBounds_toArray, List.set_cons_zero, List.set_cons_succ]
    refine wpAnyH_take (i := 2) (v := ?v37) rfl (by kernel_rfl) (by kernel_rfl) (by kernel_rfl) (fun _ _ _ h => h) (Or.inl ⟨by rfl, ?h37⟩) (by assumption) ?r37
    case h37 =>
     intro w' hSw
     try dsimp only at hSw
     go_simp
     try with_reducible rfl
    try simp only [Act.put, List.getElem_toArray, List.getElem_cons_succ, List.getElem_cons_zero, List.setIfInBounds_toArray, List.set_cons_zero, List.set_cons_succ]
    refine wpAnyH_take (i := 4) (v := ?v38) rfl (by kernel_rfl) (by kernel_rfl) (by kernel_rfl) (fun _ _ _ h => h) (Or.inl ⟨by rfl, ?h38⟩) (by assumption) ?r38
    case h38 =>
     intro w' hSw
     try dsimp only at hSw
     go_simp
     try with_reducible rfl
    try simp only [Act.put, List.getElem_toArray, List.getElem_cons_succ, List.getElem_cons_zero, List.setIfInBounds_toArray, List.set_cons_zero, List.set_cons_succ]
    refine wpAnyH_take (i := 5) (v := ?v39) rfl (by kernel_rfl) (by kernel_rfl) (by kernel_rfl) (fun _ _ _ h => h) (Or.inl ⟨by rfl, ?h39⟩) (by assumption) ?r39
    case h39 =>
     intro w' hSw
     try dsimp only at hSw
     go_simp
     try with_reducible rfl
    try simp only [Act.put, List.getElem_toArray, List.getElem_cons_succ, List.getElem_cons_zero, List.setIfInBounds_toArray, List.set_cons_zero, List.set_cons_succ]
    refine wpAnyH_ready (rs := [3]) (by kernel_rfl) (by simp) ?_
    refine AllReadyH.cons (o := _) rfl (fun K hK => ?step42) ?more42
    case step42 =>
     go_simp
     try dsimp only
     refine hK.out _ _ (True.intro) (fun hHeld => ?_)
     clear hK K
     try simp only [Act.put, List.getElem_toArray, List.getElem_cons_succ, List.getElem_cons_zero, List.setIfInBounds_toArray, List.set_cons_zero, List.set_cons_succ]
     refine wpAnyH_ready (rs := [6]) (by kernel_rfl) (by simp) ?_
     refine AllReadyH.cons (o := _) rfl (fun K hK => ?step41) ?more41
     case step41 =>
      go_simp
      refine hstm.out.mono ?_
      rintro e w3 hres
      obtain ⟨ev, rfl⟩ : ∃ ev, e = .returned ev := by
       cases FR with
       | inl s => exact ⟨_, hres.1⟩
       | inr f => obtain ⟨⟨fv, h, _⟩, _⟩ := hres; exact ⟨_, h⟩
      replace hres := Lib.hid hres
      try dsimp only
      refine hK.out _ _ (True.intro) (fun hHeld => ?_)
      clear hK K
      try simp only [Act.put, List.getElem_toArray, List.getElem_cons_succ, List.getElem_cons_zero, List.setIfInBounds_toArray, List.set_cons_zero, List.set_cons_succ]
      refine wpAnyH_take (i := 7) (v := ?v40) rfl (by kernel_rfl) (by kernel_rfl) (by kernel_rfl) (fun _ _ _ h => h) (Or.inl ⟨by rfl, ?h40⟩) (by assumption) ?r40
      case h40 =>
       intro w' hSw
       try dsimp only at hSw
       go_simp
       try with_reducible rfl
      try simp only [Act.put, List.getElem_toArray, List.getElem_cons_succ, List.getElem_cons_zero, List.setIfInBounds_toArray, List.set_cons_zero, List.set_cons_succ]
      refine wpAnyH_done (by kernel_rfl) ?_ _
      replace hres := hres.out
      clear hstm
      cases FR with
      | inl st' =>
       obtain ⟨he, hra⟩ := hres
       simp only [Ending.returned.injEq] at he
       subst he
       replace hra := Lib.hid hra
       go_wp2_with fail
       go_ret
       exact ⟨rfl, hra.out⟩
      | inr f =>
       obtain ⟨⟨fv, he, hft⟩, hbl⟩ := hres
       simp only [Ending.returned.injEq] at he
       subst he
       replace hft := Lib.hid hft; replace hbl := Lib.hid hbl
       go_wp2_with fail
       go_ret
       exact ⟨⟨_, rfl, hft.out⟩, hbl.out⟩
     exact AllReadyH.nil
    exact AllReadyH.nil
   | false =>
    have hss := fun W => hass_any xs W (by omega)
    cases hce : colonEnd xs with
    | false =>
     rw [hce] at hss
     rw [if_neg (by simp [hce])] at hTk
     go_wp2_with fail
     refine (hss _).mono ?_
     rintro e w3 ⟨rfl, hw3⟩
     rw [hw3]
     clear hw3 w3 hss
     have hd := hRt.out.later (Below.refl _ wo).drew
     obtain ⟨v2, hsr, hw2, ao2, ca2, hv2⟩ := slice_rest hWs.out
     subst hv2
     rw [hL.out] at hsr
     have hstm := stmt_any hd hE b1 b2 (xs, false, xc) rest _ ((hw2 _ (Keep.below (Below.refl _ wo).drew))) (fun y hy => hsz.out y (by simp [hy])) (by have := hL.out; omega)
     unfold wV at hstm
     rw [hTk] at hstm
     dsimp only at hstm
     try rw [hL.out] at hstm
     obtain ⟨o0, o1, o2⟩ := hX.out wo (Keep.refl _)
     clear hd hw2
     replace hstm := Lib.hid hstm
     go_upto_region 13 with fail
     refine wp_region_held_drew (S := (fun _ : World => True)) (by kernel_rfl) (True.intro) (fun hHeld => ?_)
     refine wpAnyH_take (i := 0) (v := ?v43) rfl (by kernel_rfl) (by kernel_rfl) (by kernel_rfl) (fun _ _ _ h => h) (Or.inl ⟨by rfl, ?h43⟩) (by assumption) ?r43
     case h43 =>
      intro w' hSw
      try dsimp only at hSw
      go_simp
      try with_reducible rfl
     try simp only [Act.put, List.getElem_toArray, List.getElem_cons_succ, List.getElem_cons_zero, List.setIfInBounds_toArray, List.set_cons_zero, List.set_cons_succ]
     refine wpAnyH_take (i := 1) (v := ?v44) rfl (by kernel_rfl) (by kernel_rfl) (by kernel_rfl) (fun _ _ _ h => h) (Or.inl ⟨by rfl, ?h44⟩) (by assumption) ?r44
     case h44 =>
      intro w' hSw
      try dsimp only at hSw
      go_simp
      try with_reducible rfl
     try simp only [Act.put, List.getElem_toArray, List.getElem_cons_succ, List.getElem_cons_zero, List.setIfInBounds_toArray, List.set_cons_zero, List.set_cons_succ]
     refine wpAnyH_take (i := 2) (v := ?v45) rfl (by kernel_rfl) (by kernel_rfl) (by kernel_rfl) (fun _ _ _ h => h) (Or.inl ⟨by rfl, ?h45⟩) (by assumption) ?r45
     case h45 =>
      intro w' hSw
      try dsimp only at hSw
      go_simp
      try with_reducible rfl
     try simp only [Act.put, List.getElem_toArray, List.getElem_cons_succ, List.getElem_cons_zero, List.setIfInBounds_toArray, List.set_cons_zero, List.set_cons_succ]
     refine wpAnyH_take (i := 4) (v := ?v46) rfl (by kernel_rfl) (by kernel_rfl) (by kernel_rfl) (fun _ _ _ h => h) (Or.inl ⟨by rfl, ?h46⟩) (by assumption) ?r46
     case h46 =>
      intro w' hSw
      try dsimp only at hSw
      go_simp
      try with_reducible rfl
     try simp only [Act.put, List.getElem_toArray, List.getElem_cons_succ, List.getElem_cons_zero, List.setIfInBounds_toArray, List.set_cons_zero, List.set_cons_succ]
     refine wpAnyH_take (i := 5) (v := ?v47) rfl (by kernel_rfl) (by kernel_rfl) (by kernel_rfl) (fun _ _ _ h => h) (Or.inl ⟨by rfl, ?h47⟩) (by assumption) ?r47
     case h47 =>
      intro w' hSw
      try dsimp only at hSw
      go_simp
      try with_reducible rfl
     try simp only [Act.put, List.getElem_toArray, List.getElem_cons_succ, List.getElem_cons_zero, List.setIfInBounds_toArray, List.set_cons_zero, List.set_cons_succ]
     refine wpAnyH_ready (rs := [3]) (by kernel_rfl) (by simp) ?_
     refine AllReadyH.cons (o := _) rfl (fun K hK => ?step50) ?more50
     case step50 =>
      go_simp
      try dsimp only
      refine hK.out _ _ (True.intro) (fun hHeld => ?_)
      clear hK K
      try simp only [Act.put, List.getElem_toArray, List.getElem_cons_succ, List.getElem_cons_zero, List.setIfInBounds_toArray, List.set_cons_zero, List.set_cons_succ]
      refine wpAnyH_ready (rs := [6]) (by kernel_rfl) (by simp) ?_
      refine AllReadyH.cons (o := _) rfl (fun K hK => ?step49) ?more49
      case step49 =>
       go_simp
       refine hstm.out.mono ?_
       rintro e w3 hres
       obtain ⟨ev, rfl⟩ : ∃ ev, e = .returned ev := by
        cases FR with
        | inl s => exact ⟨_, hres.1⟩
        | inr f => obtain ⟨⟨fv, h, _⟩, _⟩ := hres; exact ⟨_, h⟩
       replace hres := Lib.hid hres
       try dsimp only
       refine hK.out _ _ (True.intro) (fun hHeld => ?_)
       clear hK K
       try simp only [Act.put, List.getElem_toArray, List.getElem_cons_succ, List.getElem_cons_zero, List.setIfInBounds_toArray, List.set_cons_zero, List.set_cons_succ]
       refine wpAnyH_take (i := 7) (v := ?v48) rfl (by kernel_rfl) (by kernel_rfl) (by kernel_rfl) (fun _ _ _ h => h) (Or.inl ⟨by rfl, ?h48⟩) (by assumption) ?r48
       case h48 =>
        intro w' hSw
        try dsimp only at hSw
        go_simp
        try with_reducible rfl
       try simp only [Act.put, List.getElem_toArray, List.getElem_cons_succ, List.getElem_cons_zero, List.setIfInBounds_toArray, List.set_cons_zero, List.set_cons_succ]
       refine wpAnyH_done (by kernel_rfl) ?_ _
       replace hres := hres.out
       clear hstm
       cases FR with
       | inl st' =>
        obtain ⟨he, hra⟩ := hres
        simp only [Ending.returned.injEq] at he
        subst he
        replace hra := Lib.hid hra
        go_wp2_with fail
        go_ret
        exact ⟨rfl, hra.out⟩
       | inr f =>
        obtain ⟨⟨fv, he, hft⟩, hbl⟩ := hres
        simp only [Ending.returned.injEq] at he
        subst he
        replace hft := Lib.hid hft; replace hbl := Lib.hid hbl
        go_wp2_with fail
        go_ret
        exact ⟨⟨_, rfl, hft.out⟩, hbl.out⟩
      exact AllReadyH.nil
     exact AllReadyH.nil
    | true =>
     rw [hce] at hss
     rw [if_pos ⟨rfl, hce⟩] at hTk
     obtain ⟨s, hs⟩ : ∃ s, cutC xs = s := ⟨_, rfl⟩
     have hs2 : s.size ≤ 1048576 := by rw [← hs]; have := cut_size xs; omega
     have htr := fun W => trims_any xs W (by omega) hce
     have hnm := fun W => name_any s W
     simp only [hs] at htr hTk
     obtain ⟨vw, vl, mb, vf, fs, bs, h, hfl⟩ := hRt.out
     obtain ⟨aw, cw, rfl, _, _⟩ := own_shape h.ws
     obtain ⟨al, cl, rfl, _, _⟩ := own_shape h.labs
     have hat := fun e => at_any R ln xc e wo h.c.2.1
     have hbel := h.below
     have hsB : B ≤ wo.heap.size := by have := h.hR; have := h.lt; omega
     have r4 := h.c.2.2.2.2.1
     clear hs hce
     replace h := Lib.hid h; replace hfl := Lib.hid hfl; replace hbel := Lib.hid hbel; replace hat := Lib.hid hat
     cases hnf : nameF s with
     | false =>
      rw [hnf] at hnm hTk
      have e42 : (if false = true then (0 : Int) else 42) = 42 := rfl
      simp only [e42] at hnm
      rw [if_pos rfl] at hTk
      subst hTk
      replace hat := Lib.hid (hat.out 60)
      clear e42
      go_wp2_with fail
      refine (hss _).mono ?_
      rintro e w3 ⟨rfl, hw3⟩
      rw [hw3]
      clear hw3 w3
      go_wp2_with fail
      refine (htr _).mono ?_
      rintro e w3 ⟨rfl, hw3⟩
      rw [hw3]
      clear hw3 w3
      go_wp2_with fail
      refine (hnm _).mono ?_
      rintro e w3 ⟨rfl, hw3⟩
      rw [hw3]
      clear hw3 w3
      go_wp2_with fail
      refine hat.out.mono ?_
      rintro e w4 ⟨fv, rfl, hft, bb⟩
      have hfin := hbel.out.trans (bb.mono hsB)
      replace hft := Lib.hid hft; replace hfin := Lib.hid hfin
      go_wp2_with fail
      go_ret
      exact ⟨⟨_, rfl, hft.out⟩, hfin.out⟩
     | true =>
      rw [hnf] at hnm hTk
      have e0 : (if true = true then (0 : Int) else 42) = 0 := rfl
      simp only [e0] at hnm
      rw [if_neg (by simp)] at hTk
      clear e0
      obtain ⟨c, hlk, hc⟩ := h.out.map.look s (by omega)
      have hl1 := hlk wo rfl
      cases hf : findL s1.labs s with
      | some p =>
       rw [hf] at hTk hl1
       simp only [Option.isSome_some, if_true] at hl1 hTk
       subst hTk
       replace hat := Lib.hid (hat.out 63)
       clear hlk hc
       go_wp2_with fail
       refine (hss _).mono ?_
       rintro e w3 ⟨rfl, hw3⟩
       rw [hw3]
       clear hw3 w3
       go_wp2_with fail
       refine (htr _).mono ?_
       rintro e w3 ⟨rfl, hw3⟩
       rw [hw3]
       clear hw3 w3
       go_wp2_with fail
       refine (hnm _).mono ?_
       rintro e w3 ⟨rfl, hw3⟩
       rw [hw3]
       clear hw3 w3
       go_wp2_with fail
       refine hat.out.mono ?_
       rintro e w4 ⟨fv, rfl, hft, bb⟩
       have hfin := hbel.out.trans (bb.mono hsB)
       replace hft := Lib.hid hft; replace hfin := Lib.hid hfin
       go_wp2_with fail
       go_ret
       exact ⟨⟨_, rfl, hft.out⟩, hfin.out⟩
      | none =>
       rw [hf] at hTk hl1
       rw [if_neg (by simp)] at hTk
       simp only [Option.isSome_none] at hl1
       clear hlk hc
       obtain ⟨P, hP⟩ : ∃ P, s1.ws.length = P := ⟨_, rfl⟩
       have r2 : wo.cell? ⟨R, 2, none⟩ = some (.slice aw P cw) := by rw [← hP]; exact h.out.c.2.2.1
       rw [hP] at hTk
       have hd8 := h.out.later (Below.refl _ wo).drew
       rw [hP] at hd8
       obtain ⟨w6, hmu, hm6, hg6⟩ := hd8.map.put s P (by omega) (by omega) (by omega) hf
       have h6h := hd8.mapd hg6 hm6
       obtain ⟨es8, ck8, hmd8⟩ := hd8.map.lt
       have K6 : Keep wo w6 := (Keep.below (Below.refl _ wo).drew).trans (Keep.mapd hmd8 hg6)
       obtain ⟨v2, hsr, hw2, ao2, ca2, hv2⟩ := slice_rest hWs.out
       subst hv2
       rw [hL.out] at hsr
       clear hd8 hg6 hmd8 h hf hat
       replace h6h := Lib.hid h6h; replace hTk := Lib.hid hTk; replace hP := Lib.hid hP
       go_wp2_with fail
       refine (hss _).mono ?_
       rintro e w3 ⟨rfl, hw3⟩
       rw [hw3]
       clear hw3 w3
       go_wp2_with fail
       refine (htr _).mono ?_
       rintro e w3 ⟨rfl, hw3⟩
       rw [hw3]
       clear hw3 w3
       go_wp2_with fail
       refine (hnm _).mono ?_
       rintro e w3 ⟨rfl, hw3⟩
       rw [hw3]
       clear hw3 w3
       go_upto_region 8 with fail
       refine wp_region_held_drew (S := (fun w' : World => w'.cell? ⟨R, 4, none⟩ = some (.map (some mb)) ∧ w'.cell? ⟨R, 2, none⟩ = some (.slice aw P cw))) (by kernel_rfl) (⟨r4, r2⟩) (fun hHeld => ?_)
       refine wpAnyH_take (i := 0) (v := ?v1) rfl (by kernel_rfl) (by kernel_rfl) (by kernel_rfl) (fun _ _ _ h => h) (Or.inl ⟨by rfl, ?h1⟩) (by assumption) ?r1
       case h1 =>
        intro w' hSw
        try dsimp only at hSw
        go_simp
        try with_reducible rfl
       try simp only [Act.put, List.getElem_toArray, List.getElem_cons_succ, List.getElem_cons_zero, List.setIfInBounds_toArray, List.set_cons_zero, List.set_cons_succ]
       refine wpAnyH_take (i := 1) (v := ?v2) rfl (by kernel_rfl) (by kernel_rfl) (by kernel_rfl) (fun _ _ _ h => h) (Or.inl ⟨by rfl, ?h2⟩) (by assumption) ?r2
       case h2 =>
        intro w' hSw
        try dsimp only at hSw
        go_simp
        try with_reducible rfl
       try simp only [Act.put, List.getElem_toArray, List.getElem_cons_succ, List.getElem_cons_zero, List.setIfInBounds_toArray, List.set_cons_zero, List.set_cons_succ]
       refine wpAnyH_take (i := 2) (v := ?v3) rfl (by kernel_rfl) (by kernel_rfl) (by kernel_rfl) (fun _ _ _ h => h) (Or.inl ⟨by rfl, ?h3⟩) (by assumption) ?r3
       case h3 =>
        intro w' hSw
        try dsimp only at hSw
        go_simp
        try with_reducible rfl
       try simp only [Act.put, List.getElem_toArray, List.getElem_cons_succ, List.getElem_cons_zero, List.setIfInBounds_toArray, List.set_cons_zero, List.set_cons_succ]
       refine wpAnyH_take (i := 3) (v := ?v4) rfl (by kernel_rfl) (by kernel_rfl) (by kernel_rfl) (fun _ _ _ h => h) (Or.inl ⟨by rfl, ?h4⟩) (by assumption) ?r4
       case h4 =>
        intro w' hSw
        try dsimp only at hSw
        go_simp
        try with_reducible rfl
       try simp only [Act.put, List.getElem_toArray, List.getElem_cons_succ, List.getElem_cons_zero, List.setIfInBounds_toArray, List.set_cons_zero, List.set_cons_succ]
       refine wpAnyH_take (i := 4) (v := ?v5) rfl (by kernel_rfl) (by kernel_rfl) (by kernel_rfl) (fun _ _ _ h => h) (Or.inl ⟨by rfl, ?h5⟩) (by assumption) ?r5
       case h5 =>
        intro w' hSw
        try dsimp only at hSw
        go_simp
        try with_reducible rfl
       try simp only [Act.put, List.getElem_toArray, List.getElem_cons_succ, List.getElem_cons_zero, List.setIfInBounds_toArray, List.set_cons_zero, List.set_cons_succ]
       refine wpAnyH_take (i := 5) (v := ?v6) rfl (by kernel_rfl) (by kernel_rfl) (by kernel_rfl) (fun _ _ _ h => h) (Or.inl ⟨by rfl, ?h6⟩) (by assumption) ?r6
       case h6 =>
        intro w' hSw
        try dsimp only at hSw
        go_simp
        try with_reducible rfl
       try simp only [Act.put, List.getElem_toArray, List.getElem_cons_succ, List.getElem_cons_zero, List.setIfInBounds_toArray, List.set_cons_zero, List.set_cons_succ]
       refine wpAnyH_take (i := 6) (v := ?v7) rfl (by kernel_rfl) (by kernel_rfl) (by kernel_rfl) (fun _ _ _ h => h) (Or.inl ⟨by rfl, ?h7⟩) (by assumption) ?r7
       case h7 =>
        intro w' hSw
        try dsimp only at hSw
        go_simp
        try with_reducible rfl
       try simp only [Act.put, List.getElem_toArray, List.getElem_cons_succ, List.getElem_cons_zero, List.setIfInBounds_toArray, List.set_cons_zero, List.set_cons_succ]
       refine wpAnyH_take (i := 7) (v := ?v8) rfl (by kernel_rfl) (by kernel_rfl) (by kernel_rfl) (fun _ _ _ h => h) (Or.inl ⟨by rfl, ?h8⟩) (by assumption) ?r8
       case h8 =>
        intro w' hSw
        try dsimp only at hSw
        go_simp
        try with_reducible rfl
       try simp only [Act.put, List.getElem_toArray, List.getElem_cons_succ, List.getElem_cons_zero, List.setIfInBounds_toArray, List.set_cons_zero, List.set_cons_succ]
       refine wpAnyH_take (i := 8) (v := ?v9) rfl (by kernel_rfl) (by kernel_rfl) (by kernel_rfl) (fun _ _ _ h => h) (Or.inl ⟨by rfl, ?h9⟩) (by assumption) ?r9
       case h9 =>
        intro w' hSw
        try dsimp only at hSw
        go_simp
        try with_reducible rfl
       try simp only [Act.put, List.getElem_toArray, List.getElem_cons_succ, List.getElem_cons_zero, List.setIfInBounds_toArray, List.set_cons_zero, List.set_cons_succ]
       refine wpAnyH_take (i := 9) (v := ?v10) rfl (by kernel_rfl) (by kernel_rfl) (by kernel_rfl) (fun _ _ _ h => h) (Or.inl ⟨by rfl, ?h10⟩) (by assumption) ?r10
       case h10 =>
        intro w' hSw
        try dsimp only at hSw
        go_simp
        try with_reducible rfl
       try simp only [Act.put, List.getElem_toArray, List.getElem_cons_succ, List.getElem_cons_zero, List.setIfInBounds_toArray, List.set_cons_zero, List.set_cons_succ]
       refine wpAnyH_ready (rs := [10]) (by kernel_rfl) (by simp) ?_
       refine AllReadyH.cons (o := _) rfl (fun K hK => ?step34) ?more34
       case step34 =>
        go_simp
        try dsimp only
        refine hK.out _ _ (⟨h6h.out.c.2.2.2.2.1, h6h.out.c.2.2.1⟩) (fun hHeld => ?_)
        clear hK K
        try simp only [Act.put, List.getElem_toArray, List.getElem_cons_succ, List.getElem_cons_zero, List.setIfInBounds_toArray, List.set_cons_zero, List.set_cons_succ]
        refine wpAnyH_done (by kernel_rfl) ?_ _
        clear r4 r2
        clear hmu hm6
        have h6 := h6h.out
        obtain ⟨Q, hQ⟩ : ∃ Q, s1.labs.length = Q := ⟨_, rfl⟩
        have r3 : w6.cell? ⟨R, 3, none⟩ = some (.slice al Q cl) := by rw [← hQ]; exact h6.c.2.2.2.1
        have r3a : ∀ o, (w6.alloc o).cell? ⟨R, 3, none⟩ = some (.slice al Q cl) := fun o => cell_alloc_up r3
        have r2 : w6.cell? ⟨R, 2, none⟩ = some (.slice aw P cw) := h6.c.2.2.1
        have r2d : w6.drew.cell? ⟨R, 2, none⟩ = some (.slice aw P cw) := r2
        have r2a : ((w6.alloc (.cells #[.string s, .int .i64 (P : Int)] 44)).drew).cell? ⟨R, 2, none⟩ = some (.slice aw P cw) := cell_alloc_up r2
        have bd9 : Below w6.heap.size w6 ((w6.alloc (.cells #[.string s, .int .i64 (P : Int)] 44)).drew) := ((Below.refl _ _).alloc (Nat.le_refl _) _).drew
        have kd9 := Keep.below bd9
        have hd := h6.later bd9
        rw [hQ] at b4 hd
        clear bd9 h6 h6h
        replace hd := Lib.hid hd; replace hQ := Lib.hid hQ
        go_upto_region 9 with fail
        refine wp_region_held_drew (S := (fun w' : World => w'.cell? ⟨R, 2, none⟩ = some (.slice aw P cw))) (by kernel_rfl) (r2d) (fun hHeld => ?_)
        refine wpAnyH_take (i := 0) (v := ?v21) rfl (by kernel_rfl) (by kernel_rfl) (by kernel_rfl) (fun _ _ _ h => h) (Or.inl ⟨by rfl, ?h21⟩) (by assumption) ?r21
        case h21 =>
         intro w' hSw
         try dsimp only at hSw
         go_simp
         try with_reducible rfl
        try simp only [Act.put, List.getElem_toArray, List.getElem_cons_succ, List.getElem_cons_zero, List.setIfInBounds_toArray, List.set_cons_zero, List.set_cons_succ]
        refine wpAnyH_take (i := 1) (v := ?v22) rfl (by kernel_rfl) (by kernel_rfl) (by kernel_rfl) (fun _ _ _ h => h) (Or.inl ⟨by rfl, ?h22⟩) (by assumption) ?r22
        case h22 =>
         intro w' hSw
         try dsimp only at hSw
         go_simp
         try with_reducible rfl
        try simp only [Act.put, List.getElem_toArray, List.getElem_cons_succ, List.getElem_cons_zero, List.setIfInBounds_toArray, List.set_cons_zero, List.set_cons_succ]
        refine wpAnyH_take (i := 2) (v := ?v23) rfl (by kernel_rfl) (by kernel_rfl) (by kernel_rfl) (fun _ _ _ h => h) (Or.inl ⟨by rfl, ?h23⟩) (by assumption) ?r23
        case h23 =>
         intro w' hSw
         try dsimp only at hSw
         go_simp
         try with_reducible rfl
        try simp only [Act.put, List.getElem_toArray, List.getElem_cons_succ, List.getElem_cons_zero, List.setIfInBounds_toArray, List.set_cons_zero, List.set_cons_succ]
        refine wpAnyH_take (i := 3) (v := ?v24) rfl (by kernel_rfl) (by kernel_rfl) (by kernel_rfl) (fun _ _ _ h => h) (Or.inl ⟨by rfl, ?h24⟩) (by assumption) ?r24
        case h24 =>
         intro w' hSw
         try dsimp only at hSw
         go_simp
         try with_reducible rfl
        try simp only [Act.put, List.getElem_toArray, List.getElem_cons_succ, List.getElem_cons_zero, List.setIfInBounds_toArray, List.set_cons_zero, List.set_cons_succ]
        refine wpAnyH_take (i := 5) (v := ?v25) rfl (by kernel_rfl) (by kernel_rfl) (by kernel_rfl) (fun _ _ _ h => h) (Or.inl ⟨by rfl, ?h25⟩) (by assumption) ?r25
        case h25 =>
         intro w' hSw
         try dsimp only at hSw
         go_simp
         try with_reducible rfl
        try simp only [Act.put, List.getElem_toArray, List.getElem_cons_succ, List.getElem_cons_zero, List.setIfInBounds_toArray, List.set_cons_zero, List.set_cons_succ]
        refine wpAnyH_take (i := 6) (v := ?v26) rfl (by kernel_rfl) (by kernel_rfl) (by kernel_rfl) (fun _ _ _ h => h) (Or.inl ⟨by rfl, ?h26⟩) (by assumption) ?r26
        case h26 =>
         intro w' hSw
         try dsimp only at hSw
         go_simp
         try with_reducible rfl
        try simp only [Act.put, List.getElem_toArray, List.getElem_cons_succ, List.getElem_cons_zero, List.setIfInBounds_toArray, List.set_cons_zero, List.set_cons_succ]
        refine wpAnyH_take (i := 7) (v := ?v27) rfl (by kernel_rfl) (by kernel_rfl) (by kernel_rfl) (fun _ _ _ h => h) (Or.inl ⟨by rfl, ?h27⟩) (by assumption) ?r27
        case h27 =>
         intro w' hSw
         try dsimp only at hSw
         go_simp
         try with_reducible rfl
        try simp only [Act.put, List.getElem_toArray, List.getElem_cons_succ, List.getElem_cons_zero, List.setIfInBounds_toArray, List.set_cons_zero, List.set_cons_succ]
        refine wpAnyH_take (i := 8) (v := ?v28) rfl (by kernel_rfl) (by kernel_rfl) (by kernel_rfl) (fun _ _ _ h => h) (Or.inl ⟨by rfl, ?h28⟩) (by assumption) ?r28
        case h28 =>
         intro w' hSw
         try dsimp only at hSw
         go_simp
         try with_reducible rfl
        try simp only [Act.put, List.getElem_toArray, List.getElem_cons_succ, List.getElem_cons_zero, List.setIfInBounds_toArray, List.set_cons_zero, List.set_cons_succ]
        refine wpAnyH_take (i := 9) (v := ?v29) rfl (by kernel_rfl) (by kernel_rfl) (by kernel_rfl) (fun _ _ _ h => h) (Or.inl ⟨by rfl, ?h29⟩) (by assumption) ?r29
        case h29 =>
         intro w' hSw
         try dsimp only at hSw
         go_simp
         try with_reducible rfl
        try simp only [Act.put, List.getElem_toArray, List.getElem_cons_succ, List.getElem_cons_zero, List.setIfInBounds_toArray, List.set_cons_zero, List.set_cons_succ]
        refine wpAnyH_take (i := 10) (v := ?v30) rfl (by kernel_rfl) (by kernel_rfl) (by kernel_rfl) (fun _ _ _ h => h) (Or.inl ⟨by rfl, ?h30⟩) (by assumption) ?r30
        case h30 =>
         intro w' hSw
         try dsimp only at hSw
         go_simp
         try with_reducible rfl
        try simp only [Act.put, List.getElem_toArray, List.getElem_cons_succ, List.getElem_cons_zero, List.setIfInBounds_toArray, List.set_cons_zero, List.set_cons_succ]
        refine wpAnyH_take (i := 11) (v := ?v31) rfl (by kernel_rfl) (by kernel_rfl) (by kernel_rfl) (fun _ _ _ h => h) (Or.inl ⟨by rfl, ?h31⟩) (by assumption) ?r31
        case h31 =>
         intro w' hSw
         try dsimp only at hSw
         go_simp
         try with_reducible rfl
        try simp only [Act.put, List.getElem_toArray, List.getElem_cons_succ, List.getElem_cons_zero, List.setIfInBounds_toArray, List.set_cons_zero, List.set_cons_succ]
        refine wpAnyH_ready (rs := [4, 12]) (by kernel_rfl) (by simp) ?_
        refine AllReadyH.cons (o := _) rfl (fun K hK => ?step32) ?more32
        case step32 =>
         go_simp
         try dsimp only
         refine hK.out _ _ (r2d) (fun hHeld => ?_)
         clear hK K
         try simp only [Act.put, List.getElem_toArray, List.getElem_cons_succ, List.getElem_cons_zero, List.setIfInBounds_toArray, List.set_cons_zero, List.set_cons_succ]
         refine wpAnyH_ready (rs := [12]) (by kernel_rfl) (by simp) ?_
         refine AllReadyH.cons (o := _) rfl (fun K hK => ?step15) ?more15
         case step15 =>
          go_simp
          try dsimp only
          refine hK.out _ _ (r2a) (fun hHeld => ?_)
          clear hK K
          try simp only [Act.put, List.getElem_toArray, List.getElem_cons_succ, List.getElem_cons_zero, List.setIfInBounds_toArray, List.set_cons_zero, List.set_cons_succ]
          refine wpAnyH_ready (rs := [13]) (by kernel_rfl) (by simp) ?_
          refine AllReadyH.cons (o := _) rfl (fun K hK => ?step14) ?more14
          case step14 =>
           rw [if_pos (by rfl)]
           obtain ⟨v9, wd, hra, hoa, hOa⟩ := run_lab B ((w6.alloc (.cells #[.string s, .int .i64 (P : Int)] 44)).drew) (.slice al Q cl) Q (lc s1.labs) (by have h := hd.out.labs; rw [hQ.out] at h; exact h) w6.heap.size s (P : Int) _ (by show (w6.alloc (.cells #[.string s, .int .i64 (P : Int)] 44)).cell? ⟨w6.heap.size, 0, none⟩ = some (.string s); exact lit_new rfl rfl) (by show (w6.alloc (.cells #[.string s, .int .i64 (P : Int)] 44)).cell? ⟨w6.heap.size, 1, none⟩ = some (.int .i64 (P : Int)); exact lit_new rfl rfl) (by omega) (by have := hd.out.hR; have := hd.out.lt; omega)
           obtain ⟨hRk, hz⟩ := hd.out.label (p := (s, P)) hOa (by rw [hQ.out]; exact hoa)
           have kg : Keep w6 wd := kd9.trans (Keep.grown hd.out.labs (capT_no (.inr (.inl rfl))) hOa.1)
           have hb6 := hRk.trans hd.out.blk
           have kz : Keep w6 (wd.setCell ⟨R, 3, none⟩ v9) := kg.trans (Keep.set hb6 (capT_no (.inr (.inr (.inr rfl)))))
           have x3 : wd.cell? ⟨R, 3, none⟩ = some (.slice al Q cl) := cell_of_row _ _ 3 _ _ _ hb6
           have x2 : wd.cell? ⟨R, 2, none⟩ = some (.slice aw P cw) := cell_of_row _ _ 2 _ _ _ hb6
           have x3f := frozen_of_row wd R 3 _ _ hb6
           obtain ⟨ao9, ca9, rfl, _, _⟩ := own_shape hoa
           have hz2 := hz.c.2.2.1
           refine Lib.wp_append_run _ _ _ _ _ rfl _ _ rfl rfl _ _ hra ?_
           clear hra hOa hoa hRk hb6
           replace hz := Lib.hid hz; replace kz := Lib.hid kz; replace kg := Lib.hid kg; replace hz2 := Lib.hid hz2
           try dsimp only
           refine hK.out _ _ (x2) (fun hHeld => ?_)
           clear hK K
           try simp only [Act.put, List.getElem_toArray, List.getElem_cons_succ, List.getElem_cons_zero, List.setIfInBounds_toArray, List.set_cons_zero, List.set_cons_succ]
           refine wpAnyH_take (i := 14) (v := ?v11) rfl (by kernel_rfl) (by kernel_rfl) (by kernel_rfl) (fun _ _ _ h => h) (Or.inl ⟨by rfl, ?h11⟩) (by assumption) ?r11
           case h11 =>
            intro w' hSw
            try dsimp only at hSw
            go_simp
            try with_reducible rfl
           try simp only [Act.put, List.getElem_toArray, List.getElem_cons_succ, List.getElem_cons_zero, List.setIfInBounds_toArray, List.set_cons_zero, List.set_cons_succ]
           refine wpAnyH_take (i := 15) (v := ?v12) rfl (by kernel_rfl) (by kernel_rfl) (by kernel_rfl) (fun _ _ _ h => h) (Or.inl ⟨by rfl, ?h12⟩) (by assumption) ?r12
           case h12 =>
            intro w' hSw
            try dsimp only at hSw
            go_simp
            try with_reducible rfl
           try simp only [Act.put, List.getElem_toArray, List.getElem_cons_succ, List.getElem_cons_zero, List.setIfInBounds_toArray, List.set_cons_zero, List.set_cons_succ]
           refine wpAnyH_ready (rs := [16]) (by kernel_rfl) (by simp) ?_
           refine AllReadyH.cons (o := _) rfl (fun K hK => ?step13) ?more13
           case step13 =>
            go_simp
            try dsimp only
            refine hK.out _ _ (hz2.out) (fun hHeld => ?_)
            clear hK K
            try simp only [Act.put, List.getElem_toArray, List.getElem_cons_succ, List.getElem_cons_zero, List.setIfInBounds_toArray, List.set_cons_zero, List.set_cons_succ]
            refine wpAnyH_done (by kernel_rfl) ?_ _
            clear x3 x2 x3f r3 r3a r2 r2a hd
            go_wp2_with fail
            have hfin := hw2 _ (K6.trans kz.out)
            rw [hL.out] at hfin
            go_roundw
            case rel => exact ⟨rest, ⟨s1.ws, s1.labs ++ [(s, P)], s1.lat⟩, ⟨_, _, _, _, _, _, hz.out, hfl.out⟩, hfin, hTk.out, b1, b2, by have := hL.out; omega, by have := hL.out; have := hQ.out; simp only [List.length_append, List.length_singleton]; omega, fun y hy => hsz.out y (by simp [hy])⟩
            case measure => simp [slLen]
           exact AllReadyH.nil
          exact AllReadyH.nil
         exact AllReadyH.nil
        refine AllReadyH.cons (o := _) rfl (fun K hK => ?step33) ?more33
        case step33 =>
         go_simp
         try dsimp only
         refine hK.out _ _ (r2a) (fun hHeld => ?_)
         clear hK K
         try simp only [Act.put, List.getElem_toArray, List.getElem_cons_succ, List.getElem_cons_zero, List.setIfInBounds_toArray, List.set_cons_zero, List.set_cons_succ]
         refine wpAnyH_ready (rs := [4]) (by kernel_rfl) (by simp) ?_
         refine AllReadyH.cons (o := _) rfl (fun K hK => ?step20) ?more20
         case step20 =>
          go_simp
          try dsimp only
          refine hK.out _ _ (r2a) (fun hHeld => ?_)
          clear hK K
          try simp only [Act.put, List.getElem_toArray, List.getElem_cons_succ, List.getElem_cons_zero, List.setIfInBounds_toArray, List.set_cons_zero, List.set_cons_succ]
          refine wpAnyH_ready (rs := [13]) (by kernel_rfl) (by simp) ?_
          refine AllReadyH.cons (o := _) rfl (fun K hK => ?step19) ?more19
          case step19 =>
           rw [if_pos (by rfl)]
           obtain ⟨v9, wd, hra, hoa, hOa⟩ := run_lab B ((w6.alloc (.cells #[.string s, .int .i64 (P : Int)] 44)).drew) (.slice al Q cl) Q (lc s1.labs) (by have h := hd.out.labs; rw [hQ.out] at h; exact h) w6.heap.size s (P : Int) _ (by show (w6.alloc (.cells #[.string s, .int .i64 (P : Int)] 44)).cell? ⟨w6.heap.size, 0, none⟩ = some (.string s); exact lit_new rfl rfl) (by show (w6.alloc (.cells #[.string s, .int .i64 (P : Int)] 44)).cell? ⟨w6.heap.size, 1, none⟩ = some (.int .i64 (P : Int)); exact lit_new rfl rfl) (by omega) (by have := hd.out.hR; have := hd.out.lt; omega)
           obtain ⟨hRk, hz⟩ := hd.out.label (p := (s, P)) hOa (by rw [hQ.out]; exact hoa)
           have kg : Keep w6 wd := kd9.trans (Keep.grown hd.out.labs (capT_no (.inr (.inl rfl))) hOa.1)
           have hb6 := hRk.trans hd.out.blk
           have kz : Keep w6 (wd.setCell ⟨R, 3, none⟩ v9) := kg.trans (Keep.set hb6 (capT_no (.inr (.inr (.inr rfl)))))
           have x3 : wd.cell? ⟨R, 3, none⟩ = some (.slice al Q cl) := cell_of_row _ _ 3 _ _ _ hb6
           have x2 : wd.cell? ⟨R, 2, none⟩ = some (.slice aw P cw) := cell_of_row _ _ 2 _ _ _ hb6
           have x3f := frozen_of_row wd R 3 _ _ hb6
           obtain ⟨ao9, ca9, rfl, _, _⟩ := own_shape hoa
           have hz2 := hz.c.2.2.1
           refine Lib.wp_append_run _ _ _ _ _ rfl _ _ rfl rfl _ _ hra ?_
           clear hra hOa hoa hRk hb6
           replace hz := Lib.hid hz; replace kz := Lib.hid kz; replace kg := Lib.hid kg; replace hz2 := Lib.hid hz2
           try dsimp only
           refine hK.out _ _ (x2) (fun hHeld => ?_)
           clear hK K
           try simp only [Act.put, List.getElem_toArray, List.getElem_cons_succ, List.getElem_cons_zero, List.setIfInBounds_toArray, List.set_cons_zero, List.set_cons_succ]
           refine wpAnyH_take (i := 14) (v := ?v16) rfl (by kernel_rfl) (by kernel_rfl) (by kernel_rfl) (fun _ _ _ h => h) (Or.inl ⟨by rfl, ?h16⟩) (by assumption) ?r16
           case h16 =>
            intro w' hSw
            try dsimp only at hSw
            go_simp
            try with_reducible rfl
           try simp only [Act.put, List.getElem_toArray, List.getElem_cons_succ, List.getElem_cons_zero, List.setIfInBounds_toArray, List.set_cons_zero, List.set_cons_succ]
           refine wpAnyH_take (i := 15) (v := ?v17) rfl (by kernel_rfl) (by kernel_rfl) (by kernel_rfl) (fun _ _ _ h => h) (Or.inl ⟨by rfl, ?h17⟩) (by assumption) ?r17
           case h17 =>
            intro w' hSw
            try dsimp only at hSw
            go_simp
            try with_reducible rfl
           try simp only [Act.put, List.getElem_toArray, List.getElem_cons_succ, List.getElem_cons_zero, List.setIfInBounds_toArray, List.set_cons_zero, List.set_cons_succ]
           refine wpAnyH_ready (rs := [16]) (by kernel_rfl) (by simp) ?_
           refine AllReadyH.cons (o := _) rfl (fun K hK => ?step18) ?more18
           case step18 =>
            go_simp
            try dsimp only
            refine hK.out _ _ (hz2.out) (fun hHeld => ?_)
            clear hK K
            try simp only [Act.put, List.getElem_toArray, List.getElem_cons_succ, List.getElem_cons_zero, List.setIfInBounds_toArray, List.set_cons_zero, List.set_cons_succ]
            refine wpAnyH_done (by kernel_rfl) ?_ _
            clear x3 x2 x3f r3 r3a r2 r2a hd
            go_wp2_with fail
            have hfin := hw2 _ (K6.trans kz.out)
            rw [hL.out] at hfin
            go_roundw
            case rel => exact ⟨rest, ⟨s1.ws, s1.labs ++ [(s, P)], s1.lat⟩, ⟨_, _, _, _, _, _, hz.out, hfl.out⟩, hfin, hTk.out, b1, b2, by have := hL.out; omega, by have := hL.out; have := hQ.out; simp only [List.length_append, List.length_singleton]; omega, fun y hy => hsz.out y (by simp [hy])⟩
            case measure => simp [slLen]
           exact AllReadyH.nil
          exact AllReadyH.nil
         exact AllReadyH.nil
        exact AllReadyH.nil
       exact AllReadyH.nil
end Go.Proofs.YtiknookfnameiaaGreatDoor
