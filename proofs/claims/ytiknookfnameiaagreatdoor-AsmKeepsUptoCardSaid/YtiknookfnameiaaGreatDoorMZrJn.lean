/- The contract of asm's zero (printed by genMZr.py). -/
import Derived.Test.YtiknookfnameiaaGreatDoorMFx2Jn
import Derived.Test.YtiknookfnameiaaGreatDoorMLiJn
namespace Go.Proofs.YtiknookfnameiaaGreatDoor
open Go.RowKit WP
set_option linter.unusedSimpArgs false
set_option linter.unusedVariables false
set_option maxRecDepth 100000 in
set_option maxHeartbeats 20000000 in
theorem zero_any {B : Nat} {w0 w : World} {R : Nat} {base : Int} {ln : Nat} {st : Asm} (hR : RAt B w0 w R base ln st) (hE : AEnv w0) (hst : st.ws.length ≤ 2048) (name : W) (ops : List W) (v : Value) (hops : WsAt w v ops) (hsz : ∀ x ∈ ops, x.1.size ≤ 1048576) (hol : ops.length ≤ 1048576) :
    Calls Tryz.prog 89 #[ptr R, wV name, v] w fun e w' => StRes B w0 R base ln w' e (zeroM ln name ops st) := by
  obtain ⟨vw, vl, mb, vf, fs, bs, h, hfl⟩ := hR
  obtain ⟨aw, cw, rfl, w1a, w1b⟩ := own_shape h.ws
  obtain ⟨ns, nq, nc⟩ := name
  obtain ⟨w1, hw1⟩ : ∃ w1, w.alloc (.cells #[.string ns, .bool nq, .int .i64 (nc : Int)] 152) = w1 := ⟨_, rfl⟩
  have b1 : Below w.heap.size w w1 := by rw [← hw1]; exact (Below.refl w.heap.size w).alloc (Nat.le_refl _) _
  have H4 : w1.heap[w.heap.size]? = some (.cells #[.string ns, .bool nq, .int .i64 (nc : Int)] 152 (0, 0)) := by rw [← hw1]; exact heap_alloc_new w _
  have h1 := h.later b1
  have hW : ∀ W, Keep w1 W → W.cell? ⟨w.heap.size, 0, none⟩ = some (.string ns) ∧ W.cell? ⟨w.heap.size, 1, none⟩ = some (.bool nq) ∧ W.cell? ⟨w.heap.size, 2, none⟩ = some (.int .i64 (nc : Int)) := fun W hW2 =>
    ⟨cell_of_row _ _ 0 _ _ _ (hW2.at_ H4 (.inr (.inl rfl))), cell_of_row _ _ 1 _ _ _ (hW2.at_ H4 (.inr (.inl rfl))), cell_of_row _ _ 2 _ _ _ (hW2.at_ H4 (.inr (.inl rfl)))⟩
  have hOp := hops.later b1
  have hP1 := (h1.env hE).pk.e
  unfold wV
  dsimp only
  clear hops h H4 b1
  replace hW := Lib.hid hW; replace h1 := Lib.hid h1; replace hOp := Lib.hid hOp; replace hfl := Lib.hid hfl; replace hsz := Lib.hid hsz; replace hP1 := Lib.hid hP1
  unfold zeroM
  cases ops with
  | nil =>
    obtain ⟨ao, cap, hv, p1, p2, _⟩ := id hOp.out
    simp only [List.length_nil] at hv p1
    subst hv
    simp only
    obtain ⟨CR, hCR⟩ : ∃ CR, countM ln (ns, nq, nc) [] 1 = CR := ⟨_, rfl⟩
    obtain ⟨RR, hRR⟩ : ∃ RR, roomM ln (ns, nq, nc) st 0 = RR := ⟨_, rfl⟩
    rw [hCR, hRR]
    go_enter Tryz.func89, Tryz.ntmps89
    go_upto_region 1 with fail
    try rw [hw1]
    clear hw1
    have hK := h1.out
    have hKo := hOp.out
    have Kk : Keep w1 w1 := Keep.refl _
    have hKc := hW.out w1 Kk
    replace hK := Lib.hid hK; replace hKo := Lib.hid hKo; replace Kk := Lib.hid Kk; replace hKc := Lib.hid hKc
    have hnn : True := trivial
    have hct := count_any R ln (ns, nq, nc) _ [] 1 w1 hK.out.c.2.1 hKo.out (by omega)
    unfold wV at hct
    rw [hCR] at hct
    obtain ⟨_, hk1, _⟩ := hK.out.c
    replace hct := Lib.hid hct
    obtain ⟨c0, c1, c2⟩ := hKc.out
    go_upto_region 7 with fail
    go_wp2_with fail
    refine hct.out.mono ?_
    rintro e wm ⟨her, bm⟩
    have hm := hK.out.later bm
    obtain ⟨c0, c1, c2⟩ := hW.out wm (Kk.out.trans (Keep.below bm))
    clear bm hK hKo hKc
    cases CR with
    | some f =>
      obtain ⟨fv, rfl, gf, rfl, hgf⟩ := her
      have hfin := hm.below
      replace hgf := Lib.hid hgf; replace hfin := Lib.hid hfin; replace hm := Lib.hid hm
      go_wp2_with fail
      go_ret
      exact ⟨⟨_, rfl, ⟨_, rfl, hgf.out⟩⟩, hfin.out⟩
    | none =>
      obtain rfl : e = _ := her
      have hrm := room_any hm (ns, nq, nc) 0 (by omega) (by omega)
      unfold wV at hrm
      rw [hRR] at hrm
      replace hrm := Lib.hid hrm; replace hm := Lib.hid hm
      go_upto_region 10 with fail
      go_wp2_with fail
      refine hrm.out.mono ?_
      rintro e wa ⟨her, ba⟩
      have ha := hm.out.later ba
      clear ba hm
      cases RR with
      | some f =>
        obtain ⟨fv, rfl, gf, rfl, hgf⟩ := her
        have hfin := ha.below
        replace hgf := Lib.hid hgf; replace hfin := Lib.hid hfin; replace ha := Lib.hid ha
        go_wp2_with fail
        go_ret
        exact ⟨⟨_, rfl, ⟨_, rfl, hgf.out⟩⟩, hfin.out⟩
      | none =>
        obtain rfl : e = _ := her
        have hroom := room_no hRR
        have r2 : wa.cell? ⟨R, 2, none⟩ = some (.slice aw st.ws.length cw) := ha.c.2.2.1
        obtain ⟨L0, hL0⟩ : ∃ L, st.ws.length = L := ⟨_, rfl⟩
        rw [hL0] at r2 hroom
        have hBa : B ≤ wa.heap.size := by have := ha.hR; have := ha.lt; omega
        replace ha := Lib.hid ha; replace hL0 := Lib.hid hL0
        go_upto_region 13 with fail
        obtain ⟨v6, w6, hra, hoa, hOa⟩ := run_append_zs B 22 _ .u32 .u32 Tryz.underlying22 wa (.slice aw L0 cw) L0 (wi st.ws) (by have h := ha.out.ws; rw [hL0.out] at h; exact h) 0 (by omega) hBa
        obtain ⟨hRk, hz⟩ := ha.out.words (l := List.replicate 0 0) (by rw [hL0.out]; exact hOa) (by rw [wi_zeros, hL0.out, List.length_replicate]; exact hoa)
        have hb6 := hRk.trans ha.out.blk
        have x2 : w6.cell? ⟨R, 2, none⟩ = some (.slice aw L0 cw) := (cell_of_row _ _ 2 _ _ _ hb6).trans (by rw [hL0.out]; rfl)
        have x2f := frozen_of_row w6 R 2 _ _ hb6
        obtain ⟨a6, c6, rfl, _, _⟩ := own_shape hoa
        try simp only [Nat.add_zero, List.replicate_zero, List.append_nil] at hz hra
        clear hOa hoa hRk hb6
        replace hz := Lib.hid hz; replace hra := Lib.hid hra
        go_wp2_with (at_builtin; refine Lib.wpList_append_run _ rfl _ _ _ _ rfl _ _ rfl rfl _ _ hra.out ?_)
        go_ret
        exact ⟨rfl, _, _, _, _, _, _, hz.out, hfl.out⟩
  | cons x rest =>
    obtain ⟨b, off, cap, rfl, p1, p2, hX⟩ := hOp.out.zero
    have hxs : x.1.size ≤ 1048576 := hsz.out x (by simp)
    obtain ⟨xs, xq, xc⟩ := x
    simp only at hX hxs
    have hnu := fun W hW => number_any xs W (by omega) hW
    obtain ⟨o0, o1, o2⟩ := hX w1 (Keep.refl _)
    obtain ⟨L, hL⟩ : ∃ L, rest.length = L := ⟨_, rfl⟩
    rw [hL] at p1 ⊢
    have hn0 : (0 : Int) < (L : Int) + 1 := by omega
    have hn1 : decide (((L + 1 : Nat) : Int) > 0) = true := decide_eq_true (by omega)
    have hn2 : (0 : Int) < ((L + 1 : Nat) : Int) := by omega
    replace hX := Lib.hid hX; replace hL := Lib.hid hL
    unfold zeroN
    cases xq with
    | true =>
      simp only [if_true, List.getD_cons_zero]
      obtain ⟨nv, hnv⟩ : ∃ nv : Nat, (numF xs.data.toList).getD 0 = nv := ⟨_, rfl⟩
      obtain ⟨ev, hev⟩ : ∃ ev : Int, errN (numF xs.data.toList).isSome = ev := ⟨_, rfl⟩
      rw [hnv, hev] at hnu
      clear hnv hev
      replace hnu := Lib.hid hnu
      go_enter Tryz.func89, Tryz.ntmps89
      go_upto_region 3 with fail
      try rw [hw1]
      clear hw1
      go_wp2_with fail
      refine (hnu.out _ hP1.out).mono ?_
      rintro e w2 ⟨b2, rfl⟩
      have h2 := h1.out.later b2
      have K2 := Keep.below b2
      have ho2 := hOp.out.later b2
      obtain ⟨o0, o1, o2⟩ := hX.out w2 K2
      clear b2
      have l2 := h2.c.2.1
      have bel2 := h2.below
      have hs2 : B ≤ w2.heap.size := by have := h2.hR; have := h2.lt; omega
      have hat := at_any R ln xc 61 w2 l2
      replace hat := Lib.hid hat; replace bel2 := Lib.hid bel2; replace h2 := Lib.hid h2; replace ho2 := Lib.hid ho2; replace K2 := Lib.hid K2
      go_wp2_with fail
      refine hat.out.mono ?_
      rintro e w3 ⟨fv, rfl, hft, b3⟩
      have hfin := bel2.out.trans (b3.mono hs2)
      replace hft := Lib.hid hft; replace hfin := Lib.hid hfin
      go_wp2_with fail
      go_ret
      exact ⟨⟨_, rfl, hft.out⟩, hfin.out⟩
    | false =>
      simp only [Bool.false_eq_true, if_false]
      cases hnf : numF xs.data.toList with
      | none =>
        rw [hnf] at hnu
        simp only [Option.getD_none, Option.isSome_none, errN] at hnu
        have e41 : (if false = true then (0 : Int) else 41) = 41 := rfl
        rw [e41] at hnu
        simp only [List.getD_cons_zero]
        replace hnu := Lib.hid hnu
        go_enter Tryz.func89, Tryz.ntmps89
        go_upto_region 3 with fail
        try rw [hw1]
        clear hw1
        go_wp2_with fail
        refine (hnu.out _ hP1.out).mono ?_
        rintro e w2 ⟨b2, rfl⟩
        have h2 := h1.out.later b2
        have K2 := Keep.below b2
        have ho2 := hOp.out.later b2
        obtain ⟨o0, o1, o2⟩ := hX.out w2 K2
        clear b2
        have l2 := h2.c.2.1
        have bel2 := h2.below
        have hs2 : B ≤ w2.heap.size := by have := h2.hR; have := h2.lt; omega
        have hat := at_any R ln xc 61 w2 l2
        replace hat := Lib.hid hat; replace bel2 := Lib.hid bel2; replace h2 := Lib.hid h2; replace ho2 := Lib.hid ho2; replace K2 := Lib.hid K2
        go_wp2_with fail
        refine hat.out.mono ?_
        rintro e w3 ⟨fv, rfl, hft, b3⟩
        have hfin := bel2.out.trans (b3.mono hs2)
        replace hft := Lib.hid hft; replace hfin := Lib.hid hfin
        go_wp2_with fail
        go_ret
        exact ⟨⟨_, rfl, hft.out⟩, hfin.out⟩
      | some n =>
        rw [hnf] at hnu
        simp only [Option.getD_some, Option.isSome_some, errN, if_true] at hnu
        by_cases hbig : n ≤ 2048
        · simp only [if_pos hbig]
          have hb1 : ¬ (2048 : Int) < (n : Int) := by omega
          have hb2 : decide ((n : Int) > 2048) = false := decide_eq_false (by omega)
          have hwn : IntKind.i64.wrap (n : Int) = (n : Int) := wrapI _ (by omega) (by omega)
          obtain ⟨CR, hCR⟩ : ∃ CR, countM ln (ns, nq, nc) ((xs, false, xc) :: rest) 1 = CR := ⟨_, rfl⟩
          obtain ⟨RR, hRR⟩ : ∃ RR, roomM ln (ns, nq, nc) st n = RR := ⟨_, rfl⟩
          rw [hCR, hRR]
          replace hnu := Lib.hid hnu
          go_enter Tryz.func89, Tryz.ntmps89
          go_upto_region 3 with fail
          try rw [hw1]
          clear hw1
          go_wp2_with fail
          refine (hnu.out _ hP1.out).mono ?_
          rintro e w2 ⟨b2, rfl⟩
          have h2 := h1.out.later b2
          have K2 := Keep.below b2
          have ho2 := hOp.out.later b2
          obtain ⟨o0, o1, o2⟩ := hX.out w2 K2
          clear b2
          have hK := h2
          have hKo := ho2
          have Kk := K2
          have hKc := hW.out w2 K2
          clear h2 ho2 K2
          replace hK := Lib.hid hK; replace hKo := Lib.hid hKo; replace Kk := Lib.hid Kk; replace hKc := Lib.hid hKc
          have hct := count_any R ln (ns, nq, nc) _ ((xs, false, xc) :: rest) 1 w2 hK.out.c.2.1 hKo.out (by omega)
          unfold wV at hct
          rw [hCR] at hct
          try simp only [List.length_cons, hL.out] at hct
          obtain ⟨_, hk1, _⟩ := hK.out.c
          replace hct := Lib.hid hct
          obtain ⟨c0, c1, c2⟩ := hKc.out
          go_upto_region 7 with fail
          go_wp2_with fail
          refine hct.out.mono ?_
          rintro e wm ⟨her, bm⟩
          have hm := hK.out.later bm
          obtain ⟨c0, c1, c2⟩ := hW.out wm (Kk.out.trans (Keep.below bm))
          clear bm hK hKo hKc
          cases CR with
          | some f =>
            obtain ⟨fv, rfl, gf, rfl, hgf⟩ := her
            have hfin := hm.below
            replace hgf := Lib.hid hgf; replace hfin := Lib.hid hfin; replace hm := Lib.hid hm
            go_wp2_with fail
            go_ret
            exact ⟨⟨_, rfl, ⟨_, rfl, hgf.out⟩⟩, hfin.out⟩
          | none =>
            obtain rfl : e = _ := her
            have hrm := room_any hm (ns, nq, nc) n (by omega) (by omega)
            unfold wV at hrm
            rw [hRR] at hrm
            replace hrm := Lib.hid hrm; replace hm := Lib.hid hm
            go_upto_region 10 with fail
            go_wp2_with fail
            refine hrm.out.mono ?_
            rintro e wa ⟨her, ba⟩
            have ha := hm.out.later ba
            clear ba hm
            cases RR with
            | some f =>
              obtain ⟨fv, rfl, gf, rfl, hgf⟩ := her
              have hfin := ha.below
              replace hgf := Lib.hid hgf; replace hfin := Lib.hid hfin; replace ha := Lib.hid ha
              go_wp2_with fail
              go_ret
              exact ⟨⟨_, rfl, ⟨_, rfl, hgf.out⟩⟩, hfin.out⟩
            | none =>
              obtain rfl : e = _ := her
              have hroom := room_no hRR
              have r2 : wa.cell? ⟨R, 2, none⟩ = some (.slice aw st.ws.length cw) := ha.c.2.2.1
              obtain ⟨L0, hL0⟩ : ∃ L, st.ws.length = L := ⟨_, rfl⟩
              rw [hL0] at r2 hroom
              have hBa : B ≤ wa.heap.size := by have := ha.hR; have := ha.lt; omega
              replace ha := Lib.hid ha; replace hL0 := Lib.hid hL0
              go_upto_region 13 with fail
              obtain ⟨v6, w6, hra, hoa, hOa⟩ := run_append_zs B 22 _ .u32 .u32 Tryz.underlying22 wa (.slice aw L0 cw) L0 (wi st.ws) (by have h := ha.out.ws; rw [hL0.out] at h; exact h) n (by omega) hBa
              obtain ⟨hRk, hz⟩ := ha.out.words (l := List.replicate n 0) (by rw [hL0.out]; exact hOa) (by rw [wi_zeros, hL0.out, List.length_replicate]; exact hoa)
              have hb6 := hRk.trans ha.out.blk
              have x2 : w6.cell? ⟨R, 2, none⟩ = some (.slice aw L0 cw) := (cell_of_row _ _ 2 _ _ _ hb6).trans (by rw [hL0.out]; rfl)
              have x2f := frozen_of_row w6 R 2 _ _ hb6
              obtain ⟨a6, c6, rfl, _, _⟩ := own_shape hoa
              try simp only [Nat.add_zero, List.replicate_zero, List.append_nil] at hz hra
              clear hOa hoa hRk hb6
              replace hz := Lib.hid hz; replace hra := Lib.hid hra
              go_wp2_with (at_builtin; refine Lib.wpList_append_run _ rfl _ _ _ _ rfl _ _ rfl rfl _ _ hra.out ?_)
              go_ret
              exact ⟨rfl, _, _, _, _, _, _, hz.out, hfl.out⟩
        · simp only [if_neg hbig, List.getD_cons_zero]
          have hb1 : (2048 : Int) < (n : Int) := by omega
          have hb2 : decide ((n : Int) > 2048) = true := decide_eq_true (by omega)
          replace hnu := Lib.hid hnu
          go_enter Tryz.func89, Tryz.ntmps89
          go_upto_region 3 with fail
          try rw [hw1]
          clear hw1
          go_wp2_with fail
          refine (hnu.out _ hP1.out).mono ?_
          rintro e w2 ⟨b2, rfl⟩
          have h2 := h1.out.later b2
          have K2 := Keep.below b2
          have ho2 := hOp.out.later b2
          obtain ⟨o0, o1, o2⟩ := hX.out w2 K2
          clear b2
          have l2 := h2.c.2.1
          have bel2 := h2.below
          have hs2 : B ≤ w2.heap.size := by have := h2.hR; have := h2.lt; omega
          have hat := at_any R ln xc 61 w2 l2
          replace hat := Lib.hid hat; replace bel2 := Lib.hid bel2; replace h2 := Lib.hid h2; replace ho2 := Lib.hid ho2; replace K2 := Lib.hid K2
          go_wp2_with fail
          refine hat.out.mono ?_
          rintro e w3 ⟨fv, rfl, hft, b3⟩
          have hfin := bel2.out.trans (b3.mono hs2)
          replace hft := Lib.hid hft; replace hfin := Lib.hid hfin
          go_wp2_with fail
          go_ret
          exact ⟨⟨_, rfl, hft.out⟩, hfin.out⟩
end Go.Proofs.YtiknookfnameiaaGreatDoor
