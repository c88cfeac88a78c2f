/- The contract of the reference's ParsePolicy. -/
import Derived.Test.YtemanjahkohcpaaGreatDoorJn32
namespace Go.Proofs.YtemanjahkohcpaaGreatDoor
open Go.RowKit WP
theorem infoRPo2 : (Tryz.prog.info? 36).map (·.size) = some 2 := by kernel_rfl
theorem infoRR : (Tryz.prog.info? 64).map (fun i => (i.zero.map (fun z => z.cells.size), i.size, i.bytes)) = some (some 10, 10, 56) := by kernel_rfl
theorem infoRR_parts : ∃ i z, Tryz.prog.info? 64 = some i ∧ i.zero = some z ∧ i.size = 10 ∧ i.bytes = 56 ∧ z.cells.size = 10 := by
  have h := infoRR
  cases hi : Tryz.prog.info? 64 with
  | none => rw [hi] at h; exact absurd h (by simp)
  | some i =>
    rw [hi] at h
    simp only [Option.map_some, Option.some.injEq, Prod.mk.injEq] at h
    obtain ⟨h1, h2, h3⟩ := h
    cases hz : i.zero with
    | none => rw [hz] at h1; exact absurd h1 (by simp)
    | some z => rw [hz] at h1; simp only [Option.map_some, Option.some.injEq] at h1; exact ⟨i, z, rfl, hz, h2, h3, h1⟩
/-- a line that is not the last, by its rule -/
theorem lineF_rule (ws : List W) (rs : List RuleD) (o : Bool) (hq : (ws.any fun x => x.2.1) = false) (h2 : ∀ a b, ws = [a, b] → ¬ a.1 = otherB) :
    lineF ws rs o = match ruleF ws with | none => none | some r => if rs.length = 256 then none else some (false, rs ++ [r], o) := by
  unfold lineF
  rw [if_neg (by rw [hq]; simp)]
  match ws, h2 with
  | [], _ => rfl
  | [a], _ => rfl
  | [a, b], h2 => simp only [ruleF]; rw [if_neg (h2 a b rfl)]
  | [a, b, c], _ =>
    simp only [ruleF]
    by_cases hn : nameF b.1 = true
    · rw [if_pos hn, if_pos hn]
      cases saysF a.1 with
      | none => rfl
      | some x =>
        simp only [Option.bind_some]
        cases eightF c.1 with
        | none => rfl
        | some m => rfl
    · rw [if_neg hn, if_neg hn]
  | a :: b :: c :: d :: r, _ => rfl
theorem rparsePol_long (s : ByteArray) (w : World) (hs : 65536 < s.size) (h63 : s.size ≤ 9223372036854775807) :
    Calls Tryz.prog 5 #[.string s] w fun e w' => e = .returned (.tuple #[.agg #[.slice none 0 0, .bool false], .int .i64 0, .int .i64 2]) ∧ Below w.heap.size w w' := by
  obtain ⟨w1, hw1⟩ : ∃ w1, w.alloc (.cells #[.slice none 0 0, .bool false] 36) = w1 := ⟨_, rfl⟩
  have hB : w1.heap[w.heap.size]? = some (.cells #[.slice none 0 0, .bool false] 36) := by rw [← hw1]; exact heap_alloc_new w _
  have b1 : Below w.heap.size w w1 := by rw [← hw1]; exact (Below.refl _ _).alloc (Nat.le_refl _) _
  have c0 : w1.cell? ⟨w.heap.size, 0, none⟩ = some (.slice none 0 0) := cell_of_row _ _ _ _ _ _ hB
  have c1 : w1.cell? ⟨w.heap.size, 1, none⟩ = some (.bool false) := cell_of_row _ _ _ _ _ _ hB
  have f0 : w1.frozen? ⟨w.heap.size, 0, none⟩ = false := frozen_of_row _ _ _ _ _ hB
  have f1 : w1.frozen? ⟨w.heap.size, 1, none⟩ = false := frozen_of_row _ _ _ _ _ hB
  have h1 := heap_setCell_same w1 w.heap.size 0 _ _ (.slice none 0 0) hB
  have h2 := heap_setCell_same (w1.setCell ⟨w.heap.size, 0, none⟩ (.slice none 0 0)) w.heap.size 1 _ _ (.bool false) h1
  have b2 := (b1.setCell (p := ⟨w.heap.size, 0, none⟩) (Nat.le_refl _) (.slice none 0 0)).setCell (p := ⟨w.heap.size, 1, none⟩) (Nat.le_refl _) (.bool false)
  replace hB := Lib.hid hB; replace b1 := Lib.hid b1; replace h1 := Lib.hid h1; replace h2 := Lib.hid h2; replace b2 := Lib.hid b2
  go_enter Tryz.func5, Tryz.ntmps5
  go_upto_region 1 with fail
  try (change Code.wp _ _ _ _ (w.alloc (.cells #[.slice none 0 0, .bool false] 36)); rw [hw1])
  clear hw1
  go_wp2_with fail
  refine (rlines_no s _ hs h63).mono ?_
  rintro e w2 ⟨rfl, rfl⟩
  go_wp2_with fail
  refine bodyPost_ret (results_cell3 rfl rfl rfl rfl (range_block (cs := [.slice none 0 0, .bool false]) h2.out) Tryz.underlying36 rfl infoRPo2) rfl ⟨rfl, b2.out⟩
/-- the result's cell, as long as nothing is answered -/
structure Res0 (R : Nat) (w : World) : Prop where
  c0 : w.cell? ⟨R, 0, none⟩ = some (.slice none 0 0)
  c1 : w.cell? ⟨R, 1, none⟩ = some (.bool false)
  f0 : w.frozen? ⟨R, 0, none⟩ = false
  f1 : w.frozen? ⟨R, 1, none⟩ = false
  st : ∀ v b, ((w.setCell ⟨R, 0, none⟩ v).setCell ⟨R, 1, none⟩ b).heap[R]? = some (.cells #[v, b] 36 (0, 0))
theorem Res0.of {R : Nat} {w : World} (h : w.heap[R]? = some (.cells #[.slice none 0 0, .bool false] 36 (0, 0))) : Res0 R w := by
  refine ⟨cell_of_row _ _ _ _ _ _ h, cell_of_row _ _ _ _ _ _ h, frozen_of_row _ _ _ _ _ h, frozen_of_row _ _ _ _ _ h, fun v b => ?_⟩
  have h1 := heap_setCell_same w R 0 _ _ v h
  have h2 := heap_setCell_same (w.setCell ⟨R, 0, none⟩ v) R 1 _ _ b h1
  rw [h2]; rfl
set_option maxRecDepth 100000 in
set_option maxHeartbeats 4000000 in
theorem rparsePol_any (s : ByteArray) (w : World) (hs : s.size ≤ 65536) :
    Calls Tryz.prog 5 #[.string s] w fun e w' => Below w.heap.size w w' ∧ RParRes (parsePolF s) w.heap.size e w' := by
  obtain ⟨R, hR⟩ : ∃ R, polA (linesF s) 0 false [] false = R := ⟨_, rfl⟩
  rw [show parsePolF s = R from hR]
  obtain ⟨w1, hw1⟩ : ∃ w1, w.alloc (.cells #[.slice none 0 0, .bool false] 36) = w1 := ⟨_, rfl⟩
  have hB : w1.heap[w.heap.size]? = some (.cells #[.slice none 0 0, .bool false] 36) := by rw [← hw1]; exact heap_alloc_new w _
  have b1 : Below w.heap.size w w1 := by rw [← hw1]; exact (Below.refl _ _).alloc (Nat.le_refl _) _
  have hl1 : w.heap.size < w1.heap.size := (Array.getElem?_eq_some_iff.1 hB).1
  obtain ⟨bd1, bd2⟩ := linesF_bd s
  obtain ⟨L, hL⟩ : ∃ L, linesF s = L := ⟨_, rfl⟩
  have htl := rlines_any s w1 hs
  rw [hL] at bd1 bd2 hR htl
  obtain ⟨n, hn⟩ : ∃ n, L.length = n := ⟨_, rfl⟩
  rw [hn] at bd1 htl
  obtain ⟨iR, zR, hiR, hzR0, hzR1, hzR2, hzR3⟩ := infoRR_parts
  replace hB := Lib.hid hB; replace b1 := Lib.hid b1; replace hR := Lib.hid hR; replace bd2 := Lib.hid bd2; replace htl := Lib.hid htl; replace hn := Lib.hid hn
  clear hL
  go_enter Tryz.func5, Tryz.ntmps5
  go_upto_region 1 with fail
  try (change Code.wp _ _ _ _ (w.alloc (.cells #[.slice none 0 0, .bool false] 36)); rw [hw1])
  clear hw1
  go_wp2_with fail
  refine htl.out.mono ?_
  rintro e w2 ⟨lv, rfl, hol, b12⟩
  have b02 := b1.out.trans (b12.mono (by omega))
  obtain ⟨lao, lca, rfl, _, _⟩ := own_shape hol
  have hB2 := (b12.block _ hl1).trans hB.out
  have hs12 := b12.size
  obtain ⟨w3, hw3⟩ : ∃ w3, w2.alloc (.cells #[.slice none 0 0, .bool false] 36) = w3 := ⟨_, rfl⟩
  have hs3 : w3.heap.size = w2.heap.size + 1 := by rw [← hw3]; simp
  have b23 : Below w2.heap.size w2 w3 := by rw [← hw3]; exact (Below.refl _ _).alloc (Nat.le_refl _) _
  have hB3 := (b23.block w.heap.size (by omega)).trans hB2
  have hol3 := own_below hol b23
  have hlt2 := fun k hk => (hol.lt k hk).2
  replace hlt2 := Lib.hid hlt2
  have hP3 : w3.heap[w2.heap.size]? = some (.cells #[.slice none 0 0, .bool false] 36) := by rw [← hw3]; exact heap_alloc_new _ _
  have hP0 : RSt w3.heap.size w2.heap.size w3 w3 (.slice none 0 0) [] false := ⟨hP3, World.ownsRow_nil _ _ _ _, by omega, Nat.le_refl _, rfl, rfl, rfl, fun _ _ _ => rfl, by intro r hr; cases hr⟩
  have b03 := b02.trans (b23.mono (by omega))
  clear hB htl b12 b1 hB2 b02 b23 hol hP3
  replace hB3 := Lib.hid hB3; replace b03 := Lib.hid b03; replace hol3 := Lib.hid hol3; replace hP0 := Lib.hid hP0
  go_upto_region 5 with fail
  try (change Code.wp _ _ _ _ (w2.alloc (.cells #[.slice none 0 0, .bool false] 36)))
  try rw [hw3]
  clear hw3
  go_wp2_with fail
  go_loopw [8, 9] (fun la i wr => ∃ (k : Nat) (last : Bool) (v : Value) (rs : List RuleD) (o : Bool), k ≤ n ∧ i = .int .i64 k ∧ la = .bool last ∧ RSt w3.heap.size w2.heap.size w3 wr v rs o ∧ polA (L.drop k) k last rs o = R ∧ rs.length ≤ 256) (fun _ i _ => n - (intOf i).toNat)
  case atStart => exact ⟨0, false, _, [], false, by omega, rfl, rfl, hP0.out, hR.out, by simp⟩
  case round =>
    obtain ⟨wo, rfl⟩ : ∃ wo, wo = wr := ⟨wr, rfl⟩
    obtain ⟨k, last, v, rs, o, hk, rfl, rfl, hP, hq, hr⟩ := hrel
    clear hP0 hR
    have bwo := hP.belowB b03.out (by omega) (by omega)
    by_cases hlt : k < n
    · have hkl : k < L.length := by rw [hn.out]; exact hlt
      obtain ⟨g, _, hv, hg1, hg2⟩ := hol3.out.form (by omega)
      simp only [Value.slice.injEq, true_and] at hv
      obtain ⟨rfl, rfl⟩ := hv
      obtain ⟨t, ht⟩ : ∃ t, L[k] = t := ⟨_, rfl⟩
      have hts : t.size ≤ 65536 := by have := bd2.out t (by rw [← ht]; exact List.getElem_mem _); omega
      have hgP : g ≠ w2.heap.size := by
        have := hlt2.out g rfl
        omega
      have hc : wo.cell? ⟨g, k, none⟩ = some (.string t) := by
        have h1 := (hol3.out.cellAt k (by omega)).trans (show (L.map Value.string)[k]? = some (.string t) by rw [List.getElem?_map, List.getElem?_eq_getElem hkl, ht]; rfl)
        rw [cell_same (hP.keep g hg2 hgP)]; exact h1
      rw [List.drop_eq_getElem_cons hkl, ht] at hq
      have hpl := rplain16_any t wo (by omega)
      clear ht hkl
      replace hP := Lib.hid hP; replace hq := Lib.hid hq; replace bwo := Lib.hid bwo; replace hpl := Lib.hid hpl
      go_wp2_with fail
      refine hpl.out.mono ?_
      rintro e w4 ⟨b4, hres⟩
      have hP4 := hP.out.later b4
      have bw4 := hP4.belowB b03.out (by omega) (by omega)
      have hR4 := Res0.of ((hP4.keep w.heap.size (by omega) (by omega)).trans hB3.out)
      have q0 := hR4.c0
      have q1 := hR4.c1
      have g0 := hR4.f0
      have g1 := hR4.f1
      have bN := (bw4.setCell (p := ⟨w.heap.size, 0, none⟩) (Nat.le_refl _) (.slice none 0 0)).setCell (p := ⟨w.heap.size, 1, none⟩) (Nat.le_refl _) (.bool false)
      have hN := hR4.st (.slice none 0 0) (.bool false)
      clear hP hpl hc hR4
      have hq' := hq.out
      clear hq
      unfold polA at hq'
      cases hws : wordsF t with
      | inr c =>
        rw [hws] at hres hq'
        replace hres : e = .returned (.tuple #[.slice none 0 0, .bool false]) := hres
        subst hres
        replace hq' : Sum.inr (k + 1) = R := hq'
        replace hq' := Lib.hid hq'; replace hP4 := Lib.hid hP4; replace hN := Lib.hid hN; replace bN := Lib.hid bN; replace bw4 := Lib.hid bw4; replace b4 := Lib.hid b4; replace hws := Lib.hid hws
        go_wp2_with fail
        refine bodyPost_ret (results_cell3 rfl rfl rfl rfl (range_block (cs := [.slice none 0 0, .bool false]) hN.out) Tryz.underlying36 rfl infoRPo2) rfl ⟨bN.out, ?_⟩
        rw [← hq'.out]; rfl
      | inl ws =>
        rw [hws] at hres hq'
        obtain ⟨wd1, wd2⟩ := wordsF_bd t ws hws
        replace hres : PlainL ws wo.heap.size e w4 := hres
        unfold PlainL at hres
        by_cases hqq : (ws.any fun x => x.2.1) = true
        · rw [if_pos hqq] at hres
          subst hres
          have hq2 : Sum.inr (k + 1) = R := by
            rw [← hq']
            cases ws with
            | nil => simp at hqq
            | cons x ws =>
              have : lineF (x :: ws) rs o = none := by unfold lineF; rw [if_pos hqq]
              simp only [this]
              split <;> rfl
          replace hq' := hq2
          replace hq' := Lib.hid hq'; replace hP4 := Lib.hid hP4; replace hN := Lib.hid hN; replace bN := Lib.hid bN; replace bw4 := Lib.hid bw4; replace b4 := Lib.hid b4; replace hws := Lib.hid hws; replace wd2 := Lib.hid wd2; replace hqq := Lib.hid hqq
          go_wp2_with fail
          refine bodyPost_ret (results_cell3 rfl rfl rfl rfl (range_block (cs := [.slice none 0 0, .bool false]) hN.out) Tryz.underlying36 rfl infoRPo2) rfl ⟨bN.out, ?_⟩
          rw [← hq'.out]; rfl
        · rw [if_neg hqq] at hres
          replace hqq : (ws.any fun x => x.2.1) = false := by simpa using hqq
          obtain ⟨wv, rfl, how⟩ := hres
          obtain ⟨wao, wca, rfl, _, _⟩ := own_shape how
          cases ws with
          | nil =>
            replace hq' : polA (L.drop (k + 1)) (k + 1) last rs o = R := hq'
            replace hq' := Lib.hid hq'; replace hP4 := Lib.hid hP4; replace hN := Lib.hid hN; replace bN := Lib.hid bN; replace bw4 := Lib.hid bw4; replace b4 := Lib.hid b4; replace hws := Lib.hid hws; replace how := Lib.hid how; replace wd2 := Lib.hid wd2
            clear wd1
            go_wp2_with fail
            go_roundw
            case rel => exact ⟨k + 1, last, v, rs, o, by omega, by go_num, rfl, hP4.out, hq'.out, hr⟩
            case measure => simp [intOf]; omega
          | cons x ws =>
            have hl0 : (((x :: ws).length : Int) == 0) = false := by rw [beq_eq_false_iff_ne]; simp; omega
            obtain ⟨nw, hnw⟩ : ∃ nw, (x :: ws).length = nw := ⟨_, rfl⟩
            cases last with
            | true =>
              replace hq' : Sum.inr (k + 1) = R := hq'
              rw [hnw] at hl0 ⊢
              replace hq' := Lib.hid hq'; replace hP4 := Lib.hid hP4; replace hN := Lib.hid hN; replace bN := Lib.hid bN; replace bw4 := Lib.hid bw4; replace b4 := Lib.hid b4; replace hws := Lib.hid hws; replace how := Lib.hid how; replace wd2 := Lib.hid wd2
              clear wd1
              replace hnw := Lib.hid hnw
              go_wp2_with fail
              refine bodyPost_ret (results_cell3 rfl rfl rfl rfl (range_block (cs := [.slice none 0 0, .bool false]) hN.out) Tryz.underlying36 rfl infoRPo2) rfl ⟨bN.out, ?_⟩
              rw [← hq'.out]; rfl
            | false =>
              simp only [Bool.false_eq_true, if_false] at hq'
              by_cases hO : ∃ a b, x :: ws = [a, b] ∧ a.1 = otherB
              · obtain ⟨a, b, hab, ha⟩ := hO
                simp only [List.cons.injEq] at hab
                obtain ⟨rfl, rfl⟩ := hab
                obtain ⟨xt, xq, xc⟩ := x
                dsimp only at ha
                subst ha
                have hlf : lineF [(otherB, xq, xc), b] rs o = (saysF b.1).map fun x => (true, rs, x) := by
                  unfold lineF; rw [if_neg (by rw [hqq]; simp)]; simp only []; rw [if_pos trivial]
                rw [hlf, saysF_said] at hq'
                obtain ⟨gw, _, hvw, hgw1, hgw2⟩ := how.form (by simp)
                simp only [Value.slice.injEq, true_and] at hvw
                obtain ⟨rfl, rfl⟩ := hvw
                have s0 : w4.cell? ⟨gw, 0, none⟩ = some (.string otherB) := (how.cellAt 0 (by simp)).trans rfl
                have s1 : w4.cell? ⟨gw, 1, none⟩ = some (.string b.1) := (how.cellAt 1 (by simp)).trans rfl
                unfold otherB at s0
                simp only [List.length_cons, List.length_nil, Nat.zero_add, Nat.reduceAdd] at hl0 ⊢
                have hsd := said_any b.1 w4
                clear q0 q1 g0 g1 bN hN hlf how
                obtain ⟨sA, hsA⟩ : ∃ sA, saidA b.1 = sA := ⟨_, rfl⟩
                obtain ⟨sB, hsB⟩ : ∃ sB, saidB b.1 = sB := ⟨_, rfl⟩
                rw [hsA, hsB] at hsd hq'
                clear hnw hsA hsB
                replace hq' := Lib.hid hq'; replace hP4 := Lib.hid hP4; replace bw4 := Lib.hid bw4; replace b4 := Lib.hid b4; replace hws := Lib.hid hws; replace wd2 := Lib.hid wd2; replace hsd := Lib.hid hsd; replace hqq := Lib.hid hqq
                clear wd1
                go_upto_region 16 with fail
                go_wp2_with fail
                refine hsd.out.mono ?_
                rintro e w5 ⟨rfl, b5⟩
                have hP5 := hP4.out.later b5
                clear hsd hP4 bw4 b4 b5 s0 s1
                have p1 := hP5.c1
                have pf1 := hP5.f1
                cases sB with
                | false =>
                  replace hq' : Hid (Sum.inr (k + 1) = R) := Lib.hid (by simpa using hq'.out)
                  have hR5 := Res0.of ((hP5.keep w.heap.size (by omega) (by omega)).trans hB3.out)
                  have bw5 := hP5.belowB b03.out (by omega) (by omega)
                  have q0 := hR5.c0
                  have q1 := hR5.c1
                  have g0 := hR5.f0
                  have g1 := hR5.f1
                  have bN := (bw5.setCell (p := ⟨w.heap.size, 0, none⟩) (Nat.le_refl _) (.slice none 0 0)).setCell (p := ⟨w.heap.size, 1, none⟩) (Nat.le_refl _) (.bool false)
                  have hN := hR5.st (.slice none 0 0) (.bool false)
                  clear hR5 bw5
                  replace bN := Lib.hid bN; replace hN := Lib.hid hN
                  replace hP5 := Lib.hid hP5
                  go_wp2_with fail
                  refine bodyPost_ret (results_cell3 rfl rfl rfl rfl (range_block (cs := [.slice none 0 0, .bool false]) hN.out) Tryz.underlying36 rfl infoRPo2) rfl ⟨bN.out, ?_⟩
                  rw [← hq'.out]; rfl
                | true =>
                  replace hq' : Hid (polA (L.drop (k + 1)) (k + 1) true rs sA = R) := Lib.hid (by simpa using hq'.out)
                  have hP6 := hP5.setO sA
                  replace hP5 := Lib.hid hP5; replace hP6 := Lib.hid hP6
                  go_wp2_with fail
                  go_roundw
                  case rel => exact ⟨k + 1, true, v, rs, sA, by omega, by go_num, rfl, hP6.out, hq'.out, hr⟩
                  case measure => simp [intOf]; omega
              · have hlf := lineF_rule (x :: ws) rs o hqq (fun a b hab ha => hO ⟨a, b, hab, ha⟩)
                rw [hlf] at hq'
                have hrl := ruled_any (x :: ws) _ w4 (Rd.of_own how) (fun y hy => by have := wd2 y hy; omega)
                have htl : (tx (x :: ws)).length = nw := by simp [tx, ← hnw]
                obtain ⟨gw, _, hvw, hgw1, hgw2⟩ := how.form (by simp)
                simp only [Value.slice.injEq, true_and] at hvw
                obtain ⟨rfl, rfl⟩ := hvw
                have s0 : w4.cell? ⟨gw, 0, none⟩ = some (.string x.1) := (how.cellAt 0 (by simp)).trans rfl
                have hx2 : nw = 2 → ¬ x.1 = otherB := fun h2 => by
                  rw [← hnw] at h2
                  match ws, h2 with
                  | [b], _ => exact fun ha => hO ⟨x, b, rfl, ha⟩
                rw [hnw] at hl0 hrl how ⊢
                clear q0 q1 g0 g1 bN hN hlf hO
                replace hq' := Lib.hid hq'; replace hP4 := Lib.hid hP4; replace bw4 := Lib.hid bw4; replace b4 := Lib.hid b4; replace hws := Lib.hid hws; replace wd2 := Lib.hid wd2; replace hrl := Lib.hid hrl; replace hqq := Lib.hid hqq; replace hnw := Lib.hid hnw; replace how := Lib.hid how; replace hx2 := Lib.hid hx2
                clear wd1 htl
                go_upto_region 15 with fail
                go_cut [58] from 50 to 58 (fun c wx => c = .bool false ∧ wx = w4)
                case first =>
                  by_cases h2 : nw = 2
                  · have hxo := hx2.out h2
                    have qo : (x.1.toList == [111, 116, 104, 101, 114]) = false := by rw [toList_eq, decide_eq_false]; exact hxo
                    have hn2 : ((nw : Int) == 2) = true := by simp; omega
                    go_wp2_with fail
                    go_meet
                    case rel => exact ⟨rfl, rfl⟩
                  · have hn2 : ((nw : Int) == 2) = false := by simp; omega
                    go_wp2_with fail
                    go_meet
                    case rel => exact ⟨rfl, rfl⟩
                case rest =>
                  obtain ⟨rfl, hw⟩ := hcut
                  obtain rfl := hw
                  go_upto_region 21 with fail
                  go_wp2_with fail
                  refine hrl.out.mono ?_
                  rintro e w5 ⟨b5, hru⟩
                  have hP5 := hP4.out.later b5
                  clear hrl hP4 bw4 b4 how s0 hx2
                  have key : ∃ r ok, r.me.length = 8 ∧ e = .returned (.tuple #[.agg (ruleC r).toArray, .bool ok]) ∧ ruleF (x :: ws) = if ok = true then some r else none := by
                    rcases hru with ⟨r, h1, h2, h3⟩ | ⟨h1, r, h2, h3⟩
                    · exact ⟨r, true, h2, h3, h1⟩
                    · exact ⟨r, false, h2, h3, h1⟩
                  obtain ⟨r, ok, r8, rfl, hF⟩ := key
                  clear hru
                  have hq2 := hq'.out
                  rw [hF] at hq2
                  replace hq' := Lib.hid hq2
                  clear hq2 hF
                  rw [ruleC_lit r r8]
                  obtain ⟨w6, hw6⟩ : ∃ w6, w5.alloc (Obj.cells #[.bool r.allow, .string r.name, .int .u32 (wAt r.me 0), .int .u32 (wAt r.me 1), .int .u32 (wAt r.me 2), .int .u32 (wAt r.me 3), .int .u32 (wAt r.me 4), .int .u32 (wAt r.me 5), .int .u32 (wAt r.me 6), .int .u32 (wAt r.me 7)] 64) = w6 := ⟨_, rfl⟩
                  have b6 : Below w5.heap.size w5 w6 := by rw [← hw6]; exact (Below.refl _ _).alloc (Nat.le_refl _) _
                  have hX6 : w6.heap[w5.heap.size]? = some (.cells #[.bool r.allow, .string r.name, .int .u32 (wAt r.me 0), .int .u32 (wAt r.me 1), .int .u32 (wAt r.me 2), .int .u32 (wAt r.me 3), .int .u32 (wAt r.me 4), .int .u32 (wAt r.me 5), .int .u32 (wAt r.me 6), .int .u32 (wAt r.me 7)] 64 (0, 0)) := by rw [← hw6]; exact heap_alloc_new _ _
                  have hP6 := hP5.later b6
                  obtain ⟨ao, ca, rfl⟩ := hP6.form
                  have p0 := hP6.c0
                  have pf0 := hP6.f0
                  replace hP5 := Lib.hid hP5; replace hX6 := Lib.hid hX6; replace r8 := Lib.hid r8; replace hP6 := Lib.hid hP6
                  clear b5 b6 hP5
                  go_upto_region 22 with fail
                  try rw [hw6]
                  clear hw6
                  cases ok with
                  | false =>
                    replace hq' : Hid (Sum.inr (k + 1) = R) := Lib.hid (by simpa using hq'.out)
                    have hR6 := Res0.of ((hP6.out.keep w.heap.size (by omega) (by omega)).trans hB3.out)
                    have bw6 := hP6.out.belowB b03.out (by omega) (by omega)
                    have q0 := hR6.c0
                    have q1 := hR6.c1
                    have g0 := hR6.f0
                    have g1 := hR6.f1
                    have bN := (bw6.setCell (p := ⟨w.heap.size, 0, none⟩) (Nat.le_refl _) (.slice none 0 0)).setCell (p := ⟨w.heap.size, 1, none⟩) (Nat.le_refl _) (.bool false)
                    have hN := hR6.st (.slice none 0 0) (.bool false)
                    clear hR6 bw6
                    replace bN := Lib.hid bN; replace hN := Lib.hid hN
                    go_wp2_with fail
                    refine bodyPost_ret (results_cell3 rfl rfl rfl rfl (range_block (cs := [.slice none 0 0, .bool false]) hN.out) Tryz.underlying36 rfl infoRPo2) rfl ⟨bN.out, ?_⟩
                    rw [← hq'.out]; rfl
                  | true =>
                    by_cases h256 : rs.length = 256
                    · replace hq' : Hid (Sum.inr (k + 1) = R) := Lib.hid (by simpa [h256] using hq'.out)
                      have hm : ((rs.length : Int) == 256) = true := by rw [h256]; rfl
                      obtain ⟨m, hm'⟩ : ∃ m, rs.length = m := ⟨_, rfl⟩
                      rw [hm'] at hm p0
                      have hR6 := Res0.of ((hP6.out.keep w.heap.size (by omega) (by omega)).trans hB3.out)
                      have bw6 := hP6.out.belowB b03.out (by omega) (by omega)
                      have q0 := hR6.c0
                      have q1 := hR6.c1
                      have g0 := hR6.f0
                      have g1 := hR6.f1
                      have bN := (bw6.setCell (p := ⟨w.heap.size, 0, none⟩) (Nat.le_refl _) (.slice none 0 0)).setCell (p := ⟨w.heap.size, 1, none⟩) (Nat.le_refl _) (.bool false)
                      have hN := hR6.st (.slice none 0 0) (.bool false)
                      clear hR6 bw6
                      replace bN := Lib.hid bN; replace hN := Lib.hid hN
                      clear h256
                      replace hm' := Lib.hid hm'
                      go_wp2_with fail
                      refine bodyPost_ret (results_cell3 rfl rfl rfl rfl (range_block (cs := [.slice none 0 0, .bool false]) hN.out) Tryz.underlying36 rfl infoRPo2) rfl ⟨bN.out, ?_⟩
                      rw [← hq'.out]; rfl
                    · replace hq' : Hid (polA (L.drop (k + 1)) (k + 1) false (rs ++ [r]) o = R) := Lib.hid (by simpa [h256] using hq'.out)
                      have hm : ((rs.length : Int) == 256) = false := by simp; omega
                      have x0 : w6.cell? ⟨w5.heap.size, 0, none⟩ = _ := cell_of_row w6 _ 0 _ _ _ hX6.out
                      have x1 : w6.cell? ⟨w5.heap.size, 1, none⟩ = _ := cell_of_row w6 _ 1 _ _ _ hX6.out
                      have x2 : w6.cell? ⟨w5.heap.size, 2, none⟩ = _ := cell_of_row w6 _ 2 _ _ _ hX6.out
                      have x3 : w6.cell? ⟨w5.heap.size, 3, none⟩ = _ := cell_of_row w6 _ 3 _ _ _ hX6.out
                      have x4 : w6.cell? ⟨w5.heap.size, 4, none⟩ = _ := cell_of_row w6 _ 4 _ _ _ hX6.out
                      have x5 : w6.cell? ⟨w5.heap.size, 5, none⟩ = _ := cell_of_row w6 _ 5 _ _ _ hX6.out
                      have x6 : w6.cell? ⟨w5.heap.size, 6, none⟩ = _ := cell_of_row w6 _ 6 _ _ _ hX6.out
                      have x7 : w6.cell? ⟨w5.heap.size, 7, none⟩ = _ := cell_of_row w6 _ 7 _ _ _ hX6.out
                      have x8 : w6.cell? ⟨w5.heap.size, 8, none⟩ = _ := cell_of_row w6 _ 8 _ _ _ hX6.out
                      have x9 : w6.cell? ⟨w5.heap.size, 9, none⟩ = _ := cell_of_row w6 _ 9 _ _ _ hX6.out
                      simp only [List.getElem?_toArray, List.getElem?_cons_zero, List.getElem?_cons_succ] at x0 x1 x2 x3 x4 x5 x6 x7 x8 x9
                      have how6 := hP6.out.own
                      have hsz6 := hP6.out.size
                      obtain ⟨m, hm'⟩ : ∃ m, rs.length = m := ⟨_, rfl⟩
                      rw [hm'] at hm p0 how6 h256 hr
                      replace hm' := Lib.hid hm'; replace how6 := Lib.hid how6
                      go_wp2_with (at_builtin; refine wpList_append_onto' _ rfl _ _ 34 rfl w3.heap.size 64 iR zR 10 56 Tryz.underlying34 hiR hzR0 hzR1 hzR2 hzR3 (by decide) _ m (rulesC rs) rfl (how6.out.alloc _) ⟨w6.heap.size, 0, none⟩ 1 1 [.bool r.allow, .string r.name, .int .u32 (wAt r.me 0), .int .u32 (wAt r.me 1), .int .u32 (wAt r.me 2), .int .u32 (wAt r.me 3), .int .u32 (wAt r.me 4), .int .u32 (wAt r.me 5), .int .u32 (wAt r.me 6), .int .u32 (wAt r.me 7)] rfl rfl (cells_new _ _ _ _) ?k2 ?k3 ?k4 ?k5 ?_)
                      case k2 => simp [Value.oneCell']
                      case k3 => simp only [maxLen]; omega
                      case k4 => omega
                      case k5 => simp; omega
                      intro v7 w7 ho7 hO7
                      try rw [← hs3] at ho7
                      obtain ⟨g7, cap7, rfl, _, _⟩ := ho7.form (by omega)
                      have hlits := ruleC_lits r r8.out
                      have hPn := hP6.out.more r r8.out (ob := Obj.cells #[.bool r.allow, .string r.name, .int .u32 (wAt r.me 0), .int .u32 (wAt r.me 1), .int .u32 (wAt r.me 2), .int .u32 (wAt r.me 3), .int .u32 (wAt r.me 4), .int .u32 (wAt r.me 5), .int .u32 (wAt r.me 6), .int .u32 (wAt r.me 7)] 64) (w3 := w7) (g := g7) (cap := cap7) (by rw [hm'.out]; exact hO7.1) (by rw [hm'.out, rulesC_append, show rulesC [r] = ruleC r by simp [rulesC], hlits]; exact ho7)
                      have pq0 : w7.cell? ⟨w2.heap.size, 0, none⟩ = some (.slice ao m ca) ∧ w7.frozen? ⟨w2.heap.size, 0, none⟩ = false := by
                        have := hP6.out.mid (ob := Obj.cells #[.bool r.allow, .string r.name, .int .u32 (wAt r.me 0), .int .u32 (wAt r.me 1), .int .u32 (wAt r.me 2), .int .u32 (wAt r.me 3), .int .u32 (wAt r.me 4), .int .u32 (wAt r.me 5), .int .u32 (wAt r.me 6), .int .u32 (wAt r.me 7)] 64) (w3 := w7) (by rw [hm'.out]; exact ⟨hO7.1.os, hO7.1.tape, hO7.1.output, hO7.1.size, hO7.1.block⟩)
                        rw [hm'.out] at this
                        exact this
                      obtain ⟨pq0, pqf⟩ := pq0
                      rw [hm'.out] at hPn
                      clear ho7 hO7 hlits x0 x1 x2 x3 x4 x5 x6 x7 x8 x9 p0 pf0
                      replace hPn := Lib.hid hPn
                      go_wp2_with fail
                      go_roundw
                      case rel => exact ⟨k + 1, false, _, rs ++ [r], o, by omega, by go_num, rfl, hPn.out, hq'.out, by simp [hm'.out]; omega⟩
                      case measure => simp [intOf]; omega
    · obtain rfl : k = n := by omega
      rw [List.drop_of_length_le (by rw [hn.out]; exact Nat.le_refl _)] at hq
      obtain ⟨ao, ca, rfl⟩ := hP.form
      have hRo := Res0.of ((hP.keep w.heap.size (by omega) (by omega)).trans hB3.out)
      have q0 := hRo.c0
      have q1 := hRo.c1
      have g0 := hRo.f0
      have g1 := hRo.f1
      have p0 := hP.c0
      have p1 := hP.c1
      cases last with
      | false =>
        replace hq : Sum.inr (k + 1) = R := hq
        have bN := (bwo.setCell (p := ⟨w.heap.size, 0, none⟩) (Nat.le_refl _) (.slice none 0 0)).setCell (p := ⟨w.heap.size, 1, none⟩) (Nat.le_refl _) (.bool false)
        have hN := hRo.st (.slice none 0 0) (.bool false)
        clear hRo p0 p1
        replace hq := Lib.hid hq; replace hP := Lib.hid hP; replace bwo := Lib.hid bwo; replace hN := Lib.hid hN; replace bN := Lib.hid bN
        go_wp2_with fail
        refine bodyPost_ret (results_cell3 rfl rfl rfl rfl (range_block (cs := [.slice none 0 0, .bool false]) hN.out) Tryz.underlying36 rfl infoRPo2) rfl ⟨bN.out, ?_⟩
        rw [← hq.out]; rfl
      | true =>
        replace hq : Sum.inl (rs, o) = R := hq
        have bN := (bwo.setCell (p := ⟨w.heap.size, 0, none⟩) (Nat.le_refl _) (.slice ao rs.length ca)).setCell (p := ⟨w.heap.size, 1, none⟩) (Nat.le_refl _) (.bool o)
        have hN := hRo.st (.slice ao rs.length ca) (.bool o)
        have hown := ownsRow_setCell_below (a := ⟨w.heap.size, 1, none⟩) (ownsRow_setCell_below (a := ⟨w.heap.size, 0, none⟩) hP.own (show w.heap.size < w3.heap.size by omega) (.slice ao rs.length ca)) (show w.heap.size < w3.heap.size by omega) (.bool o)
        clear hRo
        replace hq := Lib.hid hq; replace hP := Lib.hid hP; replace bwo := Lib.hid bwo; replace hN := Lib.hid hN; replace bN := Lib.hid bN; replace hown := Lib.hid hown
        go_wp2_with fail
        refine bodyPost_ret (results_cell3 rfl rfl rfl rfl (range_block (cs := [.slice ao rs.length ca, .bool o]) hN.out) Tryz.underlying36 rfl infoRPo2) rfl ⟨bN.out, ?_⟩
        rw [← hq.out]
        exact ⟨_, w3.heap.size, by omega, rfl, hown.out, hP.out.eight⟩
end Go.Proofs.YtemanjahkohcpaaGreatDoor
