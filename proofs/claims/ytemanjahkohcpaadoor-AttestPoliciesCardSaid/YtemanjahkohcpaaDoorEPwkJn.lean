/- The walk of AttestPolicies. -/
import Derived.Test.YtemanjahkohcpaaDoorEPlbJn
namespace Go.Proofs.YtemanjahkohcpaaDoor
open Go.RowKit WP
def selZ (noise : Int) (ln : Nat) : Int := bits .and .i64 (wrap64 (noise + (ln : Int))) 3
theorem ba_app (a b : List UInt8) : ((⟨a.toArray⟩ : ByteArray) ++ (⟨b.toArray⟩ : ByteArray)) = ⟨(a ++ b).toArray⟩ := by
  apply ByteArray.ext; apply Array.ext'; simp
theorem stepN_len (z : Nat → Int) : ∀ (l : List UInt8) (st : Nat × List UInt8), (l.foldl (stepN z) st).1 ≤ st.1 + l.length ∧ (l.foldl (stepN z) st).2.length ≤ st.2.length + 15 * l.length
  | [], st => by simp
  | c :: l, st => by
    obtain ⟨h1, h2⟩ := stepN_len z l (stepN z st c)
    rw [List.foldl_cons]
    have h : (stepN z st c).1 ≤ st.1 + 1 ∧ (stepN z st c).2.length ≤ st.2.length + 15 := by
      unfold stepN
      split
      · refine ⟨by simp, ?_⟩
        have : (pickB (z (st.1 + 1))).length ≤ 14 := by
          unfold pickB; split
          · decide
          · split <;> decide
        simp; omega
      · simp
    simp only [List.length_cons]
    omega
theorem rules_piece : ∀ (rs : List RuleD) (i : Nat) (r : RuleD), rs[i]? = some r → (∀ x ∈ rs, (ruleC x).length = 10) → ∀ j, j < 10 → (rulesC rs)[i * 10 + j]? = (ruleC r)[j]?
  | [], i, r, h, _, _, _ => by simp at h
  | x :: rs, 0, r, h, hl, j, hj => by
    simp only [List.getElem?_cons_zero, Option.some.injEq] at h
    subst h
    have e : rulesC (x :: rs) = ruleC x ++ rulesC rs := rfl
    rw [e, Nat.zero_mul, Nat.zero_add, List.getElem?_append_left (by rw [hl x (by simp)]; exact hj)]
  | x :: rs, i + 1, r, h, hl, j, hj => by
    have e : rulesC (x :: rs) = ruleC x ++ rulesC rs := rfl
    have hx := hl x (by simp)
    rw [e, List.getElem?_append_right (by omega), hx, show (i + 1) * 10 + j - 10 = i * 10 + j by omega]
    exact rules_piece rs i r (by simpa using h) (fun y hy => hl y (by simp [hy])) j hj
theorem Rules.of_own {w : World} {C n : Nat} {v : Value} {rs : List RuleD} (h : w.ownsRow C 42 10 v n (rulesC rs)) (hn : n = rs.length) (h8 : ∀ r ∈ rs, r.me.length = 8) : Rules w v rs := by
  subst hn
  rcases h.2 with ⟨rfl, hz⟩ | ⟨g, cap, cur, rfl, hbg, hg, hnc, hcm, hcs, htake⟩
  · have : rs = [] := List.eq_nil_of_length_eq_zero hz
    subst this
    exact ⟨none, 0, rfl, by simp, by omega, h8, .inl rfl⟩
  · refine ⟨some ⟨g, 0, none⟩, cap, rfl, hnc, by simp only [maxLen] at hcm; omega, h8, .inr ⟨g, 0, rfl, (Array.getElem?_eq_some_iff.1 hg).1, ?_⟩⟩
    intro i r hr j u hu
    have hi : i < rs.length := (List.getElem?_eq_some_iff.1 hr).1
    have hre : rs[i] = r := (List.getElem?_eq_some_iff.1 hr).2
    have hlr : (ruleC r).length = 10 := ruleC_len r (h8 r (List.mem_of_getElem? hr))
    have hj : j < 10 := by have := (List.getElem?_eq_some_iff.1 hu).1; omega
    have h1 : (rulesC rs)[i * 10 + j]? = some u := by rw [← hu]; exact rules_piece rs i r hr (fun x hx => ruleC_len x (h8 x hx)) j hj
    rw [Nat.zero_add, ← h1]
    exact World.ownsRow.cellAt h (i * 10 + j) (by omega)
set_option maxRecDepth 100000 in
set_option maxHeartbeats 4000000 in
theorem policies_law (rs : List RuleD) (other : Bool) (v : Value) (noise : Int) (m : Int) (aW aH aR : Addr) (w : World) (hr : Rules w v rs) (hM : MaxL w m) (hW : Whys w aW aH aR) :
    Calls Tryd.prog 7 #[.agg #[v, .bool other], .int .i64 noise] w fun e w' => e = .returned (.bool true) ∧ Below w.heap.size w w' := by
  have hr0 := hr
  obtain ⟨ao, cap, rfl, n1, n2, l8, hcs⟩ := hr
  obtain ⟨w1, hw1⟩ : ∃ w1, w.alloc (.cells #[.slice ao rs.length cap, .bool other] 36) = w1 := ⟨_, rfl⟩
  have hp : w1.heap[w.heap.size]? = some (.cells #[.slice ao rs.length cap, .bool other] 36) := by
    rw [← hw1]; exact heap_alloc_new w _
  have hb1 : Below w.heap.size w w1 := by rw [← hw1]; exact (Below.refl _ _).alloc (Nat.le_refl _) _
  have hr1 := hr0.below hb1
  have hM1 : MaxL w1 m := cell_below hM hb1
  have hW1 := hW.below hb1
  have c0 : w1.cell? ⟨w.heap.size, 0, none⟩ = some (.slice ao rs.length cap) := cell_of_row w1 _ 0 _ _ _ hp
  have c1 : w1.cell? ⟨w.heap.size, 1, none⟩ = some (.bool other) := cell_of_row w1 _ 1 _ _ _ hp
  have hfc := fmtPol_any rs other (.slice ao rs.length cap) w1 hr1
  obtain ⟨n, hn⟩ : ∃ n, rs.length = n := ⟨_, rfl⟩
  rw [hn] at n1 c0 hw1 hr1 hr0 hfc ⊢
  have hl1 : w.heap.size < w1.heap.size := (Array.getElem?_eq_some_iff.1 hp).1
  clear hp hcs
  by_cases hR : rightF rs = true
  · have hR' := hR
    unfold rightF at hR'
    rw [Bool.and_eq_true, decide_eq_true_eq, List.all_eq_true, hn] at hR'
    obtain ⟨h256, hnm⟩ := hR'
    have hRR : ∀ r ∈ rs, RightR r := fun r h => ⟨hnm r h, l8 r h⟩
    have hlen := polLines_len rs other hnm l8
    rw [hn] at hlen
    rw [if_pos hR, if_pos hR] at hfc
    have hps := parse_text rs other hRR (by omega)
    have hpm := parse_more rs other hRR (by omega)
    have hpn := fun sel => parse_noise sel rs other hRR (by omega)
    have hfold := fun z => stepN_lines z (polL rs other) (0, []) (polL_no rs other hRR)
    rw [← linesL_pol] at hfold
    obtain ⟨tl, htl⟩ : ∃ tl, linesL (polLines rs other) = tl := ⟨_, rfl⟩
    rw [htl] at hfc hps hpm hfold hlen
    obtain ⟨s, hs⟩ : ∃ s : ByteArray, ⟨tl.toArray⟩ = s := ⟨_, rfl⟩
    have hss : s.size = tl.length := by rw [← hs]; rfl
    have hsd : s.data.toList = tl := by rw [← hs]
    rw [hs] at hfc hps
    have hpl : (polL rs other).length = n + 1 := by unfold polL; simp [hn]
    clear htl hnm
    replace hr0 := Lib.hid hr0; replace hM := Lib.hid hM; replace hW := Lib.hid hW; replace hb1 := Lib.hid hb1; replace hr1 := Lib.hid hr1; replace hM1 := Lib.hid hM1; replace hW1 := Lib.hid hW1; replace hfc := Lib.hid hfc; replace hn := Lib.hid hn; replace hR := Lib.hid hR; replace hRR := Lib.hid hRR; replace hps := Lib.hid hps; replace hpm := Lib.hid hpm; replace hpn := Lib.hid hpn; replace hfold := Lib.hid hfold; replace hs := Lib.hid hs; replace hsd := Lib.hid hsd; replace hpl := Lib.hid hpl; replace l8 := Lib.hid l8
    have hss1 : s.size ≤ 24588 := by omega
    replace hss := Lib.hid hss
    clear hlen
    go_enter Tryd.func7, Tryd.ntmps7
    go_upto_region 1 with fail
    try (change Code.wp _ _ _ _ (w.alloc (.cells #[.slice ao n cap, .bool other] 36)); rw [hw1])
    clear hw1
    go_wp2_with fail
    refine hfc.out.mono ?_
    rintro e w2 ⟨b12, rfl⟩
    have d0 := cell_below c0 b12
    have d1 := cell_below c1 b12
    have hr2 := hr1.out.below b12
    have hrc := right_any rs other _ w2 hr2
    rw [hR.out] at hrc
    replace b12 := Lib.hid b12; replace hr2 := Lib.hid hr2; replace hrc := Lib.hid hrc
    clear c0 c1
    go_wp2_with fail
    refine hrc.out.mono ?_
    rintro e w3 ⟨rfl, b23⟩
    have b13 := b12.out.trans (b23.mono b12.out.size)
    have c0 := cell_below d0 b23
    have c1 := cell_below d1 b23
    have hr3 := hr2.out.below b23
    replace b13 := Lib.hid b13; replace hr3 := Lib.hid hr3
    clear b12 b23 hr2 hrc d0 d1
    go_wp2_with fail
    refine (num_any _ _).mono ?_
    rintro e w4 ⟨rfl, rfl⟩
    go_wp2_with fail
    have hls := Lib.hid (size_list s)
    go_loop [7, 8, 9] (fun ny li i => ∃ (k ln : Nat) (acc : List UInt8), k ≤ s.size ∧ i = .int .i64 (k : Int) ∧ (tl.take k).foldl (stepN (selZ noise)) (0, []) = (ln, acc) ∧ ny = .string ⟨acc.toArray⟩ ∧ li = .int .i64 (ln : Int)) (fun _ _ i => s.size - (intOf i).toNat)
    case atStart => exact ⟨0, 0, [], by omega, rfl, rfl, rfl, rfl⟩
    case round =>
      obtain ⟨k, ln, acc, hk, rfl, hf, rfl, rfl⟩ := hrel
      have hbd := stepN_len (selZ noise) (tl.take k) (0, [])
      rw [hf, List.length_take] at hbd
      simp only [List.length_nil, Nat.zero_add] at hbd
      have hln : ln ≤ k := by omega
      have hal : acc.length ≤ 15 * k := by omega
      have has : (⟨acc.toArray⟩ : ByteArray).size = acc.length := rfl
      obtain ⟨ac, hac⟩ : ∃ ac : ByteArray, ⟨acc.toArray⟩ = ac := ⟨_, rfl⟩
      rw [hac] at has
      have hac2 : ac.size ≤ 15 * k := by omega
      clear hbd
      by_cases hlt : k < s.size
      · have eb := bAt_get s k hlt
        have htk : tl.take (k + 1) = tl.take k ++ [s[k]] := by
          rw [← hsd.out, List.take_succ_eq_append_getElem (by rw [hls.out]; exact hlt)]; rfl
        have hst : (tl.take (k + 1)).foldl (stepN (selZ noise)) (0, []) = stepN (selZ noise) (ln, acc) s[k] := by
          rw [htk, List.foldl_append, hf]; rfl
        obtain ⟨x, hx⟩ : ∃ x, s[k] = x := ⟨_, rfl⟩
        rw [hx] at eb hst
        have hex : s.extract k (k + 1) = ⟨#[x]⟩ := by
          have := extract_at (s := s) (k := k) (b := [x]) (r := s.data.toList.drop (k + 1)) (by rw [List.drop_eq_getElem_cons (by rw [hls.out]; exact hlt)]; exact congrArg (· :: _) hx)
          simpa using this
        have e1 : (s[k].toNat : Int) = (x.toNat : Int) := by rw [hx]
        clear eb htk hf
        rw [hac]
        replace hac := Lib.hid hac; replace has := Lib.hid has; replace hx := Lib.hid hx
        by_cases h10 : x = 10
        · have hq : ((x.toNat : Int) == 10) = true := by rw [h10]; rfl
          have i1 : (0 : Int) ≤ (k : Int) := by omega
          have i2 : (k : Int) + 1 ≤ (s.size : Int) := by omega
          have k1 : ¬ 9223372036854775807 < ac.size + 14 := by omega
          have k2 : ¬ 9223372036854775807 < ac.size + 14 + 1 := by omega
          have k3 : ¬ 9223372036854775807 < ac.size + 3 := by omega
          have k4 : ¬ 9223372036854775807 < ac.size + 3 + 1 := by omega
          have k5 : ¬ 9223372036854775807 < ac.size + 1 := by omega
          obtain ⟨zz, hzz⟩ : ∃ zz, bits .and .i64 (wrap64 (noise + ((ln : Int) + 1))) 3 = zz := ⟨_, rfl⟩
          have hst : (tl.take (k + 1)).foldl (stepN (selZ noise)) (0, []) = (ln + 1, acc ++ pickB zz ++ [10]) := by
            rw [hst]; unfold stepN; rw [if_pos h10]
            have e : selZ noise (ln + 1) = zz := by unfold selZ; rw [← hzz]; push_cast; rfl
            simp only [e]
          replace hst := Lib.hid hst; replace hex := Lib.hid hex; replace h10 := Lib.hid h10; replace hzz := Lib.hid hzz
          go_upto_region 14 with fail
          rw [hzz.out]
          by_cases z0 : zz = 0
          · have d0 : (zz == 0) = true := by rw [z0]; rfl
            have hfin : (ac ++ (⟨#[32, 35, 32, 111, 116, 104, 101, 114, 32, 97, 108, 108, 111, 119]⟩ : ByteArray) ++ s.extract k (k + 1)) = (⟨(acc ++ pickB zz ++ [10]).toArray⟩ : ByteArray) := by
              rw [hex.out, ← hac.out, h10.out]
              have e : pickB zz = cmt := by rw [z0]; rfl
              rw [e]
              simp only [← ba_app]; rfl
            replace hfin := Lib.hid hfin
            replace z0 := Lib.hid z0
            go_wp2_with fail
            go_round
            case rel => exact ⟨k + 1, ln + 1, _, by omega, by go_num, hst.out, by rw [← hfin.out], by go_num⟩
            case measure => simp [intOf]; omega
          · have d0 : (zz == 0) = false := by rw [beq_eq_false_iff_ne]; exact z0
            by_cases z1 : zz = 1
            · have d1 : (zz == 1) = true := by rw [z1]; rfl
              have hfin : (ac ++ (⟨#[10, 9, 10]⟩ : ByteArray) ++ s.extract k (k + 1)) = (⟨(acc ++ pickB zz ++ [10]).toArray⟩ : ByteArray) := by
                rw [hex.out, ← hac.out, h10.out]
                have e : pickB zz = [10, 9, 10] := by rw [z1]; rfl
                rw [e]
                simp only [← ba_app]
              replace hfin := Lib.hid hfin
              replace z0 := Lib.hid z0; replace z1 := Lib.hid z1
              go_wp2_with fail
              go_round
              case rel => exact ⟨k + 1, ln + 1, _, by omega, by go_num, hst.out, by rw [← hfin.out], by go_num⟩
              case measure => simp [intOf]; omega
            · have d1 : (zz == 1) = false := by rw [beq_eq_false_iff_ne]; exact z1
              have hfin : (ac ++ s.extract k (k + 1)) = (⟨(acc ++ pickB zz ++ [10]).toArray⟩ : ByteArray) := by
                rw [hex.out, ← hac.out, h10.out]
                have e : pickB zz = [] := by unfold pickB; rw [if_neg z0, if_neg z1]
                rw [e]
                simp only [← ba_app, List.append_nil]
              replace hfin := Lib.hid hfin
              replace z0 := Lib.hid z0; replace z1 := Lib.hid z1
              go_wp2_with fail
              go_round
              case rel => exact ⟨k + 1, ln + 1, _, by omega, by go_num, hst.out, by rw [← hfin.out], by go_num⟩
              case measure => simp [intOf]; omega
        · have hq : ((x.toNat : Int) == 10) = false := by
            rw [beq_eq_false_iff_ne]; intro e; exact h10 (UInt8.toNat_inj.1 (by show x.toNat = 10; omega))
          have i1 : (0 : Int) ≤ (k : Int) := by omega
          have i2 : (k : Int) + 1 ≤ (s.size : Int) := by omega
          have k5 : ¬ 9223372036854775807 < ac.size + 1 := by omega
          have hst : (tl.take (k + 1)).foldl (stepN (selZ noise)) (0, []) = (ln, acc ++ [x]) := by
            rw [hst]; unfold stepN; rw [if_neg h10]
          have hfin : (ac ++ s.extract k (k + 1)) = (⟨(acc ++ [x]).toArray⟩ : ByteArray) := by
            rw [hex, ← hac.out, ← ba_app]
          replace hst := Lib.hid hst; replace hex := Lib.hid hex; replace h10 := Lib.hid h10; replace hfin := Lib.hid hfin
          go_wp2_with fail
          go_round
          case rel => exact ⟨k + 1, ln, _, by omega, by go_num, hst.out, by rw [← hfin.out], rfl⟩
          case measure => simp [intOf]; omega
      · obtain rfl : k = s.size := by omega
        have hft := hfold.out (selZ noise)
        rw [List.take_of_length_le (by rw [← hss.out]; exact Nat.le_refl _)] at hf
        rw [hf] at hft
        simp only [Prod.mk.injEq, Nat.zero_add, List.nil_append] at hft
        obtain ⟨hf1, hf2⟩ := hft
        rw [hpl.out] at hf1
        subst hf1
        have hpac : parsePolF ac = .inl (rs, other) := by rw [← hac, hf2]; exact hpn.out _
        rw [hac]
        clear hf hf2 has
        have b04 := hb1.out.trans (b13.out.mono hb1.out.size)
        have hsz3 := b13.out.size
        have hpc := parsePol_any s m aW aH aR w4 (cell_below hM.out b04) (hW.out.below b04) (by omega)
        rw [hps.out] at hpc
        obtain ⟨sm, hsm⟩ : ∃ sm : ByteArray, s ++ (⟨#[111, 116, 104, 101, 114, 32, 100, 101, 110, 121, 10]⟩ : ByteArray) = sm := ⟨_, rfl⟩
        have hsmz : sm.size = s.size + 11 := by rw [← hsm, ByteArray.size_append]; rfl
        have hpm2 : parsePolF sm = .inr (n + 2) := by
          rw [← hsm, ← hs.out, show (⟨#[111, 116, 104, 101, 114, 32, 100, 101, 110, 121, 10]⟩ : ByteArray) = ⟨denyL.toArray⟩ from rfl, ba_app]
          rw [← hn.out]; exact hpm.out
        have k6 : ¬ 9223372036854775807 < s.size + 11 := by omega
        have hsmz1 : sm.size ≤ 65536 := by omega
        clear hpm hsmz
        have hpm := hpm2
        clear hpm2
        replace hpm := Lib.hid hpm; replace hpac := Lib.hid hpac; replace hac := Lib.hid hac; replace hsm := Lib.hid hsm; replace hpc := Lib.hid hpc; replace b04 := Lib.hid b04
        go_upto_region 19 with fail
        go_wp2_with fail
        refine hpc.out.mono ?_
        rintro e w5 ⟨b45, v2, C, hC, rfl, ho2, _⟩
        obtain ⟨ao2, ca2, rfl⟩ : ∃ ao ca, v2 = .slice ao rs.length ca := by
          rcases ho2.2 with ⟨hv, hn'⟩ | ⟨g, cap, cur, hv, _⟩
          · exact ⟨none, 0, by rw [hv, hn']⟩
          · exact ⟨_, _, hv⟩
        have hR2 := Rules.of_own ho2 rfl l8.out
        have d0 := cell_below c0 b45
        have d1 := cell_below c1 b45
        have hr5 := hr3.out.below b45
        have b05 := b04.out.trans (b45.mono b04.out.size)
        obtain ⟨w6, hw6⟩ : ∃ w6, w5.alloc (.cells #[.slice ao2 rs.length ca2, .bool other] 36) = w6 := ⟨_, rfl⟩
        have b56 : Below w5.heap.size w5 w6 := by rw [← hw6]; exact (Below.refl _ _).alloc (Nat.le_refl _) _
        have b06 := b05.trans (b56.mono b05.size)
        have b46 := b45.trans (b56.mono b45.size)
        have e0 := cell_below d0 b56
        have e1 := cell_below d1 b56
        have hq6 : w6.heap[w5.heap.size]? = some (.cells #[.slice ao2 rs.length ca2, .bool other] 36) := by rw [← hw6]; exact heap_alloc_new w5 _
        have g0 : w6.cell? ⟨w5.heap.size, 0, none⟩ = some (.slice ao2 rs.length ca2) := cell_of_row w6 _ 0 _ _ _ hq6
        have g1 : w6.cell? ⟨w5.heap.size, 1, none⟩ = some (.bool other) := cell_of_row w6 _ 1 _ _ _ hq6
        have hpol := policies_same rs other _ _ w6 (hR2.below b56) (hr5.below b56)
        rw [hn.out] at hw6 g0 hpol
        have hl6 : w5.heap.size < w6.heap.size := (Array.getElem?_eq_some_iff.1 hq6).1
        clear c0 c1 d0 d1 ho2 hR2 hr5 hpc b45 hq6 b56
        rw [hn.out]
        replace b05 := Lib.hid b05; replace b06 := Lib.hid b06; replace b46 := Lib.hid b46; replace hpol := Lib.hid hpol; replace hw6 := Lib.hid hw6
        go_upto_region 20 with fail
        rw [hw6.out]
        go_wp2_with fail
        refine (num_any _ _).mono ?_
        rintro e wx ⟨rfl, rfl⟩
        go_wp2_with fail
        refine hpol.out.mono ?_
        rintro e w7 ⟨rfl, b67⟩
        have f0 := cell_below e0 b67
        have f1 := cell_below e1 b67
        have b07 := b06.out.trans (b67.mono b06.out.size)
        have hr7 : Rules w7 (.slice ao n cap) rs := hr3.out.below (b46.out.trans (b67.mono b46.out.size))
        clear e0 e1 g0 g1 hpol b67
        replace b07 := Lib.hid b07; replace hr7 := Lib.hid hr7
        by_cases hle : ac.size ≤ 65536
        · have hpn2 := parsePol_any ac m aW aH aR w7 (cell_below hM.out b07.out) (hW.out.below b07.out) hle
          rw [hpac.out] at hpn2
          have d9 : decide ((ac.size : Int) ≤ 65536) = true := decide_eq_true (by omega)
          replace hpn2 := Lib.hid hpn2
          go_wp2_with fail
          refine hpn2.out.mono ?_
          rintro e w8 ⟨b78, v3, C3, hC3, rfl, ho3, _⟩
          obtain ⟨ao3, ca3, rfl⟩ : ∃ ao ca, v3 = .slice ao rs.length ca := by
            rcases ho3.2 with ⟨hv, hn'⟩ | ⟨g, cap, cur, hv, _⟩
            · exact ⟨none, 0, by rw [hv, hn']⟩
            · exact ⟨_, _, hv⟩
          have hR3 := Rules.of_own ho3 rfl l8.out
          have j0 := cell_below f0 b78
          have j1 := cell_below f1 b78
          have hr8 := hr7.out.below b78
          have b08 := b07.out.trans (b78.mono b07.out.size)
          obtain ⟨w9, hw9⟩ : ∃ w9, w8.alloc (.cells #[.slice ao3 rs.length ca3, .bool other] 36) = w9 := ⟨_, rfl⟩
          have b89 : Below w8.heap.size w8 w9 := by rw [← hw9]; exact (Below.refl _ _).alloc (Nat.le_refl _) _
          have b09 := b08.trans (b89.mono b08.size)
          have e0 := cell_below j0 b89
          have e1 := cell_below j1 b89
          have hq9 : w9.heap[w8.heap.size]? = some (.cells #[.slice ao3 rs.length ca3, .bool other] 36) := by rw [← hw9]; exact heap_alloc_new w8 _
          have g0 : w9.cell? ⟨w8.heap.size, 0, none⟩ = some (.slice ao3 rs.length ca3) := cell_of_row w9 _ 0 _ _ _ hq9
          have g1 : w9.cell? ⟨w8.heap.size, 1, none⟩ = some (.bool other) := cell_of_row w9 _ 1 _ _ _ hq9
          have hpol2 := policies_same rs other _ _ w9 (hR3.below b89) (hr8.below b89)
          rw [hn.out] at hw9 g0 hpol2
          clear f0 f1 j0 j1 ho3 hR3 hr8 hpn2 b78 hq9 b89
          rw [hn.out]
          replace b08 := Lib.hid b08; replace b09 := Lib.hid b09; replace hpol2 := Lib.hid hpol2; replace hw9 := Lib.hid hw9
          go_upto_region 24 with fail
          rw [hw9.out]
          go_wp2_with fail
          refine (num_any _ _).mono ?_
          rintro e wx ⟨rfl, rfl⟩
          go_wp2_with fail
          refine hpol2.out.mono ?_
          rintro e wb ⟨rfl, b9b⟩
          have b0b := b09.out.trans (b9b.mono b09.out.size)
          replace b0b := Lib.hid b0b
          clear e0 e1 g0 g1 hpol2 b9b
          have hpmC := parsePol_any sm m aW aH aR wb (cell_below hM.out b0b.out) (hW.out.below b0b.out) hsmz1
          rw [hpm.out] at hpmC
          replace hpmC := Lib.hid hpmC
          go_wp2_with fail
          rw [hsm.out]
          refine hpmC.out.mono ?_
          rintro e wY ⟨bXY, hY⟩
          replace hY : e = .returned (.tuple #[.agg #[.slice none 0 0, .bool false], .int .i64 (((n + 2 : Nat)) : Int), .int .i64 161]) := hY
          rw [show (((n + 2 : Nat)) : Int) = (n : Int) + 1 + 1 by omega] at hY
          subst hY
          have bY := b0b.out.trans (bXY.mono b0b.out.size)
          replace bY := Lib.hid bY
          clear hpmC bXY
          go_wp2_with fail
          refine (num_any _ _).mono ?_
          rintro e wZ ⟨rfl, rfl⟩
          go_wp2_with fail
          go_ret
          exact ⟨rfl, bY.out.alloc bY.out.size _⟩
        · have d9 : decide ((ac.size : Int) ≤ 65536) = false := decide_eq_false (by omega)
          have hpmC := parsePol_any sm m aW aH aR w7 (cell_below hM.out b07.out) (hW.out.below b07.out) hsmz1
          rw [hpm.out] at hpmC
          replace hpmC := Lib.hid hpmC
          go_wp2_with fail
          rw [hsm.out]
          refine hpmC.out.mono ?_
          rintro e wY ⟨bXY, hY⟩
          replace hY : e = .returned (.tuple #[.agg #[.slice none 0 0, .bool false], .int .i64 (((n + 2 : Nat)) : Int), .int .i64 161]) := hY
          rw [show (((n + 2 : Nat)) : Int) = (n : Int) + 1 + 1 by omega] at hY
          subst hY
          have bY := b07.out.trans (bXY.mono b07.out.size)
          replace bY := Lib.hid bY
          clear hpmC bXY
          go_wp2_with fail
          refine (num_any _ _).mono ?_
          rintro e wZ ⟨rfl, rfl⟩
          go_wp2_with fail
          go_ret
          exact ⟨rfl, bY.out.alloc bY.out.size _⟩
  · have hec := hfc
    rw [if_neg hR, if_neg hR] at hec
    have hrc0 := fun (wx : World) (hx : Rules wx (.slice ao n cap) rs) => right_any rs other _ wx hx
    have hRf : rightF rs = false := by simpa using hR
    clear hfc hR
    replace hr0 := Lib.hid hr0; replace hM := Lib.hid hM; replace hW := Lib.hid hW; replace hb1 := Lib.hid hb1; replace hr1 := Lib.hid hr1; replace hM1 := Lib.hid hM1; replace hW1 := Lib.hid hW1; replace hec := Lib.hid hec; replace hn := Lib.hid hn; replace hRf := Lib.hid hRf; replace hrc0 := Lib.hid hrc0; replace l8 := Lib.hid l8
    go_enter Tryd.func7, Tryd.ntmps7
    go_upto_region 1 with fail
    try (change Code.wp _ _ _ _ (w.alloc (.cells #[.slice ao n cap, .bool other] 36)); rw [hw1])
    clear hw1
    go_wp2_with fail
    refine hec.out.mono ?_
    rintro e w2 ⟨b12, rfl⟩
    have d0 := cell_below c0 b12
    have d1 := cell_below c1 b12
    have hrc := hrc0.out w2 (hr1.out.below b12)
    rw [hRf.out] at hrc
    replace b12 := Lib.hid b12; replace hrc := Lib.hid hrc
    clear c0 c1
    go_wp2_with fail
    refine hrc.out.mono ?_
    rintro e w3 ⟨rfl, b23⟩
    have b03 := hb1.out.trans ((b12.out.trans (b23.mono b12.out.size)).mono hb1.out.size)
    replace b03 := Lib.hid b03
    clear b12 b23 hrc d0 d1
    go_wp2_with fail
    refine (num_any _ _).mono ?_
    rintro e w4 ⟨rfl, rfl⟩
    go_wp2_with fail
    go_ret
    exact ⟨rfl, b03.out⟩
end Go.Proofs.YtemanjahkohcpaaDoor
