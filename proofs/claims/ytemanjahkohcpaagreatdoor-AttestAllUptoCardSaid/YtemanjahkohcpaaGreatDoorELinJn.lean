/- The contract of attest's line: a line's words into the policy. -/
import Derived.Test.YtemanjahkohcpaaGreatDoorJn22
import Derived.Test.YtemanjahkohcpaaGreatDoorJn10
namespace Go.Proofs.YtemanjahkohcpaaGreatDoor
open Go.RowKit WP
/-- the texts of the first words, the rest still empty -/
def tx (ws : List W) : List Value := ws.map fun x => .string x.1
def txk (ws : List W) (k : Nat) : List Value := tx (ws.take k) ++ List.replicate (ws.length - k) (.string ⟨#[]⟩)
theorem txk_zero (ws : List W) : txk ws 0 = List.replicate ws.length (.string ⟨#[]⟩) := by simp [txk, tx]
theorem txk_full (ws : List W) : txk ws ws.length = tx ws := by simp [txk]
theorem txk_get (ws : List W) (k : Nat) (h : k < ws.length) : (txk ws k)[k]? = some (.string ⟨#[]⟩) := by
  unfold txk
  have e : (tx (ws.take k)).length = k := by simp [tx]; omega
  rw [List.getElem?_append_right (by omega), e, Nat.sub_self, List.getElem?_replicate, if_pos (by omega)]
theorem txk_step (ws : List W) (k : Nat) (h : k < ws.length) : (txk ws k).set k (.string ws[k].1) = txk ws (k + 1) := by
  have e : (tx (ws.take k)).length = k := by simp [tx]; omega
  unfold txk
  rw [List.set_append_right _ _ (by omega), e, Nat.sub_self, show ws.length - k = (ws.length - (k + 1)) + 1 by omega, List.replicate_succ, List.set_cons_zero, List.take_succ_eq_append_getElem h]
  simp only [tx, List.map_append, List.map_cons, List.map_nil, List.append_assoc]; rfl
theorem ww_at : ∀ (l : List W) (j : Nat) (h : j < l.length), (ww l)[j * 3]? = some (.string (l[j]).1) ∧ (ww l)[j * 3 + 1]? = some (.bool (l[j]).2.1) ∧ (ww l)[j * 3 + 2]? = some (.int .i64 ((l[j]).2.2 : Int))
  | x :: l, 0, _ => ⟨rfl, rfl, rfl⟩
  | x :: l, j + 1, h => by
    obtain ⟨a, b, c⟩ := ww_at l j (by simpa using h)
    have e : ww (x :: l) = [.string x.1, .bool x.2.1, .int .i64 (x.2.2 : Int)] ++ ww l := rfl
    have e1 : (j + 1) * 3 = j * 3 + 3 := by omega
    rw [e, e1]
    refine ⟨?_, ?_, ?_⟩
    · rw [List.getElem?_append_right (by simp)]; exact a
    · rw [show j * 3 + 3 + 1 = j * 3 + 1 + 3 by omega, List.getElem?_append_right (by simp)]; exact b
    · rw [show j * 3 + 3 + 2 = j * 3 + 2 + 3 by omega, List.getElem?_append_right (by simp)]; exact c
theorem lineF_two (a b : W) (rs : List RuleD) (o : Bool) (h : ([a, b].any fun x => x.2.1) = false) : lineF [a, b] rs o = if a.1 = otherB then (saysF b.1).map fun x => (true, rs, x) else none := by
  unfold lineF; rw [if_neg (by rw [h]; simp)]
theorem lineF_three (a b c : W) (rs : List RuleD) (o : Bool) (h : ([a, b, c].any fun x => x.2.1) = false) : lineF [a, b, c] rs o = if nameF b.1 = true then (saysF a.1).bind fun x => (eightF c.1).bind fun m => if rs.length = 256 then none else some (false, rs ++ [⟨x, b.1, m⟩], o) else none := by
  unfold lineF; rw [if_neg (by rw [h]; simp)]
theorem lineF_else (ws : List W) (rs : List RuleD) (o : Bool) (h2 : ws.length ≠ 2) (h3 : ws.length ≠ 3) : lineF ws rs o = none := by
  unfold lineF
  split
  · rfl
  · split
    · simp at h2
    · simp at h3
    · rfl
theorem saysF_no (s : ByteArray) (h1 : s ≠ allowB) (h2 : s ≠ denyB) : saysF s = none := by unfold saysF; rw [if_neg h1, if_neg h2]
theorem saysF_yes (s : ByteArray) (h : s = allowB ∨ s = denyB) : saysF s = some (decide (s = allowB)) := by
  unfold saysF
  rcases h with rfl | rfl
  · rfl
  · rfl
theorem Bad.other {w : World} {aW aH aR : Addr} {v : Value} {pb : Nat} {x o : Bool} (h : Bad w aW aH aR v) (hc : w.cell? ⟨pb, 1, none⟩ = some (.bool o)) : Bad (w.setCell ⟨pb, 1, none⟩ (.bool x)) aW aH aR v := by
  rcases h with h | h | ⟨g, h, hg⟩
  · exact .inl h
  · exact .inr (.inl h)
  · have hne : g ≠ pb := by
      rintro rfl
      rcases hg with hg | hg <;> (rw [hg] at hc; simp at hc)
    have hs : (w.setCell ⟨pb, 1, none⟩ (.bool x)).cell? ⟨g, 1, none⟩ = w.cell? ⟨g, 1, none⟩ := cell_same (heap_setCell_other _ _ _ _ (by simpa using hne))
    exact .inr (.inr ⟨g, h, by rw [hs]; exact hg⟩)
theorem there_block {w : World} {g : Nat} {cs : Array Value} {t : TypeId} (h : w.heap[g]? = some (.cells cs t (0, 0))) (o n : Nat) (hn : o + n ≤ cs.size) : w.there g o n := by
  intro j hj
  refine ⟨?_, frozen_of_row _ _ _ _ _ h⟩
  rw [cell_of_row w g (o + j) cs t _ h, Array.getElem?_eq_getElem (by omega)]; rfl
theorem frozen_same {w w' : World} {g o : Nat} (he : w'.heap[g]? = w.heap[g]?) : w'.frozen? ⟨g, o, none⟩ = w.frozen? ⟨g, o, none⟩ := by
  simp only [World.frozen?, he]
theorem infoR : (Tryz.prog.info? 67).map (fun i => (i.zero.map (fun z => z.cells.size), i.size, i.bytes)) = some (some 10, 10, 56) := by kernel_rfl
theorem infoR_parts : ∃ i z, Tryz.prog.info? 67 = some i ∧ i.zero = some z ∧ i.size = 10 ∧ i.bytes = 56 ∧ z.cells.size = 10 := by
  have h := infoR
  cases hi : Tryz.prog.info? 67 with
  | none => rw [hi] at h; exact absurd h (by simp)
  | some i =>
    rw [hi] at h
    simp only [Option.map_some, Option.some.injEq, Prod.mk.injEq] at h
    obtain ⟨h1, h2, h3⟩ := h
    cases hz : i.zero with
    | none => rw [hz] at h1; exact absurd h1 (by simp)
    | some z => rw [hz] at h1; simp only [Option.map_some, Option.some.injEq] at h1; exact ⟨i, z, rfl, hz, h2, h3, h1⟩
def LineRes (C pb : Nat) (aW aH aR : Addr) (w0 : World) (R : Option (Bool × List RuleD × Bool)) (e : Ending) (w' : World) : Prop :=
  match R with
  | some (l, rs', o') => e = .returned (.tuple #[.bool l, .nilIface]) ∧ ∃ v', PolSt C pb w0 w' v' rs' o'
  | none => ∃ (b : Bool) (x : Value), e = .returned (.tuple #[.bool b, x]) ∧ Bad w' aW aH aR x ∧ ∃ v' rs' o', PolSt C pb w0 w' v' rs' o'
set_option maxRecDepth 100000 in
set_option maxHeartbeats 4000000 in
theorem line_any (C pb base : Nat) (aW aH aR : Addr) (w0 w : World) (v wv : Value) (ws : List W) (rs : List RuleD) (o : Bool)
    (hP : PolSt C pb w0 w v rs o) (hW : Whys w aW aH aR) (how : w.ownsRow base 76 3 wv ws.length (ww ws)) (hn : ws.length ≤ 1048576) (hb : ∀ x ∈ ws, x.1.size ≤ 65536) (hr : rs.length ≤ 256) :
    Calls Tryz.prog 15 #[.pointer (some ⟨pb, 0, none⟩), wv] w (LineRes C pb aW aH aR w0 (lineF ws rs o)) := by
  obtain ⟨i0, hi, hz0, hz1, hz2⟩ := info_parts infoStr
  obtain ⟨R, hR⟩ : ∃ R, lineF ws rs o = R := ⟨_, rfl⟩
  rw [hR]
  obtain ⟨wao, wca, rfl⟩ : ∃ ao ca, wv = .slice ao ws.length ca := by
    rcases how.2 with ⟨hv, hn⟩ | ⟨g, cap, cur, hv, _⟩
    · exact ⟨none, 0, by rw [hv, hn]⟩
    · exact ⟨_, _, hv⟩
  obtain ⟨n, hnn⟩ : ∃ n, ws.length = n := ⟨_, rfl⟩
  rw [hnn] at hn how ⊢
  have hl1 := hP.ltS
  replace hnn := Lib.hid hnn; replace hR := Lib.hid hR; replace hP := Lib.hid hP; replace hW := Lib.hid hW; replace how := Lib.hid how; replace hb := Lib.hid hb
  go_enter Tryz.func15, Tryz.ntmps15
  go_wp2_with (at_make; refine wpList_make_full _ rfl _ _ 46 rfl w.heap.size 9 i0 (.string ⟨#[]⟩) 1 Tryz.underlying46 hi hz0 hz1 .i64 .i64 _ _ n rfl rfl ?m0 ?m4 ?m1 ?m2 ?m3 ?_)
  case m0 => rfl
  case m4 => rfl
  case m1 => rw [hz2]; omega
  case m2 => simp only [maxLen]; omega
  case m3 => exact Nat.le_refl _
  intro w1 hoa hg1
  have hb1 := (Below.refl w.heap.size w).grown hg1 (Nat.le_refl _) (by simp)
  have ho1 : w1.ownsRow w.heap.size 9 1 (.slice (some ⟨w.heap.size, 0, none⟩) n n) n (txk ws 0) := by
    rw [txk_zero, hnn.out, ← toList_madeCells_one]; exact hoa
  have hs1 := hb1.size
  clear hg1 hoa
  replace ho1 := Lib.hid ho1; replace hb1 := Lib.hid hb1
  go_wp2_with fail
  go_loopw [15] (fun i wr => ∃ k : Nat, k ≤ n ∧ i = .int .i64 k ∧ wr.ownsRow w.heap.size 9 1 (.slice (some ⟨w.heap.size, 0, none⟩) n n) n (txk ws k) ∧ (ws.take k).any (fun x => x.2.1) = false ∧ Below w.heap.size w wr) (fun i _ => n - (intOf i).toNat)
  case atStart => exact ⟨0, by omega, rfl, ho1.out, by simp, hb1.out⟩
  case round =>
    obtain ⟨wo, rfl⟩ : ∃ wo, wo = wr := ⟨wr, rfl⟩
    obtain ⟨k, hk, rfl, ho, hq, hb2⟩ := hrel
    clear ho1 hb1 hs1
    have hs2 := hb2.size
    by_cases hlt : k < n
    · have hkl : k < ws.length := by rw [hnn.out]; exact hlt
      obtain ⟨v0, v1, v2⟩ := ww_at ws k hkl
      have htk : (ws.take (k + 1)).any (fun x => x.2.1) = ws[k].2.1 := by
        rw [List.take_succ_eq_append_getElem hkl, List.any_append, hq]; simp
      have hst := txk_step ws k hkl
      obtain ⟨⟨s, q, cl⟩, hx⟩ : ∃ x, ws[k] = x := ⟨_, rfl⟩
      rw [hx] at v0 v1 v2 htk hst
      have hcw : ∃ g, wao = some ⟨g, 0, none⟩ := by
        rcases how.out.2 with ⟨hv, hn'⟩ | ⟨g, cap, cur, hv, _⟩
        · omega
        · simp only [Value.slice.injEq] at hv; exact ⟨g, hv.1⟩
      obtain ⟨g, rfl⟩ := hcw
      have hwl : (ww ws).length = n * 3 := by have := how.out.1; exact this
      have x0 := (how.out.cellAt (k * 3) (by omega)).trans v0
      have x1 := (how.out.cellAt (k * 3 + 1) (by omega)).trans v1
      have x2 := (how.out.cellAt (k * 3 + 2) (by omega)).trans v2
      replace x0 := (hb2.cell (p := ⟨g, k * 3, none⟩) (World.block_lt_of_cell? _ _ x0)).trans x0
      replace x1 := (hb2.cell (p := ⟨g, k * 3 + 1, none⟩) (World.block_lt_of_cell? _ _ x1)).trans x1
      replace x2 := (hb2.cell (p := ⟨g, k * 3 + 2, none⟩) (World.block_lt_of_cell? _ _ x2)).trans x2
      have hcu := (ho.cellAt k (by omega)).trans (txk_get ws k hkl)
      have hfu := ho.frozenAt k
      have hgl := (ho.lt w.heap.size rfl).2
      clear v0 v1 v2
      obtain ⟨wA, hwA⟩ : ∃ wA, wo.alloc (.cells #[.string s, .bool q, .int .i64 (cl : Int)] 76) = wA := ⟨_, rfl⟩
      have hbA : Below w.heap.size w wA := by rw [← hwA]; exact hb2.alloc hs2 _
      have hA : wA.heap[wo.heap.size]? = some (.cells #[.string s, .bool q, .int .i64 (cl : Int)] 76) := by rw [← hwA]; exact heap_alloc_new wo _
      have a0 : wA.cell? ⟨wo.heap.size, 0, none⟩ = some (.string s) := cell_of_row _ _ _ _ _ _ hA
      have a1 : wA.cell? ⟨wo.heap.size, 1, none⟩ = some (.bool q) := cell_of_row _ _ _ _ _ _ hA
      have hoA : wA.ownsRow w.heap.size 9 1 (.slice (some ⟨w.heap.size, 0, none⟩) n n) n (txk ws k) := by rw [← hwA]; exact ho.alloc _
      have hsA : wA.heap.size = wo.heap.size + 1 := by rw [← hwA]; simp
      cases q with
      | true =>
        have hRn : R = none := by
          rw [← hR.out]; unfold lineF
          rw [if_pos (List.any_eq_true.2 ⟨ws[k], List.getElem_mem _, by rw [hx]⟩)]
        have cE : wA.cell? ⟨0, 0, none⟩ = some (.iface 198 (.pointer (some aW))) := (hW.out.below hbA).vW
        have b0 : (wA.alloc (.cells #[.string s, .iface 198 (.pointer (some aW))] 80)).cell? ⟨wo.heap.size, 0, none⟩ = some (.string s) := cell_below a0 ((Below.refl _ _).alloc (Nat.le_refl _) _)
        have bE : (wA.alloc (.cells #[.string s, .iface 198 (.pointer (some aW))] 80)).cell? ⟨0, 0, none⟩ = some (.iface 198 (.pointer (some aW))) := cell_below cE ((Below.refl _ _).alloc (Nat.le_refl _) _)
        have hbB : Below w.heap.size w (wA.alloc (.cells #[.string s, .iface 198 (.pointer (some aW))] 80)) := hbA.alloc hbA.size _
        have b1 : (wA.alloc (.cells #[.string s, .iface 198 (.pointer (some aW))] 80)).cell? ⟨wA.heap.size, 1, none⟩ = some (.iface 198 (.pointer (some aW))) := by
          rw [cell_of_row _ _ 1 _ _ _ (heap_alloc_new wA _)]; rfl
        have a0' := Lib.hid a0
        clear hx hcu hfu hgl hA hoA hst htk hq ho hwl
        replace hb2 := Lib.hid hb2; replace hbA := Lib.hid hbA; replace hbB := Lib.hid hbB; replace b1 := Lib.hid b1; replace hRn := Lib.hid hRn; replace hwA := Lib.hid hwA; replace hsA := Lib.hid hsA
        go_upto_region 5 with fail
        try rw [hwA.out]
        go_wp2_with fail
        go_region_held3 (fun w' => w'.cell? ⟨wo.heap.size, 0, none⟩ = some (.string s) ∧ w'.cell? ⟨0, 0, none⟩ = some (.iface 198 (.pointer (some aW))))
          (first | exact ⟨a0, cE⟩ | exact ⟨b0, bE⟩ | assumption)
          (fail)
        all_goals
          go_wp2_with fail
          go_ret2
          rw [hRn.out]
          exact ⟨false, _, rfl, .inr (.inr ⟨_, rfl, .inl b1.out⟩), _, _, _, hP.out.later hbB.out.drew⟩
      | false =>
        have hst2 := hoA.stored k (.string s)
        rw [hst] at hst2
        have hfA : wA.frozen? ⟨w.heap.size, k, none⟩ = false := hoA.frozenAt k
        have hcA : wA.cell? ⟨w.heap.size, k, none⟩ = some (.string ⟨#[]⟩) := (hoA.cellAt k (by omega)).trans (txk_get ws k hkl)
        clear hx hcu hfu hgl hA hoA hst hq ho hwl
        replace hb2 := Lib.hid hb2; replace hbA := Lib.hid hbA; replace hst2 := Lib.hid hst2; replace hwA := Lib.hid hwA; replace htk := Lib.hid htk; replace hsA := Lib.hid hsA
        go_upto_region 5 with fail
        try rw [hwA.out]
        go_wp2_with fail
        go_roundw
        case rel => exact ⟨k + 1, by omega, by go_num, hst2.out.1, htk.out, hbA.out.grown hst2.out.2 hbA.out.size (by simp)⟩
        case measure => simp [intOf]; omega
    · obtain rfl : k = n := by omega
      have etx : txk ws k = tx ws := by rw [← hnn.out]; exact txk_full ws
      rw [etx] at ho
      rw [List.take_of_length_le (by rw [hnn.out]; exact Nat.le_refl _)] at hq
      have hPo := hP.out.later hb2
      have hWo := hW.out.below hb2
      have hls := hPo.ltS
      have cE : wo.cell? ⟨0, 0, none⟩ = some (.iface 198 (.pointer (some aW))) := hWo.vW
      have hbw : Bad wo.drew aW aH aR (.iface 198 (.pointer (some aW))) := .inl rfl
      clear etx hP hW how
      by_cases h2 : k = 2
      · subst h2
        obtain ⟨⟨sa, qa, ca⟩, ⟨sb, qb, cb⟩, rfl⟩ : ∃ a b, ws = [a, b] := by
          have := hnn.out
          match ws, this with
          | [a, b], _ => exact ⟨a, b, rfl⟩
        have l0 := ho.cellAt 0 (by omega)
        have l1 := ho.cellAt 1 (by omega)
        replace l0 : wo.cell? ⟨w.heap.size, 0, none⟩ = some (.string sa) := l0
        replace l1 : wo.cell? ⟨w.heap.size, 1, none⟩ = some (.string sb) := l1
        have hRR := hR.out
        rw [lineF_two _ _ _ _ hq] at hRR
        simp only at hRR
        clear ho hq hR
        replace hb2 := Lib.hid hb2
        by_cases ha : sa = otherB
        · rw [if_pos ha] at hRR
          have q1 : (sa.toList == [111, 116, 104, 101, 114]) = true := by rw [toList_eq, decide_eq_true_iff]; exact ha
          clear ha
          have c1 := hPo.c1
          have f1 := hPo.f1
          by_cases hs : sb = allowB ∨ sb = denyB
          · rw [saysF_yes _ hs] at hRR
            have hsy := says_yes sb wo hs
            obtain ⟨y, hy⟩ : ∃ y, decide (sb = allowB) = y := ⟨_, rfl⟩
            rw [hy] at hRR hsy
            have hPy := hPo.setO y
            clear hy hs
            replace hRR := Lib.hid hRR; replace hPo := Lib.hid hPo; replace hWo := Lib.hid hWo; replace hPy := Lib.hid hPy; replace hsy := Lib.hid hsy; replace hbw := Lib.hid hbw
            go_wp2_with fail
            refine hsy.out.mono ?_
            rintro e w2 ⟨rfl, rfl⟩
            go_wp2_with fail
            go_ret2
            rw [← hRR.out]
            exact ⟨rfl, _, hPy.out⟩
          · rw [saysF_no _ (fun e => hs (.inl e)) (fun e => hs (.inr e))] at hRR
            have hsn := says_no sb aW aH aR wo hWo (fun e => hs (.inl e)) (fun e => hs (.inr e))
            clear hs
            replace hRR := Lib.hid hRR; replace hPo := Lib.hid hPo; replace hWo := Lib.hid hWo; replace hsn := Lib.hid hsn; replace hbw := Lib.hid hbw
            go_wp2_with fail
            refine hsn.out.mono ?_
            rintro e w2 ⟨b2, v2, hB2, rfl⟩
            have hP2 := hPo.out.later b2
            have hPy := hP2.setO false
            have hB3 := hB2.other (x := false) hP2.c1
            clear c1 f1 l0 l1 cE
            have c1 := hP2.c1
            have f1 := hP2.f1
            replace hP2 := Lib.hid hP2; replace hPy := Lib.hid hPy; replace hB3 := Lib.hid hB3; replace b2 := Lib.hid b2; replace hB2 := Lib.hid hB2
            go_wp2_with fail
            go_ret2
            rw [← hRR.out]
            exact ⟨true, _, rfl, hB3.out, _, _, _, hPy.out⟩
        · rw [if_neg ha] at hRR
          have q1 : (sa.toList == [111, 116, 104, 101, 114]) = false := by rw [toList_eq, decide_eq_false_iff_not]; exact ha
          clear ha
          replace hRR := Lib.hid hRR; replace hPo := Lib.hid hPo; replace hWo := Lib.hid hWo; replace hbw := Lib.hid hbw
          go_wp2_with fail
          go_region_held3 (fun w' => w'.cell? ⟨0, 0, none⟩ = some (.iface 198 (.pointer (some aW)))) (first | exact cE | assumption) (fail)
          go_wp2_with fail
          go_ret2
          rw [← hRR.out]
          exact ⟨false, _, rfl, hbw.out, _, _, _, hPo.out.later (Below.refl _ _).drew⟩
      · by_cases h3 : k = 3
        · subst h3
          obtain ⟨⟨sa, qa, ca⟩, ⟨sb, qb, cb⟩, ⟨sc, qc, cc⟩, rfl⟩ : ∃ a b c, ws = [a, b, c] := by
            have := hnn.out
            match ws, this with
            | [a, b, c], _ => exact ⟨a, b, c, rfl⟩
          have l0 : wo.cell? ⟨w.heap.size, 0, none⟩ = some (.string sa) := ho.cellAt 0 (by omega)
          have l1 : wo.cell? ⟨w.heap.size, 1, none⟩ = some (.string sb) := ho.cellAt 1 (by omega)
          have l2 : wo.cell? ⟨w.heap.size, 2, none⟩ = some (.string sc) := ho.cellAt 2 (by omega)
          have hgl := (ho.lt w.heap.size rfl).2
          have hsb : sb.size ≤ 65536 := hb.out (sb, qb, cb) (by simp)
          have hsc : sc.size ≤ 65536 := hb.out (sc, qc, cc) (by simp)
          have hRR := hR.out
          rw [lineF_three _ _ _ _ _ hq] at hRR
          simp only at hRR
          have hnc := name_any sb wo
          clear ho hq hR hb
          replace hb2 := Lib.hid hb2
          by_cases hnm : nameF sb = true
          · rw [if_pos hnm] at hRR hnc
            clear hnm
            have z10 : ∀ j, j < 10 → True := fun _ _ => trivial
            clear z10
            replace hRR := Lib.hid hRR; replace hPo := Lib.hid hPo; replace hWo := Lib.hid hWo; replace hbw := Lib.hid hbw; replace hnc := Lib.hid hnc
            go_wp2_with fail
            refine hnc.out.mono ?_
            rintro e w2 ⟨rfl, rfl⟩
            go_upto_region 15 with fail
            obtain ⟨w3, hw3⟩ : ∃ w3, w2.alloc (.cells #[.bool false, .string sb, .int .u32 0, .int .u32 0, .int .u32 0, .int .u32 0, .int .u32 0, .int .u32 0, .int .u32 0, .int .u32 0] 67) = w3 := ⟨_, rfl⟩
            rw [hw3]
            have hB3 : w3.heap[w2.heap.size]? = some (.cells #[.bool false, .string sb, .int .u32 0, .int .u32 0, .int .u32 0, .int .u32 0, .int .u32 0, .int .u32 0, .int .u32 0, .int .u32 0] 67) := by rw [← hw3]; exact heap_alloc_new w2 _
            have b23 : Below w2.heap.size w2 w3 := by rw [← hw3]; exact (Below.refl _ _).alloc (Nat.le_refl _) _
            have hl3 : w2.heap.size < w3.heap.size := (Array.getElem?_eq_some_iff.1 hB3).1
            have hP3 := hPo.out.later b23
            have hW3 := hWo.out.below b23
            replace l0 := cell_below l0 b23
            replace l2 := cell_below l2 b23
            have y3 : w3.cell? ⟨w2.heap.size, 0, none⟩ = some (.bool false) := cell_of_row _ _ _ _ _ _ hB3
            have g3 : w3.frozen? ⟨w2.heap.size, 0, none⟩ = false := frozen_of_row _ _ _ _ _ hB3
            clear hw3 cE l1
            replace hB3 := Lib.hid hB3; replace b23 := Lib.hid b23
            by_cases hs : sa = allowB ∨ sa = denyB
            · have hRS := hRR.out
              rw [saysF_yes _ hs, Option.bind_some] at hRS
              have hsy := says_yes sa w3 hs
              obtain ⟨y, hy⟩ : ∃ y, decide (sa = allowB) = y := ⟨_, rfl⟩
              rw [hy] at hRS hsy
              clear hy hs hRR
              obtain ⟨w4, hw4⟩ : ∃ w4, w3.setCell ⟨w2.heap.size, 0, none⟩ (.bool y) = w4 := ⟨_, rfl⟩
              have hB4 : w4.heap[w2.heap.size]? = some (.cells #[.bool y, .string sb, .int .u32 0, .int .u32 0, .int .u32 0, .int .u32 0, .int .u32 0, .int .u32 0, .int .u32 0, .int .u32 0] 67) := by
                rw [← hw4, heap_setCell_same w3 w2.heap.size 0 _ _ _ hB3.out]; rfl
              have b24 : Below w2.heap.size w2 w4 := by rw [← hw4]; exact b23.out.setCell (p := ⟨w2.heap.size, 0, none⟩) (Nat.le_refl _) _
              have l24 : w4.cell? ⟨w.heap.size, 2, none⟩ = some (.string sc) := by
                rw [← hw4, cell_same (heap_setCell_other _ _ _ _ (by simp; omega))]; exact l2
              have hl4 : w2.heap.size < w4.heap.size := (Array.getElem?_eq_some_iff.1 hB4).1
              have hP4 := hPo.out.later b24
              have hW4 := hWo.out.below b24
              have h8c := eight_told sc 198 (.pointer (some aH)) w4 (by omega) hW4.vH
              replace hRS := Lib.hid hRS; replace hsy := Lib.hid hsy; replace hw4 := Lib.hid hw4; replace hB4 := Lib.hid hB4; replace b24 := Lib.hid b24; replace hP4 := Lib.hid hP4; replace hW4 := Lib.hid hW4; replace h8c := Lib.hid h8c; replace hP3 := Lib.hid hP3; replace hW3 := Lib.hid hW3; replace l24 := Lib.hid l24
              go_wp2_with fail
              refine hsy.out.mono ?_
              rintro e wx ⟨rfl, rfl⟩
              go_upto_region 18 with fail
              rw [hw4.out]
              clear l0 l2 y3 g3 hw4 hP3 hW3 hsy hB3 b23 hl3
              have l2 := l24.out
              clear l24
              go_wp2_with fail
              refine h8c.out.mono ?_
              rintro e w5 ⟨b45, ⟨l, l8, hx, rfl⟩ | ⟨hN, g5, hc5, rfl⟩⟩
              · have hB5 := (b45.block _ hl4).trans hB4.out
                have b25 := b24.out.trans (b45.mono b24.out.size)
                have th5 : w5.there w2.heap.size 2 8 := there_block hB5 2 8 (by simp)
                obtain ⟨w6, hw6⟩ : ∃ w6, w5.setCells w2.heap.size 2 (vw l) = w6 := ⟨_, rfl⟩
                have hg6 := grownBy_setCells w5 w2.heap.size 2 (vw l)
                rw [hw6] at hg6
                have b26 : Below w2.heap.size w2 w6 := b25.grown hg6 b25.size (by intro j hj; simp at hj; omega)
                have r6 : w6.rangeAt w2.heap.size 2 (vw l) := by rw [← hw6]; exact World.rangeAt_setCells_same w5 w2.heap.size 2 _ (by rw [length_vw, l8]; exact th5)
                have q6 : w6.rangeAt w2.heap.size 0 [.bool y, .string sb] := by
                  rw [← hw6]
                  refine World.rangeAt_setCells_apart ?_ _ _ _ (.inr (.inl (by simp)))
                  intro j u hu
                  have hj : j < 2 := (List.getElem?_eq_some_iff.1 hu).1
                  exact range_block hB5 j u (by rw [← hu]; match j, hj with | 0, _ => rfl | 1, _ => rfl)
                have hl6 : w2.heap.size < w6.heap.size := by have := hg6.size; have := (Array.getElem?_eq_some_iff.1 hB5).1; omega
                have hP6 := hPo.out.later b26
                have hW6 := hWo.out.below b26
                obtain ⟨ao, ca, rfl⟩ := hP6.form
                have hRT := hRS.out
                rw [eightF_some _ l l8 hx, Option.bind_some] at hRT
                have c6 := hP6.c0
                have f6 := hP6.f0
                have cR : w6.cell? ⟨1, 0, none⟩ = some (.iface 198 (.pointer (some aR))) := hW6.vR
                clear hRS h8c hx b45 hP4 hW4 hB4 l2
                have vl := vw_lit8 l l8
                obtain ⟨m, hm⟩ : ∃ m, rs.length = m := ⟨_, rfl⟩
                rw [hm] at hr hRT c6 hP6
                replace hm := Lib.hid hm; replace hB5 := Lib.hid hB5; replace b25 := Lib.hid b25; replace hg6 := Lib.hid hg6; replace b26 := Lib.hid b26; replace r6 := Lib.hid r6; replace q6 := Lib.hid q6; replace hP6 := Lib.hid hP6; replace hW6 := Lib.hid hW6; replace hRT := Lib.hid hRT; replace b24 := Lib.hid b24; replace vl := Lib.hid vl; replace hPo := Lib.hid hPo; replace hw6 := Lib.hid hw6
                go_upto_region 19 with (refine wpList_store_words rfl 26 _ _ rfl w2.heap.size 2 l rfl rfl th5 info23 l8 ?_)
                rw [hw6.out]
                by_cases h256 : m = 256
                · subst h256
                  replace hRT : none = R := hRT.out
                  replace hRT := Lib.hid hRT
                  clear r6 q6 vl
                  go_wp2_with fail
                  go_region_held3 (fun w' => w'.cell? ⟨1, 0, none⟩ = some (.iface 198 (.pointer (some aR)))) (first | exact cR | assumption) (fail)
                  go_wp2_with fail
                  go_ret2
                  rw [← hRT.out]
                  exact ⟨false, _, rfl, .inr (.inl rfl), _, _, _, hP6.out.later (Below.refl _ _).drew⟩
                · have hRU := hRT.out
                  rw [if_neg h256] at hRU
                  have d256 : ((m : Int) == 256) = false := by rw [beq_eq_false_iff_ne]; omega
                  clear hRT h256
                  have q0 : w6.cell? ⟨w2.heap.size, 0, none⟩ = some (.bool y) := q6.out 0 _ rfl
                  have q1 : w6.cell? ⟨w2.heap.size, 1, none⟩ = some (.string sb) := q6.out 1 _ rfl
                  have t0 : w6.cell? ⟨w2.heap.size, 2, none⟩ = some (.int .u32 (wAt l 0)) := rangeCell 2 l 0 r6.out l8 (by omega)
                  have t1 : w6.cell? ⟨w2.heap.size, 3, none⟩ = some (.int .u32 (wAt l 1)) := rangeCell 2 l 1 r6.out l8 (by omega)
                  have t2 : w6.cell? ⟨w2.heap.size, 4, none⟩ = some (.int .u32 (wAt l 2)) := rangeCell 2 l 2 r6.out l8 (by omega)
                  have t3 : w6.cell? ⟨w2.heap.size, 5, none⟩ = some (.int .u32 (wAt l 3)) := rangeCell 2 l 3 r6.out l8 (by omega)
                  have t4 : w6.cell? ⟨w2.heap.size, 6, none⟩ = some (.int .u32 (wAt l 4)) := rangeCell 2 l 4 r6.out l8 (by omega)
                  have t5 : w6.cell? ⟨w2.heap.size, 7, none⟩ = some (.int .u32 (wAt l 5)) := rangeCell 2 l 5 r6.out l8 (by omega)
                  have t6 : w6.cell? ⟨w2.heap.size, 8, none⟩ = some (.int .u32 (wAt l 6)) := rangeCell 2 l 6 r6.out l8 (by omega)
                  have t7 : w6.cell? ⟨w2.heap.size, 9, none⟩ = some (.int .u32 (wAt l 7)) := rangeCell 2 l 7 r6.out l8 (by omega)
                  have hown := hP6.out.own
                  rw [hm.out] at hown
                  obtain ⟨i1, z1, hj, ey0, ey1, ey2, ey3⟩ := infoR_parts
                  have hC6 := hP6.out.size
                  have hca : ∀ o, (w6.alloc o).cell? ⟨pb, 0, none⟩ = some (.slice ao m ca) := fun o => cell_of_row _ _ _ _ _ _ ((heap_alloc_old w6 o hP6.out.ltS).trans hP6.out.blk)
                  replace hRU := Lib.hid hRU; replace hown := Lib.hid hown
                  clear cR
                  go_wp2_with fail
                  go_region_law (refine step_append_lies _ (by rfl) _ _ 22 (by rfl) C 67 i1 z1 10 56 Tryz.underlying22 hj ey0 ey1 ey2 ey3 (by omega) _ _ _ (by rfl) ((hown.out.alloc _).drew) ⟨w6.heap.size, 0, none⟩ 1 1 [.bool y, .string sb, .int .u32 (wAt l 0), .int .u32 (wAt l 1), .int .u32 (wAt l 2), .int .u32 (wAt l 3), .int .u32 (wAt l 4), .int .u32 (wAt l 5), .int .u32 (wAt l 6), .int .u32 (wAt l 7)] (by rfl) (by rfl) (World.news_of_block (cs := #[.bool y, .string sb, .int .u32 (wAt l 0), .int .u32 (wAt l 1), .int .u32 (wAt l 2), .int .u32 (wAt l 3), .int .u32 (wAt l 4), .int .u32 (wAt l 5), .int .u32 (wAt l 6), .int .u32 (wAt l 7)]) (fr := (0, 0)) (heap_alloc_new w6 _)) (by simp [Value.oneCell']) (by omega) (by simp only [maxLen]; omega) (by omega) (by simp; omega) (w6.heap.size + 1) (by simp) ?_; intro gg cap w7 hown1 hgrow hat hgl; obtain ⟨m0, n0⟩ := hP6.out.mid ⟨hgrow.os, hgrow.tape, hgrow.output, hgrow.size, hgrow.block⟩)
                  all_goals
                    have hgrow2 : (w6.alloc (.cells #[.bool y, .string sb, .int .u32 (wAt l 0), .int .u32 (wAt l 1), .int .u32 (wAt l 2), .int .u32 (wAt l 3), .int .u32 (wAt l 4), .int .u32 (wAt l 5), .int .u32 (wAt l 6), .int .u32 (wAt l 7)] 67)).grownBy w7 (Value.slice ao m ca).ownBlock := ⟨hgrow.os, hgrow.tape, hgrow.output, hgrow.size, hgrow.block⟩
                    have hPn := hP6.out.more ⟨y, sb, l⟩ l8 hgrow2 (g := gg) (cap := cap) (by
                      have vll : vw l = [.int .u32 (wAt l 0), .int .u32 (wAt l 1), .int .u32 (wAt l 2), .int .u32 (wAt l 3), .int .u32 (wAt l 4), .int .u32 (wAt l 5), .int .u32 (wAt l 6), .int .u32 (wAt l 7)] := by have h := congrArg Array.toList vl.out; simpa using h
                      rw [hm.out, rulesC_append, show rulesC [⟨y, sb, l⟩] = .bool y :: .string sb :: vw l by simp [rulesC, ruleC], vll]; exact hown1)
                    rw [hm.out] at hPn
                    clear m0 n0 hown1 hgrow hgrow2 hat hgl hca c6 f6 t0 t1 t2 t3 t4 t5 t6 t7 q0 q1
                    replace hPn := Lib.hid hPn
                    go_wp2_with fail
                    go_ret2
                    rw [← hRU.out]
                    exact ⟨rfl, _, hPn.out⟩
              · obtain ⟨z8, hz8⟩ : ∃ z8 : List UInt32, List.replicate 8 0 = z8 := ⟨_, rfl⟩
                have lz8 : z8.length = 8 := by rw [← hz8]; rfl
                rw [hz8]
                clear hz8
                have hB5 := (b45.block _ hl4).trans hB4.out
                have b25 := b24.out.trans (b45.mono b24.out.size)
                have th5 : w5.there w2.heap.size 2 8 := there_block hB5 2 8 (by simp)
                have hg5 : g5 ≠ w2.heap.size := by
                  rintro rfl
                  have h1 := cell_of_row w5 w2.heap.size 1 _ _ _ hB5
                  rw [hc5] at h1; simp at h1
                obtain ⟨w6, hw6⟩ : ∃ w6, w5.setCells w2.heap.size 2 (vw z8) = w6 := ⟨_, rfl⟩
                have hg6 := grownBy_setCells w5 w2.heap.size 2 (vw z8)
                rw [hw6] at hg6
                have b26 : Below w2.heap.size w2 w6 := b25.grown hg6 b25.size (by intro j hj; simp at hj; omega)
                have hc6 : w6.cell? ⟨g5, 1, none⟩ = some (.iface 198 (.pointer (some aH))) := by
                  rw [cell_same (hg6.block g5 (World.block_lt_of_cell? w5 _ hc5) (fun e => hg5 (by simpa using e)))]; exact hc5
                have hP6 := hPo.out.later b26
                have hRT := hRS.out
                rw [eightF_none _ hN, Option.bind_none] at hRT
                clear hRS h8c hN b45 hP4 hW4 hB4 l2 hB5 b25 hg6 b26 hc5
                replace hP6 := Lib.hid hP6; replace hRT := Lib.hid hRT; replace b24 := Lib.hid b24; replace hPo := Lib.hid hPo; replace hw6 := Lib.hid hw6; replace hc6 := Lib.hid hc6
                go_upto_region 19 with (refine wpList_store_words rfl 26 _ _ rfl w2.heap.size 2 z8 rfl rfl th5 info23 lz8 ?_)
                rw [hw6.out]
                go_wp2_with fail
                go_ret2
                rw [← hRT.out]
                exact ⟨false, _, rfl, .inr (.inr ⟨_, rfl, .inr hc6.out⟩), _, _, _, hP6.out⟩
            · have hRS := hRR.out
              rw [saysF_no _ (fun e => hs (.inl e)) (fun e => hs (.inr e)), Option.bind_none] at hRS
              have hsn := says_no sa aW aH aR w3 hW3 (fun e => hs (.inl e)) (fun e => hs (.inr e))
              clear hs hRR
              replace hRS := Lib.hid hRS; replace hsn := Lib.hid hsn; replace hP3 := Lib.hid hP3; replace hW3 := Lib.hid hW3
              go_wp2_with fail
              refine hsn.out.mono ?_
              rintro e w4 ⟨b34, v4, hv4, rfl⟩
              have hB4 := (b34.block _ hl3).trans hB3.out
              have y4 : w4.cell? ⟨w2.heap.size, 0, none⟩ = some (.bool false) := cell_of_row _ _ _ _ _ _ hB4
              have g4 : w4.frozen? ⟨w2.heap.size, 0, none⟩ = false := frozen_of_row _ _ _ _ _ hB4
              have hv5 : Bad (w4.setCell ⟨w2.heap.size, 0, none⟩ (.bool false)) aW aH aR v4 := by
                rcases hv4 with h | h | ⟨g, h, hg⟩
                · exact .inl h
                · exact .inr (.inl h)
                · have hne : g ≠ w2.heap.size := by
                    rintro rfl
                    have h1 := cell_of_row w4 w2.heap.size 1 _ _ _ hB4
                    rcases hg with hg | hg <;> (rw [hg] at h1; simp at h1)
                  exact .inr (.inr ⟨g, h, by rw [cell_same (heap_setCell_other _ _ _ _ (by simpa using hne))]; exact hg⟩)
              have hP5 := hPo.out.later ((b23.out.trans (b34.mono b23.out.size)).setCell (p := ⟨w2.heap.size, 0, none⟩) (Nat.le_refl _) (.bool false))
              obtain ⟨t, x, rfl⟩ : ∃ t x, v4 = .iface t x := by
                rcases hv4 with h | h | ⟨g, h, _⟩
                · exact ⟨_, _, h⟩
                · exact ⟨_, _, h⟩
                · exact ⟨_, _, h⟩
              clear hv4 hB4 y3 g3 l0 l2 b34 hB3
              replace hv5 := Lib.hid hv5; replace hP5 := Lib.hid hP5
              go_wp2_with fail
              go_ret2
              rw [← hRS.out]
              exact ⟨false, _, rfl, hv5.out, _, _, _, hP5.out⟩
          · rw [if_neg hnm] at hRR hnc
            clear hnm
            replace hRR := Lib.hid hRR; replace hPo := Lib.hid hPo; replace hWo := Lib.hid hWo; replace hbw := Lib.hid hbw; replace hnc := Lib.hid hnc
            go_wp2_with fail
            refine hnc.out.mono ?_
            rintro e w2 ⟨rfl, rfl⟩
            go_wp2_with fail
            go_region_held3 (fun w' => w'.cell? ⟨0, 0, none⟩ = some (.iface 198 (.pointer (some aW)))) (first | exact cE | assumption) (fail)
            go_wp2_with fail
            go_ret2
            rw [← hRR.out]
            exact ⟨false, _, rfl, hbw.out, _, _, _, hPo.out.later (Below.refl _ _).drew⟩
        · have hRR := hR.out
          rw [lineF_else _ _ _ (by rw [hnn.out]; exact h2) (by rw [hnn.out]; exact h3)] at hRR
          have d2 : ((k : Int) == 2) = false := by rw [beq_eq_false_iff_ne]; omega
          have d3 : ((k : Int) != 3) = true := by rw [bne_iff_ne]; omega
          clear hR h2 h3 ho hq
          replace hRR := Lib.hid hRR; replace hPo := Lib.hid hPo; replace hWo := Lib.hid hWo; replace hbw := Lib.hid hbw; replace hb2 := Lib.hid hb2
          go_wp2_with fail
          go_region_held3 (fun w' => w'.cell? ⟨0, 0, none⟩ = some (.iface 198 (.pointer (some aW)))) (first | exact cE | assumption) (fail)
          go_wp2_with fail
          go_ret2
          rw [← hRR.out]
          exact ⟨false, _, rfl, hbw.out, _, _, _, hPo.out.later (Below.refl _ _).drew⟩
end Go.Proofs.YtemanjahkohcpaaGreatDoor
