/- Plain laws: how many words a line has, and how long they are; how long a text's lines are. The contract of attest's ParsePolicy. -/
import Derived.Test.YtemanjahkohcpaaGreatDoorJn16
import Derived.Test.YtemanjahkohcpaaGreatDoorJn20
import Derived.Test.YtemanjahkohcpaaGreatDoorELinJn
namespace Go.Proofs.YtemanjahkohcpaaGreatDoor
open Go.RowKit WP
theorem qA_len (l : List UInt8) : ∀ (f i : Nat) (acc b : List UInt8) (n : Nat), qA l f i acc = .inl (b, n) → b.length + i ≤ n + acc.length
  | 0, i, acc, b, n, h => by simp [qA] at h
  | f + 1, i, acc, b, n, h => by
    unfold qA at h
    split at h
    · simp at h
    · split at h
      · simp only [Sum.inl.injEq, Prod.mk.injEq] at h; obtain ⟨rfl, rfl⟩ := h; omega
      · split at h
        · have := qA_len l f _ _ _ _ h; simp only [List.length_append, List.length_cons, List.length_nil] at this; omega
        · split at h
          · simp at h
          · split at h
            · have := qA_len l f _ _ _ _ h; simp only [List.length_append, List.length_cons, List.length_nil] at this; omega
            · simp at h
theorem wA_bd (s : ByteArray) : ∀ (f i : Nat) (acc ws : List W), i ≤ s.size → acc.length ≤ i → (∀ x ∈ acc, x.1.size ≤ s.size) → wA s f i acc = .inl ws → ws.length ≤ s.size ∧ ∀ x ∈ ws, x.1.size ≤ s.size
  | 0, i, acc, ws, hi, ha, hx, h => by
    simp only [wA, Sum.inl.injEq] at h; subst h; exact ⟨by omega, hx⟩
  | f + 1, i, acc, ws, hi, ha, hx, h => by
    have hl : s.data.toList.length = s.size := by rw [Array.length_toList]; rfl
    unfold wA at h
    split at h
    · simp only [Sum.inl.injEq] at h; subst h; exact ⟨by omega, hx⟩
    · rename_i hlt
      split at h
      · exact wA_bd s f _ _ _ (by omega) (by omega) hx h
      · rename_i hbl
        split at h
        · simp only [Sum.inl.injEq] at h; subst h; exact ⟨by omega, hx⟩
        · split at h
          · split at h
            · simp at h
            · rename_i b n hq
              have h1 := qA_len _ _ _ _ _ _ hq
              have h2 := qA_bd _ _ _ _ _ _ hq
              split at h
              · simp at h
              · refine wA_bd s f _ _ _ (by omega) (by simp; omega) ?_ h
                intro x hx'
                rcases List.mem_append.1 hx' with hx' | hx'
                · exact hx x hx'
                · simp only [List.mem_cons, List.not_mem_nil, or_false] at hx'; subst hx'
                  show b.length ≤ s.size
                  simp at h1; omega
          · have hgt := skipB_gt s.data.toList (s.size - 1) i (by omega) (by simpa using hbl)
            have hbd := skipB_bd s.data.toList s.size i (by omega)
            rw [show s.size - 1 + 1 = s.size by omega] at hgt
            refine wA_bd s f _ _ _ (by omega) (by simp; omega) ?_ h
            intro x hx'
            rcases List.mem_append.1 hx' with hx' | hx'
            · exact hx x hx'
            · simp only [List.mem_cons, List.not_mem_nil, or_false] at hx'; subst hx'
              simp; omega
theorem wordsF_bd (s : ByteArray) (ws : List W) (h : wordsF s = .inl ws) : ws.length ≤ s.size ∧ ∀ x ∈ ws, x.1.size ≤ s.size :=
  wA_bd s _ 0 [] ws (by omega) (by simp) (by simp) h
theorem linesA_bd : ∀ (l c : List UInt8), (linesA c l).length ≤ c.length + l.length ∧ ∀ b ∈ linesA c l, b.length ≤ c.length + l.length
  | [], c => by
    unfold linesA
    split
    · simp
    · rename_i h
      have : 0 < c.length := List.length_pos_iff.2 h
      simp; omega
  | x :: l, c => by
    unfold linesA
    split
    · obtain ⟨h1, h2⟩ := linesA_bd l []
      simp only [List.length_nil, Nat.zero_add] at h1 h2
      refine ⟨by simp; omega, ?_⟩
      intro b hb
      simp only [List.mem_cons] at hb
      rcases hb with rfl | hb
      · simp
      · have := h2 b hb; simp; omega
    · obtain ⟨h1, h2⟩ := linesA_bd l (c ++ [x])
      simp only [List.length_append, List.length_cons, List.length_nil] at h1 h2 ⊢
      exact ⟨by omega, fun b hb => by have := h2 b hb; omega⟩
theorem linesF_bd (s : ByteArray) : (linesF s).length ≤ s.size ∧ ∀ t ∈ linesF s, t.size ≤ s.size := by
  have hl : s.data.toList.length = s.size := by rw [Array.length_toList]; rfl
  obtain ⟨h1, h2⟩ := linesA_bd s.data.toList []
  simp only [List.length_nil, Nat.zero_add, hl] at h1 h2
  unfold linesF bas
  refine ⟨by simpa using h1, ?_⟩
  intro t ht
  obtain ⟨b, hb, rfl⟩ := List.mem_map.1 ht
  exact h2 b hb
end Go.Proofs.YtemanjahkohcpaaGreatDoor

namespace Go.Proofs.YtemanjahkohcpaaGreatDoor
open Go.RowKit WP
theorem results_cell3 {P : Program} {fn : Func} {t t2 t3 : Tmp} {ty : TypeId} (h : fn.results = #[.cell t ty, .tmp t2, .tmp t3]) {tmps : Array Value} {w : World} {g : Nat} {cs : List Value} {v2 v3 : Value} {d : TypeDesc}
    (hp : tmps.getD t undef = .pointer (some ⟨g, 0, none⟩)) (h2 : tmps.getD t2 undef = v2) (h3 : tmps.getD t3 undef = v3)
    (hc : w.rangeAt g 0 cs) (hu : P.underlying ty = some d) (hd : d.isRow = true) (hi : (P.info? ty).map (·.size) = some cs.length) : (results fn tmps).run P w = .ok (.tuple #[.agg cs.toArray, v2, v3]) w := by
  have hv := run_loadVar_mid (P := P) w g 0 ty cs d hc hu hd hi
  have hp' : tmps[t]?.getD undef = .pointer (some ⟨g, 0, none⟩) := by simpa [Array.getD_eq_getD_getElem?] using hp
  have h2' : tmps[t2]?.getD undef = v2 := by simpa [Array.getD_eq_getD_getElem?] using h2
  have h3' : tmps[t3]?.getD undef = v3 := by simpa [Array.getD_eq_getD_getElem?] using h3
  simp [results, h, hp', hv, asAddr, h2', h3']
theorem infoPo : (Tryz.prog.info? 24).map (·.size) = some 2 := by kernel_rfl
theorem lineF_len (ws : List W) (rs rs' : List RuleD) (o o' l' : Bool) (h : lineF ws rs o = some (l', rs', o')) (hr : rs.length ≤ 256) : rs'.length ≤ 256 := by
  unfold lineF at h
  split at h
  · cases h
  · split at h
    · split at h
      · cases hs : saysF _ with
        | none => rw [hs] at h; cases h
        | some x => rw [hs] at h; simp only [Option.map_some, Option.some.injEq, Prod.mk.injEq] at h; obtain ⟨_, rfl, _⟩ := h; exact hr
      · cases h
    · split at h
      · cases hs : saysF _ with
        | none => rw [hs] at h; cases h
        | some x =>
          rw [hs, Option.bind_some] at h
          cases he : eightF _ with
          | none => rw [he] at h; cases h
          | some m =>
            rw [he, Option.bind_some] at h
            split at h
            · cases h
            · simp only [Option.some.injEq, Prod.mk.injEq] at h; obtain ⟨_, rfl, _⟩ := h; simp; omega
      · cases h
    · cases h
theorem PolSt.belowB {C pb B : Nat} {w0 w w1 : World} {v : Value} {rs : List RuleD} {o : Bool} (h : PolSt C pb w0 w v rs o) (hb : Below B w1 w0) (hB : B ≤ pb) (hs : w1.heap.size ≤ C) : Below B w1 w :=
  ⟨h.os.trans hb.os, h.tape.trans hb.tape, h.output.trans hb.output, Nat.le_trans hs h.size, fun k hk => (h.keep k (by have := h.lt; omega) (by omega)).trans (hb.block k hk)⟩
/-- the policy is struck -/
theorem PolSt.struck {C pb : Nat} {w0 w : World} {v : Value} {rs : List RuleD} {o : Bool} (h : PolSt C pb w0 w v rs o) :
    ((w.setCell ⟨pb, 0, none⟩ (.slice none 0 0)).setCell ⟨pb, 1, none⟩ (.bool false)).heap[pb]? = some (.cells #[.slice none 0 0, .bool false] 24 (0, 0)) := by
  have h1 := heap_setCell_same w pb 0 _ _ (.slice none 0 0) h.blk
  have h2 := heap_setCell_same (w.setCell ⟨pb, 0, none⟩ (.slice none 0 0)) pb 1 _ _ (.bool false) h1
  rw [h2]; rfl
/-- the policy is stored over itself -/
theorem PolSt.same {C pb : Nat} {w0 w : World} {v : Value} {rs : List RuleD} {o : Bool} (h : PolSt C pb w0 w v rs o) :
    PolSt C pb w0 ((w.setCell ⟨pb, 0, none⟩ v).setCell ⟨pb, 1, none⟩ (.bool o)) v rs o := by
  have h1 := heap_setCell_same w pb 0 _ _ v h.blk
  have h2 := heap_setCell_same (w.setCell ⟨pb, 0, none⟩ v) pb 1 _ _ (.bool o) h1
  refine ⟨by rw [h2]; rfl, ownsRow_setCell_below (ownsRow_setCell_below h.own h.lt _) h.lt _, h.lt, by simpa using h.size, h.os, h.tape, h.output, ?_, h.eight⟩
  intro k hk hne
  rw [heap_setCell_other _ _ _ _ (fun e => hne (by simpa using e)), heap_setCell_other _ _ _ _ (fun e => hne (by simpa using e))]; exact h.keep k hk hne
/-- what ParsePolicy answers -/
def ParRes (R : (List RuleD × Bool) ⊕ Nat) (B : Nat) (e : Ending) (w' : World) : Prop :=
  match R with
  | .inl (rs, o) => ∃ v C, B ≤ C ∧ e = .returned (.tuple #[.agg #[v, .bool o], .int .i64 0, .int .i64 0]) ∧ w'.ownsRow C 67 10 v rs.length (rulesC rs) ∧ ∀ r ∈ rs, r.me.length = 8
  | .inr n => e = .returned (.tuple #[.agg #[.slice none 0 0, .bool false], .int .i64 (n : Int), .int .i64 161])
theorem parsePol_long (s : ByteArray) (w : World) (hs : 65536 < s.size) (h63 : s.size ≤ 9223372036854775807) :
    Calls Tryz.prog 4 #[.string s] w fun e w' => e = .returned (.tuple #[.agg #[.slice none 0 0, .bool false], .int .i64 0, .int .i64 2]) ∧ Below w.heap.size w w' := by
  obtain ⟨w1, hw1⟩ : ∃ w1, w.alloc (.cells #[.slice none 0 0, .bool false] 24) = w1 := ⟨_, rfl⟩
  have hB : w1.heap[w.heap.size]? = some (.cells #[.slice none 0 0, .bool false] 24) := by rw [← hw1]; exact heap_alloc_new w _
  have b1 : Below w.heap.size w w1 := by rw [← hw1]; exact (Below.refl _ _).alloc (Nat.le_refl _) _
  have c0 : w1.cell? ⟨w.heap.size, 0, none⟩ = some (.slice none 0 0) := cell_of_row _ _ _ _ _ _ hB
  have c1 : w1.cell? ⟨w.heap.size, 1, none⟩ = some (.bool false) := cell_of_row _ _ _ _ _ _ hB
  have f0 : w1.frozen? ⟨w.heap.size, 0, none⟩ = false := frozen_of_row _ _ _ _ _ hB
  have f1 : w1.frozen? ⟨w.heap.size, 1, none⟩ = false := frozen_of_row _ _ _ _ _ hB
  have h1 := heap_setCell_same w1 w.heap.size 0 _ _ (.slice none 0 0) hB
  have h2 := heap_setCell_same (w1.setCell ⟨w.heap.size, 0, none⟩ (.slice none 0 0)) w.heap.size 1 _ _ (.bool false) h1
  have b2 := (b1.setCell (p := ⟨w.heap.size, 0, none⟩) (Nat.le_refl _) (.slice none 0 0)).setCell (p := ⟨w.heap.size, 1, none⟩) (Nat.le_refl _) (.bool false)
  replace hB := Lib.hid hB; replace b1 := Lib.hid b1; replace h1 := Lib.hid h1; replace h2 := Lib.hid h2; replace b2 := Lib.hid b2
  go_enter Tryz.func4, Tryz.ntmps4
  go_upto_region 1 with fail
  try (change Code.wp _ _ _ _ (w.alloc (.cells #[.slice none 0 0, .bool false] 24)); rw [hw1])
  clear hw1
  go_wp2_with fail
  refine (tlines_no s _ hs h63).mono ?_
  rintro e w2 ⟨rfl, rfl⟩
  go_wp2_with fail
  refine bodyPost_ret (results_cell3 rfl rfl rfl rfl (range_block (cs := [.slice none 0 0, .bool false]) h2.out) Tryz.underlying24 rfl infoPo) rfl ⟨rfl, b2.out⟩
set_option maxRecDepth 100000 in
set_option maxHeartbeats 4000000 in
theorem parsePol_any (s : ByteArray) (m : Int) (aW aH aR : Addr) (w : World) (hM : MaxL w m) (hW : Whys w aW aH aR) (hs : s.size ≤ 65536) :
    Calls Tryz.prog 4 #[.string s] w fun e w' => Below w.heap.size w w' ∧ ParRes (parsePolF s) w.heap.size e w' := by
  obtain ⟨R, hR⟩ : ∃ R, polA (linesF s) 0 false [] false = R := ⟨_, rfl⟩
  rw [show parsePolF s = R from hR]
  obtain ⟨w1, hw1⟩ : ∃ w1, w.alloc (.cells #[.slice none 0 0, .bool false] 24) = w1 := ⟨_, rfl⟩
  have hB : w1.heap[w.heap.size]? = some (.cells #[.slice none 0 0, .bool false] 24) := by rw [← hw1]; exact heap_alloc_new w _
  have b1 : Below w.heap.size w w1 := by rw [← hw1]; exact (Below.refl _ _).alloc (Nat.le_refl _) _
  have hM1 : MaxL w1 m := cell_below hM b1
  have hl1 : w.heap.size < w1.heap.size := (Array.getElem?_eq_some_iff.1 hB).1
  obtain ⟨bd1, bd2⟩ := linesF_bd s
  obtain ⟨L, hL⟩ : ∃ L, linesF s = L := ⟨_, rfl⟩
  have htl := tlines_any s m w1 hM1 hs
  rw [hL] at bd1 bd2 hR htl
  obtain ⟨n, hn⟩ : ∃ n, L.length = n := ⟨_, rfl⟩
  rw [hn] at bd1 htl
  replace hB := Lib.hid hB; replace b1 := Lib.hid b1; replace hM := Lib.hid hM; replace hW := Lib.hid hW; replace hR := Lib.hid hR; replace bd2 := Lib.hid bd2; replace htl := Lib.hid htl; replace hn := Lib.hid hn
  clear hL hM1
  go_enter Tryz.func4, Tryz.ntmps4
  go_upto_region 1 with fail
  try (change Code.wp _ _ _ _ (w.alloc (.cells #[.slice none 0 0, .bool false] 24)); rw [hw1])
  clear hw1
  go_wp2_with fail
  refine htl.out.mono ?_
  rintro e w2 ⟨lv, rfl, hol, b12⟩
  have b02 := b1.out.trans (b12.mono (by omega))
  obtain ⟨lao, lca, rfl⟩ : ∃ ao ca, lv = .slice ao n ca := by
    rcases hol.2 with ⟨hv, hn'⟩ | ⟨g, cap, cur, hv, _⟩
    · exact ⟨none, 0, by rw [hv, hn']⟩
    · exact ⟨_, _, hv⟩
  have hB2 := (b12.block _ hl1).trans hB.out
  have hs12 := b12.size
  have hP0 : PolSt w2.heap.size w.heap.size w2 w2 (.slice none 0 0) [] false := ⟨hB2, World.ownsRow_nil _ _ _ _, by omega, Nat.le_refl _, rfl, rfl, rfl, fun _ _ _ => rfl, by intro r hr; cases hr⟩
  clear hB htl b12 b1
  replace hB2 := Lib.hid hB2; replace b02 := Lib.hid b02; replace hol := Lib.hid hol; replace hP0 := Lib.hid hP0
  go_wp2_with fail
  go_loopw [6, 23] (fun la i wr => ∃ (k : Nat) (last : Bool) (v : Value) (rs : List RuleD) (o : Bool), k ≤ n ∧ i = .int .i64 k ∧ la = .bool last ∧ PolSt w2.heap.size w.heap.size w2 wr v rs o ∧ polA (L.drop k) k last rs o = R ∧ rs.length ≤ 256) (fun _ i _ => n - (intOf i).toNat)
  case atStart => exact ⟨0, false, _, [], false, by omega, rfl, rfl, hP0.out, hR.out, by simp⟩
  case round =>
    obtain ⟨wo, rfl⟩ : ∃ wo, wo = wr := ⟨wr, rfl⟩
    obtain ⟨k, last, v, rs, o, hk, rfl, rfl, hP, hq, hr⟩ := hrel
    clear hP0 hB2 hR
    have bwo := hP.belowB b02.out (Nat.le_refl _) (by omega)
    have hWo := hW.out.below bwo
    by_cases hlt : k < n
    · have hkl : k < L.length := by rw [hn.out]; exact hlt
      have hcw : ∃ g, lao = some ⟨g, 0, none⟩ := by
        rcases hol.out.2 with ⟨hv, hn'⟩ | ⟨g, cap, cur, hv, _⟩
        · omega
        · simp only [Value.slice.injEq] at hv; exact ⟨g, hv.1⟩
      obtain ⟨g, rfl⟩ := hcw
      obtain ⟨t, ht⟩ : ∃ t, L[k] = t := ⟨_, rfl⟩
      have hts : t.size ≤ 65536 := by have := bd2.out t (by rw [← ht]; exact List.getElem_mem _); omega
      have hc : wo.cell? ⟨g, k, none⟩ = some (.string t) := by
        have h1 := (hol.out.cellAt k (by omega)).trans (show (L.map Value.string)[k]? = some (.string t) by rw [List.getElem?_map, List.getElem?_eq_getElem hkl, ht]; rfl)
        have h2 := hol.out.lt g rfl
        rw [cell_same (hP.keep g h2.2 (by omega))]; exact h1
      rw [List.drop_eq_getElem_cons hkl, ht] at hq
      have hwd := words_any t wo (by omega)
      clear ht hkl
      replace hP := Lib.hid hP; replace hq := Lib.hid hq; replace bwo := Lib.hid bwo; replace hWo := Lib.hid hWo; replace hwd := Lib.hid hwd
      go_wp2_with fail
      refine hwd.out.mono ?_
      rintro e w3 ⟨b3, hres⟩
      have hP3 := hP.out.later b3
      have hW3 := hWo.out.below b3
      have c0 := hP3.c0
      have c1 := hP3.c1
      have f0 := hP3.f0
      have f1 := hP3.f1
      have hN := hP3.struck
      have bw3 := hP3.belowB b02.out (Nat.le_refl _) (by omega)
      have bN := (bw3.setCell (p := ⟨w.heap.size, 0, none⟩) (Nat.le_refl _) (.slice none 0 0)).setCell (p := ⟨w.heap.size, 1, none⟩) (Nat.le_refl _) (.bool false)
      clear hP hWo hwd hc
      have hq' := hq.out
      clear hq
      unfold polA at hq'
      cases hws : wordsF t with
      | inr c =>
        rw [hws] at hres hq'
        replace hres : e = .returned (.tuple #[.slice none 0 0, .int .i64 (c : Int), .int .i64 40]) := hres
        subst hres
        replace hq' : Sum.inr (k + 1) = R := hq'
        replace hq' := Lib.hid hq'; replace hP3 := Lib.hid hP3; replace hW3 := Lib.hid hW3; replace hN := Lib.hid hN; replace bN := Lib.hid bN; replace bw3 := Lib.hid bw3; replace b3 := Lib.hid b3; replace hws := Lib.hid hws
        go_wp2_with fail
        refine bodyPost_ret (results_cell3 rfl rfl rfl rfl (range_block (cs := [.slice none 0 0, .bool false]) hN.out) Tryz.underlying24 rfl infoPo) rfl ⟨bN.out, ?_⟩
        rw [← hq'.out]; rfl
      | inl ws =>
        rw [hws] at hres hq'
        obtain ⟨wv, rfl, how⟩ := hres
        obtain ⟨wd1, wd2⟩ := wordsF_bd t ws hws
        obtain ⟨wao, wca, rfl⟩ : ∃ ao ca, wv = .slice ao ws.length ca := by
          rcases how.2 with ⟨hv, hn'⟩ | ⟨g', cap, cur, hv, _⟩
          · exact ⟨none, 0, by rw [hv, hn']⟩
          · exact ⟨_, _, hv⟩
        cases ws with
        | nil =>
          replace hq' : polA (L.drop (k + 1)) (k + 1) last rs o = R := hq'
          replace hq' := Lib.hid hq'; replace hP3 := Lib.hid hP3; replace hW3 := Lib.hid hW3; replace hN := Lib.hid hN; replace bN := Lib.hid bN; replace bw3 := Lib.hid bw3; replace b3 := Lib.hid b3; replace hws := Lib.hid hws; replace how := Lib.hid how; replace wd2 := Lib.hid wd2
          clear wd1
          go_wp2_with fail
          go_roundw
          case rel => exact ⟨k + 1, last, v, rs, o, by omega, by go_num, rfl, hP3.out, hq'.out, hr⟩
          case measure => simp [intOf]; omega
        | cons x ws =>
          have hl0 : (((x :: ws).length : Int) == 0) = false := by rw [beq_eq_false_iff_ne]; simp; omega
          obtain ⟨nw, hnw⟩ : ∃ nw, (x :: ws).length = nw := ⟨_, rfl⟩
          cases last with
          | true =>
            replace hq' : Sum.inr (k + 1) = R := hq'
            rw [hnw] at hl0
            replace hq' := Lib.hid hq'; replace hP3 := Lib.hid hP3; replace hW3 := Lib.hid hW3; replace hN := Lib.hid hN; replace bN := Lib.hid bN; replace bw3 := Lib.hid bw3; replace b3 := Lib.hid b3; replace hws := Lib.hid hws; replace how := Lib.hid how; replace wd2 := Lib.hid wd2
            clear wd1
            rw [hnw]
            replace hnw := Lib.hid hnw
            go_wp2_with fail
            refine bodyPost_ret (results_cell3 rfl rfl rfl rfl (range_block (cs := [.slice none 0 0, .bool false]) hN.out) Tryz.underlying24 rfl infoPo) rfl ⟨bN.out, ?_⟩
            rw [← hq'.out]; rfl
          | false =>
            have hln := line_any w2.heap.size w.heap.size (wo.heap.size + 3) aW aH aR w2 w3 v _ (x :: ws) rs o hP3 hW3 how (by omega) (fun y hy => by have := wd2 y hy; omega) hr
            rw [hnw] at hl0 hln
            replace hP3 := Lib.hid hP3; replace hW3 := Lib.hid hW3; replace hN := Lib.hid hN; replace bN := Lib.hid bN; replace bw3 := Lib.hid bw3; replace b3 := Lib.hid b3; replace hws := Lib.hid hws; replace how := Lib.hid how; replace wd2 := Lib.hid wd2; replace hln := Lib.hid hln; replace hq' := Lib.hid hq'
            clear wd1
            rw [hnw]
            replace hnw := Lib.hid hnw
            go_wp2_with fail
            refine hln.out.mono ?_
            rintro e w4 hres
            clear hP3 hW3 hN bN bw3 b3 c0 c1 f0 f1 how hln
            have hq := hq'.out
            clear hq'
            cases hlf : lineF (x :: ws) rs o with
            | some p =>
              obtain ⟨l', rs', o'⟩ := p
              rw [hlf] at hres
              obtain ⟨rfl, v', hP4⟩ := hres
              simp only [Bool.false_eq_true, if_false] at hq
              rw [hlf] at hq
              simp only at hq
              have hr' := lineF_len _ _ _ _ _ _ hlf hr
              have bw4 := hP4.belowB b02.out (Nat.le_refl _) (by omega)
              have hrf := refused_nil aW aH aR w4 (hW.out.below bw4)
              replace hlf := Lib.hid hlf; replace hq := Lib.hid hq; replace hP4 := Lib.hid hP4; replace bw4 := Lib.hid bw4; replace hrf := Lib.hid hrf
              go_wp2_with fail
              refine hrf.out.mono ?_
              rintro e w5 ⟨rfl, rfl⟩
              go_wp2_with fail
              go_roundw
              case rel => exact ⟨k + 1, l', v', rs', o', by omega, by go_num, rfl, hP4.out, hq.out, hr'⟩
              case measure => simp [intOf]; omega
            | none =>
              rw [hlf] at hres
              obtain ⟨b, y, rfl, hbad, v', rs', o', hP4⟩ := hres
              simp only [Bool.false_eq_true, if_false] at hq
              rw [hlf] at hq
              replace hq : Sum.inr (k + 1) = R := hq
              have bw4 := hP4.belowB b02.out (Nat.le_refl _) (by omega)
              have hrf := refused_bad aW aH aR y w4 (hW.out.below bw4) hbad
              have c0 := hP4.c0
              have c1 := hP4.c1
              have f0 := hP4.f0
              have f1 := hP4.f1
              have hN := hP4.struck
              have bN := (bw4.setCell (p := ⟨w.heap.size, 0, none⟩) (Nat.le_refl _) (.slice none 0 0)).setCell (p := ⟨w.heap.size, 1, none⟩) (Nat.le_refl _) (.bool false)
              replace hlf := Lib.hid hlf; replace hq := Lib.hid hq; replace hP4 := Lib.hid hP4; replace bw4 := Lib.hid bw4; replace hrf := Lib.hid hrf; replace hN := Lib.hid hN; replace bN := Lib.hid bN; replace hbad := Lib.hid hbad
              go_wp2_with fail
              refine hrf.out.mono ?_
              rintro e w5 ⟨rfl, rfl⟩
              go_wp2_with fail
              refine bodyPost_ret (results_cell3 rfl rfl rfl rfl (range_block (cs := [.slice none 0 0, .bool false]) hN.out) Tryz.underlying24 rfl infoPo) rfl ⟨bN.out, ?_⟩
              rw [← hq.out]; rfl
    · obtain rfl : k = n := by omega
      rw [List.drop_of_length_le (by rw [hn.out]; exact Nat.le_refl _)] at hq
      obtain ⟨ao, ca, rfl⟩ := hP.form
      have c0 := hP.c0
      have c1 := hP.c1
      have f0 := hP.f0
      have f1 := hP.f1
      cases last with
      | false =>
        replace hq : Sum.inr (k + 1) = R := hq
        have hN := hP.struck
        have bN := (bwo.setCell (p := ⟨w.heap.size, 0, none⟩) (Nat.le_refl _) (.slice none 0 0)).setCell (p := ⟨w.heap.size, 1, none⟩) (Nat.le_refl _) (.bool false)
        replace hq := Lib.hid hq; replace hP := Lib.hid hP; replace bwo := Lib.hid bwo; replace hWo := Lib.hid hWo; replace hN := Lib.hid hN; replace bN := Lib.hid bN
        go_wp2_with fail
        refine bodyPost_ret (results_cell3 rfl rfl rfl rfl (range_block (cs := [.slice none 0 0, .bool false]) hN.out) Tryz.underlying24 rfl infoPo) rfl ⟨bN.out, ?_⟩
        rw [← hq.out]; rfl
      | true =>
        replace hq : Sum.inl (rs, o) = R := hq
        have hS := hP.same
        replace hq := Lib.hid hq; replace hP := Lib.hid hP; replace bwo := Lib.hid bwo; replace hWo := Lib.hid hWo; replace hS := Lib.hid hS
        go_wp2_with fail
        refine bodyPost_ret (results_cell3 rfl rfl rfl rfl (range_block (cs := [.slice ao rs.length ca, .bool o]) hS.out.blk) Tryz.underlying24 rfl infoPo) rfl ⟨hS.out.belowB b02.out (Nat.le_refl _) (by omega), ?_⟩
        rw [← hq.out]
        exact ⟨_, w2.heap.size, by omega, rfl, hS.out.own, hS.out.eight⟩
end Go.Proofs.YtemanjahkohcpaaGreatDoor
