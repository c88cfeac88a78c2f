/- The contracts of wardenref16's cut, eight, Format, Parse. -/
import Derived.Test.YtemanjahkohcpaaDoorJn30
import Derived.Test.YtemanjahkohcpaaDoorRWord
import Derived.Test.YtemanjahkohcpaaDoorBBackJn
namespace Go.Proofs.YtemanjahkohcpaaDoor
open Go.RowKit WP
set_option maxRecDepth 100000 in
set_option maxHeartbeats 1000000 in
theorem rcut_any (s : ByteArray) (k : Nat) (w : World) (_hs : s.size ≤ 2097152) (_hk : k ≤ 1000) :
    Calls Tryd.prog 43 #[.string s, .int .i64 (k : Int), .int .i64 64] w fun e w' => e = .returned (.string (cutR s k)) ∧ w' = w := by
  have d1 : cutR s k = if s.size < k + 64 then ⟨#[]⟩ else s.extract k (k + 64) := rfl
  replace d1 := Lib.hid d1
  by_cases h : s.size < k + 64
  · have hi : (s.size : Int) < (k : Int) + 64 := by omega
    have d2 : cutR s k = ⟨#[]⟩ := by rw [d1.out, if_pos h]
    rw [d2]
    go_enter Tryd.func43, Tryd.ntmps43
    go_wp2_with fail
    go_ret
    exact ⟨rfl, rfl⟩
  · have hi : ¬ (s.size : Int) < (k : Int) + 64 := by omega
    have d2 : cutR s k = s.extract k (k + 64) := by rw [d1.out, if_neg h]
    rw [d2]
    go_enter Tryd.func43, Tryd.ntmps43
    go_wp2_with fail
    go_ret
    exact ⟨rfl, rfl⟩
theorem below_step {w1 w' w2 : World} (b2 : Below w'.heap.size w' w2) (h : Below w1.heap.size w1 w') : Below w1.heap.size w1 w2 := h.trans (b2.mono h.size)
theorem fmt_join (me da tg : List UInt32) : (⟨#[113, 117, 111, 116, 101, 32, 49, 10, 109, 101, 97, 115, 117, 114, 101, 109, 101, 110, 116, 32]⟩ : ByteArray) ++ ⟨(hexAllL me).toArray⟩ ++ ⟨#[10, 100, 97, 116, 97, 32]⟩ ++ ⟨(hexAllL da).toArray⟩ ++ ⟨#[10, 116, 97, 103, 32]⟩ ++ ⟨(hexAllL tg).toArray⟩ ++ ⟨#[10]⟩ = ⟨(fmtL me da tg).toArray⟩ := by
  rw [fmtL_cat]
  apply ByteArray.ext
  simp
/-- a part of a block, as a slice -/
theorem rd_part {w : World} {g o : Nat} {l : List UInt32} (h : w.rangeAt g o (vw l)) (hl : l.length = 8) : Rd w (.slice (some ⟨g, o, none⟩) 8 8) (vw l) :=
  ⟨some ⟨g, o, none⟩, 8, by rw [length_vw, hl], by rw [length_vw, hl]; exact Nat.le_refl _, by simp [maxLen], .inr ⟨g, o, rfl, fun j u hu => h j u hu⟩⟩
set_option maxRecDepth 100000 in
set_option maxHeartbeats 1000000 in
theorem rformat_any (me da tg : List UInt32) (w : World) (lme : me.length = 8) (lda : da.length = 8) (ltg : tg.length = 8) :
    Calls Tryd.prog 24 #[.agg (vw me ++ vw da ++ vw tg).toArray] w fun e w' => e = .returned (.string ⟨(fmtL me da tg).toArray⟩) ∧ Below w.heap.size w w' := by
  obtain ⟨qc, hqc⟩ : ∃ qc, vw me ++ vw da ++ vw tg = qc := ⟨_, rfl⟩
  rw [hqc]
  obtain ⟨w1, hw1⟩ : ∃ w1, w.alloc (.cells qc.toArray 55) = w1 := ⟨_, rfl⟩
  have hQ : w1.heap[w.heap.size]? = some (.cells (vw me ++ vw da ++ vw tg).toArray 55) := by rw [← hw1, hqc]; exact heap_alloc_new w _
  have hr := range_block hQ
  obtain ⟨q0, q1, q2⟩ := range_three hr
  rw [length_vw, lme, Nat.zero_add] at q1 q2
  rw [length_vw, lda] at q2
  have r0 := rd_part q0 lme
  have r1 := rd_part q1 lda
  have r2 := rd_part q2 ltg
  have hb1 : Below w.heap.size w w1 := by rw [← hw1]; exact (Below.refl _ _).alloc (Nat.le_refl _) _
  have hF : fmtL me da tg = linesL (fmtT (hexT me) (hexT da) (hexT tg)) := rfl
  obtain ⟨sm, hsm⟩ : ∃ s, (⟨(hexAllL me).toArray⟩ : ByteArray) = s := ⟨_, rfl⟩
  obtain ⟨sd, hsd⟩ : ∃ s, (⟨(hexAllL da).toArray⟩ : ByteArray) = s := ⟨_, rfl⟩
  obtain ⟨st, hst⟩ : ∃ s, (⟨(hexAllL tg).toArray⟩ : ByteArray) = s := ⟨_, rfl⟩
  have zm : sm.size = 64 := by rw [← hsm]; exact hexT_size me lme
  have zd : sd.size = 64 := by rw [← hsd]; exact hexT_size da lda
  have zt : st.size = 64 := by rw [← hst]; exact hexT_size tg ltg
  replace hb1 := Lib.hid hb1; replace r0 := Lib.hid r0; replace r1 := Lib.hid r1; replace r2 := Lib.hid r2; replace hsm := Lib.hid hsm; replace hsd := Lib.hid hsd; replace hst := Lib.hid hst
  clear hQ hr q0 q1 q2 hqc hF
  go_enter Tryd.func24, Tryd.ntmps24
  go_upto_region 1 with fail
  try (change Code.wp _ _ _ _ (w.alloc (.cells qc.toArray 55)); rw [hw1])
  clear hw1
  go_region_held3 (fun w' => Below w1.heap.size w1 w')
    (first
      | exact Below.refl _ _
      | exact (Below.refl _ _).drew
      | assumption
      | exact Below.drew (by assumption))
    (first
      | (go_at_call_of 44 (Value.slice (some (Addr.mk w.heap.size 0 none)) 8 8); refine (rhexall_any _ me _ (r0.out.mono (by assumption)) (by omega)).mono ?_; rintro e w2 ⟨rfl, b2⟩; have bY := below_step (w1 := w1) b2 (by assumption); clear b2; rw [hsm.out])
      | (go_at_call_of 44 (Value.slice (some (Addr.mk w.heap.size 8 none)) 8 8); refine (rhexall_any _ da _ (r1.out.mono (by assumption)) (by omega)).mono ?_; rintro e w2 ⟨rfl, b2⟩; have bY := below_step (w1 := w1) b2 (by assumption); clear b2; rw [hsd.out])
      | (go_at_call_of 44 (Value.slice (some (Addr.mk w.heap.size 16 none)) 8 8); refine (rhexall_any _ tg _ (r2.out.mono (by assumption)) (by omega)).mono ?_; rintro e w2 ⟨rfl, b2⟩; have bY := below_step (w1 := w1) b2 (by assumption); clear b2; rw [hst.out]))
  all_goals
    have hJ := fmt_join me da tg
    rw [hsm.out, hsd.out, hst.out] at hJ
    have hbf := Lib.hid (hb1.out.trans ((by assumption : Below w1.heap.size w1 _).mono hb1.out.size))
    replace hJ := Lib.hid hJ
    go_wp2_with fail
    go_ret
    exact ⟨by rw [← hJ.out]; rfl, hbf.out⟩
set_option maxRecDepth 100000 in
set_option maxHeartbeats 1000000 in
theorem reight_any (s : ByteArray) (w : World) (h8 : s.size % 8 = 0) (hs : s.size ≤ 2097152) :
    Calls Tryd.prog 42 #[.string s] w fun e w' => Below w.heap.size w w' ∧
      ((∃ l : List UInt32, l.length = 8 ∧ hexAllL l = strL s ∧ e = .returned (.tuple #[.agg (vw l).toArray, .bool true])) ∨ (NoWords s ∧ e = .returned (.tuple #[.agg (vw (List.replicate 8 0)).toArray, .bool false]))) := by
  obtain ⟨w1, hw1⟩ : ∃ w1, w.alloc (.cells (vw (List.replicate 8 0)).toArray 23) = w1 := ⟨_, rfl⟩
  have aR : Arr w1 w.heap.size 23 (List.replicate 8 0) := by rw [← hw1]; exact Arr.new _ _ _
  have hb1 : Below w.heap.size w w1 := by rw [← hw1]; exact (Below.refl _ _).alloc (Nat.le_refl _) _
  replace aR := Lib.hid aR; replace hb1 := Lib.hid hb1
  go_enter Tryd.func42, Tryd.ntmps42
  go_upto_region 1 with fail
  try (change Code.wp _ _ _ _ (w.alloc (.cells (vw (List.replicate 8 0)).toArray 23)); rw [hw1])
  clear hw1
  go_wp2_with fail
  refine (rparseall_any s _ hs h8).mono ?_
  rintro e w2 ⟨b2, ⟨v2, rfl, o2, hall⟩ | ⟨rfl, i, hi, hn⟩⟩
  · obtain ⟨ao, cap, rfl, _⟩ := Rd.of_own o2
    have hx := hex_parseAll s h8 hall
    have hR := Rd.of_own o2
    have aR2 := aR.out.below b2
    have hb2 := hb1.out.trans (b2.mono hb1.out.size)
    rw [length_vw] at hR ⊢
    obtain ⟨n, hn⟩ : ∃ n, (parseAllL s).length = n := ⟨_, rfl⟩
    rw [hn] at hR ⊢
    clear o2 hall b2 aR hb1
    by_cases e8 : n = 8
    · rw [e8] at hR hn ⊢
      clear e8
      obtain ⟨ao', cap', hv, c1, c2, c3⟩ := hR
      simp only [Value.slice.injEq] at hv
      obtain ⟨rfl, hv8, rfl⟩ := hv
      clear hv8
      obtain ⟨l, hl⟩ : ∃ l, parseAllL s = l := ⟨_, rfl⟩
      rw [hl] at c1 c3 hn hx
      obtain ⟨b, off, rfl, hcell⟩ := c3.resolve_left (by intro h; have := congrArg List.length h; rw [length_vw, hn] at this; simp at this)
      have hrg : w2.rangeAt b off (vw l) := fun j u hu => hcell j u hu
      have hc8 : 8 ≤ cap := by rw [length_vw] at c1; omega
      have harr := run_arrayAt (P := Tryd.prog) (w := w2) 23 22 8 (some ⟨b, off, none⟩) 8 cap Tryd.underlying23 (Nat.le_refl _)
      clear hcell c3 hl c1
      replace hrg := Lib.hid hrg; replace hx := Lib.hid hx; replace hn := Lib.hid hn; replace aR2 := Lib.hid aR2; replace hb2 := Lib.hid hb2
      go_wp2_with (first
        | (refine wpList_load_mid rfl 23 _ rfl b off rfl (vw l) _ hrg.out Tryd.underlying23 rfl (by rw [length_vw, hn.out]; exact info23) ?_)
        | (refine wpList_store_arr rfl 23 _ _ rfl w.heap.size rfl l (by rfl) aR2.out info23 (by simp) hn.out ?_; intro wa aa ga; have hba := hb2.out.grown ga hb2.out.size (by simp)))
      refine bodyPost_ret (results_two rfl rfl rfl (range_block aa) Tryd.underlying23 rfl (by rw [length_vw, hn.out]; exact info23)) rfl ⟨hba, .inl ⟨l, hn.out, hx.out, rfl⟩⟩
    · have hN : NoWords s := noWords_len s (by have := congrArg List.length hx; rw [length_hexAllL, strL_length] at this; omega)
      have d8 : ((n : Int) != 8) = true := by simp; omega
      replace hN := Lib.hid hN; replace hR := Lib.hid hR; replace hx := Lib.hid hx; replace hn := Lib.hid hn; replace aR2 := Lib.hid aR2; replace hb2 := Lib.hid hb2
      go_wp2_with (refine wpList_store_arr rfl 23 _ _ rfl w.heap.size rfl (List.replicate 8 0) (by rfl) aR2.out info23 (by simp) (by simp) ?_; intro wa aa ga; have hba := hb2.out.grown ga hb2.out.size (by simp))
      refine bodyPost_ret (results_two rfl rfl rfl (range_block aa) Tryd.underlying23 rfl (by rw [length_vw]; exact info23)) rfl ⟨hba, .inr ⟨hN.out, rfl⟩⟩
  · have hN := noWords_chunk s i hi hn
    have aR2 := aR.out.below b2
    have hb2 := hb1.out.trans (b2.mono hb1.out.size)
    clear hn b2 aR hb1
    replace hN := Lib.hid hN; replace aR2 := Lib.hid aR2; replace hb2 := Lib.hid hb2
    go_wp2_with (refine wpList_store_arr rfl 23 _ _ rfl w.heap.size rfl (List.replicate 8 0) (by rfl) aR2.out info23 (by simp) (by simp) ?_; intro wa aa ga; have hba := hb2.out.grown ga hb2.out.size (by simp))
    refine bodyPost_ret (results_two rfl rfl rfl (range_block aa) Tryd.underlying23 rfl (by rw [length_vw]; exact info23)) rfl ⟨hba, .inr ⟨hN.out, rfl⟩⟩
end Go.Proofs.YtemanjahkohcpaaDoor
