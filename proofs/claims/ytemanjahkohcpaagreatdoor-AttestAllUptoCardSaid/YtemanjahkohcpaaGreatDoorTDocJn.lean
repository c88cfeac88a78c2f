/- The contracts of the law's doc and fitted. -/
import Derived.Test.YtemanjahkohcpaaGreatDoorJn42
import Derived.Test.YtemanjahkohcpaaGreatDoorRAttJn
namespace Go.Proofs.YtemanjahkohcpaaGreatDoor
open Go.RowKit WP
theorem results_blk {P : Program} {fn : Func} {t : Tmp} {ty : TypeId} (h : fn.results = #[.cell t ty]) {tmps : Array Value} {w : World} {g : Nat} {cs : List Value} {d : TypeDesc} (hp : tmps.getD t undef = .pointer (some ⟨g, 0, none⟩))
    (hc : w.rangeAt g 0 cs) (hu : P.underlying ty = some d) (hd : d.isRow = true) (hi : (P.info? ty).map (·.size) = some cs.length) : (results fn tmps).run P w = .ok (.agg cs.toArray) w := by
  have hv := run_loadVar_mid (P := P) w g 0 ty cs _ hc hu hd hi
  have hp' : tmps[t]?.getD undef = .pointer (some ⟨g, 0, none⟩) := by simpa [Array.getD_eq_getD_getElem?] using hp
  simp [results, h, hp', hv, asAddr]
set_option maxRecDepth 100000 in
set_option maxHeartbeats 1000000 in
theorem doc_any (me da tg : List UInt32) (w : World) (lme : me.length = 8) (lda : da.length = 8) (ltg : tg.length = 8) :
    Calls Tryz.prog 44 #[.agg (vw me ++ vw da ++ vw tg).toArray] w fun e w' => e = .returned (.agg (vw me ++ vw da ++ vw tg).toArray) ∧ Below w.heap.size w w' := by
  obtain ⟨qc, hqc⟩ : ∃ qc, vw me ++ vw da ++ vw tg = qc := ⟨_, rfl⟩
  rw [hqc]
  obtain ⟨w1, hw1⟩ : ∃ w1, (w.alloc (.cells qc.toArray 28)).alloc (.cells zero24.toArray 105) = w1 := ⟨_, rfl⟩
  have hQ : w1.heap[w.heap.size]? = some (.cells (vw me ++ vw da ++ vw tg).toArray 28) := by rw [← hw1, hqc, heap_alloc_old _ _ (by simp)]; exact heap_alloc_new w _
  have hR : w1.heap[w.heap.size + 1]? = some (.cells zero24.toArray 105) := by rw [← hw1]; exact new_at _ _ _
  have hb1 : Below w.heap.size w w1 := by rw [← hw1]; exact ((Below.refl _ _).alloc (Nat.le_refl _) _).alloc (by simp) _
  have Q1 := Quo.new hQ lme lda ltg
  have hbu := built55 me da tg lme lda ltg
  have lq : qc.length = 24 := by rw [← hqc]; simp [lme, lda, ltg]
  have oq : ∀ u ∈ qc, u.oneCell' = true := by rw [← hqc]; exact quote_one me da tg
  rw [hqc] at hbu
  replace hqc := Lib.hid hqc; replace hbu := Lib.hid hbu; replace lq := Lib.hid lq; replace oq := Lib.hid oq; replace hb1 := Lib.hid hb1; replace hR := Lib.hid hR; replace Q1 := Lib.hid Q1
  clear hQ
  go_enter Tryz.func44, Tryz.ntmps44
  go_upto_region 1 with fail
  try (change Code.wp _ _ _ _ ((w.alloc (.cells qc.toArray 28)).alloc (.cells zero24.toArray 105)); rw [hw1])
  clear hw1
  go_wp2_with (first
    | (refine wpList_load_mid rfl 26 _ rfl w.heap.size 0 rfl (vw me) _ Q1.out.r0 Tryz.underlying26 rfl (by rw [length_vw, lme]; exact info23) ?_)
    | (refine wpList_load_mid rfl 26 _ rfl w.heap.size 8 rfl (vw da) _ Q1.out.r1 Tryz.underlying26 rfl (by rw [length_vw, lda]; exact info23) ?_)
    | (refine wpList_load_mid rfl 26 _ rfl w.heap.size 16 rfl (vw tg) _ Q1.out.r2 Tryz.underlying26 rfl (by rw [length_vw, ltg]; exact info23) ?_)
    | (refine wpList_built rfl 105 _ rfl qc.toArray (by simp only [List.map_toArray, List.map_cons, List.map_nil]; exact hbu.out) ?_)
    | (refine wpList_store_blk rfl 105 _ _ rfl (w.heap.size + 1) qc rfl rfl 105 _ hR.out (by rw [lq.out]; exact info55) (by rw [lq.out]; rfl) oq.out ?_; intro w8 hQ8 g8))
  refine bodyPost_ret (results_blk rfl rfl (range_block hQ8) Tryz.underlying105 rfl (by rw [lq.out]; exact info55)) rfl ⟨rfl, hb1.out.grown g8 hb1.out.size (by simp)⟩
/-- a claim in its block -/
structure Clm (w : World) (g : Nat) (sd nc me da tg : List UInt32) (right same : Bool) : Prop where
  lt : g < w.heap.size
  seed : w.rangeAt g 0 (vw sd)
  nonce : w.rangeAt g 8 (vw nc)
  quote : w.rangeAt g 16 (vw me ++ vw da ++ vw tg)
  right : w.cell? ⟨g, 40, none⟩ = some (.bool right)
  same : w.cell? ⟨g, 41, none⟩ = some (.bool same)
theorem Clm.below {w w' : World} {g : Nat} {sd nc me da tg : List UInt32} {right same : Bool} (h : Clm w g sd nc me da tg right same) (hb : Below w.heap.size w w') : Clm w' g sd nc me da tg right same := by
  have e1 := hb.block g h.lt
  exact ⟨Nat.lt_of_lt_of_le h.lt hb.size, rangeAt_kept h.seed e1, rangeAt_kept h.nonce e1, rangeAt_kept h.quote e1, by rw [cell_kept e1]; exact h.right, by rw [cell_kept e1]; exact h.same⟩
def claimC (sd nc me da tg : List UInt32) (right same : Bool) : List Value := vw sd ++ vw nc ++ (vw me ++ vw da ++ vw tg) ++ [Value.bool right, Value.bool same]
theorem Clm.new {w1 : World} {g : Nat} {t2 : TypeId} {sd nc me da tg : List UInt32} {right same : Bool} (hC : w1.heap[g]? = some (.cells (claimC sd nc me da tg right same).toArray t2)) (ls : sd.length = 8) (ln : nc.length = 8) (lm : me.length = 8) (ld : da.length = 8) (lt : tg.length = 8) : Clm w1 g sd nc me da tg right same := by
  have hr0 := range_block hC
  unfold claimC at hr0
  rw [List.append_assoc (vw sd ++ vw nc)] at hr0
  obtain ⟨q0, q1, q2⟩ := range_three hr0
  rw [length_vw, ls, Nat.zero_add] at q1 q2
  rw [length_vw, ln] at q2
  have lq : (vw me ++ vw da ++ vw tg).length = 24 := by simp [lm, ld, lt]
  have q3 : w1.rangeAt g 16 (vw me ++ vw da ++ vw tg) := by
    intro j u hu
    have hj : j < (vw me ++ vw da ++ vw tg).length := (List.getElem?_eq_some_iff.1 hu).1
    exact q2 j u (by rw [List.getElem?_append_left hj]; exact hu)
  refine ⟨(Array.getElem?_eq_some_iff.1 hC).1, q0, q1, q3, ?_, ?_⟩
  · exact q2 24 _ (by rw [List.getElem?_append_right (by omega), lq]; rfl)
  · exact q2 25 _ (by rw [List.getElem?_append_right (by omega), lq]; rfl)
theorem storeCells_at {P : Program} {w : World} {b o : Nat} (l : List UInt32) (ht : w.there b o l.length) : (storeCells ⟨b, o, none⟩ (vw l)).run P w = .ok () (w.setCells b o (vw l)) := by
  have := run_storeCells_cells (P := P) b o (vw l) 0 w (fun j hj => by simpa using (ht j (by simpa using hj)).1) (fun j hj => by simpa using (ht j (by simpa using hj)).2) (vw_oneCell l)
  simpa using this
/-- the data, the tag of the fitted quote -/
def fitD (nc da : List UInt32) (same : Bool) : List UInt32 := if same then nc else da
def fitT (KL sd me tg da : List UInt32) (right : Bool) : List UInt32 := if right then attF KL (keyF KL sd) me da else tg
set_option maxRecDepth 100000 in
set_option maxHeartbeats 2000000 in
theorem fitted_any (KL sd nc me da tg : List UInt32) (right same : Bool) (w : World) (hK : RoundsR w KL) (ls : sd.length = 8) (ln : nc.length = 8) (lm : me.length = 8) (ld : da.length = 8) (lt : tg.length = 8) :
    Calls Tryz.prog 38 #[.agg (claimC sd nc me da tg right same).toArray] w fun e w' => e = .returned (.agg (vw me ++ vw (fitD nc da same) ++ vw (fitT KL sd me tg (fitD nc da same) right)).toArray) ∧ Below w.heap.size w w' := by
  obtain ⟨cc, hcc⟩ : ∃ cc, claimC sd nc me da tg right same = cc := ⟨_, rfl⟩
  obtain ⟨w1, hw1⟩ : ∃ w1, (w.alloc (.cells cc.toArray 30)).alloc (.cells zero24.toArray 28) = w1 := ⟨_, rfl⟩
  have hC : w1.heap[w.heap.size]? = some (.cells (claimC sd nc me da tg right same).toArray 30) := by rw [← hw1, hcc, heap_alloc_old _ _ (by simp)]; exact heap_alloc_new w _
  have hR : w1.heap[w.heap.size + 1]? = some (.cells zero24.toArray 28) := by rw [← hw1]; exact new_at _ _ _
  have hb1 : Below w.heap.size w w1 := by rw [← hw1]; exact ((Below.refl _ _).alloc (Nat.le_refl _) _).alloc (by simp) _
  have C1 := Clm.new hC ls ln lm ld lt
  have hK1 := hK.below hb1
  have hz : w1.heap.size = w.heap.size + 1 + 1 := by rw [← hw1]; simp
  rw [hcc]
  have lq : (vw me ++ vw da ++ vw tg).length = 24 := by simp [lm, ld, lt]
  have oq : ∀ u ∈ vw me ++ vw da ++ vw tg, u.oneCell' = true := quote_one me da tg
  obtain ⟨qc, hqc⟩ : ∃ qc, vw me ++ vw da ++ vw tg = qc := ⟨_, rfl⟩
  have hCq := C1.quote
  have hqn : ∀ (w' : World) (g : Nat), w'.heap[g]? = some (.cells qc.toArray 28) → Quo w' g me da tg := fun w' g h => Quo.new (by rw [hqc]; exact h) lm ld lt
  rw [hqc] at lq oq hCq
  have hc41 := C1.same
  replace C1 := Lib.hid C1; replace hb1 := Lib.hid hb1; replace hK1 := Lib.hid hK1; replace lq := Lib.hid lq; replace oq := Lib.hid oq; replace hCq := Lib.hid hCq; replace hqn := Lib.hid hqn; replace hR := Lib.hid hR; replace hz := Lib.hid hz
  clear hC hK hqc hcc
  go_enter Tryz.func38, Tryz.ntmps38
  go_upto_region 1 with fail
  try (change Code.wp _ _ _ _ ((w.alloc (.cells cc.toArray 30)).alloc (.cells zero24.toArray 28)); rw [hw1])
  clear hw1
  go_upto_region 2 with (first
    | (refine wpList_load_mid rfl 28 _ rfl w.heap.size 16 rfl qc _ hCq.out Tryz.underlying28 rfl (by rw [lq.out]; exact info38) ?_)
    | (refine wpList_store_blk rfl 28 _ _ rfl w1.heap.size qc rfl rfl 28 _ (heap_alloc_new _ _) (by rw [lq.out]; exact info38) (by rw [lq.out]; rfl) oq.out ?_; intro w2 hB2 g2))
  have b12 := below_new g2
  have hW2 := b12
  have C2 := C1.out.below b12
  have Q2 := hqn.out w2 _ hB2
  have hs41 := C2.same
  clear hB2 g2 b12 lq oq hCq hqn hc41
  replace hW2 := Lib.hid hW2; replace C2 := Lib.hid C2; replace Q2 := Lib.hid Q2
  go_upto_if 7 with fail
  go_cut [] from 8 to 10 (fun wx => Below w1.heap.size w1 wx ∧ Quo wx w1.heap.size me (fitD nc da same) tg)
  case first =>
    cases same with
    | false =>
      go_wp2_with fail
      go_meet
      case rel => exact ⟨hW2.out, Q2.out⟩
    | true =>
      go_wp2_with (first
        | (refine wpList_load_mid rfl 26 _ rfl w.heap.size 8 rfl (vw nc) _ C2.out.nonce Tryz.underlying26 rfl (by rw [length_vw, ln]; exact info23) ?_)
        | (refine wpList_store_words rfl 26 _ _ rfl w1.heap.size 8 nc rfl rfl (there_part Q2.out.th 8 8 (by omega)) info23 ln ?_))
      go_meet
      case rel =>
        have hg := grownBy_setCells w2 w1.heap.size 8 (vw nc)
        exact ⟨hW2.out.grown hg hW2.out.size (by intro j hj; simp at hj; omega), Q2.out.set1 nc ln lm⟩
  case rest =>
    obtain ⟨hW3, Q3⟩ := hcut
    obtain ⟨w3, rfl⟩ : ∃ w3, w3 = wc := ⟨wc, rfl⟩
    obtain ⟨D, hD⟩ : ∃ D, fitD nc da same = D := ⟨_, rfl⟩
    have lD : D.length = 8 := by rw [← hD]; unfold fitD; split <;> assumption
    rw [hD] at Q3
    have C3 := C1.out.below hW3
    have hs40 := C3.right
    clear hW2 C2 Q2 hs41
    replace hW3 := Lib.hid hW3; replace C3 := Lib.hid C3; replace Q3 := Lib.hid Q3
    have hKd : RoundsR w3.drew KL := (hK1.out.below hW3.out).below (Below.refl _ _).drew
    have C3d : Clm w3.drew w.heap.size sd nc me da tg right same := C3.out.below (Below.refl _ _).drew
    have Q3d := Q3.out.drew
    have hl3 : w1.heap.size < w3.heap.size := Q3.out.lt
    have vs := vw_lit8 sd ls; have vm := vw_lit8 me lm; have vD := vw_lit8 D lD
    have ds0 : w3.drew.cell? ⟨w.heap.size, 0, none⟩ = some (.int .u32 (wAt sd 0)) := rangeCell 0 sd 0 C3d.seed ls (by omega); have ds1 : w3.drew.cell? ⟨w.heap.size, 1, none⟩ = some (.int .u32 (wAt sd 1)) := rangeCell 0 sd 1 C3d.seed ls (by omega); have ds2 : w3.drew.cell? ⟨w.heap.size, 2, none⟩ = some (.int .u32 (wAt sd 2)) := rangeCell 0 sd 2 C3d.seed ls (by omega); have ds3 : w3.drew.cell? ⟨w.heap.size, 3, none⟩ = some (.int .u32 (wAt sd 3)) := rangeCell 0 sd 3 C3d.seed ls (by omega); have ds4 : w3.drew.cell? ⟨w.heap.size, 4, none⟩ = some (.int .u32 (wAt sd 4)) := rangeCell 0 sd 4 C3d.seed ls (by omega); have ds5 : w3.drew.cell? ⟨w.heap.size, 5, none⟩ = some (.int .u32 (wAt sd 5)) := rangeCell 0 sd 5 C3d.seed ls (by omega); have ds6 : w3.drew.cell? ⟨w.heap.size, 6, none⟩ = some (.int .u32 (wAt sd 6)) := rangeCell 0 sd 6 C3d.seed ls (by omega); have ds7 : w3.drew.cell? ⟨w.heap.size, 7, none⟩ = some (.int .u32 (wAt sd 7)) := rangeCell 0 sd 7 C3d.seed ls (by omega)
    have dm0 : w3.drew.cell? ⟨w1.heap.size, 0, none⟩ = some (.int .u32 (wAt me 0)) := rangeCell 0 me 0 Q3d.r0 lm (by omega); have dm1 : w3.drew.cell? ⟨w1.heap.size, 1, none⟩ = some (.int .u32 (wAt me 1)) := rangeCell 0 me 1 Q3d.r0 lm (by omega); have dm2 : w3.drew.cell? ⟨w1.heap.size, 2, none⟩ = some (.int .u32 (wAt me 2)) := rangeCell 0 me 2 Q3d.r0 lm (by omega); have dm3 : w3.drew.cell? ⟨w1.heap.size, 3, none⟩ = some (.int .u32 (wAt me 3)) := rangeCell 0 me 3 Q3d.r0 lm (by omega); have dm4 : w3.drew.cell? ⟨w1.heap.size, 4, none⟩ = some (.int .u32 (wAt me 4)) := rangeCell 0 me 4 Q3d.r0 lm (by omega); have dm5 : w3.drew.cell? ⟨w1.heap.size, 5, none⟩ = some (.int .u32 (wAt me 5)) := rangeCell 0 me 5 Q3d.r0 lm (by omega); have dm6 : w3.drew.cell? ⟨w1.heap.size, 6, none⟩ = some (.int .u32 (wAt me 6)) := rangeCell 0 me 6 Q3d.r0 lm (by omega); have dm7 : w3.drew.cell? ⟨w1.heap.size, 7, none⟩ = some (.int .u32 (wAt me 7)) := rangeCell 0 me 7 Q3d.r0 lm (by omega)
    have dd0 : w3.drew.cell? ⟨w1.heap.size, 8, none⟩ = some (.int .u32 (wAt D 0)) := rangeCell 8 D 0 Q3d.r1 lD (by omega); have dd1 : w3.drew.cell? ⟨w1.heap.size, 9, none⟩ = some (.int .u32 (wAt D 1)) := rangeCell 8 D 1 Q3d.r1 lD (by omega); have dd2 : w3.drew.cell? ⟨w1.heap.size, 10, none⟩ = some (.int .u32 (wAt D 2)) := rangeCell 8 D 2 Q3d.r1 lD (by omega); have dd3 : w3.drew.cell? ⟨w1.heap.size, 11, none⟩ = some (.int .u32 (wAt D 3)) := rangeCell 8 D 3 Q3d.r1 lD (by omega); have dd4 : w3.drew.cell? ⟨w1.heap.size, 12, none⟩ = some (.int .u32 (wAt D 4)) := rangeCell 8 D 4 Q3d.r1 lD (by omega); have dd5 : w3.drew.cell? ⟨w1.heap.size, 13, none⟩ = some (.int .u32 (wAt D 5)) := rangeCell 8 D 5 Q3d.r1 lD (by omega); have dd6 : w3.drew.cell? ⟨w1.heap.size, 14, none⟩ = some (.int .u32 (wAt D 6)) := rangeCell 8 D 6 Q3d.r1 lD (by omega); have dd7 : w3.drew.cell? ⟨w1.heap.size, 15, none⟩ = some (.int .u32 (wAt D 7)) := rangeCell 8 D 7 Q3d.r1 lD (by omega)
    have kF : keyF KL sd = keyF KL sd := rfl
    obtain ⟨K, hK⟩ : ∃ K, keyF KL sd = K := ⟨_, rfl⟩
    have lK : K.length = 8 := by rw [← hK]; exact keyF_len _ _
    obtain ⟨T, hT⟩ : ∃ T, attF KL K me D = T := ⟨_, rfl⟩
    have lT : T.length = 8 := by rw [← hT]; exact attF_len _ _ _ _
    replace hKd := Lib.hid hKd; replace vs := Lib.hid vs; replace vm := Lib.hid vm; replace vD := Lib.hid vD; replace Q3d := Lib.hid Q3d; replace hK := Lib.hid hK; replace hT := Lib.hid hT
    clear C3d kF
    go_upto_if 12 with fail
    go_cut [] from 13 to 21 (fun wx => Below w1.heap.size w1 wx ∧ Quo wx w1.heap.size me D (fitT KL sd me tg D right))
    case first =>
      cases right with
      | false =>
        go_wp2_with fail
        go_meet
        case rel => exact ⟨hW3.out, Q3.out⟩
      | true =>
        go_upto_region 5 with fail
        go_region_with (first
          | (go_at_call 39; rw [← vs.out]; refine (rkey_any KL sd _ hKd.out ls).mono ?_; rintro e w4 ⟨rfl, b4⟩; rw [hK.out]; have Q4 := Q3d.out.below b4; have K4 := hKd.out.below b4; have cm0 : w4.cell? ⟨w1.heap.size, 0, none⟩ = some (.int .u32 (wAt me 0)) := rangeCell 0 me 0 Q4.r0 lm (by omega); have cm1 : w4.cell? ⟨w1.heap.size, 1, none⟩ = some (.int .u32 (wAt me 1)) := rangeCell 0 me 1 Q4.r0 lm (by omega); have cm2 : w4.cell? ⟨w1.heap.size, 2, none⟩ = some (.int .u32 (wAt me 2)) := rangeCell 0 me 2 Q4.r0 lm (by omega); have cm3 : w4.cell? ⟨w1.heap.size, 3, none⟩ = some (.int .u32 (wAt me 3)) := rangeCell 0 me 3 Q4.r0 lm (by omega); have cm4 : w4.cell? ⟨w1.heap.size, 4, none⟩ = some (.int .u32 (wAt me 4)) := rangeCell 0 me 4 Q4.r0 lm (by omega); have cm5 : w4.cell? ⟨w1.heap.size, 5, none⟩ = some (.int .u32 (wAt me 5)) := rangeCell 0 me 5 Q4.r0 lm (by omega); have cm6 : w4.cell? ⟨w1.heap.size, 6, none⟩ = some (.int .u32 (wAt me 6)) := rangeCell 0 me 6 Q4.r0 lm (by omega); have cm7 : w4.cell? ⟨w1.heap.size, 7, none⟩ = some (.int .u32 (wAt me 7)) := rangeCell 0 me 7 Q4.r0 lm (by omega); have cd0 : w4.cell? ⟨w1.heap.size, 8, none⟩ = some (.int .u32 (wAt D 0)) := rangeCell 8 D 0 Q4.r1 lD (by omega); have cd1 : w4.cell? ⟨w1.heap.size, 9, none⟩ = some (.int .u32 (wAt D 1)) := rangeCell 8 D 1 Q4.r1 lD (by omega); have cd2 : w4.cell? ⟨w1.heap.size, 10, none⟩ = some (.int .u32 (wAt D 2)) := rangeCell 8 D 2 Q4.r1 lD (by omega); have cd3 : w4.cell? ⟨w1.heap.size, 11, none⟩ = some (.int .u32 (wAt D 3)) := rangeCell 8 D 3 Q4.r1 lD (by omega); have cd4 : w4.cell? ⟨w1.heap.size, 12, none⟩ = some (.int .u32 (wAt D 4)) := rangeCell 8 D 4 Q4.r1 lD (by omega); have cd5 : w4.cell? ⟨w1.heap.size, 13, none⟩ = some (.int .u32 (wAt D 5)) := rangeCell 8 D 5 Q4.r1 lD (by omega); have cd6 : w4.cell? ⟨w1.heap.size, 14, none⟩ = some (.int .u32 (wAt D 6)) := rangeCell 8 D 6 Q4.r1 lD (by omega); have cd7 : w4.cell? ⟨w1.heap.size, 15, none⟩ = some (.int .u32 (wAt D 7)) := rangeCell 8 D 7 Q4.r1 lD (by omega); replace Q4 := Lib.hid Q4; replace K4 := Lib.hid K4)
          | (go_at_call 60; rw [← vm.out, ← vD.out]; refine (ratag_any KL K me D _ K4.out lK lm lD).mono ?_; rintro e w5 ⟨rfl, b5⟩; rw [hT.out]; have Q5 := Q4.out.below b5; have hsc := storeCells_at (P := Tryz.prog) (o := 16) T (there_part Q5.th 16 T.length (by omega)); replace Q5 := Lib.hid Q5))
        all_goals
          have hW5 := hW3.out.drew.trans ((b4.trans (b5.mono b4.size)).mono hW3.out.size)
          have hW6 := hW5.grown (grownBy_setCells w5 w1.heap.size 16 (vw T)) hW5.size (by intro j hj; simp at hj; omega)
          have Q6 := Q5.out.set2 T lT lm lD
          replace hW6 := Lib.hid hW6; replace Q6 := Lib.hid Q6
          clear hsc b4 b5 hW5
          go_wp2_with fail
          go_meet
          case rel => exact ⟨hW6.out, by unfold fitT; rw [if_pos rfl, hK.out, hT.out]; exact Q6.out⟩
    case rest =>
      obtain ⟨hW7, Q7⟩ := hcut
      obtain ⟨w7, rfl⟩ : ∃ w7, w7 = wc := ⟨wc, rfl⟩
      obtain ⟨G, hG⟩ : ∃ G, fitT KL sd me tg D right = G := ⟨_, rfl⟩
      have lG : G.length = 8 := by rw [← hG]; unfold fitT; split; exact attF_len _ _ _ _; exact lt
      rw [hG] at Q7
      have hq := Q7.whole lm lD
      have lq : (vw me ++ vw D ++ vw G).length = 24 := by simp [lm, lD, lG]
      have oq : ∀ u ∈ vw me ++ vw D ++ vw G, u.oneCell' = true := quote_one me D G
      obtain ⟨qd, hqd⟩ : ∃ qd, vw me ++ vw D ++ vw G = qd := ⟨_, rfl⟩
      rw [hqd] at hq lq oq
      have hR7 := (hW7.block _ (by have := hz.out; omega)).trans hR.out
      have hb7 := hb1.out.trans (hW7.mono hb1.out.size)
      replace hD := Lib.hid hD; replace hG := Lib.hid hG; replace hqd := Lib.hid hqd; replace hq := Lib.hid hq; replace lq := Lib.hid lq; replace oq := Lib.hid oq; replace hR7 := Lib.hid hR7; replace hb7 := Lib.hid hb7
      clear C3 Q3 hW3 hs40 hKd ds0 ds1 ds2 ds3 ds4 ds5 ds6 ds7 dm0 dm1 dm2 dm3 dm4 dm5 dm6 dm7 dd0 dd1 dd2 dd3 dd4 dd5 dd6 dd7
      go_wp2_with (first
        | (refine wpList_load_mid rfl 28 _ rfl w1.heap.size 0 rfl qd _ hq.out Tryz.underlying28 rfl (by rw [lq.out]; exact info38) ?_)
        | (refine wpList_store_blk rfl 28 _ _ rfl (w.heap.size + 1) qd rfl rfl 28 _ hR7.out (by rw [lq.out]; exact info38) (by rw [lq.out]; rfl) oq.out ?_; intro w8 hQ8 g8))
      refine bodyPost_ret (results_blk rfl rfl (range_block hQ8) Tryz.underlying28 rfl (by rw [lq.out]; exact info38)) rfl ⟨by rw [hD.out, hG.out, hqd.out], hb7.out.grown g8 hb7.out.size (by simp)⟩
end Go.Proofs.YtemanjahkohcpaaGreatDoor
