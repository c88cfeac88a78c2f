/- The walk of AttestJudges. -/
import Derived.Test.YtemanjahkohcpaaDoorAQuo
namespace Go.Proofs.YtemanjahkohcpaaDoor
open Go.RowKit WP
theorem btrans {A B : Nat} {w w1 w2 : World} (h : Below A w w1) (h2 : Below B w1 w2) (hAB : A ≤ B) : Below A w w2 := h.trans (h2.mono hAB)
/-- the memory that came in, boxed: the policy at g, the claim behind it -/
structure Came (w : World) (g : Nat) (v : Value) (rs : List RuleD) (other : Bool) (KL sd nc me da tg : List UInt32) (right same : Bool) : Prop where
  lt : g + 1 < w.heap.size
  pol : w.rangeAt g 0 [v, .bool other]
  p0 : w.cell? ⟨g, 0, none⟩ = some v
  p1 : w.cell? ⟨g, 1, none⟩ = some (.bool other)
  seed : w.rangeAt (g + 1) 0 (vw sd)
  nonce : w.rangeAt (g + 1) 8 (vw nc)
  quote : w.rangeAt (g + 1) 16 (vw me ++ vw da ++ vw tg)
  right : w.cell? ⟨g + 1, 40, none⟩ = some (.bool right)
  same : w.cell? ⟨g + 1, 41, none⟩ = some (.bool same)
  rules : Rules w v rs
  rounds : Rounds w KL
theorem Came.below {w w' : World} {g : Nat} {v : Value} {rs : List RuleD} {other : Bool} {KL sd nc me da tg : List UInt32} {right same : Bool} (h : Came w g v rs other KL sd nc me da tg right same) (hb : Below w.heap.size w w') : Came w' g v rs other KL sd nc me da tg right same := by
  have e0 := hb.block g (by have := h.lt; omega)
  have e1 := hb.block (g + 1) h.lt
  exact ⟨Nat.lt_of_lt_of_le h.lt hb.size, rangeAt_kept h.pol e0, by rw [cell_kept e0]; exact h.p0, by rw [cell_kept e0]; exact h.p1, rangeAt_kept h.seed e1, rangeAt_kept h.nonce e1, rangeAt_kept h.quote e1, by rw [cell_kept e1]; exact h.right, by rw [cell_kept e1]; exact h.same, h.rules.below hb, h.rounds.below hb⟩
theorem came_new (w : World) (v : Value) (rs : List RuleD) (other : Bool) (KL sd nc me da tg : List UInt32) (right same : Bool) (t1 t2 : TypeId) (hr : Rules w v rs) (hK : Rounds w KL) (ls : sd.length = 8) (ln : nc.length = 8) (lm : me.length = 8) (ld : da.length = 8) (lt : tg.length = 8) :
    Came ((w.alloc (.cells #[v, .bool other] t1)).alloc (.cells (vw sd ++ vw nc ++ (vw me ++ vw da ++ vw tg) ++ [Value.bool right, Value.bool same]).toArray t2)) w.heap.size v rs other KL sd nc me da tg right same := by
  obtain ⟨w1, hw1⟩ : ∃ w1, (w.alloc (.cells #[v, .bool other] t1)).alloc (.cells (vw sd ++ vw nc ++ (vw me ++ vw da ++ vw tg) ++ [Value.bool right, Value.bool same]).toArray t2) = w1 := ⟨_, rfl⟩
  have hP : w1.heap[w.heap.size]? = some (.cells #[v, .bool other] t1) := by
    rw [← hw1, heap_alloc_old _ _ (by simp)]; exact heap_alloc_new w _
  have hC : w1.heap[w.heap.size + 1]? = some (.cells (vw sd ++ vw nc ++ (vw me ++ vw da ++ vw tg) ++ [Value.bool right, Value.bool same]).toArray t2) := by
    rw [← hw1]
    have := heap_alloc_new (w.alloc (.cells #[v, .bool other] t1)) (.cells (vw sd ++ vw nc ++ (vw me ++ vw da ++ vw tg) ++ [Value.bool right, Value.bool same]).toArray t2)
    simpa using this
  have hb1 : Below w.heap.size w w1 := by rw [← hw1]; exact ((Below.refl _ _).alloc (Nat.le_refl _) _).alloc (by simp) _
  rw [hw1]
  have hr0 := range_block hC
  rw [List.append_assoc (vw sd ++ vw nc)] at hr0
  obtain ⟨q0, q1, q2⟩ := range_three hr0
  rw [length_vw, ls, Nat.zero_add] at q1 q2
  rw [length_vw, ln] at q2
  have lq : (vw me ++ vw da ++ vw tg).length = 24 := by simp [lm, ld, lt]
  have q3 : w1.rangeAt (w.heap.size + 1) 16 (vw me ++ vw da ++ vw tg) := by
    intro j u hu
    have hj : j < (vw me ++ vw da ++ vw tg).length := (List.getElem?_eq_some_iff.1 hu).1
    exact q2 j u (by rw [List.getElem?_append_left hj]; exact hu)
  refine ⟨(Array.getElem?_eq_some_iff.1 hC).1, range_block hP, by rw [cell_of_row w1 _ 0 _ _ _ hP]; rfl, by rw [cell_of_row w1 _ 1 _ _ _ hP]; rfl, q0, q1, q3, ?_, ?_, hr.below hb1, hK.below hb1⟩
  · exact q2 24 _ (by rw [List.getElem?_append_right (by omega), lq]; rfl)
  · exact q2 25 _ (by rw [List.getElem?_append_right (by omega), lq]; rfl)
theorem Came.drew {w : World} {g : Nat} {v : Value} {rs : List RuleD} {other : Bool} {KL sd nc me da tg : List UInt32} {right same : Bool} (h : Came w g v rs other KL sd nc me da tg right same) : Came w.drew g v rs other KL sd nc me da tg right same := h.below (Below.refl _ _).drew
set_option maxRecDepth 100000 in
set_option maxHeartbeats 4000000 in
theorem judges_any (KL sd nc me0 da0 tg0 : List UInt32) (rs : List RuleD) (other right same : Bool) (at_ : Int) (v : Value) (w : World) (hKr : Rounds w KL) (hr : Rules w v rs) (ls : sd.length = 8) (ln : nc.length = 8) (lm0 : me0.length = 8) (ld0 : da0.length = 8) (lt0 : tg0.length = 8)
    (_b1 : -9223372036854775808 ≤ at_) (_b2 : at_ ≤ 9223372036854775807) :
    Calls Tryd.prog 4 #[.agg #[v, .bool other], .agg (vw sd ++ vw nc ++ (vw me0 ++ vw da0 ++ vw tg0) ++ [Value.bool right, Value.bool same]).toArray, .int .i64 at_] w fun e w' => e = .returned (.bool true) ∧ Below w.heap.size w w' := by
  have hr0 := hr
  obtain ⟨ao, cap, rfl, n1, n2, l8, hcs⟩ := hr0
  obtain ⟨n, hn⟩ : ∃ n, rs.length = n := ⟨_, rfl⟩
  rw [hn] at n1 hr ⊢
  have C1 := came_new w (.slice ao n cap) rs other KL sd nc me0 da0 tg0 right same 36 40 hr hKr ls ln lm0 ld0 lt0
  obtain ⟨cc, hcc⟩ : ∃ cc, vw sd ++ vw nc ++ (vw me0 ++ vw da0 ++ vw tg0) ++ [Value.bool right, Value.bool same] = cc := ⟨_, rfl⟩
  rw [hcc] at C1 ⊢
  clear hcc
  obtain ⟨w1, hw1⟩ : ∃ w1, (w.alloc (.cells #[.slice ao n cap, .bool other] 36)).alloc (.cells cc.toArray 40) = w1 := ⟨_, rfl⟩
  have hb1 : Below w.heap.size w w1 := by rw [← hw1]; exact ((Below.refl _ _).alloc (Nat.le_refl _) _).alloc (by simp) _
  rw [hw1] at C1
  have h3 := hKr.1
  have hls := C1.lt
  clear hKr hr
  replace C1 := Lib.hid C1; replace hb1 := Lib.hid hb1; replace hn := Lib.hid hn; replace l8 := Lib.hid l8; replace hcs := Lib.hid hcs
  go_enter Tryd.func4, Tryd.ntmps4
  go_upto_region 1 with fail
  clear hw1
  go_wp2_with (refine wpList_load_mid rfl 23 _ rfl (w.heap.size + 1) 0 rfl (vw sd) _ C1.out.seed Tryd.underlying23 rfl (by rw [length_vw, ls]; exact info23) ?_)
  refine (key_any KL sd _ C1.out.rounds ls).mono ?_
  rintro e w2 ⟨rfl, b12⟩
  obtain ⟨K, hK⟩ : ∃ K, keyF KL sd = K := ⟨_, rfl⟩
  have lK : K.length = 8 := by rw [← hK]; exact keyF_len _ _
  rw [hK]
  clear hK
  have hW2 := b12
  have l12 := b12.size
  have aK0 : Arr (w2.alloc (.cells (vw (List.replicate 8 0)).toArray 23)) w2.heap.size 23 (List.replicate 8 0) := Arr.new _ _ _
  clear b12
  replace hW2 := Lib.hid hW2; replace aK0 := Lib.hid aK0
  go_upto_region 2 with (refine wpList_store_arr rfl 23 _ _ rfl w2.heap.size rfl K rfl aK0.out info23 (by simp) lK ?_; intro w3 aK3 g3)
  have b23 := below_new g3
  have hW3 := btrans hW2.out b23 hW2.out.size
  have C3 := C1.out.below hW3
  have l23 := aK3.lt
  clear g3 b23 hW2 aK0
  have lq : (vw me0 ++ vw da0 ++ vw tg0).length = 24 := by simp [lm0, ld0, lt0]
  have oq : ∀ u ∈ vw me0 ++ vw da0 ++ vw tg0, u.oneCell' = true := by
    intro u hu
    rcases List.mem_append.1 hu with hu | hu
    · rcases List.mem_append.1 hu with hu | hu
      · exact vw_oneCell _ u hu
      · exact vw_oneCell _ u hu
    · exact vw_oneCell _ u hu
  obtain ⟨qc, hqc⟩ : ∃ qc, vw me0 ++ vw da0 ++ vw tg0 = qc := ⟨_, rfl⟩
  have hC3q := C3.quote
  have hqn : ∀ (w' : World) (g : Nat), w'.heap[g]? = some (.cells qc.toArray 38) → Quo w' g me0 da0 tg0 := fun w' g h => Quo.new (by rw [hqc]; exact h) lm0 ld0 lt0
  rw [hqc] at lq oq hC3q
  replace C3 := Lib.hid C3; replace hW3 := Lib.hid hW3; replace aK3 := Lib.hid aK3; replace lq := Lib.hid lq; replace oq := Lib.hid oq; replace hC3q := Lib.hid hC3q; replace hqn := Lib.hid hqn
  clear hqc
  go_upto_region 3 with (first
    | (refine wpList_load_mid rfl 38 _ rfl (w.heap.size + 1) 16 rfl qc _ hC3q.out Tryd.underlying38 rfl (by rw [lq.out]; exact info38) ?_)
    | (refine wpList_store_blk rfl 38 _ _ rfl w3.heap.size qc rfl rfl 38 _ (heap_alloc_new _ _) (by rw [lq.out]; exact info38) (by rw [lq.out]; rfl) oq.out ?_; intro w4 hB4 g4))
  have b34 := below_new g4
  have hW4 := btrans hW3.out b34 hW3.out.size
  have C4 := C1.out.below hW4
  have aK4 := aK3.out.below b34
  have Q4 := hqn.out w4 _ hB4
  clear hB4 g4 b34 C3 hW3 aK3 lq oq hC3q hqn
  have hc41 := C4.same
  replace C4 := Lib.hid C4; replace hW4 := Lib.hid hW4; replace aK4 := Lib.hid aK4; replace Q4 := Lib.hid Q4
  go_upto_if 23 with fail
  go_cut [25] from 24 to 26 (fun _ wx => ∃ da : List UInt32, da.length = 8 ∧ Below w1.heap.size w1 wx ∧ Arr wx w2.heap.size 23 K ∧ Quo wx w3.heap.size me0 da tg0)
  case first =>
    cases same with
    | false =>
      go_wp2_with fail
      go_meet
      case rel => exact ⟨da0, ld0, hW4.out, aK4.out, Q4.out⟩
    | true =>
      go_wp2_with (first
        | (refine wpList_load_mid rfl 23 _ rfl (w.heap.size + 1) 8 rfl (vw nc) _ C4.out.nonce Tryd.underlying23 rfl (by rw [length_vw, ln]; exact info23) ?_)
        | (refine wpList_store_words rfl 23 _ _ rfl w3.heap.size 8 nc rfl rfl (there_part Q4.out.th 8 8 (by omega)) info23 ln ?_))
      go_meet
      case rel =>
        have hg := grownBy_setCells w4 w3.heap.size 8 (vw nc)
        exact ⟨nc, ln, hW4.out.grown hg hW4.out.size (by intro j hj; simp at hj; omega), aK4.out.grown hg (by simp; omega), Q4.out.set1 nc ln lm0⟩
  case rest =>
    obtain ⟨da, ld, hW5, aK5, Q5⟩ := hcut
    clear C4 hW4 aK4 Q4 hc41
    obtain ⟨w5, rfl⟩ : ∃ w5, w5 = wc := ⟨wc, rfl⟩
    have C5 := C1.out.below hW5
    have hp0 := C5.p0
    have i0 : (0 : Int) ≤ (n : Int) := by omega
    replace hW5 := Lib.hid hW5; replace aK5 := Lib.hid aK5; replace Q5 := Lib.hid Q5; replace C5 := Lib.hid C5
    go_upto_region 5 with fail
    go_cut [34] from 27 to 34 (fun r wx => ∃ c : Bool, r = .bool c ∧ (c = true → 0 < n ∧ 0 ≤ at_) ∧ wx = w5)
    case first =>
      by_cases h1 : 0 < n
      · have d1 : decide ((n : Int) > 0) = true := decide_eq_true (by omega)
        by_cases h2 : 0 ≤ at_
        · have d2 : decide (at_ ≥ 0) = true := decide_eq_true h2
          go_wp2_with fail
          go_meet
          case rel => exact ⟨true, rfl, fun _ => ⟨h1, h2⟩, rfl⟩
        · have d2 : decide (at_ ≥ 0) = false := decide_eq_false h2
          go_wp2_with fail
          go_meet
          case rel => exact ⟨false, rfl, (fun h => by cases h), rfl⟩
      · have d1 : decide ((n : Int) > 0) = false := decide_eq_false (by omega)
        go_wp2_with fail
        go_meet
        case rel => exact ⟨false, rfl, (fun h => by cases h), rfl⟩
    case rest =>
      obtain ⟨c, rfl, hq, hwc⟩ := hcut
      replace hq := Lib.hid hq
      subst hwc
      go_upto_if 34 with fail
      go_cut [35] from 35 to 45 (fun _ wx => ∃ me : List UInt32, me.length = 8 ∧ Below w1.heap.size w1 wx ∧ Arr wx w2.heap.size 23 K ∧ Quo wx w3.heap.size me da tg0)
      case first =>
        cases c with
        | true =>
          obtain ⟨hn0, ha0⟩ := hq.out rfl
          have hb0 := hb1.out.trans (hW5.out.mono hb1.out.size)
          obtain ⟨b, off, rfl, hbl, hcl⟩ := hcs.out.resolve_left (by intro h; have := hn.out; rw [h] at this; simp at this; omega)
          obtain ⟨m, hm⟩ : ∃ m : Nat, at_.tmod (n : Int) = (m : Int) := ⟨(at_.tmod (n : Int)).toNat, by have := Int.tmod_nonneg (n : Int) ha0; omega⟩
          have hmn : m < n := by have := Int.tmod_lt_of_pos at_ (show (0 : Int) < (n : Int) by omega); omega
          have hmr : m < rs.length := by rw [hn.out]; exact hmn
          obtain ⟨r, hri⟩ : ∃ r, rs[m]? = some r := ⟨_, List.getElem?_eq_getElem hmr⟩
          have lr : r.me.length = 8 := l8.out r (List.mem_of_getElem? hri)
          have hrg : wc.drew.rangeAt b (off + m * 10 + 2) (vw r.me) := by
            have := hcl m r hri
            have h2 : w.rangeAt b (off + m * 10) ([.bool r.allow, .string r.name] ++ vw r.me ++ []) := by simpa [ruleC] using this
            exact rangeAt_kept (range_sub h2) (hb0.block b hbl)
          have hp0d : wc.drew.cell? ⟨w.heap.size, 0, none⟩ = some (.slice (some ⟨b, off, none⟩) n cap) := hp0
          have hQd := Q5.out.drew
          have hWd : Below w1.heap.size w1 wc.drew := hW5.out.drew
          have aKd : Arr wc.drew w2.heap.size 23 K := aK5.out
          have i1 : (0 : Int) ≤ (m : Int) := by omega
          have i2 : (m : Int) < (n : Int) := by omega
          have i3 : ¬ n = 0 := by omega
          clear hcl hri hmr hb0
          replace hrg := Lib.hid hrg; replace hQd := Lib.hid hQd; replace hWd := Lib.hid hWd; replace aKd := Lib.hid aKd
          go_upto_region 6 with fail
          refine wp_region_still_tail 11 (by kernel_rfl) (by kernel_rfl) ?_
          simp only [List.take_succ_cons, List.take_zero, List.drop_succ_cons, List.drop_zero]
          change wpStill _ _ wc.drew _ _ _
          iterate 9 still_step
          refine wpStill_load_mid rfl 23 _ rfl b (off + m * 10 + 2) (by rfl) r.me hrg.out Tryd.underlying23 info23 lr ?_
          still_step
          refine wpStill_nil ?_
          change wpList _ _ _ _ _ wc.drew
          refine wpList_store_words rfl 23 _ _ rfl w3.heap.size 0 r.me (by rfl) (by rfl) (there_part hQd.out.th 0 8 (by omega)) info23 lr ?_
          have hg := grownBy_setCells wc.drew w3.heap.size 0 (vw r.me)
          have fin := (⟨r.me, lr, hWd.out.grown hg hWd.out.size (by intro j hj; simp at hj; omega), aKd.out.grown hg (by simp; omega), hQd.out.set0 r.me lr⟩ : ∃ me : List UInt32, me.length = 8 ∧ Below w1.heap.size w1 (wc.drew.setCells w3.heap.size 0 (vw r.me)) ∧ Arr (wc.drew.setCells w3.heap.size 0 (vw r.me)) w2.heap.size 23 K ∧ Quo (wc.drew.setCells w3.heap.size 0 (vw r.me)) w3.heap.size me da tg0)
          replace fin := Lib.hid fin
          clear hg
          go_wp2_with fail
          go_meet
          case rel => exact fin.out
        | false =>
          go_wp2_with fail
          go_meet
          case rel => exact ⟨me0, lm0, hW5.out, aK5.out, Q5.out⟩
      case rest =>
        obtain ⟨me, lm, hW6, aK6, Q6⟩ := hcut
        clear hW5 aK5 Q5 C5 hp0 hq
        obtain ⟨w6, rfl⟩ : ∃ w6, w6 = wc := ⟨wc, rfl⟩
        have C6 := C1.out.below hW6
        replace hW6 := Lib.hid hW6; replace aK6 := Lib.hid aK6; replace Q6 := Lib.hid Q6; replace C6 := Lib.hid C6
        go_wp2_with (first
          | (refine wpList_load_arr rfl 23 _ rfl w2.heap.size rfl aK6.out Tryd.underlying23 info23 lK ?_)
          | (refine wpList_load_mid rfl 23 _ rfl w3.heap.size 0 rfl (vw me) _ Q6.out.r0 Tryd.underlying23 rfl (by rw [length_vw, lm]; exact info23) ?_)
          | (refine wpList_load_mid rfl 23 _ rfl w3.heap.size 8 rfl (vw da) _ Q6.out.r1 Tryd.underlying23 rfl (by rw [length_vw, ld]; exact info23) ?_))
        refine (atag_any KL K me da _ C6.out.rounds lK lm ld).mono ?_
        rintro e w7 ⟨rfl, b67⟩
        obtain ⟨T, hT⟩ : ∃ T, attF KL K me da = T := ⟨_, rfl⟩
        have lT : T.length = 8 := by rw [← hT]; exact attF_len _ _ _ _
        rw [hT]
        have hW7 := btrans hW6.out b67 hW6.out.size
        have aK7 := aK6.out.below b67
        have Q7 := Q6.out.below b67
        have l37 := Q7.lt
        have aT0 : Arr (w7.alloc (.cells (vw (List.replicate 8 0)).toArray 23)) w7.heap.size 23 (List.replicate 8 0) := Arr.new _ _ _
        clear b67 hW6 aK6 Q6 C6
        replace hT := Lib.hid hT; replace hW7 := Lib.hid hW7; replace aK7 := Lib.hid aK7; replace Q7 := Lib.hid Q7; replace aT0 := Lib.hid aT0
        go_upto_region 8 with (refine wpList_store_arr rfl 23 _ _ rfl w7.heap.size rfl T rfl aT0.out info23 (by simp) lT ?_; intro w8 aT8 g8)
        have b78 := below_new g8
        have hW8 := btrans hW7.out b78 hW7.out.size
        have C8 := C1.out.below hW8
        have aK8 := aK7.out.below b78
        have Q8 := Q7.out.below b78
        have hc40 := C8.right
        clear g8 b78 hW7 aK7 Q7 aT0
        replace hW8 := Lib.hid hW8; replace aK8 := Lib.hid aK8; replace Q8 := Lib.hid Q8; replace C8 := Lib.hid C8; replace aT8 := Lib.hid aT8
        go_upto_if 53 with fail
        go_cut [54] from 54 to 55 (fun _ wx => ∃ tg : List UInt32, tg.length = 8 ∧ Below w1.heap.size w1 wx ∧ Arr wx w2.heap.size 23 K ∧ Arr wx w7.heap.size 23 T ∧ Quo wx w3.heap.size me da tg)
        case first =>
          cases right with
          | false =>
            go_wp2_with fail
            go_meet
            case rel => exact ⟨tg0, lt0, hW8.out, aK8.out, aT8.out, Q8.out⟩
          | true =>
            go_wp2_with (first
              | (refine wpList_load_arr rfl 23 _ rfl w7.heap.size rfl aT8.out Tryd.underlying23 info23 lT ?_)
              | (refine wpList_store_words rfl 23 _ _ rfl w3.heap.size 16 T rfl rfl (there_part Q8.out.th 16 8 (by omega)) info23 lT ?_))
            go_meet
            case rel =>
              have hg := grownBy_setCells w8 w3.heap.size 16 (vw T)
              exact ⟨T, lT, hW8.out.grown hg hW8.out.size (by intro j hj; simp at hj; omega), aK8.out.grown hg (by simp; omega), aT8.out.grown hg (by simp; omega), Q8.out.set2 T lT lm ld⟩
        case rest =>
          obtain ⟨tg, lt, hW9, aK9, aT9, Q9⟩ := hcut
          clear hW8 aK8 aT8 Q8 C8 hc40
          obtain ⟨w9, rfl⟩ : ∃ w9, w9 = wc := ⟨wc, rfl⟩
          have C9 := C1.out.below hW9
          have hp0 := C9.p0
          have hp1 := C9.p1
          have hQ0 := Q9.r0
          replace hW9 := Lib.hid hW9; replace aK9 := Lib.hid aK9; replace Q9 := Lib.hid Q9; replace C9 := Lib.hid C9; replace aT9 := Lib.hid aT9; replace hQ0 := Lib.hid hQ0
          have lQ := Q9.out.lt
          have hD0 : decF (rs.drop n) other me = (other, ⟨#[]⟩) := by rw [← hn.out, List.drop_length]; rfl
          replace hD0 := Lib.hid hD0
          have hb0 := hb1.out.trans (hW9.out.mono hb1.out.size)
          replace hb0 := Lib.hid hb0
          go_wp2_with fail
          go_loopw [10, 11, 12] (fun al nm i wr => ∃ k : Nat, k ≤ n ∧ i = .int .i64 ((k : Int) - 1) ∧ al = .bool (decF (rs.drop k) other me).1 ∧ nm = .string (decF (rs.drop k) other me).2 ∧ ∃ q, wr = w9.drewN q) (fun _ _ i _ => (intOf i + 1).toNat)
          case atStart => exact ⟨n, Nat.le_refl _, rfl, by rw [hD0.out], by rw [hD0.out], 0, rfl⟩
          case round =>
            obtain ⟨k, hk, rfl, rfl, rfl, nd, rfl⟩ := hrel
            cases k with
            | succ j =>
              have e : (((j + 1 : Nat) : Int) - 1) = (j : Int) := by omega
              rw [e]
              clear e
              have hjr : j < rs.length := by rw [hn.out]; omega
              obtain ⟨r, hri⟩ : ∃ r, rs[j]? = some r := ⟨_, List.getElem?_eq_getElem hjr⟩
              have lr : r.me.length = 8 := l8.out r (List.mem_of_getElem? hri)
              have hdk := decF_drop rs other me j r hri
              obtain ⟨b, off, rfl, hbl, hcl⟩ := hcs.out.resolve_left (by intro h; rw [h] at hjr; simp at hjr)
              obtain ⟨wD, hwD⟩ : ∃ wD, (w9.drewN nd).drew = wD := ⟨_, rfl⟩
              have hwD2 : w9.drewN (nd + 1) = wD := hwD
              have hr10 : wD.rangeAt b (off + j * 10) (ruleC r) := by rw [← hwD]; exact rangeAt_kept (hcl j r hri) (hb0.out.block b hbl)
              have hrg : wD.rangeAt b (off + j * 10 + 2) (vw r.me) := by
                have h2 : wD.rangeAt b (off + j * 10) ([.bool r.allow, .string r.name] ++ vw r.me ++ []) := by simpa [ruleC] using hr10
                exact range_sub h2
              have hca : wD.cell? ⟨b, off + j * 10, none⟩ = some (.bool r.allow) := hr10 0 _ rfl
              have hcn : wD.cell? ⟨b, off + j * 10 + 1, none⟩ = some (.string r.name) := hr10 1 _ rfl
              have hpD : wD.cell? ⟨w.heap.size, 0, none⟩ = some (.slice (some ⟨b, off, none⟩) n cap) := by rw [← hwD]; exact hp0
              have hQD : wD.rangeAt w3.heap.size 0 (vw me) := by rw [← hwD]; exact rangeAt_kept hQ0.out rfl
              have i1 : (0 : Int) ≤ (j : Int) := by omega
              have i2 : (j : Int) < (n : Int) := by omega
              have hkn : j + 1 ≤ n := hk
              clear hcl hri hjr hr10
              replace hrg := Lib.hid hrg; replace hQD := Lib.hid hQD; replace hdk := Lib.hid hdk; replace hwD2 := Lib.hid hwD2
              go_upto_region 15 with fail
              refine wp_region_still_lit (by kernel_rfl) (by kernel_rfl) ?_
              change wpStill _ _ (w9.drewN nd).drew _ _ _
              rw [hwD]
              iterate 5 still_step
              refine wpStill_load_mid rfl 23 _ rfl b (off + j * 10 + 2) (by rfl) r.me hrg.out Tryd.underlying23 info23 lr ?_
              still_step
              refine wpStill_load_mid rfl 23 _ rfl w3.heap.size 0 (by rfl) me hQD.out Tryd.underlying23 info23 lm ?_
              by_cases hm : r.me = me
              · have hE : ∀ w' : World, (Op.equalIn 10000 23 (.agg (vw r.me).toArray) (.agg (vw me).toArray)).run Tryd.prog w' = .ok true w' := fun w' => by
                  rw [eq_words r.me me w' lr lm, decide_eq_true hm]
                have hF : decF (rs.drop j) other me = (r.allow, r.name) := by rw [hdk.out, if_pos hm]
                replace hF := Lib.hid hF
                replace hm := Lib.hid hm
                still_step
                refine wpStill_nil ?_
                change Exit.then _ _ _ _ (w9.drewN nd).drew
                rw [hwD]
                clear hwD
                go_wp2_with fail
                go_roundw
                case rel => exact ⟨j, by omega, rfl, by rw [hF.out], by rw [hF.out], nd + 1, hwD2.out.symm⟩
                case measure => simp [intOf]
              · have hE : ∀ w' : World, (Op.equalIn 10000 23 (.agg (vw r.me).toArray) (.agg (vw me).toArray)).run Tryd.prog w' = .ok false w' := fun w' => by
                  rw [eq_words r.me me w' lr lm, decide_eq_false hm]
                have hF : decF (rs.drop j) other me = decF (rs.drop (j + 1)) other me := by rw [hdk.out, if_neg hm]
                replace hF := Lib.hid hF
                replace hm := Lib.hid hm
                still_step
                refine wpStill_nil ?_
                change Exit.then _ _ _ _ (w9.drewN nd).drew
                rw [hwD]
                clear hwD
                go_wp2_with fail
                go_roundw
                case rel => exact ⟨j, by omega, rfl, by rw [hF.out], by rw [hF.out], nd + 1, hwD2.out.symm⟩
                case measure => simp [intOf]
            | zero =>
              rw [List.drop_zero]
              obtain ⟨ok, nm, hD⟩ : ∃ ok nm, decF rs other me = (ok, nm) := ⟨_, _, rfl⟩
              rw [hD]
              obtain ⟨wE, hwE⟩ : ∃ wE, w9.drewN nd = wE := ⟨_, rfl⟩
              have hW : Below w1.heap.size w1 wE := by rw [← hwE]; exact below_drewN hW9.out _
              have aK : Arr wE w2.heap.size 23 K := by rw [← hwE]; exact aK9.out
              have aT : Arr wE w7.heap.size 23 T := by rw [← hwE]; exact aT9.out
              have hQ : Quo wE w3.heap.size me da tg := by rw [← hwE]; exact Q9.out.drewN nd
              have C := C1.out.below hW
              rw [hwE]
              clear hwE hW9 aK9 Q9 C9 aT9 hQ0 hb0 hD0 hp0 hp1 hcs
              replace hW := Lib.hid hW; replace aK := Lib.hid aK; replace aT := Lib.hid aT; replace hQ := Lib.hid hQ; replace C := Lib.hid C; replace hD := Lib.hid hD
              go_wp2_with (first
                | (refine wpList_load_mid rfl 36 _ rfl w.heap.size 0 rfl [.slice ao n cap, .bool other] _ C.out.pol Tryd.underlying36 rfl info36 ?_)
                | (refine wpList_load_mid rfl 23 _ rfl w3.heap.size 0 rfl (vw me) _ hQ.out.r0 Tryd.underlying23 rfl (by rw [length_vw, lm]; exact info23) ?_))
              refine (decide_any rs other me _ _ C.out.rules lm).mono ?_
              rintro e wF ⟨rfl, bF⟩
              rw [hD.out]
              have hWF := btrans hW.out bF hW.out.size
              have aKF := aK.out.below bF
              have aTF := aT.out.below bF
              have hQF := hQ.out.below bF
              have CF := C1.out.below hWF
              clear bF hW aK aT hQ C
              obtain ⟨qd, hqd⟩ : ∃ qd, vw me ++ vw da ++ vw tg = qd := ⟨_, rfl⟩
              have hwh := hQF.whole lm ld
              have lqd : (vw me ++ vw da ++ vw tg).length = 24 := by simp [lm, ld, lt]
              rw [hqd] at hwh lqd
              replace hWF := Lib.hid hWF; replace aKF := Lib.hid aKF; replace aTF := Lib.hid aTF; replace hQF := Lib.hid hQF; replace CF := Lib.hid CF; replace hwh := Lib.hid hwh; replace lqd := Lib.hid lqd; replace hqd := Lib.hid hqd
              go_wp2_with (first
                | (refine wpList_load_mid rfl 36 _ rfl w.heap.size 0 rfl [.slice ao n cap, .bool other] _ CF.out.pol Tryd.underlying36 rfl info36 ?_)
                | (refine wpList_load_mid rfl 38 _ rfl w3.heap.size 0 rfl qd _ hwh.out Tryd.underlying38 rfl (by rw [lqd.out]; exact info38) ?_)
                | (refine wpList_load_mid rfl 23 _ rfl (w.heap.size + 1) 8 rfl (vw nc) _ CF.out.nonce Tryd.underlying23 rfl (by rw [length_vw, ln]; exact info23) ?_)
                | (refine wpList_load_arr rfl 23 _ rfl w2.heap.size rfl aKF.out Tryd.underlying23 info23 lK ?_))
              rw [← hqd.out]
              refine (judge_any KL K rs other me da tg nc _ _ CF.out.rounds CF.out.rules lK lm ld lt ln).mono ?_
              rintro e wG ⟨rfl, bG⟩
              rw [hqd.out]
              have hWG := btrans hWF.out bG hWF.out.size
              have aTG := aTF.out.below bG
              have hQG := hQF.out.below bG
              have CG := C1.out.below hWG
              have hend := hb1.out.trans (hWG.mono hb1.out.size)
              clear bG hWF aKF aTF hQF CF hwh
              replace hWG := Lib.hid hWG; replace aTG := Lib.hid aTG; replace hQG := Lib.hid hQG; replace CG := Lib.hid CG; replace hend := Lib.hid hend
              by_cases h1 : tg = T
              · have hE1 : ∀ w' : World, (Op.equalIn 10000 23 (.agg (vw tg).toArray) (.agg (vw T).toArray)).run Tryd.prog w' = .ok true w' := fun w' => by
                  rw [eq_words tg T w' lt lT, decide_eq_true h1]
                by_cases h2 : da = nc
                · have hE2 : ∀ w' : World, (Op.equalIn 10000 23 (.agg (vw da).toArray) (.agg (vw nc).toArray)).run Tryd.prog w' = .ok true w' := fun w' => by
                    rw [eq_words da nc w' ld ln, decide_eq_true h2]
                  cases ok with
                  | true =>
                    have hJ : jF KL K rs other me da tg nc = (nm, 0) := by unfold jF; rw [if_pos (by rw [hT.out, h1]), if_pos h2, hD.out]; rfl
                    rw [hJ]
                    replace h1 := Lib.hid h1; replace h2 := Lib.hid h2; clear hJ
                    go_wp2_with (first
                      | (refine wpList_load_mid rfl 23 _ rfl w3.heap.size 16 rfl (vw tg) _ hQG.out.r2 Tryd.underlying23 rfl (by rw [length_vw, lt]; exact info23) ?_)
                      | (refine wpList_load_arr rfl 23 _ rfl w7.heap.size rfl aTG.out Tryd.underlying23 info23 lT ?_)
                      | (refine wpList_load_mid rfl 23 _ rfl w3.heap.size 8 rfl (vw da) _ hQG.out.r1 Tryd.underlying23 rfl (by rw [length_vw, ld]; exact info23) ?_)
                      | (refine wpList_load_mid rfl 23 _ rfl (w.heap.size + 1) 8 rfl (vw nc) _ CG.out.nonce Tryd.underlying23 rfl (by rw [length_vw, ln]; exact info23) ?_))
                    refine (num_any _ _).mono ?_
                    rintro e _ ⟨rfl, rfl⟩
                    go_wp2_with fail
                    go_ret
                    exact ⟨rfl, hend.out⟩
                  | false =>
                    have hJ : jF KL K rs other me da tg nc = (⟨#[]⟩, 164) := by unfold jF; rw [if_pos (by rw [hT.out, h1]), if_pos h2, hD.out]; rfl
                    rw [hJ]
                    replace h1 := Lib.hid h1; replace h2 := Lib.hid h2; clear hJ
                    go_wp2_with (first
                      | (refine wpList_load_mid rfl 23 _ rfl w3.heap.size 16 rfl (vw tg) _ hQG.out.r2 Tryd.underlying23 rfl (by rw [length_vw, lt]; exact info23) ?_)
                      | (refine wpList_load_arr rfl 23 _ rfl w7.heap.size rfl aTG.out Tryd.underlying23 info23 lT ?_)
                      | (refine wpList_load_mid rfl 23 _ rfl w3.heap.size 8 rfl (vw da) _ hQG.out.r1 Tryd.underlying23 rfl (by rw [length_vw, ld]; exact info23) ?_)
                      | (refine wpList_load_mid rfl 23 _ rfl (w.heap.size + 1) 8 rfl (vw nc) _ CG.out.nonce Tryd.underlying23 rfl (by rw [length_vw, ln]; exact info23) ?_))
                    refine (num_any _ _).mono ?_
                    rintro e _ ⟨rfl, rfl⟩
                    go_wp2_with fail
                    go_ret
                    exact ⟨rfl, hend.out⟩
                · have hE2 : ∀ w' : World, (Op.equalIn 10000 23 (.agg (vw da).toArray) (.agg (vw nc).toArray)).run Tryd.prog w' = .ok false w' := fun w' => by
                    rw [eq_words da nc w' ld ln, decide_eq_false h2]
                  have hJ : jF KL K rs other me da tg nc = (⟨#[]⟩, 163) := by unfold jF; rw [if_pos (by rw [hT.out, h1]), if_neg h2]
                  rw [hJ]
                  replace h1 := Lib.hid h1; replace h2 := Lib.hid h2; clear hJ
                  go_wp2_with (first
                    | (refine wpList_load_mid rfl 23 _ rfl w3.heap.size 16 rfl (vw tg) _ hQG.out.r2 Tryd.underlying23 rfl (by rw [length_vw, lt]; exact info23) ?_)
                    | (refine wpList_load_arr rfl 23 _ rfl w7.heap.size rfl aTG.out Tryd.underlying23 info23 lT ?_)
                    | (refine wpList_load_mid rfl 23 _ rfl w3.heap.size 8 rfl (vw da) _ hQG.out.r1 Tryd.underlying23 rfl (by rw [length_vw, ld]; exact info23) ?_)
                    | (refine wpList_load_mid rfl 23 _ rfl (w.heap.size + 1) 8 rfl (vw nc) _ CG.out.nonce Tryd.underlying23 rfl (by rw [length_vw, ln]; exact info23) ?_))
                  refine (num_any _ _).mono ?_
                  rintro e _ ⟨rfl, rfl⟩
                  go_wp2_with fail
                  go_ret
                  exact ⟨rfl, hend.out⟩
              · have hE1 : ∀ w' : World, (Op.equalIn 10000 23 (.agg (vw tg).toArray) (.agg (vw T).toArray)).run Tryd.prog w' = .ok false w' := fun w' => by
                  rw [eq_words tg T w' lt lT, decide_eq_false h1]
                have hJ : jF KL K rs other me da tg nc = (⟨#[]⟩, 162) := by unfold jF; rw [if_neg (by rw [hT.out]; exact fun h => h1 h.symm)]
                rw [hJ]
                replace h1 := Lib.hid h1; clear hJ
                go_wp2_with (first
                  | (refine wpList_load_mid rfl 23 _ rfl w3.heap.size 16 rfl (vw tg) _ hQG.out.r2 Tryd.underlying23 rfl (by rw [length_vw, lt]; exact info23) ?_)
                  | (refine wpList_load_arr rfl 23 _ rfl w7.heap.size rfl aTG.out Tryd.underlying23 info23 lT ?_))
                refine (num_any _ _).mono ?_
                rintro e _ ⟨rfl, rfl⟩
                go_wp2_with fail
                go_ret
                exact ⟨rfl, hend.out⟩
end Go.Proofs.YtemanjahkohcpaaDoor
