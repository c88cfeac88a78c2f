/- The contract of the law's rows: rows that stand within longer lists, two rows of marks behind them. The contract of the law's unchanged: the rows are as they were lent. Columns of any cells as a plain law: blanks at a line's end are cut. -/
import Derived.Test.YtefbogmgcihndaaDoorJn37
import Derived.Deep.RegionHeld3
import Derived.Deep.DrawnRows
import Derived.Test.YtefbogmgcihndaaDoorTCoP
namespace Go.Proofs.YtefbogmgcihndaaDoor
open Go.RowKit WP
theorem infoSs : (Tryd.prog.info? 39).map (fun i => (i.zero, i.size, i.bytes)) = some (some (.slice none 0 0), 1, 24) := by kernel_rfl
theorem own_cap2 {w : World} {B s n cap : Nat} {e : TypeId} {ao : Option Addr} {xs : List Value} (h : w.ownsRow B e s (.slice ao n cap) n xs) : n ≤ cap := by
  rcases h.2 with ⟨hv, hn⟩ | ⟨g, cap', cur, hv, h1, h2, h3, _⟩
  · rw [hn]; exact Nat.zero_le _
  · simp only [Value.slice.injEq] at hv
    rw [hv.2.2]; exact h3
theorem own_capm {w : World} {B s n cap : Nat} {e : TypeId} {ao : Option Addr} {xs : List Value} (h : w.ownsRow B e s (.slice ao n cap) n xs) : cap ≤ 9223372036854775807 := by
  rcases h.2 with ⟨hv, hn⟩ | ⟨g, cap', cur, hv, h1, h2, h3, h4, _⟩
  · simp only [Value.slice.injEq] at hv
    rw [hv.2.2]; decide
  · simp only [Value.slice.injEq] at hv
    rw [hv.2.2]; exact h4
theorem own_lit (w : World) (B : Nat) (e : TypeId) (xs : List Value) (hB : B ≤ w.heap.size) (hm : xs.length ≤ maxLen) : (w.alloc (.cells xs.toArray e)).ownsRow B e 1 (.slice (some ⟨w.heap.size, 0, none⟩) xs.length xs.length) xs.length xs :=
  ⟨by omega, .inr ⟨w.heap.size, xs.length, xs.toArray, rfl, hB, heap_alloc_new w _, Nat.le_refl _, hm, by simp, by simp⟩⟩
/-- the rows so far, and their list -/
structure Lent (base : Nat) (w : World) (b : Value) (us : List Value) (C : Nat → List ByteArray) : Prop where
  row : w.ownsRow base 39 1 b us.length us
  lent : ∀ i (h : i < us.length), RowLent base w us[i] (C i)
  far : us.Pairwise Far
  off : ∀ u ∈ us, Far u b
theorem RowLent.base {B B' : Nat} {w : World} {u : Value} {c : List ByteArray} (h : RowLent B w u c) (hb : B' ≤ B) : RowLent B' w u c := by
  obtain ⟨g, cap, rfl, ho⟩ := h
  exact ⟨g, cap, rfl, own_base ho hb⟩
theorem Lent.nil (base : Nat) (w : World) (C : Nat → List ByteArray) : Lent base w (.slice none 0 0) [] C :=
  ⟨World.ownsRow_nil _ _ _ _, fun i h => absurd h (by simp), List.Pairwise.nil, by simp⟩
theorem Lent.below {base : Nat} {w w' : World} {b : Value} {us : List Value} {C : Nat → List ByteArray} (h : Lent base w b us C) (hb : Below w.heap.size w w') : Lent base w' b us C :=
  ⟨own_below h.row hb, fun i hi => (h.lent i hi).later hb, h.far, h.off⟩
theorem Lent.lt {base : Nat} {w : World} {b : Value} {us : List Value} {C : Nat → List ByteArray} (h : Lent base w b us C) : ∀ u ∈ us, ∀ k, u.ownBlock = some k → base ≤ k ∧ k < w.heap.size := by
  intro u hu
  obtain ⟨i, hi, rfl⟩ := List.getElem_of_mem hu
  exact (h.lent i hi).lt
/-- the list's row grows: the rows stay -/
theorem Lent.onto {base : Nat} {w w' : World} {b b' : Value} {us : List Value} {C : Nat → List ByteArray} (h : Lent base w b us C) (hO : Onto w b w' b') : ∀ i (hi : i < us.length), RowLent base w' us[i] (C i) ∧ Far us[i] b' := by
  intro i hi
  have hm := List.getElem_mem hi
  have ho := h.off _ hm
  exact ⟨(h.lent i hi).touch (Touch.onto (S := [b]) hO (by simp)) (fun s hs => by rw [List.mem_singleton.1 hs]; exact ho), (Near.far (w := w) hO.2 ho.symm (fun k hk => (h.lt _ hm k hk).2)).symm⟩
theorem Lent.add {base : Nat} {w0 w1 w2 : World} {b b' u : Value} {us : List Value} {C : Nat → List ByteArray} (h : Lent base w0 b us C) (hb : Below w0.heap.size w0 w1) (hB : base ≤ w0.heap.size) (hu : RowLent w0.heap.size w1 u (C us.length))
    (hO : Onto w1 b w2 b') (hrow : w2.ownsRow base 39 1 b' (us.length + 1) (us ++ [u])) : Lent base w2 b' (us ++ [u]) C := by
  have h1 := h.below hb
  have hub : Far u b := fun k k1 k2 => by have := (hu.lt k k1).1; have := (h.row.lt k k2).2; omega
  refine ⟨by rw [List.length_append]; exact hrow, fun i hi => ?_, ?_, ?_⟩
  · by_cases hi' : i < us.length
    · rw [List.getElem_append_left hi']
      exact (h1.onto hO i hi').1
    · obtain rfl : i = us.length := by simp at hi; omega
      rw [List.getElem_append_right (Nat.le_refl _)]
      simp only [Nat.sub_self, List.getElem_cons_zero]
      exact (hu.base hB).touch (Touch.onto (S := [b]) hO (by simp)) (fun s hs => by rw [List.mem_singleton.1 hs]; exact hub)
  · rw [List.pairwise_append]
    refine ⟨h.far, List.pairwise_singleton _ _, fun a ha c hc k k1 k2 => ?_⟩
    rw [List.mem_singleton.1 hc] at k2
    have := (h.lt a ha k k1).2
    have := (hu.lt k k2).1
    omega
  · intro a ha
    rcases List.mem_append.1 ha with ha | ha
    · obtain ⟨i, hi, rfl⟩ := List.getElem_of_mem ha
      exact (h1.onto hO i hi).2
    · rw [List.mem_singleton.1 ha]
      exact (Near.far (w := w1) hO.2 hub.symm (fun k hk => (hu.lt k hk).2)).symm
/-- what rows answers: the lent rows, and two rows of a mark each behind them -/
structure Rows (base : Nat) (w : World) (b : Value) (us : List Value) (x y : Value) (C : Nat → List ByteArray) : Prop where
  row : w.ownsRow base 39 1 b (us.length + 2) (us ++ [x, y])
  lent : ∀ i (h : i < us.length), RowLent base w us[i] (C i)
  far : us.Pairwise Far
  off : ∀ u ∈ us, Far u b
  x1 : Rd w x (vs [endS])
  y1 : Rd w y (vs [endS])
set_option maxRecDepth 100000 in
set_option maxHeartbeats 2000000 in
theorem rows_any (v : Value) (V : Nat → Value) (C : Nat → List ByteArray) (n : Nat) (w : World) (hG : Grid w v V C n) (hn : n ≤ 1048576) (hM : ∀ i, i < n → (C i).length ≤ 1048576) :
    Calls Tryd.prog 38 #[v] w fun e w' => ∃ b us x y, e = .returned b ∧ us.length = n ∧ Rows w.heap.size w' b us x y C ∧ Below w.heap.size w w' := by
  obtain ⟨i0, hi, hz0, hz1, hz2⟩ := info_parts infoStr
  obtain ⟨j0, hj, ey0, ey1, ey2⟩ := info_parts infoSs
  obtain ⟨ao, ca, rfl, a1, a2, a3⟩ := hG.form
  replace hG := Lib.hid hG; replace hM := Lib.hid hM; replace a3 := Lib.hid a3
  go_enter Tryd.func38, Tryd.ntmps38
  go_wp2_with fail
  go_loopw [3, 4, 5] (fun b i _ wr => ∃ (us : List Value), us.length ≤ n ∧ i = .int .i64 us.length ∧ Lent w.heap.size wr b us C ∧ Below w.heap.size w wr) (fun _ i _ _ => n - (intOf i).toNat)
  case atStart => exact ⟨[], by simp, rfl, Lent.nil _ _ _, Below.refl _ _⟩
  case round =>
    obtain ⟨wo, rfl⟩ : ∃ wo, wo = wr := ⟨wr, rfl⟩
    obtain ⟨b, rfl⟩ : ∃ b, b = u3 := ⟨u3, rfl⟩
    obtain ⟨us, hk, rfl, hL, hb⟩ := hrel
    have hs0 := hb.size
    by_cases hlt : us.length < n
    · obtain ⟨bk, off, rfl, hc⟩ := a3.out us.length hlt
      have d0 := (hb.cell (p := ⟨bk, off + us.length, none⟩) (World.block_lt_of_cell? w _ hc)).trans hc
      have hr := (hG.out.row us.length hlt).mono hb
      have hCM := hM.out us.length hlt
      obtain ⟨ai, ci, hV, b1, b2, b3⟩ := rd_strs hr
      clear b3
      obtain ⟨c, hc0⟩ : ∃ c, C us.length = c := ⟨_, rfl⟩
      obtain ⟨x, hx⟩ : ∃ x, V us.length = x := ⟨_, rfl⟩
      rw [hc0] at hr hCM hV b1
      rw [hx] at d0 hr hV
      subst hV
      replace hL := Lib.hid hL; replace hb := Lib.hid hb; replace hc0 := Lib.hid hc0
      clear hx hc
      have lv := Lib.hid (vs_length c)
      go_wp2_with (at_builtin; refine wpList_append_rd _ rfl _ _ 39 rfl wo.heap.size 9 i0 (.string ⟨#[]⟩) 16 Tryd.underlying39 hi hz0 hz1 hz2 rfl _ _ _ rfl (World.ownsRow_nil _ _ _ _) _ (vs c) rfl hr ?k0 ?k1 ?k2 ?k3 ?_)
      case k0 => intro u hu; obtain ⟨_, _, rfl⟩ := List.mem_map.1 hu; rfl
      case k1 => rw [lv.out]; simp only [maxLen]; omega
      case k2 => rw [lv.out]; omega
      case k3 => exact Nat.le_refl _
      intro v1 w1 ho1 hO1
      replace ho1 : w1.ownsRow wo.heap.size 9 1 v1 c.length (vs c) := by have h := ho1; rw [lv.out] at h; simpa using h
      have hb1 := hO1.below (Nat.le_refl wo.heap.size) (by simp [Value.ownBlock])
      clear hO1 hr
      have hs1 := hb1.size
      replace ho1 := Lib.hid ho1; replace hb1 := Lib.hid hb1
      go_wp2_with (at_builtin; refine wpList_append_onto' _ rfl _ _ 39 rfl wo.heap.size 9 i0 (.string ⟨#[]⟩) 1 16 Tryd.underlying39 hi hz0 hz1 hz2 rfl (by decide) _ _ _ rfl (ho1.out.alloc _) ⟨w1.heap.size, 0, none⟩ 4 4 (vs endsL) rfl rfl ?m1 ?m2 ?m3 ?m4 ?m5 ?_)
      all_goals try exact cells_new _ (vs endsL) _ _
      case m2 => intro u hu; obtain ⟨_, _, rfl⟩ := List.mem_map.1 hu; rfl
      case m3 => simp only [maxLen]; omega
      case m4 => omega
      case m5 => first | omega | (simp; omega)
      intro v2 w2 ho2 hO2
      have hb2 := hb1.out.trans ((Onto.alloc _ hO2 (fun g hg => (ho1.out.lt g hg).2)).below (B := wo.heap.size) hs1 (fun g hg => (ho1.out.lt g hg).1))
      have ho2 : w2.ownsRow wo.heap.size 9 1 v2 (c.length + 4) (vs (c ++ endsL)) := by
        have e : vs (c ++ endsL) = vs c ++ vs endsL := by simp [vs]
        rw [e]; exact ho2
      obtain ⟨g, cap, rfl, q1, q2⟩ := ho2.form (by omega)
      have hcap := own_cap2 ho2
      have hcm : cap ≤ 9223372036854775807 := own_capm ho2
      have hul : RowLent wo.heap.size w2 (.slice (some ⟨g, 0, none⟩) c.length cap) (C us.length) := by rw [hc0.out]; exact ⟨g, cap, rfl, ho2⟩
      have d2 := (hb2.cell (p := ⟨bk, off + us.length, none⟩) (World.block_lt_of_cell? wo _ d0)).trans d0
      clear hO2 ho1 ho2 hb1 d0
      have hs2 := hb2.size
      have hcl : (c.length : Int) ≤ (cap : Int) := by omega
      replace hb2 := Lib.hid hb2; replace hul := Lib.hid hul
      obtain ⟨ob, cb, rfl⟩ := slice_form hL.out.row
      go_wp2_with (at_builtin; refine wpList_append_onto' _ rfl _ _ 37 rfl w.heap.size 39 j0 (.slice none 0 0) 1 24 Tryd.underlying37 hj ey0 ey1 ey2 rfl (by decide) _ us.length us rfl ((hL.out.below hb2.out).row.alloc _) ⟨w2.heap.size, 0, none⟩ 1 1 [.slice (some ⟨g, 0, none⟩) c.length cap] rfl rfl ?p1 ?p2 ?p3 ?p4 ?p5 ?_)
      all_goals try exact cells_new _ _ _ _
      case p2 => simp [Value.oneCell']
      case p3 => simp only [maxLen]; omega
      case p4 => omega
      case p5 => first | omega | (simp; omega)
      intro v3 w3 ho3 hO3
      have hO3' := Onto.alloc _ hO3 (fun k hk => ((hL.out.below hb2.out).row.lt k hk).2)
      have hL3 := Lent.add hL.out hb2.out hs0 hul.out hO3' ho3
      have hb3 : Below w.heap.size w w3 := (hb.out.trans (hb2.out.mono hs0)).trans (hO3'.below (B := w.heap.size) (by omega) (fun k hk => (hL.out.row.lt k hk).1))
      clear ho3 hO3 hO3'
      replace hL3 := Lib.hid hL3; replace hb3 := Lib.hid hb3
      go_wp2_with fail
      go_roundw
      case rel => exact ⟨us ++ [.slice (some ⟨g, 0, none⟩) c.length cap], by (first | (simp; done) | (simp; omega)), by simp, hL3.out, hb3.out⟩
      case measure => simp [intOf]; omega
    · have hun : us.length = n := by omega
      replace hun := Lib.hid hun
      replace hL := Lib.hid hL; replace hb := Lib.hid hb
      obtain ⟨ob, cb, rfl⟩ := slice_form hL.out.row
      go_wp2_with (at_builtin; refine wpList_append_onto' _ rfl _ _ 37 rfl w.heap.size 39 j0 (.slice none 0 0) 1 24 Tryd.underlying37 hj ey0 ey1 ey2 rfl (by decide) _ us.length us rfl (((hL.out.row.alloc _).alloc _).alloc _) ⟨wo.heap.size + 2, 0, none⟩ 2 2 [.slice (some ⟨wo.heap.size, 0, none⟩) 1 1, .slice (some ⟨wo.heap.size + 1, 0, none⟩) 1 1] rfl rfl ?q1 ?q2 ?q3 ?q4 ?q5 ?_)
      case q1 =>
        intro j u hu
        have h := cells_new ((wo.alloc (Obj.cells #[Value.string { data := #[101, 110, 100] }] 9)).alloc (Obj.cells #[Value.string { data := #[101, 110, 100] }] 9)) _ 39 (0, 0) j u hu
        have e : ((wo.alloc (Obj.cells #[Value.string { data := #[101, 110, 100] }] 9)).alloc (Obj.cells #[Value.string { data := #[101, 110, 100] }] 9)).heap.size = wo.heap.size + 2 := by simp
        rw [e] at h
        exact h
      case q2 => simp [Value.oneCell']
      case q3 => simp only [maxLen]; omega
      case q4 => omega
      case q5 => first | omega | (simp; omega)
      intro v3 w3 ho3 hO3
      have hx := own_lit wo wo.heap.size 9 (vs [endS]) (Nat.le_refl _) (by decide)
      have hy := own_lit (wo.alloc (.cells (vs [endS]).toArray 9)) wo.heap.size 9 (vs [endS]) (by simp) (by decide)
      have hlb : ∀ k, Value.ownBlock (.slice ob us.length cb) = some k → w.heap.size ≤ k ∧ k < wo.heap.size := hL.out.row.lt
      have hfin : Rows w.heap.size w3 v3 us (.slice (some ⟨wo.heap.size, 0, none⟩) 1 1) (.slice (some ⟨wo.heap.size + 1, 0, none⟩) 1 1) C := by
        have hL1 := hL.out.below (((Below.refl wo.heap.size wo).alloc (Nat.le_refl _) (.cells (vs [endS]).toArray 9)).alloc (by simp) (.cells (vs [endS]).toArray 9) |>.alloc (by simp; omega) (.cells #[Value.slice (some { block := wo.heap.size, off := 0 }) 1 1, Value.slice (some { block := wo.heap.size + 1, off := 0 }) 1 1] 39))
        have ht := Touch.onto (S := [.slice ob us.length cb]) hO3 (by simp)
        refine ⟨ho3, fun i hi => (hL1.onto hO3 i hi).1, hL.out.far, fun u hu => ?_, ?_, ?_⟩
        · obtain ⟨i, hi, rfl⟩ := List.getElem_of_mem hu
          exact (hL1.onto hO3 i hi).2
        · refine Rd.of_own (ht.own ((hx.alloc _).alloc _) fun s hs => ?_)
          rw [List.mem_singleton.1 hs]
          intro k k1 k2
          have := (hlb k k2).2
          simp [Value.ownBlock] at k1; omega
        · have e : (wo.alloc (.cells (vs [endS]).toArray 9)).heap.size = wo.heap.size + 1 := by simp
          rw [e] at hy
          refine Rd.of_own (ht.own (hy.alloc _) fun s hs => ?_)
          rw [List.mem_singleton.1 hs]
          intro k k1 k2
          have := (hlb k k2).2
          simp [Value.ownBlock] at k1; omega
      have hbf : Below w.heap.size w w3 := (((hb.out.alloc hs0 _).alloc (by simp; omega) _).alloc (by simp; omega) _).trans (hO3.below (by simp; omega) fun k hk => (hlb k hk).1)
      clear ho3 hO3 hx hy
      replace hfin := Lib.hid hfin; replace hbf := Lib.hid hbf
      go_wp2_with fail
      go_ret
      exact ⟨_, us, _, _, rfl, hun.out, hfin.out, hbf.out⟩
end Go.Proofs.YtefbogmgcihndaaDoor

namespace Go.Proofs.YtefbogmgcihndaaDoor
open Go.RowKit WP
attribute [local go_sem ↓] Go.wp_at_zero Go.wp_at_succ
theorem Rows.later {base : Nat} {w w' : World} {b x y : Value} {us : List Value} {C : Nat → List ByteArray} (h : Rows base w b us x y C) (hb : Below w.heap.size w w') : Rows base w' b us x y C :=
  ⟨own_below h.row hb, fun i hi => (h.lent i hi).later hb, h.far, h.off, h.x1.mono hb, h.y1.mono hb⟩
theorem ends_lit (W : World) : Rd (W.alloc (.cells #[Value.string { data := #[101, 110, 100] }, Value.string { data := #[101, 110, 100] }, Value.string { data := #[101, 110, 100] }, Value.string { data := #[101, 110, 100] }] 9)) (.slice (some ⟨W.heap.size, 0, none⟩) 4 4) (vs endsL) := Rd.of_own (own_lit W 0 9 (vs endsL) (Nat.zero_le _) (by decide))
theorem end_lit (W : World) : Rd (W.alloc (.cells #[Value.string { data := #[101, 110, 100] }] 9)) (.slice (some ⟨W.heap.size, 0, none⟩) 1 1) (vs [endS]) := Rd.of_own (own_lit W 0 9 (vs [endS]) (Nat.zero_le _) (by decide))
/-- the four marks behind a lent row -/
theorem RowLent.ends {base : Nat} {w : World} {u : Value} {c : List ByteArray} (h : RowLent base w u c) :
    ∃ g cap, u = .slice (some ⟨g, 0, none⟩) c.length cap ∧ c.length + 4 ≤ cap ∧ cap ≤ 9223372036854775807 ∧ Rd w u (vs c) ∧ Rd w (.slice (some ⟨g, c.length, none⟩) 4 (cap - c.length)) (vs endsL) := by
  have hr := Rd.of_own h.own
  obtain ⟨g, cap, rfl, ho⟩ := h
  have h1 := own_cap2 ho
  have h2 := own_capm ho
  refine ⟨g, cap, rfl, h1, h2, hr, ⟨_, _, rfl, by show 4 ≤ _; omega, by show _ ≤ 9223372036854775807; omega, .inr ⟨g, c.length, rfl, fun j u hu => ?_⟩⟩⟩
  have hj : j < 4 := (List.getElem?_eq_some_iff.1 hu).1
  have := ho.cellAt (c.length + j) (by omega)
  rw [this]
  unfold vs at hu ⊢
  rw [List.map_append, List.getElem?_append_right (by simp)]
  simpa using hu
set_option maxRecDepth 100000 in
set_option maxHeartbeats 4000000 in
theorem unchanged_any (b rv x y : Value) (us : List Value) (V : Nat → Value) (C : Nat → List ByteArray) (n base : Nat) (w : World) (hR : Rows base w b us x y C) (hn : us.length = n) (hG : Grid w rv V C n) (hM : ∀ i, i < n → (C i).length ≤ 1048576) (hN : n ≤ 1048576) :
    Calls Tryd.prog 41 #[b, rv] w fun e w' => e = .returned (.bool true) ∧ Below w.heap.size w w' := by
  obtain ⟨ao, ca, rfl, a1, a2, a3⟩ := hG.form
  obtain ⟨B, cb, rfl, k1, k2⟩ := hR.row.form (by omega)
  have hcb := own_cap2 hR.row
  have hcm := own_capm hR.row
  have hu : ∀ i (h : i < n), w.cell? ⟨B, i, none⟩ = some (us[i]'(by omega)) := fun i h => (hR.row.cellAt i (by omega)).trans (by rw [List.getElem?_append_left (by omega), List.getElem?_eq_getElem (by omega)])
  have hx : w.cell? ⟨B, n, none⟩ = some x := (hR.row.cellAt n (by omega)).trans (by rw [List.getElem?_append_right (by omega), hn, Nat.sub_self]; rfl)
  have hy : w.cell? ⟨B, n + 1, none⟩ = some y := (hR.row.cellAt (n + 1) (by omega)).trans (by rw [List.getElem?_append_right (by omega), hn, show n + 1 - n = 1 by omega]; rfl)
  obtain ⟨ox, cx, rfl, _, _, _⟩ := rd_strs hR.x1
  obtain ⟨oy, cy, rfl, _, _, _⟩ := rd_strs hR.y1
  rw [hn] at hcb ⊢
  replace hG := Lib.hid hG; replace hM := Lib.hid hM; replace a3 := Lib.hid a3; replace hR := Lib.hid hR; replace hu := Lib.hid hu; replace hx := Lib.hid hx; replace hy := Lib.hid hy; replace hn := Lib.hid hn
  go_enter Tryd.func41, Tryd.ntmps41
  go_wp2_with fail
  go_loopw [5, 6] (fun i _ wr => ∃ k : Nat, k ≤ n ∧ i = .int .i64 k ∧ Below w.heap.size w wr) (fun i _ _ => n - (intOf i).toNat)
  case atStart => exact ⟨0, by omega, rfl, Below.refl _ _⟩
  case round =>
    obtain ⟨wo, rfl⟩ : ∃ wo, wo = wr := ⟨wr, rfl⟩
    obtain ⟨k, hk, rfl, hb⟩ := hrel
    by_cases hlt : k < n
    · obtain ⟨bk, off, rfl, hc⟩ := a3.out k hlt
      have d0 := (hb.cell (p := ⟨bk, off + k, none⟩) (World.block_lt_of_cell? w _ hc)).trans hc
      have d1 := (hb.cell (p := ⟨B, k, none⟩) k2).trans (hu.out k hlt)
      obtain ⟨g, cap, hU, b1, b2, r1, r2⟩ := ((hR.out.lent k (by rw [hn.out]; exact hlt)).later hb).ends
      have r3 := (hG.out.row k hlt).mono hb
      have hCM := hM.out k hlt
      obtain ⟨ai, ci, hV, b3, b4, _⟩ := rd_strs r3
      rw [hU] at d1 r1
      rw [hV] at d0 r3
      obtain ⟨c, hc0⟩ : ∃ c, C k = c := ⟨_, rfl⟩
      rw [hc0] at d0 d1 r1 r2 r3 b1 b3 hCM
      clear hU hV hc0 hc
      have i1 : (0 : Int) ≤ (k : Int) := by omega
      have i2 : (k : Int) < (n : Int) := by omega
      have i3 : (k : Int) < (n : Int) + 2 := by omega
      have j1 : (0 : Int) ≤ (c.length : Int) := by omega
      have j2 : (c.length : Int) ≤ (c.length : Int) + 4 := by omega
      have j3 : (c.length : Int) + 4 ≤ (cap : Int) := by omega
      have j4 : IntKind.i64.wrap ((c.length : Int) + 4) = (c.length : Int) + 4 := by rw [IntKind.wrap_i64]; omega
      have j5 : (0 : Int) ≤ (c.length : Int) + 4 := by omega
      have j6 : ((c.length : Int) + 4).toNat = c.length + 4 := by omega
      have j7 : ¬ cap = c.length := by omega
      have hs := hb.size
      have hr1 : ∀ W, Below wo.heap.size wo W → Rd W (.slice (some ⟨g, 0, none⟩) c.length cap) (vs c) ∧ Rd W (.slice ai c.length ci) (vs c) ∧ Rd W (.slice (some ⟨g, c.length, none⟩) 4 (cap - c.length)) (vs endsL) := fun W hW => ⟨r1.mono hW, r3.mono hW, r2.mono hW⟩
      replace hr1 := Lib.hid hr1; replace hb := Lib.hid hb
      clear r1 r2 r3
      replace d0 := Lib.hid d0; replace d1 := Lib.hid d1
      have hSof : ∀ W, Below wo.heap.size wo W → W.cell? ⟨bk, off + k, none⟩ = some (.slice ai c.length ci) ∧ W.cell? ⟨B, k, none⟩ = some (.slice (some ⟨g, 0, none⟩) c.length cap) := fun W hW =>
        ⟨(hW.cell (World.block_lt_of_cell? wo _ d0.out)).trans d0.out, (hW.cell (World.block_lt_of_cell? wo _ d1.out)).trans d1.out⟩
      have d0' := d0.out
      have hBo : Below wo.heap.size wo wo := Below.refl _ _
      replace hSof := Lib.hid hSof
      go_upto_region 5 with fail
      go_region_held3 (fun w' => w'.cell? ⟨bk, off + k, none⟩ = some (.slice ai c.length ci) ∧ w'.cell? ⟨B, k, none⟩ = some (.slice (some ⟨g, 0, none⟩) c.length cap))
        (exact hSof.out _ (by first | with_reducible exact hBo | with_reducible exact hBo.drew | with_reducible exact hBo.alloc (by first | omega | (simp; omega)) _ | with_reducible exact hBo.drew.alloc (by first | omega | (simp; omega)) _))
        (first
          | (have hq := hs2
             clear hq
             go_at_call 42
             have hbA := hBo.alloc hs2 (.cells #[Value.string { data := #[101, 110, 100] }, Value.string { data := #[101, 110, 100] }, Value.string { data := #[101, 110, 100] }, Value.string { data := #[101, 110, 100] }] 9)
             refine (lsame_any _ _ endsL _ (hr1.out _ hbA).2.2 (ends_lit w2)).mono ?_
             rintro e w3 ⟨rfl, q3, h3⟩
             have hB3 := below_drewN hbA q3
             rw [← h3] at hB3
             replace hBo := hB3
             clear hbA
             clear h3 hB3)
          | (fail_if_success (have hq := hs2)
             go_at_call 42
             refine (lsame_any _ _ c _ (hr1.out _ (by first | with_reducible exact hBo | with_reducible exact hBo.drew)).1 (hr1.out _ (by first | with_reducible exact hBo | with_reducible exact hBo.drew)).2.1).mono ?_
             rintro e w2 ⟨rfl, q2, h2⟩
             replace hBo : Below wo.heap.size wo w2 := by rw [h2]; exact below_drewN (by first | with_reducible exact hBo | with_reducible exact hBo.drew) q2
             have hs2 := hBo.size
             clear h2))
      go_wp2_with fail
      go_roundw
      case rel => exact ⟨k + 1, by omega, by go_num, hb.out.trans (hBo.mono hs)⟩
      case measure => simp [intOf]; omega
    · obtain rfl : k = n := by omega
      have d1 := (hb.cell (p := ⟨B, k, none⟩) k2).trans hx.out
      have d2 := (hb.cell (p := ⟨B, k + 1, none⟩) k2).trans hy.out
      have r1 := hR.out.x1.mono hb
      have r2 := hR.out.y1.mono hb
      have hs := hb.size
      have i1 : (0 : Int) ≤ (k : Int) := by omega
      have i2 : (k : Int) < (k : Int) + 2 := by omega
      have i3 : (k : Int) + 1 < (k : Int) + 2 := by omega
      replace r1 := Lib.hid r1; replace r2 := Lib.hid r2
      clear hu hx hy hlt
      go_wp2_with fail
      refine (lsame_any _ _ [endS] _ (r1.out.mono ((Below.refl wo.heap.size wo).alloc (Nat.le_refl _) _)) (end_lit wo)).mono ?_
      rintro e w2 ⟨rfl, q2, h2⟩
      have hB2 := below_drewN ((Below.refl wo.heap.size wo).alloc (Nat.le_refl _) (.cells #[Value.string { data := #[101, 110, 100] }] 9)) q2
      rw [← h2] at hB2
      have d3 := (hB2.cell (p := ⟨B, k + 1, none⟩) (Nat.lt_of_lt_of_le k2 hs)).trans d2
      have hs2 := hB2.size
      clear h2
      replace hB2 := Lib.hid hB2
      go_wp2_with fail
      refine (lsame_any _ _ [endS] _ (r2.out.mono (hB2.out.alloc hs2 _)) (end_lit w2)).mono ?_
      rintro e w3 ⟨rfl, q3, h3⟩
      have hB3 := below_drewN (hB2.out.alloc hs2 (.cells #[Value.string { data := #[101, 110, 100] }] 9)) q3
      rw [← h3] at hB3
      clear h3
      replace hB3 := Lib.hid hB3
      go_wp2_with fail
      go_ret
      exact ⟨rfl, hb.trans (hB3.out.mono hs)⟩
end Go.Proofs.YtefbogmgcihndaaDoor

namespace Go.Proofs.YtefbogmgcihndaaDoor
/-- a line without the blanks at its end -/
def trimR (l : List UInt8) : List UInt8 := (l.reverse.dropWhile (· == 32)).reverse
theorem trimR_nil : trimR [] = [] := rfl
theorem trimR_blank (l : List UInt8) : trimR (l ++ [32]) = trimR l := by unfold trimR; rw [List.reverse_append]; rfl
theorem trimR_other (l : List UInt8) (x : UInt8) (h : x ≠ 32) : trimR (l ++ [x]) = l ++ [x] := by
  unfold trimR
  rw [List.reverse_append, List.reverse_singleton, List.singleton_append, List.dropWhile_cons, if_neg (by simpa using h)]
  simp
theorem trimR_len (l : List UInt8) : (trimR l).length ≤ l.length := by
  unfold trimR
  rw [List.length_reverse]
  have := (List.dropWhile_sublist (fun x : UInt8 => x == 32) (l := l.reverse)).length_le
  rwa [List.length_reverse] at this
def textG (V : List Nat) (C : Nat → List ByteArray) : Nat → List UInt8
  | 0 => []
  | k + 1 => textG V C k ++ trimR (padK V (C k) (C k).length) ++ [10]
theorem textG_len (V : List Nat) (C : Nat → List ByteArray) : ∀ k, (textG V C k).length ≤ (textK V C k).length
  | 0 => Nat.le_refl _
  | k + 1 => by
    have ih := textG_len V C k
    have := trimR_len (padK V (C k) (C k).length)
    simp only [textG, textK, List.length_append]; omega
theorem snoc_form (l : List UInt8) (h : l ≠ []) : ∃ a x, l = a ++ [x] := ⟨l.dropLast, l.getLast h, (List.dropLast_concat_getLast h).symm⟩
end Go.Proofs.YtefbogmgcihndaaDoor
