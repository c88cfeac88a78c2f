/- The contract of wardenref16's Parse. -/
import Derived.Test.YtemanjahkohcpaaDoorRQuoJn
namespace Go.Proofs.YtemanjahkohcpaaDoor
open Go.RowKit WP
theorem info55 : (Tryd.prog.info? 55).map (·.size) = some 24 := by kernel_rfl
theorem built55 (a b c : List UInt32) (la : a.length = 8) (lb : b.length = 8) (lc : c.length = 8) : Tryd.prog.built 55 [(0, .agg (vw a).toArray), (1, .agg (vw b).toArray), (2, .agg (vw c).toArray)] = some (vw a ++ vw b ++ vw c).toArray := by
  rw [quote_lit a b c la lb lc, vw_lit8 a la, vw_lit8 b lb, vw_lit8 c lc]
  kernel_rfl
theorem wpList_built {P : Program} {ops : Array Oper} {rest : List Oper} {o : Oper} {a : Act} {w : World} {Q : Exit → Act → World → Prop} (hg : o.guard = none) (t : TypeId) (parts : Array (Nat × Operand)) (ho : o.op = .build t parts) (cells : Array Value)
    (hf : P.built t (parts.map fun (i, x) => (i, a.eval x)).toList = some cells)
    (h : wpList P ops Q rest (a.put o.dst (.agg cells)) w) : wpList P ops Q (o :: rest) a w :=
  wpList_build hg t parts ho (by rw [hf]; rfl) (by rw [hf]; exact h)
theorem reight_b (s : ByteArray) (w : World) (h8 : s.size % 8 = 0) (hs : s.size ≤ 2097152) :
    Calls Tryd.prog 42 #[.string s] w fun e w' => Below w.heap.size w w' ∧ ∃ (l : List UInt32) (b : Bool), l.length = 8 ∧ (b = true → hexAllL l = strL s) ∧ (b = false → NoWords s) ∧ e = .returned (.tuple #[.agg (vw l).toArray, .bool b]) := by
  refine (reight_any s w h8 hs).mono ?_
  rintro e w' ⟨hb, ⟨l, h1, h2, rfl⟩ | ⟨hn, rfl⟩⟩
  · exact ⟨hb, l, true, h1, fun _ => h2, fun h => (Bool.noConfusion h), rfl⟩
  · exact ⟨hb, _, false, by simp, fun h => (Bool.noConfusion h), fun _ => hn, rfl⟩
set_option maxRecDepth 100000 in
set_option maxHeartbeats 1000000 in
theorem rparse_any (s : ByteArray) (w : World) (hs : s.size ≤ 2097152) :
    Calls Tryd.prog 23 #[.string s] w fun e w' => Below w.heap.size w w' ∧
      ((∃ me da tg : List UInt32, me.length = 8 ∧ da.length = 8 ∧ tg.length = 8 ∧ fmtL me da tg = strL s ∧ e = .returned (.tuple #[.agg (vw me ++ vw da ++ vw tg).toArray, .int .i64 0])) ∨ (NoQuote s ∧ e = .returned (.tuple #[.agg zero24.toArray, .int .i64 160]))) := by
  obtain ⟨w1, hw1⟩ : ∃ w1, w.alloc (.cells zero24.toArray 55) = w1 := ⟨_, rfl⟩
  have hR1 : w1.heap[w.heap.size]? = some (.cells zero24.toArray 55) := by rw [← hw1]; exact heap_alloc_new w _
  have hb1 : Below w.heap.size w w1 := by rw [← hw1]; exact (Below.refl _ _).alloc (Nat.le_refl _) _
  have z0 : ∀ k, (cutR s k).size % 8 = 0 ∧ (cutR s k).size ≤ 2097152 := fun k => by have := cutR_size s k; omega
  obtain ⟨c0, h0⟩ : ∃ c, cutR s 20 = c := ⟨_, rfl⟩
  obtain ⟨c1, h1⟩ : ∃ c, cutR s 90 = c := ⟨_, rfl⟩
  obtain ⟨c2, h2⟩ : ∃ c, cutR s 159 = c := ⟨_, rfl⟩
  have y0 := z0 20; have y1 := z0 90; have y2 := z0 159
  have hN := noQuote_part s
  have hO := noQuote_other s
  rw [h0] at y0 hN hO; rw [h1] at y1 hN hO; rw [h2] at y2 hN hO
  clear z0
  replace hR1 := Lib.hid hR1; replace hb1 := Lib.hid hb1; replace h0 := Lib.hid h0; replace h1 := Lib.hid h1; replace h2 := Lib.hid h2; replace hN := Lib.hid hN; replace hO := Lib.hid hO; replace y0 := Lib.hid y0; replace y1 := Lib.hid y1; replace y2 := Lib.hid y2
  go_enter Tryd.func23, Tryd.ntmps23
  go_upto_region 1 with fail
  try (change Code.wp _ _ _ _ (w.alloc (.cells zero24.toArray 55)); rw [hw1])
  clear hw1
  go_wp2_with fail
  refine (rcut_any s 20 _ hs (by omega)).mono ?_
  rintro e w1' ⟨rfl, rfl⟩
  rw [h0.out]
  go_wp2_with fail
  refine (reight_b c0 _ y0.out.1 y0.out.2).mono ?_
  rintro e w2 ⟨b2, l0, t0, e0, p0, n0, rfl⟩
  have hb2 := hb1.out.trans (b2.mono hb1.out.size)
  have hR2 := (b2.block _ (Array.getElem?_eq_some_iff.1 hR1.out).1).trans hR1.out
  have a2 : Arr (w2.alloc (.cells (vw (List.replicate 8 0)).toArray 23)) w2.heap.size 23 (List.replicate 8 0) := Arr.new _ _ _
  clear b2 hb1 hR1
  replace hb2 := Lib.hid hb2; replace hR2 := Lib.hid hR2; replace a2 := Lib.hid a2; replace p0 := Lib.hid p0; replace n0 := Lib.hid n0
  go_wp2_with (refine wpList_store_arr rfl 23 _ _ rfl w2.heap.size rfl l0 (by rfl) a2.out info23 (by simp) e0 ?_; intro w3 A3 g3; have b3 := below_new g3; have hb3 := hb2.out.trans (b3.mono hb2.out.size); have hR3 := (b3.block _ (Array.getElem?_eq_some_iff.1 hR2.out).1).trans hR2.out; clear g3 b3; replace hb3 := Lib.hid hb3; replace hR3 := Lib.hid hR3; replace A3 := Lib.hid A3)
  refine (rcut_any s 90 _ hs (by omega)).mono ?_
  rintro e w1' ⟨rfl, hwx⟩
  obtain rfl := hwx.symm
  rw [h1.out]
  go_wp2_with fail
  refine (reight_b c1 _ y1.out.1 y1.out.2).mono ?_
  rintro e w4 ⟨bb, l1, t1, e1, p1, n1, rfl⟩
  have hb4 := hb3.out.trans (bb.mono hb3.out.size)
  have hR4 := (bb.block _ (Array.getElem?_eq_some_iff.1 hR3.out).1).trans hR3.out
  have BA3 := A3.out.below bb
  have a4 : Arr (w4.alloc (.cells (vw (List.replicate 8 0)).toArray 23)) w4.heap.size 23 (List.replicate 8 0) := Arr.new _ _ _
  clear bb hb3 hR3 A3
  replace hb4 := Lib.hid hb4; replace hR4 := Lib.hid hR4; replace a4 := Lib.hid a4; replace p1 := Lib.hid p1; replace n1 := Lib.hid n1; replace BA3 := Lib.hid BA3
  go_wp2_with (refine wpList_store_arr rfl 23 _ _ rfl w4.heap.size rfl l1 (by rfl) a4.out info23 (by simp) e1 ?_; intro w5 A5 g3; have b3 := below_new g3; have hb5 := hb4.out.trans (b3.mono hb4.out.size); have hR5 := (b3.block _ (Array.getElem?_eq_some_iff.1 hR4.out).1).trans hR4.out; have CA3 := BA3.out.below b3; clear g3 b3; replace hb5 := Lib.hid hb5; replace hR5 := Lib.hid hR5; replace A5 := Lib.hid A5; replace CA3 := Lib.hid CA3)
  refine (rcut_any s 159 _ hs (by omega)).mono ?_
  rintro e w1' ⟨rfl, hwx⟩
  obtain rfl := hwx.symm
  rw [h2.out]
  go_wp2_with fail
  refine (reight_b c2 _ y2.out.1 y2.out.2).mono ?_
  rintro e w6 ⟨bb, l2, t2, e2, p2, n2, rfl⟩
  have hb6 := hb5.out.trans (bb.mono hb5.out.size)
  have hR6 := (bb.block _ (Array.getElem?_eq_some_iff.1 hR5.out).1).trans hR5.out
  have BA5 := A5.out.below bb
  have BCA3 := CA3.out.below bb
  have a6 : Arr (w6.alloc (.cells (vw (List.replicate 8 0)).toArray 23)) w6.heap.size 23 (List.replicate 8 0) := Arr.new _ _ _
  clear bb hb5 hR5 A5 CA3
  replace hb6 := Lib.hid hb6; replace hR6 := Lib.hid hR6; replace a6 := Lib.hid a6; replace p2 := Lib.hid p2; replace n2 := Lib.hid n2; replace BA5 := Lib.hid BA5; replace BCA3 := Lib.hid BCA3
  obtain ⟨qc, hqc⟩ : ∃ qc, vw l0 ++ vw l1 ++ vw l2 = qc := ⟨_, rfl⟩
  have hbu := built55 l0 l1 l2 e0 e1 e2
  have lq : qc.length = 24 := by rw [← hqc]; simp [e0, e1, e2]
  have oq : ∀ u ∈ qc, u.oneCell' = true := by rw [← hqc]; exact quote_one l0 l1 l2
  rw [hqc] at hbu
  replace hqc := Lib.hid hqc; replace hbu := Lib.hid hbu; replace lq := Lib.hid lq; replace oq := Lib.hid oq
  go_upto_region 5 with (first
    | (refine wpList_store_arr rfl 23 _ _ rfl w6.heap.size rfl l2 (by rfl) a6.out info23 (by simp) e2 ?_; intro w7 A7 g3; have b3 := below_new g3; have hb7 := hb6.out.trans (b3.mono hb6.out.size); have hR7 := (b3.block _ (Array.getElem?_eq_some_iff.1 hR6.out).1).trans hR6.out; have CA5 := BA5.out.below b3; have CCA3 := BCA3.out.below b3; clear g3 b3; replace hb7 := Lib.hid hb7; replace hR7 := Lib.hid hR7; replace A7 := Lib.hid A7; replace CA5 := Lib.hid CA5; replace CCA3 := Lib.hid CCA3)
    | (refine wpList_load_arr rfl 23 _ rfl w2.heap.size rfl CCA3.out Tryd.underlying23 info23 e0 ?_)
    | (refine wpList_load_arr rfl 23 _ rfl w4.heap.size rfl CA5.out Tryd.underlying23 info23 e1 ?_)
    | (refine wpList_load_arr rfl 23 _ rfl w6.heap.size rfl A7.out Tryd.underlying23 info23 e2 ?_)
    | (refine wpList_built rfl 55 _ rfl qc.toArray (by simp only [List.map_toArray, List.map_cons, List.map_nil]; exact hbu.out) ?_)
    | (refine wpList_store_blk rfl 55 _ _ rfl w7.heap.size qc rfl rfl 55 _ (heap_alloc_new _ _) (by rw [lq.out]; exact info55) (by rw [lq.out]; rfl) oq.out ?_; intro w8 hQ8 g8; have b8 := below_new g8; have hb8 := hb7.out.trans (b8.mono hb7.out.size); have hR8 := (b8.block _ (Array.getElem?_eq_some_iff.1 hR7.out).1).trans hR7.out; clear g8 b8; replace hb8 := Lib.hid hb8; replace hR8 := Lib.hid hR8; replace hQ8 := Lib.hid hQ8))
  have hfm : ∀ w', Calls Tryd.prog 24 #[.agg qc.toArray] w' fun e w2 => e = .returned (.string ⟨(fmtL l0 l1 l2).toArray⟩) ∧ Below w'.heap.size w' w2 := fun w' => by
    have := rformat_any l0 l1 l2 w' e0 e1 e2
    rw [hqc.out] at this
    exact this
  obtain ⟨F, hF⟩ : ∃ F : ByteArray, ⟨(fmtL l0 l1 l2).toArray⟩ = F := ⟨_, rfl⟩
  rw [hF] at hfm
  have hFs : strL F = fmtL l0 l1 l2 := by rw [← hF]; unfold strL; simp
  replace hfm := Lib.hid hfm; replace hF := Lib.hid hF; replace hFs := Lib.hid hFs
  clear hR2 a2 hb2 w1'
  cases t0 with
  | false =>
    have hNQ := Lib.hid (hN.out (.inl (n0.out rfl)))
    go_wp2_with (first
      | (refine wpList_load_mid rfl 55 _ rfl w7.heap.size 0 rfl qc _ (range_block hQ8.out) Tryd.underlying55 rfl (by rw [lq.out]; exact info55) ?_)
      | (refine wpList_store_blk rfl 55 _ _ rfl w.heap.size zero24 rfl rfl 55 _ hR8.out info55 (by rfl) zero24_one ?_; intro w9 h9 g9))
    refine bodyPost_ret (results_two rfl rfl rfl (range_block h9) Tryd.underlying55 rfl info55) rfl ⟨hb8.out.grown g9 hb8.out.size (by simp), .inr ⟨hNQ.out, rfl⟩⟩
  | true =>
    cases t1 with
    | false =>
      have hNQ := Lib.hid (hN.out (.inr (.inl (n1.out rfl))))
      go_wp2_with (first
        | (refine wpList_load_mid rfl 55 _ rfl w7.heap.size 0 rfl qc _ (range_block hQ8.out) Tryd.underlying55 rfl (by rw [lq.out]; exact info55) ?_)
        | (refine wpList_store_blk rfl 55 _ _ rfl w.heap.size zero24 rfl rfl 55 _ hR8.out info55 (by rfl) zero24_one ?_; intro w9 h9 g9))
      refine bodyPost_ret (results_two rfl rfl rfl (range_block h9) Tryd.underlying55 rfl info55) rfl ⟨hb8.out.grown g9 hb8.out.size (by simp), .inr ⟨hNQ.out, rfl⟩⟩
    | true =>
      cases t2 with
      | false =>
        have hNQ := Lib.hid (hN.out (.inr (.inr (n2.out rfl))))
        go_wp2_with (first
          | (refine wpList_load_mid rfl 55 _ rfl w7.heap.size 0 rfl qc _ (range_block hQ8.out) Tryd.underlying55 rfl (by rw [lq.out]; exact info55) ?_)
          | (refine wpList_store_blk rfl 55 _ _ rfl w.heap.size zero24 rfl rfl 55 _ hR8.out info55 (by rfl) zero24_one ?_; intro w9 h9 g9))
        refine bodyPost_ret (results_two rfl rfl rfl (range_block h9) Tryd.underlying55 rfl info55) rfl ⟨hb8.out.grown g9 hb8.out.size (by simp), .inr ⟨hNQ.out, rfl⟩⟩
      | true =>
        go_wp2_with (refine wpList_load_mid_g (by rfl) 55 _ rfl w7.heap.size 0 rfl qc _ (range_block hQ8.out) Tryd.underlying55 rfl (by rw [lq.out]; exact info55) ?_)
        refine (hfm.out _).mono ?_
        rintro e w9 ⟨rfl, b9⟩
        have hb9 := hb8.out.trans (b9.mono hb8.out.size)
        have hR9 := (b9.block _ (Array.getElem?_eq_some_iff.1 hR8.out).1).trans hR8.out
        have hQ9 := (b9.block _ (Array.getElem?_eq_some_iff.1 hQ8.out).1).trans hQ8.out
        clear b9 hb8 hR8 hQ8
        replace hb9 := Lib.hid hb9; replace hR9 := Lib.hid hR9; replace hQ9 := Lib.hid hQ9
        by_cases hq : F = s
        · subst hq
          go_wp2_with (first
            | (refine wpList_load_mid rfl 55 _ rfl w7.heap.size 0 rfl qc _ (range_block hQ9.out) Tryd.underlying55 rfl (by rw [lq.out]; exact info55) ?_)
            | (refine wpList_store_blk rfl 55 _ _ rfl w.heap.size qc rfl rfl 55 _ hR9.out (by rw [lq.out]; exact info55) (by rw [lq.out]; rfl) oq.out ?_; intro wa ha ga))
          refine bodyPost_ret (results_two rfl rfl rfl (range_block ha) Tryd.underlying55 rfl (by rw [lq.out]; exact info55)) rfl ⟨hb9.out.grown ga hb9.out.size (by simp), .inl ⟨l0, l1, l2, e0, e1, e2, hFs.out.symm, by rw [hqc.out]; rfl⟩⟩
        · have hqs : ¬ strL F = strL s := fun h => hq (by unfold strL at h; exact ByteArray.ext (Array.toList_inj.1 h))
          have hqd : (F.toList == s.toList) = false := by rw [toList_eq_iff]; simp [hqs]
          have hNQ := Lib.hid (hO.out l0 l1 l2 (p0.out (by simp)) (p1.out (by simp)) (p2.out (by simp)) (fun h => hqs (hFs.out.trans h)))
          clear hqs
          go_wp2_with (refine wpList_store_blk rfl 55 _ _ rfl w.heap.size zero24 rfl rfl 55 _ hR9.out info55 (by rfl) zero24_one ?_; intro wa ha ga)
          refine bodyPost_ret (results_two rfl rfl rfl (range_block ha) Tryd.underlying55 rfl info55) rfl ⟨hb9.out.grown ga hb9.out.size (by simp), .inr ⟨hNQ.out, rfl⟩⟩
end Go.Proofs.YtemanjahkohcpaaDoor
