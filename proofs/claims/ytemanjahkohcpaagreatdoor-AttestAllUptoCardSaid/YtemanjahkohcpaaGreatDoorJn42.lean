/- The contract of the reference's Judge. The contract of wardenref16's Parse. The walk of AttestJudges. -/
import Derived.Test.YtemanjahkohcpaaGreatDoorJn19
import Derived.Test.YtemanjahkohcpaaGreatDoorJn10
import Derived.Test.YtemanjahkohcpaaGreatDoorRAttJn
import Derived.Test.YtemanjahkohcpaaGreatDoorJn31
namespace Go.Proofs.YtemanjahkohcpaaGreatDoor
open Go.RowKit WP
theorem infoRPo : (Tryz.prog.info? 36).map (·.size) = some 2 := by kernel_rfl
set_option maxRecDepth 100000 in
set_option maxHeartbeats 2000000 in
theorem rjudge_any (KL key : List UInt32) (rs : List RuleD) (other : Bool) (me da tg nc : List UInt32) (v : Value) (w : World) (hK : RoundsR w KL) (hr : Rules w v rs) (lk : key.length = 8) (lm : me.length = 8) (ld : da.length = 8) (lt : tg.length = 8) (ln : nc.length = 8) :
    Calls Tryz.prog 43 #[.agg (vw key).toArray, .agg #[v, .bool other], .agg (vw me ++ vw da ++ vw tg).toArray, .agg (vw nc).toArray] w fun e w' => e = .returned (.tuple #[.string (jF KL key rs other me da tg nc).1, .int .i64 (jF KL key rs other me da tg nc).2]) ∧ Below w.heap.size w w' := by
  obtain ⟨qc, hqc⟩ : ∃ qc, vw me ++ vw da ++ vw tg = qc := ⟨_, rfl⟩
  rw [hqc]
  obtain ⟨w1, hw1⟩ : ∃ w1, (((w.alloc (.cells (vw key).toArray 26)).alloc (.cells #[v, .bool other] 36)).alloc (.cells qc.toArray 105)).alloc (.cells (vw nc).toArray 26) = w1 := ⟨_, rfl⟩
  have aK : Arr w1 w.heap.size 26 key := by rw [← hw1]; exact (((Arr.new w _ key).alloc _).alloc _).alloc _
  have hP : w1.heap[w.heap.size + 1]? = some (.cells #[v, .bool other] 36) := by
    rw [← hw1, heap_alloc_old _ _ (by simp), heap_alloc_old _ _ (by simp)]
    have := heap_alloc_new (w.alloc (.cells (vw key).toArray 26)) (.cells #[v, .bool other] 36)
    simpa using this
  have hQ : w1.heap[w.heap.size + 1 + 1]? = some (.cells qc.toArray 105) := by
    rw [← hw1, heap_alloc_old _ _ (by simp)]
    have := heap_alloc_new ((w.alloc (.cells (vw key).toArray 26)).alloc (.cells #[v, .bool other] 36)) (.cells qc.toArray 105)
    simpa using this
  have aN : Arr w1 (w.heap.size + 1 + 1 + 1) 26 nc := by
    rw [← hw1]
    have := Arr.new (((w.alloc (.cells (vw key).toArray 26)).alloc (.cells #[v, .bool other] 36)).alloc (.cells qc.toArray 105)) 26 nc
    simpa using this
  have hb1 : Below w.heap.size w w1 := by rw [← hw1]; exact ((((Below.refl _ _).alloc (Nat.le_refl _) _).alloc (by simp) _).alloc (by simp; omega) _).alloc (by simp; omega) _
  have hK1 := hK.below hb1
  have hr1 := hr.below hb1
  have rP : w1.rangeAt (w.heap.size + 1) 0 [v, .bool other] := range_block hP
  obtain ⟨q0, q1, q2⟩ := range_three (by rw [hqc]; exact range_block hQ : w1.rangeAt (w.heap.size + 1 + 1) 0 (vw me ++ vw da ++ vw tg))
  rw [length_vw, lm, Nat.zero_add] at q1 q2
  rw [length_vw, ld] at q2
  have lP := (Array.getElem?_eq_some_iff.1 hP).1
  have lQ := (Array.getElem?_eq_some_iff.1 hQ).1
  clear hP hQ hK hr hqc
  replace aK := Lib.hid aK; replace aN := Lib.hid aN; replace hb1 := Lib.hid hb1; replace hK1 := Lib.hid hK1; replace hr1 := Lib.hid hr1; replace rP := Lib.hid rP; replace q0 := Lib.hid q0; replace q1 := Lib.hid q1; replace q2 := Lib.hid q2
  go_enter Tryz.func43, Tryz.ntmps43
  go_upto_region 1 with fail
  clear hw1
  go_wp2_with (first
    | (refine wpList_load_arr rfl 26 _ rfl w.heap.size rfl aK.out Tryz.underlying26 info23 lk ?_)
    | (refine wpList_load_mid rfl 26 _ rfl (w.heap.size + 1 + 1) 0 rfl (vw me) _ q0.out Tryz.underlying26 rfl (by rw [length_vw, lm]; exact info23) ?_)
    | (refine wpList_load_mid rfl 26 _ rfl (w.heap.size + 1 + 1) 8 rfl (vw da) _ q1.out Tryz.underlying26 rfl (by rw [length_vw, ld]; exact info23) ?_)
    | (refine wpList_load_mid rfl 26 _ rfl (w.heap.size + 1 + 1) 16 rfl (vw tg) _ q2.out Tryz.underlying26 rfl (by rw [length_vw, lt]; exact info23) ?_))
  refine (rverify_any KL key me da tg _ hK1.out lk lm ld lt).mono ?_
  rintro e w2 ⟨rfl, b2⟩
  have hb2 := hb1.out.trans (b2.mono hb1.out.size)
  have aN2 := aN.out.below b2
  have hr2 := hr1.out.below b2
  have rP2 := rangeAt_kept rP.out (b2.block _ lP)
  have q02 := rangeAt_kept q0.out (b2.block _ lQ)
  have q12 := rangeAt_kept q1.out (b2.block _ lQ)
  clear b2 hb1 aN hr1 rP q0 q1 q2 aK hK1
  replace aN2 := Lib.hid aN2; replace hb2 := Lib.hid hb2; replace hr2 := Lib.hid hr2; replace rP2 := Lib.hid rP2; replace q02 := Lib.hid q02; replace q12 := Lib.hid q12
  by_cases h1 : attF KL key me da = tg
  · rw [decide_eq_true h1]
    by_cases h2 : da = nc
    · have hE : ∀ w' : World, (Op.equalIn 10000 26 (.agg (vw da).toArray) (.agg (vw nc).toArray)).run Tryz.prog w' = .ok true w' := fun w' => by
        rw [eq_words da nc w' ld ln, decide_eq_true h2]
      obtain ⟨ok, nm, hD⟩ : ∃ ok nm, decF rs other me = (ok, nm) := ⟨_, _, rfl⟩
      have hJ : jF KL key rs other me da tg nc = if ok = true then (nm, 0) else (⟨#[]⟩, 164) := by unfold jF; rw [if_pos h1, if_pos h2, hD]
      replace hJ := Lib.hid hJ; replace h1 := Lib.hid h1; replace h2 := Lib.hid h2; replace hD := Lib.hid hD
      go_wp2_with (first
        | (refine wpList_load_arr rfl 26 _ rfl (w.heap.size + 1 + 1 + 1) rfl aN2.out Tryz.underlying26 info23 ln ?_)
        | (refine wpList_load_mid rfl 26 _ rfl (w.heap.size + 1 + 1) 8 rfl (vw da) _ q12.out Tryz.underlying26 rfl (by rw [length_vw, ld]; exact info23) ?_)
        | (refine wpList_load_mid rfl 26 _ rfl (w.heap.size + 1 + 1) 0 rfl (vw me) _ q02.out Tryz.underlying26 rfl (by rw [length_vw, lm]; exact info23) ?_)
        | (refine wpList_load_mid rfl 36 _ rfl (w.heap.size + 1) 0 rfl [v, .bool other] _ rP2.out Tryz.underlying36 rfl (by exact infoRPo) ?_))
      refine (rdecide_any rs other me v _ hr2.out lm).mono ?_
      rintro e w3 ⟨rfl, b3⟩
      have hb3 := Lib.hid (hb2.out.trans (b3.mono hb2.out.size))
      rw [hD.out]
      clear b3
      cases ok with
      | true =>
        go_wp2_with fail
        go_ret2
        exact ⟨by rw [hJ.out]; rfl, hb3.out⟩
      | false =>
        go_wp2_with fail
        go_ret2
        exact ⟨by rw [hJ.out]; rfl, hb3.out⟩
    · have hE : ∀ w' : World, (Op.equalIn 10000 26 (.agg (vw da).toArray) (.agg (vw nc).toArray)).run Tryz.prog w' = .ok false w' := fun w' => by
        rw [eq_words da nc w' ld ln, decide_eq_false h2]
      have hJ : jF KL key rs other me da tg nc = (⟨#[]⟩, 163) := by unfold jF; rw [if_pos h1, if_neg h2]
      replace hJ := Lib.hid hJ; replace h1 := Lib.hid h1; replace h2 := Lib.hid h2
      go_wp2_with (first
        | (refine wpList_load_arr rfl 26 _ rfl (w.heap.size + 1 + 1 + 1) rfl aN2.out Tryz.underlying26 info23 ln ?_)
        | (refine wpList_load_mid rfl 26 _ rfl (w.heap.size + 1 + 1) 8 rfl (vw da) _ q12.out Tryz.underlying26 rfl (by rw [length_vw, ld]; exact info23) ?_))
      go_ret2
      exact ⟨by rw [hJ.out]; rfl, hb2.out⟩
  · rw [decide_eq_false h1]
    have hJ : jF KL key rs other me da tg nc = (⟨#[]⟩, 162) := by unfold jF; rw [if_neg h1]
    replace hJ := Lib.hid hJ; replace h1 := Lib.hid h1
    go_wp2_with fail
    go_ret2
    exact ⟨by rw [hJ.out]; rfl, hb2.out⟩
end Go.Proofs.YtemanjahkohcpaaGreatDoor

namespace Go.Proofs.YtemanjahkohcpaaGreatDoor
open Go.RowKit WP
theorem info55 : (Tryz.prog.info? 105).map (·.size) = some 24 := by kernel_rfl
theorem built55 (a b c : List UInt32) (la : a.length = 8) (lb : b.length = 8) (lc : c.length = 8) : Tryz.prog.built 105 [(0, .agg (vw a).toArray), (1, .agg (vw b).toArray), (2, .agg (vw c).toArray)] = some (vw a ++ vw b ++ vw c).toArray := by
  rw [quote_lit a b c la lb lc, vw_lit8 a la, vw_lit8 b lb, vw_lit8 c lc]
  kernel_rfl
theorem wpList_built {P : Program} {ops : Array Oper} {rest : List Oper} {o : Oper} {a : Act} {w : World} {Q : Exit → Act → World → Prop} (hg : o.guard = none) (t : TypeId) (parts : Array (Nat × Operand)) (ho : o.op = .build t parts) (cells : Array Value)
    (hf : P.built t (parts.map fun (i, x) => (i, a.eval x)).toList = some cells)
    (h : wpList P ops Q rest (a.put o.dst (.agg cells)) w) : wpList P ops Q (o :: rest) a w :=
  wpList_build hg t parts ho (by rw [hf]; rfl) (by rw [hf]; exact h)
theorem reight_b (s : ByteArray) (w : World) (h8 : s.size % 8 = 0) (hs : s.size ≤ 2097152) :
    Calls Tryz.prog 33 #[.string s] w fun e w' => Below w.heap.size w w' ∧ ∃ (l : List UInt32) (b : Bool), l.length = 8 ∧ (b = true → hexAllL l = strL s) ∧ (b = false → NoWords s) ∧ e = .returned (.tuple #[.agg (vw l).toArray, .bool b]) := by
  refine (reight_any s w h8 hs).mono ?_
  rintro e w' ⟨hb, ⟨l, h1, h2, rfl⟩ | ⟨hn, rfl⟩⟩
  · exact ⟨hb, l, true, h1, fun _ => h2, fun h => (Bool.noConfusion h), rfl⟩
  · exact ⟨hb, _, false, by simp, fun h => (Bool.noConfusion h), fun _ => hn, rfl⟩
end Go.Proofs.YtemanjahkohcpaaGreatDoor

namespace Go.Proofs.YtemanjahkohcpaaGreatDoor
open Go.RowKit WP
theorem btrans {A B : Nat} {w w1 w2 : World} (h : Below A w w1) (h2 : Below B w1 w2) (hAB : A ≤ B) : Below A w w2 := h.trans (h2.mono hAB)
/-- the memory that came in, boxed: the policy at g, the claim behind it -/
structure Came (w : World) (g : Nat) (v : Value) (rs : List RuleD) (other : Bool) (KL sd nc me da tg : List UInt32) (right same : Bool) : Prop where
  lt : g + 1 < w.heap.size
  pol : w.rangeAt g 0 [v, .bool other]
  p0 : w.cell? ⟨g, 0, none⟩ = some v
  p1 : w.cell? ⟨g, 1, none⟩ = some (.bool other)
  seed : w.rangeAt (g + 1) 0 (vw sd)
  nonce : w.rangeAt (g + 1) 8 (vw nc)
  quote : w.rangeAt (g + 1) 16 (vw me ++ vw da ++ vw tg)
  right : w.cell? ⟨g + 1, 40, none⟩ = some (.bool right)
  same : w.cell? ⟨g + 1, 41, none⟩ = some (.bool same)
  rules : Rules w v rs
  rounds : Rounds w KL
theorem Came.below {w w' : World} {g : Nat} {v : Value} {rs : List RuleD} {other : Bool} {KL sd nc me da tg : List UInt32} {right same : Bool} (h : Came w g v rs other KL sd nc me da tg right same) (hb : Below w.heap.size w w') : Came w' g v rs other KL sd nc me da tg right same := by
  have e0 := hb.block g (by have := h.lt; omega)
  have e1 := hb.block (g + 1) h.lt
  exact ⟨Nat.lt_of_lt_of_le h.lt hb.size, rangeAt_kept h.pol e0, by rw [cell_kept e0]; exact h.p0, by rw [cell_kept e0]; exact h.p1, rangeAt_kept h.seed e1, rangeAt_kept h.nonce e1, rangeAt_kept h.quote e1, by rw [cell_kept e1]; exact h.right, by rw [cell_kept e1]; exact h.same, h.rules.below hb, h.rounds.below hb⟩
theorem came_new (w : World) (v : Value) (rs : List RuleD) (other : Bool) (KL sd nc me da tg : List UInt32) (right same : Bool) (t1 t2 : TypeId) (hr : Rules w v rs) (hK : Rounds w KL) (ls : sd.length = 8) (ln : nc.length = 8) (lm : me.length = 8) (ld : da.length = 8) (lt : tg.length = 8) :
    Came ((w.alloc (.cells #[v, .bool other] t1)).alloc (.cells (vw sd ++ vw nc ++ (vw me ++ vw da ++ vw tg) ++ [Value.bool right, Value.bool same]).toArray t2)) w.heap.size v rs other KL sd nc me da tg right same := by
  obtain ⟨w1, hw1⟩ : ∃ w1, (w.alloc (.cells #[v, .bool other] t1)).alloc (.cells (vw sd ++ vw nc ++ (vw me ++ vw da ++ vw tg) ++ [Value.bool right, Value.bool same]).toArray t2) = w1 := ⟨_, rfl⟩
  have hP : w1.heap[w.heap.size]? = some (.cells #[v, .bool other] t1) := by
    rw [← hw1, heap_alloc_old _ _ (by simp)]; exact heap_alloc_new w _
  have hC : w1.heap[w.heap.size + 1]? = some (.cells (vw sd ++ vw nc ++ (vw me ++ vw da ++ vw tg) ++ [Value.bool right, Value.bool same]).toArray t2) := by
    rw [← hw1]
    have := heap_alloc_new (w.alloc (.cells #[v, .bool other] t1)) (.cells (vw sd ++ vw nc ++ (vw me ++ vw da ++ vw tg) ++ [Value.bool right, Value.bool same]).toArray t2)
    simpa using this
  have hb1 : Below w.heap.size w w1 := by rw [← hw1]; exact ((Below.refl _ _).alloc (Nat.le_refl _) _).alloc (by simp) _
  rw [hw1]
  have hr0 := range_block hC
  rw [List.append_assoc (vw sd ++ vw nc)] at hr0
  obtain ⟨q0, q1, q2⟩ := range_three hr0
  rw [length_vw, ls, Nat.zero_add] at q1 q2
  rw [length_vw, ln] at q2
  have lq : (vw me ++ vw da ++ vw tg).length = 24 := by simp [lm, ld, lt]
  have q3 : w1.rangeAt (w.heap.size + 1) 16 (vw me ++ vw da ++ vw tg) := by
    intro j u hu
    have hj : j < (vw me ++ vw da ++ vw tg).length := (List.getElem?_eq_some_iff.1 hu).1
    exact q2 j u (by rw [List.getElem?_append_left hj]; exact hu)
  refine ⟨(Array.getElem?_eq_some_iff.1 hC).1, range_block hP, by rw [cell_of_row w1 _ 0 _ _ _ hP]; rfl, by rw [cell_of_row w1 _ 1 _ _ _ hP]; rfl, q0, q1, q3, ?_, ?_, hr.below hb1, hK.below hb1⟩
  · exact q2 24 _ (by rw [List.getElem?_append_right (by omega), lq]; rfl)
  · exact q2 25 _ (by rw [List.getElem?_append_right (by omega), lq]; rfl)
theorem Came.drew {w : World} {g : Nat} {v : Value} {rs : List RuleD} {other : Bool} {KL sd nc me da tg : List UInt32} {right same : Bool} (h : Came w g v rs other KL sd nc me da tg right same) : Came w.drew g v rs other KL sd nc me da tg right same := h.below (Below.refl _ _).drew
end Go.Proofs.YtemanjahkohcpaaGreatDoor
