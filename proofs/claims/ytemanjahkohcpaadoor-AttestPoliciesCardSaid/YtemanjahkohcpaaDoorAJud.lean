/- The contract of attest's Judge. -/
import Derived.Test.YtemanjahkohcpaaDoorADec
namespace Go.Proofs.YtemanjahkohcpaaDoor
open Go.RowKit WP
def jF (KL key : List UInt32) (rs : List RuleD) (other : Bool) (me da tg nonce : List UInt32) : ByteArray × Int :=
  if attF KL key me da = tg then (if da = nonce then (if (decF rs other me).1 = true then ((decF rs other me).2, 0) else (⟨#[]⟩, 164)) else (⟨#[]⟩, 163)) else (⟨#[]⟩, 162)
theorem range_block {w : World} {g : Nat} {cs : List Value} {t : TypeId} (h : w.heap[g]? = some (.cells cs.toArray t)) : w.rangeAt g 0 cs := by
  intro j u hu
  rw [cell_of_row w g (0 + j) _ t _ h, Nat.zero_add]
  simpa using hu
theorem range_three {w : World} {g o : Nat} {a b c : List Value} (h : w.rangeAt g o (a ++ b ++ c)) : w.rangeAt g o a ∧ w.rangeAt g (o + a.length) b ∧ w.rangeAt g (o + a.length + b.length) c := by
  refine ⟨?_, range_sub h, ?_⟩
  · intro j u hu
    have hj : j < a.length := (List.getElem?_eq_some_iff.1 hu).1
    exact h j u (by rw [List.append_assoc, List.getElem?_append_left hj]; exact hu)
  · intro j u hu
    have := h (a.length + b.length + j) u (by rw [List.getElem?_append_right (by simp), List.length_append, Nat.add_sub_cancel_left]; exact hu)
    rw [Nat.add_assoc o, Nat.add_assoc o]; exact this
theorem info36 : (Tryd.prog.info? 36).map (·.size) = some 2 := by kernel_rfl
theorem info38 : (Tryd.prog.info? 38).map (·.size) = some 24 := by kernel_rfl
set_option maxRecDepth 100000 in
set_option maxHeartbeats 2000000 in
theorem judge_any (KL key : List UInt32) (rs : List RuleD) (other : Bool) (me da tg nc : List UInt32) (v : Value) (w : World) (hK : Rounds w KL) (hr : Rules w v rs) (lk : key.length = 8) (lm : me.length = 8) (ld : da.length = 8) (lt : tg.length = 8) (ln : nc.length = 8) :
    Calls Tryd.prog 15 #[.agg (vw key).toArray, .agg #[v, .bool other], .agg (vw me ++ vw da ++ vw tg).toArray, .agg (vw nc).toArray] w fun e w' => e = .returned (.tuple #[.string (jF KL key rs other me da tg nc).1, .int .i64 (jF KL key rs other me da tg nc).2]) ∧ Below w.heap.size w w' := by
  obtain ⟨qc, hqc⟩ : ∃ qc, vw me ++ vw da ++ vw tg = qc := ⟨_, rfl⟩
  rw [hqc]
  obtain ⟨w1, hw1⟩ : ∃ w1, (((w.alloc (.cells (vw key).toArray 23)).alloc (.cells #[v, .bool other] 36)).alloc (.cells qc.toArray 38)).alloc (.cells (vw nc).toArray 23) = w1 := ⟨_, rfl⟩
  have aK : Arr w1 w.heap.size 23 key := by rw [← hw1]; exact (((Arr.new w _ key).alloc _).alloc _).alloc _
  have hP : w1.heap[w.heap.size + 1]? = some (.cells #[v, .bool other] 36) := by
    rw [← hw1, heap_alloc_old _ _ (by simp), heap_alloc_old _ _ (by simp)]
    have := heap_alloc_new (w.alloc (.cells (vw key).toArray 23)) (.cells #[v, .bool other] 36)
    simpa using this
  have hQ : w1.heap[w.heap.size + 1 + 1]? = some (.cells qc.toArray 38) := by
    rw [← hw1, heap_alloc_old _ _ (by simp)]
    have := heap_alloc_new ((w.alloc (.cells (vw key).toArray 23)).alloc (.cells #[v, .bool other] 36)) (.cells qc.toArray 38)
    simpa using this
  have aN : Arr w1 (w.heap.size + 1 + 1 + 1) 23 nc := by
    rw [← hw1]
    have := Arr.new (((w.alloc (.cells (vw key).toArray 23)).alloc (.cells #[v, .bool other] 36)).alloc (.cells qc.toArray 38)) 23 nc
    simpa using this
  have hb1 : Below w.heap.size w w1 := by rw [← hw1]; exact ((((Below.refl _ _).alloc (Nat.le_refl _) _).alloc (by simp) _).alloc (by simp; omega) _).alloc (by simp; omega) _
  have hK1 := hK.below hb1
  have hr1 := hr.below hb1
  have rP : w1.rangeAt (w.heap.size + 1) 0 [v, .bool other] := range_block hP
  obtain ⟨q0, q1, q2⟩ := range_three (by rw [hqc]; exact range_block hQ : w1.rangeAt (w.heap.size + 1 + 1) 0 (vw me ++ vw da ++ vw tg))
  rw [length_vw, lm, Nat.zero_add] at q1 q2
  rw [length_vw, ld] at q2
  have lP := (Array.getElem?_eq_some_iff.1 hP).1
  have lQ := (Array.getElem?_eq_some_iff.1 hQ).1
  clear hP hQ hK hr hqc
  replace aK := Lib.hid aK; replace aN := Lib.hid aN; replace hb1 := Lib.hid hb1; replace hK1 := Lib.hid hK1; replace hr1 := Lib.hid hr1; replace rP := Lib.hid rP; replace q0 := Lib.hid q0; replace q1 := Lib.hid q1; replace q2 := Lib.hid q2
  go_enter Tryd.func15, Tryd.ntmps15
  go_upto_region 1 with fail
  clear hw1
  go_wp2_with (first
    | (refine wpList_load_arr rfl 23 _ rfl w.heap.size rfl aK.out Tryd.underlying23 info23 lk ?_)
    | (refine wpList_load_mid rfl 23 _ rfl (w.heap.size + 1 + 1) 0 rfl (vw me) _ q0.out Tryd.underlying23 rfl (by rw [length_vw, lm]; exact info23) ?_)
    | (refine wpList_load_mid rfl 23 _ rfl (w.heap.size + 1 + 1) 8 rfl (vw da) _ q1.out Tryd.underlying23 rfl (by rw [length_vw, ld]; exact info23) ?_)
    | (refine wpList_load_mid rfl 23 _ rfl (w.heap.size + 1 + 1) 16 rfl (vw tg) _ q2.out Tryd.underlying23 rfl (by rw [length_vw, lt]; exact info23) ?_))
  refine (verify_any KL key me da tg _ hK1.out lk lm ld lt).mono ?_
  rintro e w2 ⟨rfl, b2⟩
  have hb2 := hb1.out.trans (b2.mono hb1.out.size)
  have aN2 := aN.out.below b2
  have hr2 := hr1.out.below b2
  have rP2 := rangeAt_kept rP.out (b2.block _ lP)
  have q02 := rangeAt_kept q0.out (b2.block _ lQ)
  have q12 := rangeAt_kept q1.out (b2.block _ lQ)
  clear b2 hb1 aN hr1 rP q0 q1 q2 aK hK1
  replace aN2 := Lib.hid aN2; replace hb2 := Lib.hid hb2; replace hr2 := Lib.hid hr2; replace rP2 := Lib.hid rP2; replace q02 := Lib.hid q02; replace q12 := Lib.hid q12
  by_cases h1 : attF KL key me da = tg
  · rw [decide_eq_true h1]
    by_cases h2 : da = nc
    · have hE : ∀ w' : World, (Op.equalIn 10000 23 (.agg (vw da).toArray) (.agg (vw nc).toArray)).run Tryd.prog w' = .ok true w' := fun w' => by
        rw [eq_words da nc w' ld ln, decide_eq_true h2]
      obtain ⟨ok, nm, hD⟩ : ∃ ok nm, decF rs other me = (ok, nm) := ⟨_, _, rfl⟩
      have hJ : jF KL key rs other me da tg nc = if ok = true then (nm, 0) else (⟨#[]⟩, 164) := by unfold jF; rw [if_pos h1, if_pos h2, hD]
      replace hJ := Lib.hid hJ; replace h1 := Lib.hid h1; replace h2 := Lib.hid h2; replace hD := Lib.hid hD
      go_wp2_with (first
        | (refine wpList_load_arr rfl 23 _ rfl (w.heap.size + 1 + 1 + 1) rfl aN2.out Tryd.underlying23 info23 ln ?_)
        | (refine wpList_load_mid rfl 23 _ rfl (w.heap.size + 1 + 1) 8 rfl (vw da) _ q12.out Tryd.underlying23 rfl (by rw [length_vw, ld]; exact info23) ?_)
        | (refine wpList_load_mid rfl 23 _ rfl (w.heap.size + 1 + 1) 0 rfl (vw me) _ q02.out Tryd.underlying23 rfl (by rw [length_vw, lm]; exact info23) ?_)
        | (refine wpList_load_mid rfl 36 _ rfl (w.heap.size + 1) 0 rfl [v, .bool other] _ rP2.out Tryd.underlying36 rfl (by exact info36) ?_))
      refine (decide_any rs other me v _ hr2.out lm).mono ?_
      rintro e w3 ⟨rfl, b3⟩
      have hb3 := Lib.hid (hb2.out.trans (b3.mono hb2.out.size))
      rw [hD.out]
      clear b3
      cases ok with
      | true =>
        go_wp2_with fail
        go_ret2
        exact ⟨by rw [hJ.out]; rfl, hb3.out⟩
      | false =>
        go_wp2_with fail
        go_ret2
        exact ⟨by rw [hJ.out]; rfl, hb3.out⟩
    · have hE : ∀ w' : World, (Op.equalIn 10000 23 (.agg (vw da).toArray) (.agg (vw nc).toArray)).run Tryd.prog w' = .ok false w' := fun w' => by
        rw [eq_words da nc w' ld ln, decide_eq_false h2]
      have hJ : jF KL key rs other me da tg nc = (⟨#[]⟩, 163) := by unfold jF; rw [if_pos h1, if_neg h2]
      replace hJ := Lib.hid hJ; replace h1 := Lib.hid h1; replace h2 := Lib.hid h2
      go_wp2_with (first
        | (refine wpList_load_arr rfl 23 _ rfl (w.heap.size + 1 + 1 + 1) rfl aN2.out Tryd.underlying23 info23 ln ?_)
        | (refine wpList_load_mid rfl 23 _ rfl (w.heap.size + 1 + 1) 8 rfl (vw da) _ q12.out Tryd.underlying23 rfl (by rw [length_vw, ld]; exact info23) ?_))
      go_ret2
      exact ⟨by rw [hJ.out]; rfl, hb2.out⟩
  · rw [decide_eq_false h1]
    have hJ : jF KL key rs other me da tg nc = (⟨#[]⟩, 162) := by unfold jF; rw [if_neg h1]
    replace hJ := Lib.hid hJ; replace h1 := Lib.hid h1
    go_wp2_with fail
    go_ret2
    exact ⟨by rw [hJ.out]; rfl, hb2.out⟩
end Go.Proofs.YtemanjahkohcpaaDoor
