/- The contract of attest's Judge. A quote in its block; its fields stored. What AttestJudges carries. -/
import Derived.Test.YtemanjahkohcpaaGreatDoorJn09
namespace Go.Proofs.YtemanjahkohcpaaGreatDoor
open Go.RowKit WP
def jF (KL key : List UInt32) (rs : List RuleD) (other : Bool) (me da tg nonce : List UInt32) : ByteArray × Int :=
  if attF KL key me da = tg then (if da = nonce then (if (decF rs other me).1 = true then ((decF rs other me).2, 0) else (⟨#[]⟩, 164)) else (⟨#[]⟩, 163)) else (⟨#[]⟩, 162)
theorem range_block {w : World} {g : Nat} {cs : List Value} {t : TypeId} (h : w.heap[g]? = some (.cells cs.toArray t)) : w.rangeAt g 0 cs := by
  intro j u hu
  rw [cell_of_row w g (0 + j) _ t _ h, Nat.zero_add]
  simpa using hu
theorem range_three {w : World} {g o : Nat} {a b c : List Value} (h : w.rangeAt g o (a ++ b ++ c)) : w.rangeAt g o a ∧ w.rangeAt g (o + a.length) b ∧ w.rangeAt g (o + a.length + b.length) c := by
  refine ⟨?_, range_sub h, ?_⟩
  · intro j u hu
    have hj : j < a.length := (List.getElem?_eq_some_iff.1 hu).1
    exact h j u (by rw [List.append_assoc, List.getElem?_append_left hj]; exact hu)
  · intro j u hu
    have := h (a.length + b.length + j) u (by rw [List.getElem?_append_right (by simp), List.length_append, Nat.add_sub_cancel_left]; exact hu)
    rw [Nat.add_assoc o, Nat.add_assoc o]; exact this
theorem info36 : (Tryz.prog.info? 24).map (·.size) = some 2 := by kernel_rfl
theorem info38 : (Tryz.prog.info? 28).map (·.size) = some 24 := by kernel_rfl
set_option maxRecDepth 100000 in
set_option maxHeartbeats 2000000 in
theorem judge_any (KL key : List UInt32) (rs : List RuleD) (other : Bool) (me da tg nc : List UInt32) (v : Value) (w : World) (hK : Rounds w KL) (hr : Rules w v rs) (lk : key.length = 8) (lm : me.length = 8) (ld : da.length = 8) (lt : tg.length = 8) (ln : nc.length = 8) :
    Calls Tryz.prog 42 #[.agg (vw key).toArray, .agg #[v, .bool other], .agg (vw me ++ vw da ++ vw tg).toArray, .agg (vw nc).toArray] w fun e w' => e = .returned (.tuple #[.string (jF KL key rs other me da tg nc).1, .int .i64 (jF KL key rs other me da tg nc).2]) ∧ Below w.heap.size w w' := by
  obtain ⟨qc, hqc⟩ : ∃ qc, vw me ++ vw da ++ vw tg = qc := ⟨_, rfl⟩
  rw [hqc]
  obtain ⟨w1, hw1⟩ : ∃ w1, (((w.alloc (.cells (vw key).toArray 26)).alloc (.cells #[v, .bool other] 24)).alloc (.cells qc.toArray 28)).alloc (.cells (vw nc).toArray 26) = w1 := ⟨_, rfl⟩
  have aK : Arr w1 w.heap.size 26 key := by rw [← hw1]; exact (((Arr.new w _ key).alloc _).alloc _).alloc _
  have hP : w1.heap[w.heap.size + 1]? = some (.cells #[v, .bool other] 24) := by
    rw [← hw1, heap_alloc_old _ _ (by simp), heap_alloc_old _ _ (by simp)]
    have := heap_alloc_new (w.alloc (.cells (vw key).toArray 26)) (.cells #[v, .bool other] 24)
    simpa using this
  have hQ : w1.heap[w.heap.size + 1 + 1]? = some (.cells qc.toArray 28) := by
    rw [← hw1, heap_alloc_old _ _ (by simp)]
    have := heap_alloc_new ((w.alloc (.cells (vw key).toArray 26)).alloc (.cells #[v, .bool other] 24)) (.cells qc.toArray 28)
    simpa using this
  have aN : Arr w1 (w.heap.size + 1 + 1 + 1) 26 nc := by
    rw [← hw1]
    have := Arr.new (((w.alloc (.cells (vw key).toArray 26)).alloc (.cells #[v, .bool other] 24)).alloc (.cells qc.toArray 28)) 26 nc
    simpa using this
  have hb1 : Below w.heap.size w w1 := by rw [← hw1]; exact ((((Below.refl _ _).alloc (Nat.le_refl _) _).alloc (by simp) _).alloc (by simp; omega) _).alloc (by simp; omega) _
  have hK1 := hK.below hb1
  have hr1 := hr.below hb1
  have rP : w1.rangeAt (w.heap.size + 1) 0 [v, .bool other] := range_block hP
  obtain ⟨q0, q1, q2⟩ := range_three (by rw [hqc]; exact range_block hQ : w1.rangeAt (w.heap.size + 1 + 1) 0 (vw me ++ vw da ++ vw tg))
  rw [length_vw, lm, Nat.zero_add] at q1 q2
  rw [length_vw, ld] at q2
  have lP := (Array.getElem?_eq_some_iff.1 hP).1
  have lQ := (Array.getElem?_eq_some_iff.1 hQ).1
  clear hP hQ hK hr hqc
  replace aK := Lib.hid aK; replace aN := Lib.hid aN; replace hb1 := Lib.hid hb1; replace hK1 := Lib.hid hK1; replace hr1 := Lib.hid hr1; replace rP := Lib.hid rP; replace q0 := Lib.hid q0; replace q1 := Lib.hid q1; replace q2 := Lib.hid q2
  go_enter Tryz.func42, Tryz.ntmps42
  go_upto_region 1 with fail
  clear hw1
  go_wp2_with (first
    | (refine wpList_load_arr rfl 26 _ rfl w.heap.size rfl aK.out Tryz.underlying26 info23 lk ?_)
    | (refine wpList_load_mid rfl 26 _ rfl (w.heap.size + 1 + 1) 0 rfl (vw me) _ q0.out Tryz.underlying26 rfl (by rw [length_vw, lm]; exact info23) ?_)
    | (refine wpList_load_mid rfl 26 _ rfl (w.heap.size + 1 + 1) 8 rfl (vw da) _ q1.out Tryz.underlying26 rfl (by rw [length_vw, ld]; exact info23) ?_)
    | (refine wpList_load_mid rfl 26 _ rfl (w.heap.size + 1 + 1) 16 rfl (vw tg) _ q2.out Tryz.underlying26 rfl (by rw [length_vw, lt]; exact info23) ?_))
  refine (verify_any KL key me da tg _ hK1.out lk lm ld lt).mono ?_
  rintro e w2 ⟨rfl, b2⟩
  have hb2 := hb1.out.trans (b2.mono hb1.out.size)
  have aN2 := aN.out.below b2
  have hr2 := hr1.out.below b2
  have rP2 := rangeAt_kept rP.out (b2.block _ lP)
  have q02 := rangeAt_kept q0.out (b2.block _ lQ)
  have q12 := rangeAt_kept q1.out (b2.block _ lQ)
  clear b2 hb1 aN hr1 rP q0 q1 q2 aK hK1
  replace aN2 := Lib.hid aN2; replace hb2 := Lib.hid hb2; replace hr2 := Lib.hid hr2; replace rP2 := Lib.hid rP2; replace q02 := Lib.hid q02; replace q12 := Lib.hid q12
  by_cases h1 : attF KL key me da = tg
  · rw [decide_eq_true h1]
    by_cases h2 : da = nc
    · have hE : ∀ w' : World, (Op.equalIn 10000 26 (.agg (vw da).toArray) (.agg (vw nc).toArray)).run Tryz.prog w' = .ok true w' := fun w' => by
        rw [eq_words da nc w' ld ln, decide_eq_true h2]
      obtain ⟨ok, nm, hD⟩ : ∃ ok nm, decF rs other me = (ok, nm) := ⟨_, _, rfl⟩
      have hJ : jF KL key rs other me da tg nc = if ok = true then (nm, 0) else (⟨#[]⟩, 164) := by unfold jF; rw [if_pos h1, if_pos h2, hD]
      replace hJ := Lib.hid hJ; replace h1 := Lib.hid h1; replace h2 := Lib.hid h2; replace hD := Lib.hid hD
      go_wp2_with (first
        | (refine wpList_load_arr rfl 26 _ rfl (w.heap.size + 1 + 1 + 1) rfl aN2.out Tryz.underlying26 info23 ln ?_)
        | (refine wpList_load_mid rfl 26 _ rfl (w.heap.size + 1 + 1) 8 rfl (vw da) _ q12.out Tryz.underlying26 rfl (by rw [length_vw, ld]; exact info23) ?_)
        | (refine wpList_load_mid rfl 26 _ rfl (w.heap.size + 1 + 1) 0 rfl (vw me) _ q02.out Tryz.underlying26 rfl (by rw [length_vw, lm]; exact info23) ?_)
        | (refine wpList_load_mid rfl 24 _ rfl (w.heap.size + 1) 0 rfl [v, .bool other] _ rP2.out Tryz.underlying24 rfl (by exact info36) ?_))
      refine (decide_any rs other me v _ hr2.out lm).mono ?_
      rintro e w3 ⟨rfl, b3⟩
      have hb3 := Lib.hid (hb2.out.trans (b3.mono hb2.out.size))
      rw [hD.out]
      clear b3
      cases ok with
      | true =>
        go_wp2_with fail
        go_ret2
        exact ⟨by rw [hJ.out]; rfl, hb3.out⟩
      | false =>
        go_wp2_with fail
        go_ret2
        exact ⟨by rw [hJ.out]; rfl, hb3.out⟩
    · have hE : ∀ w' : World, (Op.equalIn 10000 26 (.agg (vw da).toArray) (.agg (vw nc).toArray)).run Tryz.prog w' = .ok false w' := fun w' => by
        rw [eq_words da nc w' ld ln, decide_eq_false h2]
      have hJ : jF KL key rs other me da tg nc = (⟨#[]⟩, 163) := by unfold jF; rw [if_pos h1, if_neg h2]
      replace hJ := Lib.hid hJ; replace h1 := Lib.hid h1; replace h2 := Lib.hid h2
      go_wp2_with (first
        | (refine wpList_load_arr rfl 26 _ rfl (w.heap.size + 1 + 1 + 1) rfl aN2.out Tryz.underlying26 info23 ln ?_)
        | (refine wpList_load_mid rfl 26 _ rfl (w.heap.size + 1 + 1) 8 rfl (vw da) _ q12.out Tryz.underlying26 rfl (by rw [length_vw, ld]; exact info23) ?_))
      go_ret2
      exact ⟨by rw [hJ.out]; rfl, hb2.out⟩
  · rw [decide_eq_false h1]
    have hJ : jF KL key rs other me da tg nc = (⟨#[]⟩, 162) := by unfold jF; rw [if_neg h1]
    replace hJ := Lib.hid hJ; replace h1 := Lib.hid h1
    go_wp2_with fail
    go_ret2
    exact ⟨by rw [hJ.out]; rfl, hb2.out⟩
end Go.Proofs.YtemanjahkohcpaaGreatDoor

namespace Go.Proofs.YtemanjahkohcpaaGreatDoor
open Go.RowKit WP
structure Quo (w : World) (g : Nat) (me da tg : List UInt32) : Prop where
  lt : g < w.heap.size
  r0 : w.rangeAt g 0 (vw me)
  r1 : w.rangeAt g 8 (vw da)
  r2 : w.rangeAt g 16 (vw tg)
  th : w.there g 0 24
theorem there_kept {w w' : World} {g o n : Nat} (h : w.there g o n) (he : w'.heap[g]? = w.heap[g]?) : w'.there g o n := by
  intro j hj
  have := h j hj
  simp only [World.cell?, World.frozen?] at this ⊢
  rw [he]; exact this
theorem cell_kept {w w' : World} {g o : Nat} (he : w'.heap[g]? = w.heap[g]?) : w'.cell? ⟨g, o, none⟩ = w.cell? ⟨g, o, none⟩ := by
  simp only [World.cell?]; rw [he]
theorem Quo.kept {w w' : World} {g : Nat} {me da tg : List UInt32} (h : Quo w g me da tg) (hs : w.heap.size ≤ w'.heap.size) (he : w'.heap[g]? = w.heap[g]?) : Quo w' g me da tg :=
  ⟨Nat.lt_of_lt_of_le h.lt hs, rangeAt_kept h.r0 he, rangeAt_kept h.r1 he, rangeAt_kept h.r2 he, there_kept h.th he⟩
theorem Quo.below {w w' : World} {g : Nat} {me da tg : List UInt32} (h : Quo w g me da tg) (hb : Below w.heap.size w w') : Quo w' g me da tg := h.kept hb.size (hb.block g h.lt)
theorem Quo.grown {w w' : World} {g : Nat} {r : Option Nat} {me da tg : List UInt32} (h : Quo w g me da tg) (hg : w.grownBy w' r) (hr : some g ≠ r) : Quo w' g me da tg := h.kept hg.size (hg.block g h.lt hr)
theorem Quo.drew {w : World} {g : Nat} {me da tg : List UInt32} (h : Quo w g me da tg) : Quo w.drew g me da tg := h.kept (Nat.le_refl _) rfl
theorem Quo.drewN {w : World} {g : Nat} {me da tg : List UInt32} (h : Quo w g me da tg) (n : Nat) : Quo (w.drewN n) g me da tg := h.kept (Nat.le_refl _) rfl
theorem Quo.new {w : World} {g : Nat} {me da tg : List UInt32} {t : TypeId} (h : w.heap[g]? = some (.cells (vw me ++ vw da ++ vw tg).toArray t)) (lm : me.length = 8) (ld : da.length = 8) (lt : tg.length = 8) : Quo w g me da tg := by
  obtain ⟨q0, q1, q2⟩ := range_three (range_block h)
  rw [length_vw, lm, Nat.zero_add] at q1 q2
  rw [length_vw, ld] at q2
  refine ⟨(Array.getElem?_eq_some_iff.1 h).1, q0, q1, q2, fun j hj => ?_⟩
  refine ⟨?_, frozen_of_row w g _ _ t h⟩
  rw [cell_of_row w g _ _ t _ h]
  have : j < (vw me ++ vw da ++ vw tg).length := by simp [lm, ld, lt]; omega
  simp only [Nat.zero_add, List.getElem?_toArray, List.getElem?_eq_getElem this]
  rfl
theorem there_part {w : World} {g n : Nat} (h : w.there g 0 n) (o k : Nat) (hk : o + k ≤ n) : w.there g o k := by
  intro j hj
  have := h (o + j) (by omega)
  rwa [Nat.zero_add] at this
theorem Quo.set0 {w : World} {g : Nat} {me da tg : List UInt32} (h : Quo w g me da tg) (l : List UInt32) (hl : l.length = 8) : Quo (w.setCells g 0 (vw l)) g l da tg :=
  have hg := grownBy_setCells w g 0 (vw l)
  ⟨Nat.lt_of_lt_of_le h.lt hg.size, World.rangeAt_setCells_same w g 0 _ (there_part h.th 0 _ (by simp [hl])), World.rangeAt_setCells_apart h.r1 g 0 _ (.inr (.inr (by simp [hl]))), World.rangeAt_setCells_apart h.r2 g 0 _ (.inr (.inr (by simp [hl]))), World.there_setCells h.th g 0 _⟩
theorem Quo.set1 {w : World} {g : Nat} {me da tg : List UInt32} (h : Quo w g me da tg) (l : List UInt32) (hl : l.length = 8) (lm : me.length = 8) : Quo (w.setCells g 8 (vw l)) g me l tg :=
  have hg := grownBy_setCells w g 8 (vw l)
  ⟨Nat.lt_of_lt_of_le h.lt hg.size, World.rangeAt_setCells_apart h.r0 g 8 _ (.inr (.inl (by simp [lm]))), World.rangeAt_setCells_same w g 8 _ (there_part h.th 8 _ (by simp [hl])), World.rangeAt_setCells_apart h.r2 g 8 _ (.inr (.inr (by simp [hl]))), World.there_setCells h.th g 8 _⟩
theorem Quo.set2 {w : World} {g : Nat} {me da tg : List UInt32} (h : Quo w g me da tg) (l : List UInt32) (hl : l.length = 8) (lm : me.length = 8) (ld : da.length = 8) : Quo (w.setCells g 16 (vw l)) g me da l :=
  have hg := grownBy_setCells w g 16 (vw l)
  ⟨Nat.lt_of_lt_of_le h.lt hg.size, World.rangeAt_setCells_apart h.r0 g 16 _ (.inr (.inl (by simp [lm]))), World.rangeAt_setCells_apart h.r1 g 16 _ (.inr (.inl (by simp [ld]))), World.rangeAt_setCells_same w g 16 _ (there_part h.th 16 _ (by simp [hl])), World.there_setCells h.th g 16 _⟩
theorem range_join {w : World} {g o : Nat} {a b : List Value} (h1 : w.rangeAt g o a) (h2 : w.rangeAt g (o + a.length) b) : w.rangeAt g o (a ++ b) := by
  intro j u hu
  by_cases hj : j < a.length
  · exact h1 j u (by rwa [List.getElem?_append_left hj] at hu)
  · rw [List.getElem?_append_right (by omega)] at hu
    have := h2 (j - a.length) u hu
    rwa [show o + a.length + (j - a.length) = o + j by omega] at this
theorem Quo.whole {w : World} {g : Nat} {me da tg : List UInt32} (h : Quo w g me da tg) (lm : me.length = 8) (ld : da.length = 8) : w.rangeAt g 0 (vw me ++ vw da ++ vw tg) :=
  range_join (range_join h.r0 (by rw [length_vw, lm]; exact h.r1)) (by rw [List.length_append, length_vw, length_vw, lm, ld]; exact h.r2)
section
variable {P : Program}
theorem wpList_store_words {ops : Array Oper} {rest : List Oper} {o : Oper} {a : Act} {w : World} {Q : Exit → Act → World → Prop} (hgd : o.guard = none) (ty : TypeId) (x y : Operand) (ho : o.op = .store ty x y)
    (b off : Nat) (l : List UInt32) (hx : a.eval x = .pointer (some ⟨b, off, none⟩)) (hy : a.eval y = .agg (vw l).toArray) (ht : w.there b off 8) (hi : (P.info? ty).map (·.size) = some 8) (hl : l.length = 8)
    (h : wpList P ops Q rest (a.put o.dst undef) (w.setCells b off (vw l))) : wpList P ops Q (o :: rest) a w :=
  wpList_store_mid hgd ty x y ho b off (vw l).toArray hx hy (by simpa [hl] using ht) (by simpa [hl] using hi) (vw_all l) (by simpa using h)
end
theorem num_any (x : Int) (w : World) : Calls Tryz.prog 7 #[.int .i64 x] w fun e w' => e = .returned (.int .i64 x) ∧ w' = w := by
  go_enter Tryz.func7, Tryz.ntmps7
  go_wp2_with fail
  go_ret
  exact ⟨rfl, rfl⟩
end Go.Proofs.YtemanjahkohcpaaGreatDoor
