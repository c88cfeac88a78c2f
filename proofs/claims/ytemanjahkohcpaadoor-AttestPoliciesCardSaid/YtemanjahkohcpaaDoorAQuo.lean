/- A quote in its block; its fields stored. What AttestJudges carries. -/
import Derived.Test.YtemanjahkohcpaaDoorAJud
namespace Go.Proofs.YtemanjahkohcpaaDoor
open Go.RowKit WP
structure Quo (w : World) (g : Nat) (me da tg : List UInt32) : Prop where
  lt : g < w.heap.size
  r0 : w.rangeAt g 0 (vw me)
  r1 : w.rangeAt g 8 (vw da)
  r2 : w.rangeAt g 16 (vw tg)
  th : w.there g 0 24
theorem there_kept {w w' : World} {g o n : Nat} (h : w.there g o n) (he : w'.heap[g]? = w.heap[g]?) : w'.there g o n := by
  intro j hj
  have := h j hj
  simp only [World.cell?, World.frozen?] at this ⊢
  rw [he]; exact this
theorem cell_kept {w w' : World} {g o : Nat} (he : w'.heap[g]? = w.heap[g]?) : w'.cell? ⟨g, o, none⟩ = w.cell? ⟨g, o, none⟩ := by
  simp only [World.cell?]; rw [he]
theorem Quo.kept {w w' : World} {g : Nat} {me da tg : List UInt32} (h : Quo w g me da tg) (hs : w.heap.size ≤ w'.heap.size) (he : w'.heap[g]? = w.heap[g]?) : Quo w' g me da tg :=
  ⟨Nat.lt_of_lt_of_le h.lt hs, rangeAt_kept h.r0 he, rangeAt_kept h.r1 he, rangeAt_kept h.r2 he, there_kept h.th he⟩
theorem Quo.below {w w' : World} {g : Nat} {me da tg : List UInt32} (h : Quo w g me da tg) (hb : Below w.heap.size w w') : Quo w' g me da tg := h.kept hb.size (hb.block g h.lt)
theorem Quo.grown {w w' : World} {g : Nat} {r : Option Nat} {me da tg : List UInt32} (h : Quo w g me da tg) (hg : w.grownBy w' r) (hr : some g ≠ r) : Quo w' g me da tg := h.kept hg.size (hg.block g h.lt hr)
theorem Quo.drew {w : World} {g : Nat} {me da tg : List UInt32} (h : Quo w g me da tg) : Quo w.drew g me da tg := h.kept (Nat.le_refl _) rfl
theorem Quo.drewN {w : World} {g : Nat} {me da tg : List UInt32} (h : Quo w g me da tg) (n : Nat) : Quo (w.drewN n) g me da tg := h.kept (Nat.le_refl _) rfl
theorem Quo.new {w : World} {g : Nat} {me da tg : List UInt32} {t : TypeId} (h : w.heap[g]? = some (.cells (vw me ++ vw da ++ vw tg).toArray t)) (lm : me.length = 8) (ld : da.length = 8) (lt : tg.length = 8) : Quo w g me da tg := by
  obtain ⟨q0, q1, q2⟩ := range_three (range_block h)
  rw [length_vw, lm, Nat.zero_add] at q1 q2
  rw [length_vw, ld] at q2
  refine ⟨(Array.getElem?_eq_some_iff.1 h).1, q0, q1, q2, fun j hj => ?_⟩
  refine ⟨?_, frozen_of_row w g _ _ t h⟩
  rw [cell_of_row w g _ _ t _ h]
  have : j < (vw me ++ vw da ++ vw tg).length := by simp [lm, ld, lt]; omega
  simp only [Nat.zero_add, List.getElem?_toArray, List.getElem?_eq_getElem this]
  rfl
theorem there_part {w : World} {g n : Nat} (h : w.there g 0 n) (o k : Nat) (hk : o + k ≤ n) : w.there g o k := by
  intro j hj
  have := h (o + j) (by omega)
  rwa [Nat.zero_add] at this
theorem Quo.set0 {w : World} {g : Nat} {me da tg : List UInt32} (h : Quo w g me da tg) (l : List UInt32) (hl : l.length = 8) : Quo (w.setCells g 0 (vw l)) g l da tg :=
  have hg := grownBy_setCells w g 0 (vw l)
  ⟨Nat.lt_of_lt_of_le h.lt hg.size, World.rangeAt_setCells_same w g 0 _ (there_part h.th 0 _ (by simp [hl])), World.rangeAt_setCells_apart h.r1 g 0 _ (.inr (.inr (by simp [hl]))), World.rangeAt_setCells_apart h.r2 g 0 _ (.inr (.inr (by simp [hl]))), World.there_setCells h.th g 0 _⟩
theorem Quo.set1 {w : World} {g : Nat} {me da tg : List UInt32} (h : Quo w g me da tg) (l : List UInt32) (hl : l.length = 8) (lm : me.length = 8) : Quo (w.setCells g 8 (vw l)) g me l tg :=
  have hg := grownBy_setCells w g 8 (vw l)
  ⟨Nat.lt_of_lt_of_le h.lt hg.size, World.rangeAt_setCells_apart h.r0 g 8 _ (.inr (.inl (by simp [lm]))), World.rangeAt_setCells_same w g 8 _ (there_part h.th 8 _ (by simp [hl])), World.rangeAt_setCells_apart h.r2 g 8 _ (.inr (.inr (by simp [hl]))), World.there_setCells h.th g 8 _⟩
theorem Quo.set2 {w : World} {g : Nat} {me da tg : List UInt32} (h : Quo w g me da tg) (l : List UInt32) (hl : l.length = 8) (lm : me.length = 8) (ld : da.length = 8) : Quo (w.setCells g 16 (vw l)) g me da l :=
  have hg := grownBy_setCells w g 16 (vw l)
  ⟨Nat.lt_of_lt_of_le h.lt hg.size, World.rangeAt_setCells_apart h.r0 g 16 _ (.inr (.inl (by simp [lm]))), World.rangeAt_setCells_apart h.r1 g 16 _ (.inr (.inl (by simp [ld]))), World.rangeAt_setCells_same w g 16 _ (there_part h.th 16 _ (by simp [hl])), World.there_setCells h.th g 16 _⟩
theorem range_join {w : World} {g o : Nat} {a b : List Value} (h1 : w.rangeAt g o a) (h2 : w.rangeAt g (o + a.length) b) : w.rangeAt g o (a ++ b) := by
  intro j u hu
  by_cases hj : j < a.length
  · exact h1 j u (by rwa [List.getElem?_append_left hj] at hu)
  · rw [List.getElem?_append_right (by omega)] at hu
    have := h2 (j - a.length) u hu
    rwa [show o + a.length + (j - a.length) = o + j by omega] at this
theorem Quo.whole {w : World} {g : Nat} {me da tg : List UInt32} (h : Quo w g me da tg) (lm : me.length = 8) (ld : da.length = 8) : w.rangeAt g 0 (vw me ++ vw da ++ vw tg) :=
  range_join (range_join h.r0 (by rw [length_vw, lm]; exact h.r1)) (by rw [List.length_append, length_vw, length_vw, lm, ld]; exact h.r2)
section
variable {P : Program}
theorem wpList_store_words {ops : Array Oper} {rest : List Oper} {o : Oper} {a : Act} {w : World} {Q : Exit → Act → World → Prop} (hgd : o.guard = none) (ty : TypeId) (x y : Operand) (ho : o.op = .store ty x y)
    (b off : Nat) (l : List UInt32) (hx : a.eval x = .pointer (some ⟨b, off, none⟩)) (hy : a.eval y = .agg (vw l).toArray) (ht : w.there b off 8) (hi : (P.info? ty).map (·.size) = some 8) (hl : l.length = 8)
    (h : wpList P ops Q rest (a.put o.dst undef) (w.setCells b off (vw l))) : wpList P ops Q (o :: rest) a w :=
  wpList_store_mid hgd ty x y ho b off (vw l).toArray hx hy (by simpa [hl] using ht) (by simpa [hl] using hi) (vw_all l) (by simpa using h)
end
theorem num_any (x : Int) (w : World) : Calls Tryd.prog 16 #[.int .i64 x] w fun e w' => e = .returned (.int .i64 x) ∧ w' = w := by
  go_enter Tryd.func16, Tryd.ntmps16
  go_wp2_with fail
  go_ret
  exact ⟨rfl, rfl⟩
end Go.Proofs.YtemanjahkohcpaaDoor
