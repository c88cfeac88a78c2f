/- The law's book: what a store into an entry, or into an entry's lists, leaves of it. -/
import Derived.Test.YtedhinekkmoheaaKeepE
namespace Go.Proofs.Ytedhinekkmoheaa
open Go.RowKit WP
theorem rowsOf_set (D T : List Ent) (t t' : Ent) (c : Nat) (y : Value) (hc : c < 5) (h : t.cells.set c y = t'.cells) : (rowsOf (D ++ t :: T)).set (D.length * 5 + c) y = rowsOf (D ++ t' :: T) := by
  rw [rowsOf_append, rowsOf_append, List.set_append_right _ _ (by rw [rowsOf_len]; omega), rowsOf_len, show D.length * 5 + c - D.length * 5 = c by omega]
  unfold rowsOf
  rw [List.flatMap_cons, List.flatMap_cons, List.set_append_left _ _ (by simp [Ent.cells]; omega), h]
theorem vals_mid {D T : List Ent} {t t' : Ent} (h1 : t'.v = t.v) (h2 : t'.u = t.u) : vals (D ++ t' :: T) = vals (D ++ t :: T) := by
  rw [vals_append, vals_append]; unfold vals; rw [List.flatMap_cons, List.flatMap_cons, h1, h2]
theorem book_set {base : Nat} {ty : TypeId} {w : World} {B N cap : Nat} {D T : List Ent} {t t' : Ent} (h : Book base ty w (.slice (some ⟨B, 0, none⟩) N cap) (D ++ t :: T)) (hN : N = (D ++ t :: T).length) (c : Nat) (y : Value) (hc : c < 5)
    (ht : t.cells.set c y = t'.cells) (h1 : t'.v = t.v) (h2 : t'.u = t.u) :
    Book base ty (w.setCell ⟨B, D.length * 5 + c, none⟩ y) (.slice (some ⟨B, 0, none⟩) N cap) (D ++ t' :: T) ∧ w.grownBy (w.setCell ⟨B, D.length * 5 + c, none⟩ y) (some B) := by
  subst hN
  have hs := h.row.stored (D.length * 5 + c) y
  refine ⟨⟨?_, by rw [vals_mid h1 h2]; exact h.far, by rw [vals_mid h1 h2]; exact h.off⟩, hs.2⟩
  rw [rowsOf_set D T t t' c y hc ht] at hs
  have e : (D ++ t' :: T).length = (D ++ t :: T).length := by simp
  rw [e]
  exact hs.1
theorem book_mid {base : Nat} {ty : TypeId} {w : World} {b : Value} {D T : List Ent} {t : Ent} (h : Book base ty w b (D ++ t :: T)) :
    ∃ B cap, b = .slice (some ⟨B, 0, none⟩) (D ++ t :: T).length cap ∧ base ≤ B ∧ B < w.heap.size ∧
      w.cell? ⟨B, D.length * 5, none⟩ = some t.v ∧ w.cell? ⟨B, D.length * 5 + 1, none⟩ = some t.m ∧ w.cell? ⟨B, D.length * 5 + 2, none⟩ = some t.u ∧
      w.cell? ⟨B, D.length * 5 + 3, none⟩ = some t.x ∧ w.cell? ⟨B, D.length * 5 + 4, none⟩ = some (.int .i64 t.k) ∧ ∀ j, w.frozen? ⟨B, j, none⟩ = false := by
  have hi : D.length < (D ++ t :: T).length := by simp
  obtain ⟨B, cap, rfl, h1, h2, h3, h4, c0, c1, c2, c3, c4⟩ := book_at h.row D.length hi
  have e : (D ++ t :: T)[D.length] = t := by simp
  rw [e] at c0 c1 c2 c3 c4
  exact ⟨B, cap, rfl, h1, h2, c0, c1, c2, c3, c4, h.row.frozenAt⟩
theorem book_offs {base : Nat} {ty : TypeId} {w : World} {b : Value} {D T : List Ent} {t : Ent} (h : Book base ty w b (D ++ t :: T)) :
    (∀ e, e ∈ D ∨ e ∈ T → Far e.v b ∧ Far e.u b) ∧ Far t.v b ∧ Far t.u b := by
  refine ⟨fun e he => ?_, h.off _ (mem_vals.2 ⟨t, by simp, .inl rfl⟩), h.off _ (mem_vals.2 ⟨t, by simp, .inr rfl⟩)⟩
  have hm : e ∈ D ++ t :: T := by rcases he with he | he <;> simp [he]
  exact ⟨h.off _ (mem_vals.2 ⟨e, hm, .inl rfl⟩), h.off _ (mem_vals.2 ⟨e, hm, .inr rfl⟩)⟩
/-- no list of another entry shares a block with a list of this one -/
theorem far_mid {D T : List Ent} {t : Ent} (h : (vals (D ++ t :: T)).Pairwise Far) :
    (∀ e, e ∈ D ∨ e ∈ T → Far e.v t.v ∧ Far e.u t.v ∧ Far e.v t.u ∧ Far e.u t.u) ∧ Far t.v t.u ∧ (vals T).Pairwise Far := by
  rw [vals_append, List.pairwise_append] at h
  obtain ⟨_, h2, h3⟩ := h
  have hv : vals (t :: T) = t.v :: t.u :: vals T := by unfold vals; rw [List.flatMap_cons]; rfl
  rw [hv] at h2 h3
  rw [List.pairwise_cons, List.pairwise_cons] at h2
  obtain ⟨h4, h5, h6⟩ := h2
  refine ⟨fun e he => ?_, h4 _ (by simp), h6⟩
  rcases he with he | he
  · have m1 := mem_vals.2 ⟨e, he, .inl rfl⟩
    have m2 := mem_vals.2 ⟨e, he, .inr rfl⟩
    exact ⟨h3 _ m1 _ (by simp), h3 _ m2 _ (by simp), h3 _ m1 _ (by simp), h3 _ m2 _ (by simp)⟩
  · have m1 := mem_vals.2 ⟨e, he, .inl rfl⟩
    have m2 := mem_vals.2 ⟨e, he, .inr rfl⟩
    exact ⟨(h4 _ (List.mem_cons_of_mem _ m1)).symm, (h4 _ (List.mem_cons_of_mem _ m2)).symm, (h5 _ m1).symm, (h5 _ m2).symm⟩
theorem set_fill (c : Value) (xs : List Value) (q : Nat) (h : q < xs.length) : (List.replicate q c ++ xs.drop q).set q c = List.replicate (q + 1) c ++ xs.drop (q + 1) := by
  rw [List.set_append_right _ _ (by simp), List.length_replicate, Nat.sub_self, List.drop_eq_getElem_cons h, List.set_cons_zero, List.replicate_succ', List.append_assoc]
  rfl
theorem get_fill (c : Value) (xs : List Value) (q : Nat) (h : q < xs.length) : ∃ y, (List.replicate q c ++ xs.drop q)[q]? = some y :=
  ⟨_, List.getElem?_eq_getElem (by simp; omega)⟩
theorem fill_all (c : Value) (xs : List Value) (n : Nat) (h : xs.length = n) : List.replicate n c ++ xs.drop n = List.replicate n c := by
  rw [List.drop_of_length_le (by omega), List.append_nil]
/-- an entry that is written over with its mark -/
def EntMark (base : Nat) (w : World) (e : Ent) : Prop :=
  ∃ n nb : Nat, n ≤ 262144 ∧ nb ≤ 1048576 ∧ 0 ≤ e.k ∧ e.k ≤ 1099511627776 ∧ w.ownsRow base 22 1 e.v n (List.replicate n (mk32 e.k)) ∧ w.ownsRow base 5 1 e.u nb (List.replicate nb (mk8 e.k))
theorem EntMark.grown {base : Nat} {w w' : World} {e : Ent} {r : Option Nat} (h : EntMark base w e) (hg : w.grownBy w' r) (h1 : e.v.ownBlock = none ∨ e.v.ownBlock ≠ r) (h2 : e.u.ownBlock = none ∨ e.u.ownBlock ≠ r) : EntMark base w' e := by
  obtain ⟨n, nb, a1, a2, a3, a4, a6, a7⟩ := h
  exact ⟨n, nb, a1, a2, a3, a4, a6.kept hg h1, a7.kept hg h2⟩
theorem EntMark.own {base : Nat} {w : World} {e : Ent} (h : EntMark base w e) : EntOwn base w e := by
  obtain ⟨n, nb, a1, a2, a3, a4, a6, a7⟩ := h
  exact ⟨_, _, _, _, a1, a2, a6, a7⟩
theorem own_shape {w : World} {base : Nat} {e : TypeId} {v : Value} {n : Nat} {xs : List Value} (h : w.ownsRow base e 1 v n xs) : ∃ ao ca, v = .slice ao n ca ∧ n ≤ ca ∧ ca ≤ 9223372036854775807 := by
  rcases h.2 with ⟨rfl, h0⟩ | ⟨g, cap, cur, rfl, _, _, h1, h2, _⟩
  · exact ⟨none, 0, by rw [h0], by omega, by decide⟩
  · exact ⟨_, _, rfl, h1, h2⟩
/-- the book and all its entries, behind a change of another block -/
theorem ents_grown {P : World → Ent → Prop} (hP : ∀ {w w' : World} {e : Ent} {r : Option Nat}, P w e → w.grownBy w' r → (e.v.ownBlock = none ∨ e.v.ownBlock ≠ r) → (e.u.ownBlock = none ∨ e.u.ownBlock ≠ r) → P w' e)
    {w w' : World} {v : Value} {E : List Ent} (h : ∀ e ∈ E, P w e) (hg : w.grownBy w' v.ownBlock) (hf : ∀ e ∈ E, Far e.v v ∧ Far e.u v) : ∀ e ∈ E, P w' e :=
  fun e he => hP (h e he) hg (far_ne (hf e he).1) (far_ne (hf e he).2)
end Go.Proofs.Ytedhinekkmoheaa
