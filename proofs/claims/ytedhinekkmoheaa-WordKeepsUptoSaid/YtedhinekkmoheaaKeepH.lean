/- The law's book in the last loop: an entry gets its two longer lists. -/
import Derived.Test.YtedhinekkmoheaaKeepG
namespace Go.Proofs.Ytedhinekkmoheaa
open Go.RowKit WP
theorem EntRead.grown {w w' : World} {e : Ent} {r : Option Nat} (h : EntRead w e) (hg : w.grownBy w' r) (hne : ∀ y ∈ [e.v, e.m, e.u, e.x], y.ownBlock = none ∨ y.ownBlock ≠ r) : EntRead w' e := by
  obtain ⟨n, nb, h1, h2, h3, h4, h5, h6⟩ := h
  exact ⟨n, nb, h1, h2, h3.grown hg (hne _ (by simp)), h4.grown hg (hne _ (by simp)), h5.grown hg (hne _ (by simp)), h6.grown hg (hne _ (by simp))⟩
theorem far_onto {w w' : World} {v v' y : Value} (hO : Onto w v w' v') (hf : Far v y) (hy : ∀ k, y.ownBlock = some k → k < w.heap.size) : Far v' y := by
  intro k h1 h2
  rcases hO.2 with hb | hb
  · rw [hb] at h1; exact hf k h1 h2
  · have := hb k h1; have := hy k h2; omega
theorem Onto.of_drew {w w1 : World} {v v1 : Value} (h : Onto w.drew v w1 v1) : Onto w v w1 v1 := ⟨grownBy_trans (grownBy_drew w _) h.1 (.inl rfl), h.2⟩
theorem row_frozen {w : World} {base : Nat} {e : TypeId} {size n m cap B : Nat} {xs : List Value} (h : w.ownsRow base e size (.slice (some ⟨B, 0, none⟩) m cap) n xs) (j : Nat) : w.frozen? ⟨B, j, none⟩ = false := by
  rcases h.2 with ⟨h', _⟩ | ⟨g', cap', cur, h', _, hg, _⟩
  · simp at h'
  · simp only [Value.slice.injEq, Option.some.injEq, Addr.mk.injEq, and_true, true_and] at h'
    obtain ⟨rfl, rfl, rfl⟩ := h'
    exact frozen_of_row w B j cur e hg
structure Book4 (base : Nat) (ty : TypeId) (w : World) (b : Value) (D T : List Ent) : Prop where
  row : w.ownsRow base ty 5 b (D ++ T).length (rowsOf (D ++ T))
  far : (vals T).Pairwise Far
  off : ∀ v ∈ vals T, Far v b
  done : ∀ d ∈ D, EntRead w d ∧ ∀ y ∈ [d.v, d.m, d.u, d.x], Far y b ∧ ∀ t ∈ T, Far y t.v ∧ Far y t.u
  todo : ∀ t ∈ T, EntMark base w t
theorem Book4.start {base : Nat} {ty : TypeId} {w : World} {b : Value} {T : List Ent} (h : Book base ty w b T) (hT : ∀ t ∈ T, EntMark base w t) : Book4 base ty w b [] T :=
  ⟨h.row, h.far, h.off, by simp, hT⟩
theorem Book4.mid {base : Nat} {ty : TypeId} {w : World} {b : Value} {D T : List Ent} {t : Ent} (h : Book4 base ty w b D (t :: T)) :
    ∃ B cap, b = .slice (some ⟨B, 0, none⟩) (D ++ t :: T).length cap ∧ base ≤ B ∧ B < w.heap.size ∧
      w.cell? ⟨B, D.length * 5, none⟩ = some t.v ∧ w.cell? ⟨B, D.length * 5 + 1, none⟩ = some t.m ∧ w.cell? ⟨B, D.length * 5 + 2, none⟩ = some t.u ∧
      w.cell? ⟨B, D.length * 5 + 3, none⟩ = some t.x ∧ w.cell? ⟨B, D.length * 5 + 4, none⟩ = some (.int .i64 t.k) ∧ ∀ j, w.frozen? ⟨B, j, none⟩ = false := by
  have hi : D.length < (D ++ t :: T).length := by simp
  obtain ⟨B, cap, rfl, h1, h2, h3, h4, c0, c1, c2, c3, c4⟩ := book_at h.row D.length hi
  have e : (D ++ t :: T)[D.length] = t := by simp
  rw [e] at c0 c1 c2 c3 c4
  exact ⟨B, cap, rfl, h1, h2, c0, c1, c2, c3, c4, h.row.frozenAt⟩
theorem Book4.tfar {base : Nat} {ty : TypeId} {w : World} {b : Value} {D T : List Ent} {t : Ent} (h : Book4 base ty w b D (t :: T)) : Far t.v b ∧ Far t.u b ∧ Far t.v t.u ∧ ∀ e ∈ T, Far e.v t.v ∧ Far e.u t.v ∧ Far e.v t.u ∧ Far e.u t.u := by
  obtain ⟨h1, h2, _⟩ := far_mid (D := []) h.far
  exact ⟨h.off _ (mem_vals.2 ⟨t, by simp, .inl rfl⟩), h.off _ (mem_vals.2 ⟨t, by simp, .inr rfl⟩), h2, fun e he => h1 e (.inr he)⟩
theorem row_set {base : Nat} {ty : TypeId} {w : World} {B N cap : Nat} {D T : List Ent} {t t' : Ent} (h : w.ownsRow base ty 5 (.slice (some ⟨B, 0, none⟩) N cap) N (rowsOf (D ++ t :: T))) (c : Nat) (y : Value) (hc : c < 5)
    (ht : t.cells.set c y = t'.cells) :
    (w.setCell ⟨B, D.length * 5 + c, none⟩ y).ownsRow base ty 5 (.slice (some ⟨B, 0, none⟩) N cap) N (rowsOf (D ++ t' :: T)) ∧ w.grownBy (w.setCell ⟨B, D.length * 5 + c, none⟩ y) (some B) := by
  have hs := h.stored (D.length * 5 + c) y
  rw [rowsOf_set D T t t' c y hc ht] at hs
  exact hs
theorem row_mid {base : Nat} {ty : TypeId} {w : World} {B N cap : Nat} {D T : List Ent} {t : Ent} (h : w.ownsRow base ty 5 (.slice (some ⟨B, 0, none⟩) N cap) N (rowsOf (D ++ t :: T))) (hN : (D ++ t :: T).length = N) :
    w.cell? ⟨B, D.length * 5 + 2, none⟩ = some t.u ∧ w.cell? ⟨B, D.length * 5 + 3, none⟩ = some t.x ∧ w.cell? ⟨B, D.length * 5 + 4, none⟩ = some (.int .i64 t.k) ∧ ∀ j, w.frozen? ⟨B, j, none⟩ = false := by
  subst hN
  have hi : D.length < (D ++ t :: T).length := by simp
  obtain ⟨_, _, hv, h1, h2, h3, h4, c0, c1, c2, c3, c4⟩ := book_at h D.length hi
  simp only [Value.slice.injEq, Option.some.injEq, Addr.mk.injEq, and_true, true_and] at hv
  obtain ⟨rfl, rfl⟩ := hv
  have e : (D ++ t :: T)[D.length] = t := by simp
  rw [e] at c2 c3 c4
  exact ⟨c2, c3, c4, h.frozenAt⟩
/-- one entry more -/
theorem Book4.step {base : Nat} {ty : TypeId} {w w1 w3 : World} {B N cap n nb : Nat} {D T : List Ent} {v m u x v' u' : Value} {k : Int}
    (h : Book4 base ty w (.slice (some ⟨B, 0, none⟩) N cap) D (⟨v, m, u, x, k⟩ :: T)) (hN : (D ++ (⟨v, m, u, x, k⟩ : Ent) :: T).length = N) (hB : B < w.heap.size) (hk : 0 ≤ k) (hk2 : k ≤ 1099511627776)
    (hu : ∀ j, u.ownBlock = some j → j < w.heap.size) (hv : ∀ j, v.ownBlock = some j → j < w.heap.size)
    (O1 : Onto w v w1 v') (own1 : w1.ownsRow base 22 1 v' (n + 1) (List.replicate (n + 1) (mk32 k))) (r1 : Rd w1 v (List.replicate n (mk32 k)))
    (O3 : Onto (w1.setCell ⟨B, D.length * 5 + 1, none⟩ v') u w3 u') (own3 : w3.ownsRow base 5 1 u' (nb + 1) (List.replicate (nb + 1) (mk8 k))) (r3 : Rd w3 u (List.replicate nb (mk8 k))) :
    Book4 base ty (w3.setCell ⟨B, D.length * 5 + 3, none⟩ u') (.slice (some ⟨B, 0, none⟩) N cap) (D ++ [⟨v, v', u, u', k⟩]) T := by
  obtain ⟨fvb, fub, fvu, fT⟩ := h.tfar
  dsimp only at fvb fub fvu fT
  have hrow := h.row
  rw [hN] at hrow
  have row1 := hrow.kept O1.1 (far_ne (Far.symm fvb))
  obtain ⟨row2, g2⟩ := row_set (t' := ⟨v, v', u, x, k⟩) row1 1 v' (by decide) rfl
  have row3 := row2.kept O3.1 (far_ne (Far.symm fub))
  obtain ⟨row4, g4⟩ := row_set (t' := ⟨v, v', u, u', k⟩) row3 3 u' (by decide) rfl
  have s1 := O1.1.size
  have s2 := g2.size
  have lb : ∀ j, (Value.slice (some ⟨B, 0, none⟩) N cap).ownBlock = some j → j < w.heap.size := fun j hj => by simp [Value.ownBlock] at hj; omega
  have fv'b : Far v' (.slice (some ⟨B, 0, none⟩) N cap) := far_onto O1 fvb lb
  have fv'u : Far v' u := far_onto O1 fvu hu
  have fu'b : Far u' (.slice (some ⟨B, 0, none⟩) N cap) := far_onto O3 fub fun j hj => by have := lb j hj; omega
  have key : ∀ {e : Ent}, EntRead w e → (∀ y ∈ [e.v, e.m, e.u, e.x], Far y (.slice (some ⟨B, 0, none⟩) N cap) ∧ Far y v ∧ Far y u) → EntRead (w3.setCell ⟨B, D.length * 5 + 3, none⟩ u') e := fun he hf =>
    (((he.grown O1.1 fun y hy => far_ne (hf y hy).2.1).grown g2 fun y hy => far_ne (hf y hy).1).grown O3.1 fun y hy => far_ne (hf y hy).2.2).grown g4 fun y hy => far_ne (hf y hy).1
  have hne : EntRead (w3.setCell ⟨B, D.length * 5 + 3, none⟩ u') ⟨v, v', u, u', k⟩ := by
    refine ⟨n, nb, hk, by simp; omega, ?_, ?_, ?_, ?_⟩
    · exact ((r1.grown g2 (far_ne fvb)).grown O3.1 (far_ne fvu)).grown g4 (far_ne fvb)
    · exact (((Rd.of_own own1).grown g2 (far_ne fv'b)).grown O3.1 (far_ne fv'u)).grown g4 (far_ne fv'b)
    · exact r3.grown g4 (far_ne fub)
    · exact (Rd.of_own own3).grown g4 (far_ne fu'b)
  refine ⟨?_, (far_mid (D := []) h.far).2.2, fun y hy => h.off y (by unfold vals at hy ⊢; rw [List.flatMap_cons]; exact List.mem_append_right _ hy), ?_, ?_⟩
  · have e : (D ++ [(⟨v, v', u, u', k⟩ : Ent)] ++ T).length = N := by rw [← hN]; simp
    rw [e, List.append_assoc]
    exact row4
  · intro d hd
    rcases List.mem_append.1 hd with hd | hd
    · obtain ⟨e1, e2⟩ := h.done d hd
      refine ⟨key e1 fun y hy => ⟨(e2 y hy).1, ((e2 y hy).2 _ List.mem_cons_self).1, ((e2 y hy).2 _ List.mem_cons_self).2⟩, fun y hy => ⟨(e2 y hy).1, fun t ht => (e2 y hy).2 t (List.mem_cons_of_mem _ ht)⟩⟩
    · rw [List.mem_singleton.1 hd]
      refine ⟨hne, fun y hy => ?_⟩
      have ltT : ∀ t ∈ T, (∀ j, t.v.ownBlock = some j → j < w.heap.size) ∧ (∀ j, t.u.ownBlock = some j → j < w.heap.size) := fun t ht =>
        ⟨fun j hj => ((h.todo t (List.mem_cons_of_mem _ ht)).own.lt _ (.inl rfl) j hj).2, fun j hj => ((h.todo t (List.mem_cons_of_mem _ ht)).own.lt _ (.inr rfl) j hj).2⟩
      simp only [List.mem_cons, List.not_mem_nil, or_false] at hy
      rcases hy with rfl | rfl | rfl | rfl
      · exact ⟨fvb, fun t ht => ⟨(fT t ht).1.symm, (fT t ht).2.1.symm⟩⟩
      · exact ⟨fv'b, fun t ht => ⟨far_onto O1 (fT t ht).1.symm (ltT t ht).1, far_onto O1 (fT t ht).2.1.symm (ltT t ht).2⟩⟩
      · exact ⟨fub, fun t ht => ⟨(fT t ht).2.2.1.symm, (fT t ht).2.2.2.symm⟩⟩
      · exact ⟨fu'b, fun t ht => ⟨far_onto O3 (fT t ht).2.2.1.symm fun j hj => by have := (ltT t ht).1 j hj; omega, far_onto O3 (fT t ht).2.2.2.symm fun j hj => by have := (ltT t ht).2 j hj; omega⟩⟩
  · intro t ht
    have ho := h.off
    have m1 : t.v ∈ vals ((⟨v, m, u, x, k⟩ : Ent) :: T) := mem_vals.2 ⟨t, List.mem_cons_of_mem _ ht, .inl rfl⟩
    have m2 : t.u ∈ vals ((⟨v, m, u, x, k⟩ : Ent) :: T) := mem_vals.2 ⟨t, List.mem_cons_of_mem _ ht, .inr rfl⟩
    exact ((((h.todo t (List.mem_cons_of_mem _ ht)).grown O1.1 (far_ne (fT t ht).1) (far_ne (fT t ht).2.1)).grown g2 (far_ne (ho _ m1)) (far_ne (ho _ m2))).grown O3.1 (far_ne (fT t ht).2.2.1) (far_ne (fT t ht).2.2.2)).grown g4 (far_ne (ho _ m1)) (far_ne (ho _ m2))
end Go.Proofs.Ytedhinekkmoheaa
