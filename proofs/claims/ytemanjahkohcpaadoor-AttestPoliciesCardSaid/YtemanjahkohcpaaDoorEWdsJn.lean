/- Plain laws: how many words a line has, and how long they are; how long a text's lines are. -/
import Derived.Test.YtemanjahkohcpaaDoorTWdPJn
import Derived.Test.YtemanjahkohcpaaDoorTLinJn
namespace Go.Proofs.YtemanjahkohcpaaDoor
open Go.RowKit WP
theorem qA_len (l : List UInt8) : ∀ (f i : Nat) (acc b : List UInt8) (n : Nat), qA l f i acc = .inl (b, n) → b.length + i ≤ n + acc.length
  | 0, i, acc, b, n, h => by simp [qA] at h
  | f + 1, i, acc, b, n, h => by
    unfold qA at h
    split at h
    · simp at h
    · split at h
      · simp only [Sum.inl.injEq, Prod.mk.injEq] at h; obtain ⟨rfl, rfl⟩ := h; omega
      · split at h
        · have := qA_len l f _ _ _ _ h; simp only [List.length_append, List.length_cons, List.length_nil] at this; omega
        · split at h
          · simp at h
          · split at h
            · have := qA_len l f _ _ _ _ h; simp only [List.length_append, List.length_cons, List.length_nil] at this; omega
            · simp at h
theorem wA_bd (s : ByteArray) : ∀ (f i : Nat) (acc ws : List W), i ≤ s.size → acc.length ≤ i → (∀ x ∈ acc, x.1.size ≤ s.size) → wA s f i acc = .inl ws → ws.length ≤ s.size ∧ ∀ x ∈ ws, x.1.size ≤ s.size
  | 0, i, acc, ws, hi, ha, hx, h => by
    simp only [wA, Sum.inl.injEq] at h; subst h; exact ⟨by omega, hx⟩
  | f + 1, i, acc, ws, hi, ha, hx, h => by
    have hl : s.data.toList.length = s.size := by rw [Array.length_toList]; rfl
    unfold wA at h
    split at h
    · simp only [Sum.inl.injEq] at h; subst h; exact ⟨by omega, hx⟩
    · rename_i hlt
      split at h
      · exact wA_bd s f _ _ _ (by omega) (by omega) hx h
      · rename_i hbl
        split at h
        · simp only [Sum.inl.injEq] at h; subst h; exact ⟨by omega, hx⟩
        · split at h
          · split at h
            · simp at h
            · rename_i b n hq
              have h1 := qA_len _ _ _ _ _ _ hq
              have h2 := qA_bd _ _ _ _ _ _ hq
              split at h
              · simp at h
              · refine wA_bd s f _ _ _ (by omega) (by simp; omega) ?_ h
                intro x hx'
                rcases List.mem_append.1 hx' with hx' | hx'
                · exact hx x hx'
                · simp only [List.mem_cons, List.not_mem_nil, or_false] at hx'; subst hx'
                  show b.length ≤ s.size
                  simp at h1; omega
          · have hgt := skipB_gt s.data.toList (s.size - 1) i (by omega) (by simpa using hbl)
            have hbd := skipB_bd s.data.toList s.size i (by omega)
            rw [show s.size - 1 + 1 = s.size by omega] at hgt
            refine wA_bd s f _ _ _ (by omega) (by simp; omega) ?_ h
            intro x hx'
            rcases List.mem_append.1 hx' with hx' | hx'
            · exact hx x hx'
            · simp only [List.mem_cons, List.not_mem_nil, or_false] at hx'; subst hx'
              simp; omega
theorem wordsF_bd (s : ByteArray) (ws : List W) (h : wordsF s = .inl ws) : ws.length ≤ s.size ∧ ∀ x ∈ ws, x.1.size ≤ s.size :=
  wA_bd s _ 0 [] ws (by omega) (by simp) (by simp) h
theorem linesA_bd : ∀ (l c : List UInt8), (linesA c l).length ≤ c.length + l.length ∧ ∀ b ∈ linesA c l, b.length ≤ c.length + l.length
  | [], c => by
    unfold linesA
    split
    · simp
    · rename_i h
      have : 0 < c.length := List.length_pos_iff.2 h
      simp; omega
  | x :: l, c => by
    unfold linesA
    split
    · obtain ⟨h1, h2⟩ := linesA_bd l []
      simp only [List.length_nil, Nat.zero_add] at h1 h2
      refine ⟨by simp; omega, ?_⟩
      intro b hb
      simp only [List.mem_cons] at hb
      rcases hb with rfl | hb
      · simp
      · have := h2 b hb; simp; omega
    · obtain ⟨h1, h2⟩ := linesA_bd l (c ++ [x])
      simp only [List.length_append, List.length_cons, List.length_nil] at h1 h2 ⊢
      exact ⟨by omega, fun b hb => by have := h2 b hb; omega⟩
theorem linesF_bd (s : ByteArray) : (linesF s).length ≤ s.size ∧ ∀ t ∈ linesF s, t.size ≤ s.size := by
  have hl : s.data.toList.length = s.size := by rw [Array.length_toList]; rfl
  obtain ⟨h1, h2⟩ := linesA_bd s.data.toList []
  simp only [List.length_nil, Nat.zero_add, hl] at h1 h2
  unfold linesF bas
  refine ⟨by simpa using h1, ?_⟩
  intro t ht
  obtain ⟨b, hb, rfl⟩ := List.mem_map.1 ht
  exact h2 b hb
end Go.Proofs.YtemanjahkohcpaaDoor
