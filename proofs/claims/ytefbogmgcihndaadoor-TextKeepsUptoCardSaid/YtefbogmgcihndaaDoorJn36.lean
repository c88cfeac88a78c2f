/- Plain laws: how many words a line has, and how long they are; how long a text's lines are. Quoted forms there and back: plain laws. -/
import Derived.Test.YtefbogmgcihndaaDoorTWdP
import Derived.Test.YtefbogmgcihndaaDoorTLin
import Derived.Test.YtefbogmgcihndaaDoorTUnq
namespace Go.Proofs.YtefbogmgcihndaaDoor
open Go.RowKit WP
theorem qA_len (l : List UInt8) : ∀ (f i : Nat) (acc b : List UInt8) (n : Nat), qA l f i acc = .inl (b, n) → b.length + i ≤ n + acc.length
  | 0, i, acc, b, n, h => by simp [qA] at h
  | f + 1, i, acc, b, n, h => by
    unfold qA at h
    split at h
    · simp at h
    · split at h
      · simp only [Sum.inl.injEq, Prod.mk.injEq] at h; obtain ⟨rfl, rfl⟩ := h; omega
      · split at h
        · have := qA_len l f _ _ _ _ h; simp only [List.length_append, List.length_cons, List.length_nil] at this; omega
        · split at h
          · simp at h
          · split at h
            · have := qA_len l f _ _ _ _ h; simp only [List.length_append, List.length_cons, List.length_nil] at this; omega
            · simp at h
theorem wA_bd (s : ByteArray) : ∀ (f i : Nat) (acc ws : List W), i ≤ s.size → acc.length ≤ i → (∀ x ∈ acc, x.1.size ≤ s.size) → wA s f i acc = .inl ws → ws.length ≤ s.size ∧ ∀ x ∈ ws, x.1.size ≤ s.size
  | 0, i, acc, ws, hi, ha, hx, h => by
    simp only [wA, Sum.inl.injEq] at h; subst h; exact ⟨by omega, hx⟩
  | f + 1, i, acc, ws, hi, ha, hx, h => by
    have hl : s.data.toList.length = s.size := by rw [Array.length_toList]; rfl
    unfold wA at h
    split at h
    · simp only [Sum.inl.injEq] at h; subst h; exact ⟨by omega, hx⟩
    · rename_i hlt
      split at h
      · exact wA_bd s f _ _ _ (by omega) (by omega) hx h
      · rename_i hbl
        split at h
        · simp only [Sum.inl.injEq] at h; subst h; exact ⟨by omega, hx⟩
        · split at h
          · split at h
            · simp at h
            · rename_i b n hq
              have h1 := qA_len _ _ _ _ _ _ hq
              have h2 := qA_bd _ _ _ _ _ _ hq
              split at h
              · simp at h
              · refine wA_bd s f _ _ _ (by omega) (by simp; omega) ?_ h
                intro x hx'
                rcases List.mem_append.1 hx' with hx' | hx'
                · exact hx x hx'
                · simp only [List.mem_cons, List.not_mem_nil, or_false] at hx'; subst hx'
                  show b.length ≤ s.size
                  simp at h1; omega
          · have hgt := skipB_gt s.data.toList (s.size - 1) i (by omega) (by simpa using hbl)
            have hbd := skipB_bd s.data.toList s.size i (by omega)
            rw [show s.size - 1 + 1 = s.size by omega] at hgt
            refine wA_bd s f _ _ _ (by omega) (by simp; omega) ?_ h
            intro x hx'
            rcases List.mem_append.1 hx' with hx' | hx'
            · exact hx x hx'
            · simp only [List.mem_cons, List.not_mem_nil, or_false] at hx'; subst hx'
              simp; omega
theorem wordsF_bd (s : ByteArray) (ws : List W) (h : wordsF s = .inl ws) : ws.length ≤ s.size ∧ ∀ x ∈ ws, x.1.size ≤ s.size :=
  wA_bd s _ 0 [] ws (by omega) (by simp) (by simp) h
theorem linesA_bd : ∀ (l c : List UInt8), (linesA c l).length ≤ c.length + l.length ∧ ∀ b ∈ linesA c l, b.length ≤ c.length + l.length
  | [], c => by
    unfold linesA
    split
    · simp
    · rename_i h
      have : 0 < c.length := List.length_pos_iff.2 h
      simp; omega
  | x :: l, c => by
    unfold linesA
    split
    · obtain ⟨h1, h2⟩ := linesA_bd l []
      simp only [List.length_nil, Nat.zero_add] at h1 h2
      refine ⟨by simp; omega, ?_⟩
      intro b hb
      simp only [List.mem_cons] at hb
      rcases hb with rfl | hb
      · simp
      · have := h2 b hb; simp; omega
    · obtain ⟨h1, h2⟩ := linesA_bd l (c ++ [x])
      simp only [List.length_append, List.length_cons, List.length_nil] at h1 h2 ⊢
      exact ⟨by omega, fun b hb => by have := h2 b hb; omega⟩
theorem linesF_bd (s : ByteArray) : (linesF s).length ≤ s.size ∧ ∀ t ∈ linesF s, t.size ≤ s.size := by
  have hl : s.data.toList.length = s.size := by rw [Array.length_toList]; rfl
  obtain ⟨h1, h2⟩ := linesA_bd s.data.toList []
  simp only [List.length_nil, Nat.zero_add, hl] at h1 h2
  unfold linesF bas
  refine ⟨by simpa using h1, ?_⟩
  intro t ht
  obtain ⟨b, hb, rfl⟩ := List.mem_map.1 ht
  exact h2 b hb
end Go.Proofs.YtefbogmgcihndaaDoor

namespace Go.Proofs.YtefbogmgcihndaaDoor
open WP
theorem unq_quote (b : List UInt8) : unqF (quoteL b) = some b := by
  unfold unqF
  have h1 : (quoteL b).head? = some 34 := rfl
  rw [if_pos h1]
  have hq := qA_at (quoteL b) [] b ((quoteL b).length + 1) 1 [] rfl (by omega)
  rw [hq]
  have hl : (quoteL b).length = 1 + (b.flatMap qb).length + 1 := by unfold quoteL; simp; omega
  simp only [List.nil_append]
  rw [if_pos hl.symm]
theorem hv_backF : ∀ n : Fin 256, 0 ≤ hv ((n.val : Nat) : Int) → dgB (hv ((n.val : Nat) : Int)).toNat = UInt8.ofNat n.val := by decide +kernel
theorem hv_back (c : UInt8) (h : 0 ≤ hv (c.toNat : Int)) : dgB (hv (c.toNat : Int)).toNat = c := by
  have := hv_backF ⟨c.toNat, c.toNat_lt⟩ h
  rwa [UInt8.ofNat_toNat] at this
theorem esc_back (l : List UInt8) (i : Nat) (h92 : bAt l i = 92) (hi : i < l.length) (h : (escF (l.drop i)).2 = true) :
    l.drop i = qb (UInt8.ofNat (escF (l.drop i)).1.toNat) ++ l.drop (i + 4) := by
  have hlen := escF_long _ h
  rw [List.length_drop] at hlen
  have hE : escF (l.drop i) = if l.length - i < 4 ∨ bAt l (i + 1) ≠ 120 then (0, false) else if hv (bAt l (i + 2)) < 0 ∨ hv (bAt l (i + 3)) < 0 then (0, false) else (hv (bAt l (i + 2)) * 16 + hv (bAt l (i + 3)), !plainI (hv (bAt l (i + 2)) * 16 + hv (bAt l (i + 3)))) := by
    unfold escF
    rw [bAt_drop, bAt_drop, bAt_drop, List.length_drop]
  have h0 := hE
  rw [hE] at h ⊢
  clear hE h0
  by_cases c1 : l.length - i < 4 ∨ bAt l (i + 1) ≠ 120
  · rw [if_pos c1] at h; cases h
  rw [if_neg c1] at h ⊢
  by_cases c2 : hv (bAt l (i + 2)) < 0 ∨ hv (bAt l (i + 3)) < 0
  · rw [if_pos c2] at h; cases h
  rw [if_neg c2] at h ⊢
  have h120 : bAt l (i + 1) = 120 := Classical.byContradiction fun e => c1 (.inr e)
  have e0 : l.drop i = l[i] :: l[i + 1] :: l[i + 2] :: l[i + 3] :: l.drop (i + 4) := by
    rw [List.drop_eq_getElem_cons hi, List.drop_eq_getElem_cons (show i + 1 < l.length by omega), List.drop_eq_getElem_cons (show i + 2 < l.length by omega), List.drop_eq_getElem_cons (show i + 3 < l.length by omega)]
  have bv : ∀ k (hk : k < l.length), bAt l k = ((l[k].toNat : Nat) : Int) := fun k hk => by unfold bAt; rw [List.getD_eq_getElem?_getD, List.getElem?_eq_getElem hk]; rfl
  rw [bv i hi] at h92
  rw [bv (i + 1) (by omega)] at h120
  rw [bv (i + 2) (by omega), bv (i + 3) (by omega)] at c2 h ⊢
  have x2 : 0 ≤ hv ((l[i + 2].toNat : Nat) : Int) := by omega
  have x3 : 0 ≤ hv ((l[i + 3].toNat : Nat) : Int) := by omega
  have y2 := hv_back _ x2
  have y3 := hv_back _ x3
  have z2 := hv_lt ((l[i + 2].toNat : Nat) : Int)
  have z3 := hv_lt ((l[i + 3].toNat : Nat) : Int)
  have w0 : l[i] = 92 := UInt8.toNat.inj (by show l[i].toNat = 92; omega)
  have w1 : l[i + 1] = 120 := UInt8.toNat.inj (by show l[i + 1].toNat = 120; omega)
  rw [e0, w0, w1]
  generalize hv ((l[i + 2].toNat : Nat) : Int) = a at *
  generalize hv ((l[i + 3].toNat : Nat) : Int) = b at *
  have hv' : ((UInt8.ofNat (a * 16 + b).toNat).toNat : Int) = a * 16 + b := ofI8_val _ (by omega) (by omega)
  have hp : plainI ((UInt8.ofNat (a * 16 + b).toNat).toNat : Int) = false := by
    rw [hv']
    simpa using h
  unfold qb
  rw [if_neg (by rw [hp]; simp)]
  have hn : (UInt8.ofNat (a * 16 + b).toNat).toNat = a.toNat * 16 + b.toNat := by omega
  rw [hn, show (a.toNat * 16 + b.toNat) / 16 = a.toNat by omega, show (a.toNat * 16 + b.toNat) % 16 = b.toNat by omega, y2, y3]
  rfl
theorem qA_back (l : List UInt8) : ∀ (f k : Nat) (acc res : List UInt8) (n : Nat), qA l f k acc = .inl (res, n) → ∃ b, res = acc ++ b ∧ l.drop k = b.flatMap qb ++ 34 :: l.drop n
  | 0, k, acc, res, n, h => by cases h
  | f + 1, k, acc, res, n, h => by
    unfold qA at h
    by_cases c1 : l.length ≤ k
    · rw [if_pos c1] at h; cases h
    rw [if_neg c1] at h
    have hk : k < l.length := by omega
    have bv : bAt l k = ((l[k].toNat : Nat) : Int) := by unfold bAt; rw [List.getD_eq_getElem?_getD, List.getElem?_eq_getElem hk]; rfl
    have gv : l.getD k 0 = l[k] := by rw [List.getD_eq_getElem?_getD, List.getElem?_eq_getElem hk]; rfl
    have ed := List.drop_eq_getElem_cons hk
    by_cases c2 : bAt l k = 34
    · rw [if_pos c2] at h
      simp only [Sum.inl.injEq, Prod.mk.injEq] at h
      obtain ⟨rfl, rfl⟩ := h
      refine ⟨[], by simp, ?_⟩
      rw [ed]
      have : l[k] = 34 := UInt8.toNat.inj (by show l[k].toNat = 34; omega)
      rw [this]; rfl
    rw [if_neg c2] at h
    by_cases c3 : plainI (bAt l k) = true
    · rw [if_pos c3] at h
      obtain ⟨b, hb1, hb2⟩ := qA_back l f _ _ _ _ h
      refine ⟨l[k] :: b, by rw [hb1, gv]; simp, ?_⟩
      have hq : qb l[k] = [l[k]] := by unfold qb; rw [if_pos (by rw [← bv]; exact c3)]
      rw [ed, hb2, List.flatMap_cons, hq]; rfl
    rw [if_neg c3] at h
    by_cases c4 : bAt l k ≠ 92
    · rw [if_pos c4] at h; cases h
    rw [if_neg c4] at h
    have h92 : bAt l k = 92 := Classical.byContradiction c4
    by_cases c5 : (escF (l.drop k)).2 = true
    · rw [if_pos c5] at h
      obtain ⟨b, hb1, hb2⟩ := qA_back l f _ _ _ _ h
      refine ⟨_ :: b, by rw [hb1]; simp; rfl, ?_⟩
      exact (esc_back l k h92 hk c5).trans (by rw [hb2, List.flatMap_cons, List.append_assoc])
    · rw [if_neg c5] at h; cases h
theorem quote_unq (l b : List UInt8) (h : unqF l = some b) : quoteL b = l := by
  unfold unqF at h
  split at h
  · rename_i h0
    cases hQ : qA l (l.length + 1) 1 [] with
    | inr k => rw [hQ] at h; cases h
    | inl p =>
      obtain ⟨r, n⟩ := p
      rw [hQ] at h
      simp only at h
      split at h
      · rename_i hn
        simp only [Option.some.injEq] at h
        subst h
        obtain ⟨b, hb1, hb2⟩ := qA_back l _ _ _ _ _ hQ
        rw [List.nil_append] at hb1
        subst hb1
        rw [hn, List.drop_length] at hb2
        cases l with
        | nil => cases h0
        | cons c t =>
          have : c = 34 := by simpa using h0
          subst this
          have ht : t = r.flatMap qb ++ [34] := hb2
          rw [ht]; rfl
      · cases h
  · cases h
theorem qb_okF : ∀ n : Fin 256, ∀ x ∈ qb (UInt8.ofNat n.val), 32 ≤ x.toNat ∧ x.toNat ≤ 126 ∧ x.toNat ≠ 34 := by decide +kernel
theorem qb_ok (c : UInt8) : ∀ x ∈ qb c, 32 ≤ x.toNat ∧ x.toNat ≤ 126 ∧ x.toNat ≠ 34 := by
  have := qb_okF ⟨c.toNat, c.toNat_lt⟩
  rwa [UInt8.ofNat_toNat] at this
theorem qb_pos (c : UInt8) : 1 ≤ (qb c).length := by unfold qb; split <;> simp
theorem qbs_ge : ∀ b : List UInt8, b.length ≤ (b.flatMap qb).length
  | [] => by simp
  | c :: b => by
    have := qbs_ge b
    have := qb_pos c
    simp only [List.flatMap_cons, List.length_append, List.length_cons]; omega
/-- a quoted form's bytes: none that may not stand in a line; quotes at its ends alone -/
theorem quote_bytes (b : List UInt8) (i : Nat) (h : i < (quoteL b).length) : 32 ≤ bAt (quoteL b) i ∧ bAt (quoteL b) i ≤ 126 ∧ (bAt (quoteL b) i = 34 → i = 0 ∨ i = (quoteL b).length - 1) := by
  have hl : (quoteL b).length = (b.flatMap qb).length + 2 := by unfold quoteL; simp
  by_cases h0 : i = 0
  · subst h0
    have e : bAt (quoteL b) 0 = 34 := rfl
    rw [e]; exact ⟨by omega, by omega, fun _ => .inl rfl⟩
  by_cases h1 : i = (quoteL b).length - 1
  · have e : bAt (quoteL b) i = 34 := by
      unfold bAt quoteL
      rw [List.getD_eq_getElem?_getD]
      obtain ⟨j, rfl⟩ : ∃ j, i = j + 1 := ⟨i - 1, by omega⟩
      rw [List.getElem?_cons_succ, List.getElem?_append_right (by omega), show j - (b.flatMap qb).length = 0 by omega]
      rfl
    rw [e]; exact ⟨by omega, by omega, fun _ => .inr h1⟩
  · obtain ⟨j, rfl⟩ : ∃ j, i = j + 1 := ⟨i - 1, by omega⟩
    have hj : j < (b.flatMap qb).length := by omega
    have e : bAt (quoteL b) (j + 1) = (((b.flatMap qb)[j].toNat : Nat) : Int) := by
      unfold bAt quoteL
      rw [List.getD_eq_getElem?_getD, List.getElem?_cons_succ, List.getElem?_append_left hj, List.getElem?_eq_getElem hj]
      rfl
    obtain ⟨c, _, hx⟩ := List.mem_flatMap.1 (List.getElem_mem hj)
    have := qb_ok c _ hx
    rw [e]
    exact ⟨by omega, by omega, fun e => by omega⟩
end Go.Proofs.YtefbogmgcihndaaDoor
