/- Plain laws: a line of words with single blanks between, a remark behind it; a policy's text reads back. -/
import Derived.Test.YtemanjahkohcpaaDoorERigJn
import Derived.Test.YtemanjahkohcpaaDoorJn43
namespace Go.Proofs.YtemanjahkohcpaaDoor
open Go.RowKit WP
theorem skipB_end (l : List UInt8) : ∀ (b : List UInt8) (F k : Nat), (∀ x ∈ b, blankI ((x.toNat : Nat) : Int) = false) → l.drop k = b → k ≤ l.length → b.length ≤ F → skipB l F k = k + b.length
  | [], F, k, _, h, hk, _ => by
    have : l.length ≤ k := by simpa using h
    cases F with
    | zero => rfl
    | succ F => unfold skipB; rw [if_neg (by omega)]; rfl
  | x :: b, F, k, hb, h, hk, hF => by
    obtain ⟨F, rfl⟩ : ∃ g, F = g + 1 := ⟨F - 1, by simp at hF; omega⟩
    obtain ⟨h1, h2, h3⟩ := bAt_at h
    unfold skipB
    rw [if_pos ⟨h1, by rw [h3]; exact hb x (by simp)⟩, skipB_end l b F (k + 1) (fun y hy => hb y (by simp [hy])) (drop_one h) (by omega) (by simpa using hF)]
    simp; omega
theorem wA_size (s : ByteArray) (f i : Nat) (acc : List W) (h : s.size ≤ i) : wA s f i acc = .inl acc := by
  cases f with
  | zero => rfl
  | succ f => unfold wA; rw [if_pos h]
theorem wA_end (s : ByteArray) (b : List UInt8) (hp : plainWd b = true) (f k : Nat) (acc : List W) (h : s.data.toList.drop k = b) (hf : s.size + 1 ≤ f + k) : wA s f k acc = .inl (acc ++ [(⟨b.toArray⟩, false, k + 1)]) := by
  have hsz := size_list s
  unfold plainWd at hp
  simp only [Bool.and_eq_true, decide_eq_true_eq, List.all_eq_true, Bool.not_eq_true'] at hp
  obtain ⟨⟨p1, p2, p3⟩, p4⟩ := hp
  have hlen : k + b.length = s.size := by
    have h1 := congrArg List.length h
    rw [List.length_drop, hsz] at h1
    have : 0 < b.length := List.length_pos_iff.2 p1
    omega
  have hsk := skipB_end s.data.toList b s.size k p4 h (by omega) (by omega)
  have hex := extract_at (s := s) (k := k) (b := b) (r := []) (by rw [h]; simp)
  cases b with
  | nil => exact absurd rfl p1
  | cons x b =>
    obtain ⟨h1, h2, h3⟩ := bAt_at h
    rw [hsz] at h1
    obtain ⟨f, rfl⟩ : ∃ g, f = g + 1 := ⟨f - 1, by omega⟩
    have hx := p4 x (by simp)
    have n34 : ((x.toNat : Nat) : Int) ≠ 34 := by
      intro e; apply p2; simp; exact UInt8.toNat_inj.1 (by show x.toNat = 34; omega)
    have n35 : ((x.toNat : Nat) : Int) ≠ 35 := by
      intro e; apply p3; simp; exact UInt8.toNat_inj.1 (by show x.toNat = 35; omega)
    unfold wA
    rw [if_neg (by omega), h3, if_neg (by rw [hx]; simp), if_neg n35, if_neg n34, hsk, hex]
    exact wA_size _ _ _ _ (by omega)
/-- words, one blank between two -/
def joinW : List (List UInt8) → List UInt8
  | [] => []
  | [b] => b
  | b :: c :: bs => b ++ 32 :: joinW (c :: bs)
def colsW : Nat → List (List UInt8) → List W
  | _, [] => []
  | k, b :: bs => (⟨b.toArray⟩, false, k + 1) :: colsW (k + b.length + 1) bs
theorem wA_joined (s : ByteArray) (tail : List UInt8) (ht : tail = [] ∨ ∃ c, tail = 32 :: 35 :: c) : ∀ (bs : List (List UInt8)) (f k : Nat) (acc : List W), bs ≠ [] → (∀ b ∈ bs, plainWd b = true) →
    s.data.toList.drop k = joinW bs ++ tail → s.size + 1 ≤ f + k → wA s f k acc = .inl (acc ++ colsW k bs)
  | [], f, k, acc, h, _, _, _ => absurd rfl h
  | [b], f, k, acc, _, hp, h, hf => by
    rcases ht with rfl | ⟨c, rfl⟩
    · exact wA_end s b (hp b (by simp)) f k acc (by rw [h]; simp [joinW]) hf
    · obtain ⟨f1, i1, j1⟩ := wA_form s false b 32 (35 :: c) (by decide) (.inr (hp b (by simp))) f k acc h hf
      rw [j1]
      have d1 := drop_by _ (show s.data.toList.drop k = formL false b ++ ([32] ++ (35 :: c)) from h)
      obtain ⟨f2, i2, j2⟩ := wA_gap s [32] (35 :: c) f1 _ (acc ++ [(⟨b.toArray⟩, false, k + 1)]) (by intro x hx; simp only [List.mem_cons, List.not_mem_nil, or_false] at hx; subst hx; decide) d1 i1
      rw [j2]
      have d2 := drop_by _ d1
      obtain ⟨h1, h2, h3⟩ := bAt_at d2
      rw [size_list] at h1
      obtain ⟨f2, rfl⟩ : ∃ g, f2 = g + 1 := ⟨f2 - 1, by omega⟩
      have h3 : bAt s.data.toList (k + (formL false b).length + [(32 : UInt8)].length) = 35 := h3
      unfold wA
      rw [if_neg (by omega), h3, if_neg (by decide), if_pos rfl]
      rfl
  | b :: c :: bs, f, k, acc, _, hp, h, hf => by
    have h' : s.data.toList.drop k = formL false b ++ 32 :: (joinW (c :: bs) ++ tail) := by rw [h]; simp [joinW, formL]
    obtain ⟨f1, i1, j1⟩ := wA_form s false b 32 _ (by decide) (.inr (hp b (by simp))) f k acc h' hf
    rw [j1]
    have d1 := drop_by _ (show s.data.toList.drop k = formL false b ++ ([32] ++ (joinW (c :: bs) ++ tail)) from h')
    obtain ⟨f2, i2, j2⟩ := wA_gap s [32] _ f1 _ (acc ++ [(⟨b.toArray⟩, false, k + 1)]) (by intro x hx; simp only [List.mem_cons, List.not_mem_nil, or_false] at hx; subst hx; decide) d1 i1
    rw [j2, wA_joined s tail ht (c :: bs) f2 _ _ (by simp) (fun x hx => hp x (by simp [hx])) (drop_by _ d1) i2]
    simp [colsW, formL]
theorem words_joined (bs : List (List UInt8)) (tail : List UInt8) (ht : tail = [] ∨ ∃ c, tail = 32 :: 35 :: c) (hn : bs ≠ []) (hp : ∀ b ∈ bs, plainWd b = true) : wordsF ⟨(joinW bs ++ tail).toArray⟩ = .inl (colsW 0 bs) := by
  have := wA_joined ⟨(joinW bs ++ tail).toArray⟩ tail ht bs (ByteArray.size ⟨(joinW bs ++ tail).toArray⟩ + 1) 0 [] hn hp (by simp) (by omega)
  simpa [wordsF] using this
theorem words_nil : wordsF ⟨#[]⟩ = .inl [] := rfl
theorem words_tab : wordsF ⟨#[9]⟩ = .inl [] := rfl
end Go.Proofs.YtemanjahkohcpaaDoor
