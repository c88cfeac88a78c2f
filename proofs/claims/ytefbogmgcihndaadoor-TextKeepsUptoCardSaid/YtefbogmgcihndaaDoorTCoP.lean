/- Columns as a plain law: the widths, the text, the words of a line. -/
import Derived.Test.YtefbogmgcihndaaDoorTLine
namespace Go.Proofs.YtefbogmgcihndaaDoor
def nthB (cs : List ByteArray) (k : Nat) : ByteArray := cs.getD k ⟨#[]⟩
/-- the widths behind one row more -/
def wRow : List Nat → List ByteArray → List Nat
  | ws, [] => ws
  | [], c :: cs => c.size :: wRow [] cs
  | x :: ws, c :: cs => max x c.size :: wRow ws cs
theorem wRow_nil (ws : List Nat) : wRow ws [] = ws := by cases ws <;> rfl
theorem wRow_length : ∀ ws cs, (wRow ws cs).length = max ws.length cs.length
  | ws, [] => by rw [wRow_nil]; simp
  | [], c :: cs => by have := wRow_length [] cs; simp only [wRow, List.length_cons, this, List.length_nil]; omega
  | x :: ws, c :: cs => by have := wRow_length ws cs; simp only [wRow, List.length_cons, this]; omega
theorem wRow_at : ∀ ws cs j, (wRow ws cs).getD j 0 = max (ws.getD j 0) (if j < cs.length then (nthB cs j).size else 0)
  | ws, [], j => by rw [wRow_nil]; simp
  | [], c :: cs, 0 => by simp [wRow, nthB]
  | [], c :: cs, j + 1 => by have := wRow_at [] cs j; simpa [wRow, nthB] using this
  | x :: ws, c :: cs, 0 => by simp [wRow, nthB]
  | x :: ws, c :: cs, j + 1 => by have := wRow_at ws cs j; simpa [wRow, nthB] using this
theorem wRow_take : ∀ (ws : List Nat) (cs : List ByteArray) (i : Nat), i < cs.length → wRow ws (cs.take (i + 1)) = (if i = (wRow ws (cs.take i)).length then wRow ws (cs.take i) ++ [0] else wRow ws (cs.take i)).set i (max ((wRow ws (cs.take i)).getD i 0) (nthB cs i).size)
  | ws, [], i, h => absurd h (by simp)
  | [], c :: cs, 0, _ => by simp [wRow, nthB]
  | x :: ws, c :: cs, 0, _ => by simp [wRow, nthB, wRow_nil]
  | [], c :: cs, i + 1, h => by
    have ih := wRow_take [] cs i (by simpa using h)
    rw [List.take_succ_cons, List.take_succ_cons]
    simp only [wRow, List.length_cons, Nat.add_right_cancel_iff, nthB, List.getD_cons_succ] at ih ⊢
    rw [ih]
    split <;> simp
  | x :: ws, c :: cs, i + 1, h => by
    have ih := wRow_take ws cs i (by simpa using h)
    rw [List.take_succ_cons, List.take_succ_cons]
    simp only [wRow, List.length_cons, Nat.add_right_cancel_iff, nthB, List.getD_cons_succ] at ih ⊢
    rw [ih]
    split <;> simp
/-- the widths behind the first rows -/
def wK (C : Nat → List ByteArray) : Nat → List Nat
  | 0 => []
  | k + 1 => wRow (wK C k) (C k)
theorem wK_ge (C : Nat → List ByteArray) (n : Nat) : ∀ i, i < n → (C i).length ≤ (wK C n).length ∧ ∀ j, j < (C i).length → (nthB (C i) j).size ≤ (wK C n).getD j 0 := by
  induction n with
  | zero => intro i h; omega
  | succ n ih =>
    intro i h
    simp only [wK]
    rw [wRow_length]
    by_cases e : i = n
    · subst e
      refine ⟨by omega, fun j hj => ?_⟩
      rw [wRow_at, if_pos hj]; omega
    · obtain ⟨h1, h2⟩ := ih i (by omega)
      refine ⟨by omega, fun j hj => ?_⟩
      have := h2 j hj
      rw [wRow_at]; omega
theorem wK_hit (C : Nat → List ByteArray) (n : Nat) : ∀ j, j < (wK C n).length → ∃ i, i < n ∧ j < (C i).length ∧ (nthB (C i) j).size = (wK C n).getD j 0 := by
  induction n with
  | zero => intro j h; simp [wK] at h
  | succ n ih =>
    intro j h
    simp only [wK] at h ⊢
    rw [wRow_length] at h
    rw [wRow_at]
    by_cases hj : j < (C n).length
    · rw [if_pos hj]
      by_cases hw : (wK C n).getD j 0 ≤ (nthB (C n) j).size
      · exact ⟨n, by omega, hj, by omega⟩
      · have hl : j < (wK C n).length := by
          apply Classical.byContradiction; intro hn
          apply hw
          rw [List.getD_eq_getElem?_getD, List.getElem?_eq_none (by omega)]; simp
        obtain ⟨i, h1, h2, h3⟩ := ih j hl
        exact ⟨i, by omega, h2, by omega⟩
    · rw [if_neg hj]
      obtain ⟨i, h1, h2, h3⟩ := ih j (by omega)
      exact ⟨i, by omega, h2, by omega⟩
theorem wK_le (C : Nat → List ByteArray) (M n : Nat) (h : ∀ i, i < n → ∀ j, j < (C i).length → (nthB (C i) j).size ≤ M) : ∀ j, (wK C n).getD j 0 ≤ M := by
  induction n with
  | zero => intro j; simp [wK]
  | succ n ih =>
    intro j
    have := ih (fun i hi => h i (by omega)) j
    simp only [wK]
    rw [wRow_at]
    split
    · have := h n (by omega) j (by assumption); omega
    · omega
/-- a row of cells, the first ones -/
def padK (V : List Nat) (cs : List ByteArray) : Nat → List UInt8
  | 0 => []
  | k + 1 => padK V cs k ++ (nthB cs k).data.toList ++ (if k + 1 < cs.length then List.replicate (V.getD k 0 + 2 - (nthB cs k).size) 32 else [])
def textK (V : List Nat) (C : Nat → List ByteArray) : Nat → List UInt8
  | 0 => []
  | k + 1 => textK V C k ++ padK V (C k) (C k).length ++ [10]
theorem padK_len (V : List Nat) (cs : List ByteArray) (M : Nat) (hM : ∀ j, V.getD j 0 ≤ M) (hc : ∀ j, (nthB cs j).size ≤ V.getD j 0 ∨ cs.length ≤ j) : ∀ k, k ≤ cs.length → (padK V cs k).length ≤ k * (M + 2)
  | 0, _ => Nat.zero_le _
  | k + 1, h => by
    have ih := padK_len V cs M hM hc k (by omega)
    have h1 := hM k
    have h2 := (hc k).resolve_right (by omega)
    rw [Nat.succ_mul]
    simp only [padK, List.length_append, size_list]
    split
    · rw [List.length_replicate]; omega
    · simp only [List.length_nil]; omega
theorem padK_pre (V : List Nat) (cs : List ByteArray) (k : Nat) : ∀ m, k ≤ m → ∃ X, padK V cs m = padK V cs k ++ X
  | 0, h => by
    obtain rfl : k = 0 := by omega
    exact ⟨[], (List.append_nil _).symm⟩
  | m + 1, h => by
    by_cases e : k = m + 1
    · exact ⟨[], by rw [e, List.append_nil]⟩
    · obtain ⟨X, hX⟩ := padK_pre V cs k m (by omega)
      exact ⟨X ++ ((nthB cs m).data.toList ++ (if m + 1 < cs.length then List.replicate (V.getD m 0 + 2 - (nthB cs m).size) 32 else [])), by simp only [padK, hX, List.append_assoc]⟩
/-- where a column begins -/
def colK (V : List Nat) : Nat → Nat
  | 0 => 1
  | k + 1 => colK V k + (V.getD k 0 + 2)
theorem padK_col (V : List Nat) (cs : List ByteArray) (hc : ∀ j, j < cs.length → (nthB cs j).size ≤ V.getD j 0) : ∀ k, k < cs.length → (padK V cs k).length + 1 = colK V k
  | 0, _ => rfl
  | k + 1, h => by
    have ih := padK_col V cs hc k (by omega)
    have h2 := hc k (by omega)
    simp only [padK, colK, List.length_append, size_list]
    rw [if_pos h, List.length_replicate]
    omega
/-- digits, one at least -/
def allDig (c : ByteArray) : Prop := c.data.toList ≠ [] ∧ ∀ x ∈ c.data.toList, 48 ≤ x.toNat ∧ x.toNat ≤ 57
theorem allDig_plain {c : ByteArray} (h : allDig c) : plainWd c.data.toList = true := by
  unfold plainWd
  simp only [Bool.and_eq_true, decide_eq_true_eq, List.all_eq_true, Bool.not_eq_true']
  obtain ⟨h1, h2⟩ := h
  refine ⟨⟨h1, ?_, ?_⟩, ?_⟩
  · intro e
    have := h2 34 (List.mem_of_mem_head? e)
    simp at this
  · intro e
    have := h2 35 (List.mem_of_mem_head? e)
    simp at this
  · intro x hx
    have := h2 x hx
    unfold blankI
    simp only [decide_eq_false_iff_not]
    omega
def wordsK (V : List Nat) (cs : List ByteArray) (k : Nat) : List W := (List.range k).map fun j => (nthB cs j, false, colK V j)
theorem skipB_end (l : List UInt8) : ∀ (b : List UInt8) (F k : Nat), (∀ x ∈ b, blankI ((x.toNat : Nat) : Int) = false) → l.drop k = b → k ≤ l.length → b.length ≤ F → skipB l F k = l.length
  | [], F, k, _, h, hk, _ => by
    have : l.length ≤ k := by simpa using h
    cases F with
    | zero => unfold skipB; omega
    | succ F => unfold skipB; rw [if_neg (by omega)]; omega
  | x :: b, F, k, hb, h, hk, hF => by
    obtain ⟨F, rfl⟩ : ∃ g, F = g + 1 := ⟨F - 1, by simp at hF; omega⟩
    obtain ⟨h1, h2, h3⟩ := bAt_at h
    unfold skipB
    rw [if_pos ⟨h1, by rw [h3]; exact hb x (by simp)⟩]
    exact skipB_end l b F (k + 1) (fun y hy => hb y (by simp [hy])) (drop_one h) (by omega) (by simpa using hF)
theorem wA_end (s : ByteArray) (b : List UInt8) (hp : plainWd b = true) (f k : Nat) (acc : List W) (h : s.data.toList.drop k = b) (hf : s.size + 1 ≤ f + k) (hk : k ≤ s.size) :
    wA s f k acc = .inl (acc ++ [(⟨b.toArray⟩, false, k + 1)]) := by
  have hsz := size_list s
  unfold plainWd at hp
  simp only [Bool.and_eq_true, decide_eq_true_eq, List.all_eq_true, Bool.not_eq_true'] at hp
  obtain ⟨⟨p1, p2, p3⟩, p4⟩ := hp
  have hlen : k + b.length = s.size := by
    have := congrArg List.length h
    rw [List.length_drop, hsz] at this; omega
  have hsk := skipB_end s.data.toList b s.size k p4 h (by omega) (by omega)
  have hex := extract_at (s := s) (k := k) (b := b) (r := []) (by simpa using h)
  cases b with
  | nil => exact absurd rfl p1
  | cons x b =>
    obtain ⟨h1, h2, h3⟩ := bAt_at h
    rw [hsz] at h1 hsk
    have hl1 : 1 ≤ (x :: b).length := by simp
    obtain ⟨f, rfl⟩ : ∃ g, f = g + 2 := ⟨f - 2, by omega⟩
    have hx := p4 x (by simp)
    have n34 : ((x.toNat : Nat) : Int) ≠ 34 := by
      intro e; apply p2; simp; exact UInt8.toNat_inj.1 (by show x.toNat = 34; omega)
    have n35 : ((x.toNat : Nat) : Int) ≠ 35 := by
      intro e; apply p3; simp; exact UInt8.toNat_inj.1 (by show x.toNat = 35; omega)
    rw [hlen] at hex
    unfold wA
    rw [if_neg (by omega), h3, if_neg (by rw [hx]; simp), if_neg n35, if_neg n34, hsk, hex]
    unfold wA
    rw [if_pos (Nat.le_refl _)]
theorem words_pad (V : List Nat) (cs : List ByteArray) (hd : ∀ j, j < cs.length → allDig (nthB cs j)) (hc : ∀ j, j < cs.length → (nthB cs j).size ≤ V.getD j 0) (s : ByteArray) (hs : s.data.toList = padK V cs cs.length) :
    wordsF s = .inl (wordsK V cs cs.length) := by
  have hsz := size_list s
  have key : ∀ k, k < cs.length → ∃ f, s.size + 1 ≤ f + (padK V cs k).length ∧ wordsF s = wA s f (padK V cs k).length (wordsK V cs k) := by
    intro k
    induction k with
    | zero => intro _; exact ⟨s.size + 1, by simp [padK], rfl⟩
    | succ k ih =>
      intro h
      obtain ⟨f, f1, f2⟩ := ih (by omega)
      obtain ⟨X, hX⟩ := padK_pre V cs (k + 1) cs.length (by omega)
      have hcol := padK_col V cs hc k (by omega)
      have hck := hc k (by omega)
      obtain ⟨g, hg⟩ : ∃ g, V.getD k 0 + 2 - (nthB cs k).size = g + 1 := ⟨V.getD k 0 + 1 - (nthB cs k).size, by omega⟩
      have hpk : padK V cs (k + 1) = padK V cs k ++ (nthB cs k).data.toList ++ List.replicate (g + 1) 32 := by simp only [padK]; rw [if_pos h, hg]
      have hdr : s.data.toList.drop (padK V cs k).length = formL false (nthB cs k).data.toList ++ 32 :: (List.replicate g 32 ++ X) := by
        rw [hs, hX, hpk]
        simp [formL, List.replicate_succ]
      obtain ⟨f', g1, g2⟩ := wA_form s false _ 32 _ rfl (.inr (allDig_plain (hd k (by omega)))) f _ (wordsK V cs k) hdr f1
      have hdr2 : s.data.toList.drop ((padK V cs k).length + (formL false (nthB cs k).data.toList).length) = List.replicate (g + 1) 32 ++ X := by
        have := drop_by _ hdr
        rw [this, List.replicate_succ]; rfl
      obtain ⟨f'', k1, k2⟩ := wA_gap s (List.replicate (g + 1) 32) X f' _ (wordsK V cs k ++ [(⟨(nthB cs k).data.toList.toArray⟩, false, (padK V cs k).length + 1)]) (by intro x hx; rw [List.eq_of_mem_replicate hx]; rfl) hdr2 g1
      have el : (padK V cs k).length + (formL false (nthB cs k).data.toList).length + (List.replicate (g + 1) (32 : UInt8)).length = (padK V cs (k + 1)).length := by rw [hpk]; simp [formL]; omega
      rw [el] at k1 k2
      refine ⟨f'', k1, ?_⟩
      rw [f2, g2, k2, hcol]
      unfold wordsK
      rw [List.range_succ, List.map_append]
      rfl
  cases hn : cs.length with
  | zero =>
    rw [hn] at hs
    have : s.size = 0 := by rw [← hsz, hs]; rfl
    unfold wordsF wA wordsK
    rw [if_pos (by omega)]
    rfl
  | succ m =>
    obtain ⟨f, f1, f2⟩ := key m (by omega)
    have hpk : padK V cs (m + 1) = padK V cs m ++ (nthB cs m).data.toList := by simp only [padK]; rw [if_neg (by omega)]; simp
    have hdr : s.data.toList.drop (padK V cs m).length = (nthB cs m).data.toList := by rw [hs, hn, hpk]; simp
    have hle : (padK V cs m).length ≤ s.size := by rw [← hsz, hs, hn, hpk]; simp
    rw [f2, wA_end s _ (allDig_plain (hd m (by omega))) f _ _ hdr f1 hle, padK_col V cs hc m (by omega)]
    unfold wordsK
    rw [List.range_succ, List.map_append]
    rfl
theorem padK_last (V : List Nat) (cs : List ByteArray) (hd : ∀ j, j < cs.length → allDig (nthB cs j)) (h : 0 < cs.length) : ∃ l x, padK V cs cs.length = l ++ [x] ∧ 48 ≤ x.toNat := by
  obtain ⟨m, hm⟩ : ∃ m, cs.length = m + 1 := ⟨cs.length - 1, by omega⟩
  obtain ⟨h1, h2⟩ := hd m (by omega)
  have hpk : padK V cs (m + 1) = padK V cs m ++ (nthB cs m).data.toList := by simp only [padK]; rw [if_neg (by omega)]; simp
  refine ⟨padK V cs m ++ (nthB cs m).data.toList.dropLast, (nthB cs m).data.toList.getLast h1, ?_, (h2 _ (List.getLast_mem h1)).1⟩
  rw [hm, hpk, List.append_assoc, List.dropLast_concat_getLast]
theorem padK_no10 (V : List Nat) (cs : List ByteArray) (hd : ∀ j, j < cs.length → allDig (nthB cs j)) : ∀ k, k ≤ cs.length → ∀ x ∈ padK V cs k, x ≠ 10
  | 0, _, x, hx => by simp [padK] at hx
  | k + 1, h, x, hx => by
    simp only [padK, List.mem_append] at hx
    rcases hx with (hx | hx) | hx
    · exact padK_no10 V cs hd k (by omega) x hx
    · have := (hd k (by omega)).2 x hx
      intro e; subst e; simp at this
    · split at hx
      · rw [List.eq_of_mem_replicate hx]; decide
      · simp at hx
/-- the lines of a text: those that ended, and what is begun -/
def cutS (st : List (List UInt8) × List UInt8) (x : UInt8) : List (List UInt8) × List UInt8 := if x = 10 then (st.1 ++ [st.2], []) else (st.1, st.2 ++ [x])
theorem cut_line (L : List (List UInt8)) : ∀ (b c : List UInt8), (∀ x ∈ b, x ≠ 10) → b.foldl cutS (L, c) = (L, c ++ b)
  | [], c, _ => by simp
  | x :: b, c, h => by
    rw [List.foldl_cons, show cutS (L, c) x = (L, c ++ [x]) by unfold cutS; rw [if_neg (h x (by simp))], cut_line L b _ (fun y hy => h y (by simp [hy]))]
    simp
theorem cut_text (V : List Nat) (C : Nat → List ByteArray) (n : Nat) (hd : ∀ i, i < n → ∀ j, j < (C i).length → allDig (nthB (C i) j)) : ∀ k, k ≤ n → (textK V C k).foldl cutS ([], []) = ((List.range k).map fun i => padK V (C i) (C i).length, [])
  | 0, _ => rfl
  | k + 1, h => by
    simp only [textK, List.foldl_append]
    rw [cut_text V C n hd k (by omega), cut_line _ _ _ (padK_no10 V (C k) (hd k (by omega)) _ (Nat.le_refl _)), List.range_succ, List.map_append]
    rfl
theorem textK_len (V : List Nat) (C : Nat → List ByteArray) (M : Nat) (n : Nat) (hM : ∀ j, V.getD j 0 ≤ M) (hc : ∀ i, i < n → ∀ j, j < (C i).length → (nthB (C i) j).size ≤ V.getD j 0) : ∀ k, k ≤ n → (textK V C k).length ≤ ((List.range k).map fun i => (C i).length).sum * (M + 2) + k
  | 0, _ => Nat.zero_le _
  | k + 1, h => by
    have ih := textK_len V C M n hM hc k (by omega)
    have h1 := padK_len V (C k) M hM (fun j => by
      by_cases hj : j < (C k).length
      · exact .inl (hc k (by omega) j hj)
      · exact .inr (by omega)) _ (Nat.le_refl _)
    rw [List.range_succ, List.map_append, List.sum_append]
    simp only [textK, List.length_append, List.map_cons, List.map_nil, List.sum_cons, List.sum_nil, List.length_singleton, Nat.add_zero]
    rw [Nat.add_mul]
    omega
/-- the closest of the first rows ahead of a column -/
def cloK (V : List Nat) (C : Nat → List ByteArray) (j : Nat) : Nat → Nat
  | 0 => 0
  | k + 1 => if j < (C k).length then (let g := V.getD j 0 + 2 - (nthB (C k) j).size; if cloK V C j k = 0 ∨ g < cloK V C j k then g else cloK V C j k) else cloK V C j k
theorem cloK_two (C : Nat → List ByteArray) (n j : Nat) (hj : j < (wK C n).length) : cloK (wK C n) C j n = 2 := by
  obtain ⟨i, h1, h2, h3⟩ := wK_hit C n j hj
  have hge := wK_ge C n
  generalize wK C n = W at *
  have low : ∀ k, k ≤ n → cloK W C j k = 0 ∨ 2 ≤ cloK W C j k := by
    intro k
    induction k with
    | zero => intro _; exact .inl rfl
    | succ k ih =>
      intro hk
      have := ih (by omega)
      simp only [cloK]
      split
      · have := (hge k (by omega)).2 j (by assumption)
        split <;> omega
      · exact this
  have hit : ∀ k, k ≤ n → i < k → cloK W C j k = 2 := by
    intro k
    induction k with
    | zero => intro _ h; omega
    | succ k ih =>
      intro hk hi
      have hl := low k (by omega)
      by_cases e : i = k
      · subst e
        simp only [cloK]
        rw [if_pos h2]
        split <;> omega
      · have h4 := ih (by omega) (by omega)
        simp only [cloK]
        rw [h4]
        split
        · have := (hge k (by omega)).2 j (by assumption)
          split <;> omega
        · rfl
  exact hit n (Nat.le_refl _) h1
end Go.Proofs.YtefbogmgcihndaaDoor
