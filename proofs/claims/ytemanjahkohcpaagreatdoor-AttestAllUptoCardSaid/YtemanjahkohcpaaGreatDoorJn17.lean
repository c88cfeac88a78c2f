/- Columns as a plain law: the widths, the text, the words of a line. A law: an append of a list that is only read (nil, empty or not) to a row of the call's own. Small laws on rows of one's own. The contract of text's Columns, for rows of digits. The law's same and sameWords, asked of lists that are alike. -/
import Derived.Test.YtemanjahkohcpaaGreatDoorJn16
import Derived.Lib.AppendStr
import Derived.Lib.ConvBytes
import Derived.BigQuiet
namespace Go.Proofs.YtemanjahkohcpaaGreatDoor
def nthB (cs : List ByteArray) (k : Nat) : ByteArray := cs.getD k ⟨#[]⟩
/-- the widths behind one row more -/
def wRow : List Nat → List ByteArray → List Nat
  | ws, [] => ws
  | [], c :: cs => c.size :: wRow [] cs
  | x :: ws, c :: cs => max x c.size :: wRow ws cs
theorem wRow_nil (ws : List Nat) : wRow ws [] = ws := by cases ws <;> rfl
theorem wRow_length : ∀ ws cs, (wRow ws cs).length = max ws.length cs.length
  | ws, [] => by rw [wRow_nil]; simp
  | [], c :: cs => by have := wRow_length [] cs; simp only [wRow, List.length_cons, this, List.length_nil]; omega
  | x :: ws, c :: cs => by have := wRow_length ws cs; simp only [wRow, List.length_cons, this]; omega
theorem wRow_at : ∀ ws cs j, (wRow ws cs).getD j 0 = max (ws.getD j 0) (if j < cs.length then (nthB cs j).size else 0)
  | ws, [], j => by rw [wRow_nil]; simp
  | [], c :: cs, 0 => by simp [wRow, nthB]
  | [], c :: cs, j + 1 => by have := wRow_at [] cs j; simpa [wRow, nthB] using this
  | x :: ws, c :: cs, 0 => by simp [wRow, nthB]
  | x :: ws, c :: cs, j + 1 => by have := wRow_at ws cs j; simpa [wRow, nthB] using this
theorem wRow_take : ∀ (ws : List Nat) (cs : List ByteArray) (i : Nat), i < cs.length → wRow ws (cs.take (i + 1)) = (if i = (wRow ws (cs.take i)).length then wRow ws (cs.take i) ++ [0] else wRow ws (cs.take i)).set i (max ((wRow ws (cs.take i)).getD i 0) (nthB cs i).size)
  | ws, [], i, h => absurd h (by simp)
  | [], c :: cs, 0, _ => by simp [wRow, nthB]
  | x :: ws, c :: cs, 0, _ => by simp [wRow, nthB, wRow_nil]
  | [], c :: cs, i + 1, h => by
    have ih := wRow_take [] cs i (by simpa using h)
    rw [List.take_succ_cons, List.take_succ_cons]
    simp only [wRow, List.length_cons, Nat.add_right_cancel_iff, nthB, List.getD_cons_succ] at ih ⊢
    rw [ih]
    split <;> simp
  | x :: ws, c :: cs, i + 1, h => by
    have ih := wRow_take ws cs i (by simpa using h)
    rw [List.take_succ_cons, List.take_succ_cons]
    simp only [wRow, List.length_cons, Nat.add_right_cancel_iff, nthB, List.getD_cons_succ] at ih ⊢
    rw [ih]
    split <;> simp
/-- the widths behind the first rows -/
def wK (C : Nat → List ByteArray) : Nat → List Nat
  | 0 => []
  | k + 1 => wRow (wK C k) (C k)
theorem wK_ge (C : Nat → List ByteArray) (n : Nat) : ∀ i, i < n → (C i).length ≤ (wK C n).length ∧ ∀ j, j < (C i).length → (nthB (C i) j).size ≤ (wK C n).getD j 0 := by
  induction n with
  | zero => intro i h; omega
  | succ n ih =>
    intro i h
    simp only [wK]
    rw [wRow_length]
    by_cases e : i = n
    · subst e
      refine ⟨by omega, fun j hj => ?_⟩
      rw [wRow_at, if_pos hj]; omega
    · obtain ⟨h1, h2⟩ := ih i (by omega)
      refine ⟨by omega, fun j hj => ?_⟩
      have := h2 j hj
      rw [wRow_at]; omega
theorem wK_hit (C : Nat → List ByteArray) (n : Nat) : ∀ j, j < (wK C n).length → ∃ i, i < n ∧ j < (C i).length ∧ (nthB (C i) j).size = (wK C n).getD j 0 := by
  induction n with
  | zero => intro j h; simp [wK] at h
  | succ n ih =>
    intro j h
    simp only [wK] at h ⊢
    rw [wRow_length] at h
    rw [wRow_at]
    by_cases hj : j < (C n).length
    · rw [if_pos hj]
      by_cases hw : (wK C n).getD j 0 ≤ (nthB (C n) j).size
      · exact ⟨n, by omega, hj, by omega⟩
      · have hl : j < (wK C n).length := by
          apply Classical.byContradiction; intro hn
          apply hw
          rw [List.getD_eq_getElem?_getD, List.getElem?_eq_none (by omega)]; simp
        obtain ⟨i, h1, h2, h3⟩ := ih j hl
        exact ⟨i, by omega, h2, by omega⟩
    · rw [if_neg hj]
      obtain ⟨i, h1, h2, h3⟩ := ih j (by omega)
      exact ⟨i, by omega, h2, by omega⟩
theorem wK_le (C : Nat → List ByteArray) (M n : Nat) (h : ∀ i, i < n → ∀ j, j < (C i).length → (nthB (C i) j).size ≤ M) : ∀ j, (wK C n).getD j 0 ≤ M := by
  induction n with
  | zero => intro j; simp [wK]
  | succ n ih =>
    intro j
    have := ih (fun i hi => h i (by omega)) j
    simp only [wK]
    rw [wRow_at]
    split
    · have := h n (by omega) j (by assumption); omega
    · omega
/-- a row of cells, the first ones -/
def padKC (V : List Nat) (cs : List ByteArray) : Nat → List UInt8
  | 0 => []
  | k + 1 => padKC V cs k ++ (nthB cs k).data.toList ++ (if k + 1 < cs.length then List.replicate (V.getD k 0 + 2 - (nthB cs k).size) 32 else [])
def textK (V : List Nat) (C : Nat → List ByteArray) : Nat → List UInt8
  | 0 => []
  | k + 1 => textK V C k ++ padKC V (C k) (C k).length ++ [10]
theorem padK_len (V : List Nat) (cs : List ByteArray) (M : Nat) (hM : ∀ j, V.getD j 0 ≤ M) (hc : ∀ j, (nthB cs j).size ≤ V.getD j 0 ∨ cs.length ≤ j) : ∀ k, k ≤ cs.length → (padKC V cs k).length ≤ k * (M + 2)
  | 0, _ => Nat.zero_le _
  | k + 1, h => by
    have ih := padK_len V cs M hM hc k (by omega)
    have h1 := hM k
    have h2 := (hc k).resolve_right (by omega)
    rw [Nat.succ_mul]
    simp only [padKC, List.length_append, size_list]
    split
    · rw [List.length_replicate]; omega
    · simp only [List.length_nil]; omega
theorem padK_pre (V : List Nat) (cs : List ByteArray) (k : Nat) : ∀ m, k ≤ m → ∃ X, padKC V cs m = padKC V cs k ++ X
  | 0, h => by
    obtain rfl : k = 0 := by omega
    exact ⟨[], (List.append_nil _).symm⟩
  | m + 1, h => by
    by_cases e : k = m + 1
    · exact ⟨[], by rw [e, List.append_nil]⟩
    · obtain ⟨X, hX⟩ := padK_pre V cs k m (by omega)
      exact ⟨X ++ ((nthB cs m).data.toList ++ (if m + 1 < cs.length then List.replicate (V.getD m 0 + 2 - (nthB cs m).size) 32 else [])), by simp only [padKC, hX, List.append_assoc]⟩
/-- where a column begins -/
def colK (V : List Nat) : Nat → Nat
  | 0 => 1
  | k + 1 => colK V k + (V.getD k 0 + 2)
theorem padK_col (V : List Nat) (cs : List ByteArray) (hc : ∀ j, j < cs.length → (nthB cs j).size ≤ V.getD j 0) : ∀ k, k < cs.length → (padKC V cs k).length + 1 = colK V k
  | 0, _ => rfl
  | k + 1, h => by
    have ih := padK_col V cs hc k (by omega)
    have h2 := hc k (by omega)
    simp only [padKC, colK, List.length_append, size_list]
    rw [if_pos h, List.length_replicate]
    omega
/-- digits, one at least -/
def allDig (c : ByteArray) : Prop := c.data.toList ≠ [] ∧ ∀ x ∈ c.data.toList, 48 ≤ x.toNat ∧ x.toNat ≤ 57
theorem allDig_plain {c : ByteArray} (h : allDig c) : plainWd c.data.toList = true := by
  unfold plainWd
  simp only [Bool.and_eq_true, decide_eq_true_eq, List.all_eq_true, Bool.not_eq_true']
  obtain ⟨h1, h2⟩ := h
  refine ⟨⟨h1, ?_, ?_⟩, ?_⟩
  · intro e
    have := h2 34 (List.mem_of_mem_head? e)
    simp at this
  · intro e
    have := h2 35 (List.mem_of_mem_head? e)
    simp at this
  · intro x hx
    have := h2 x hx
    unfold blankI
    simp only [decide_eq_false_iff_not]
    omega
def wordsK (V : List Nat) (cs : List ByteArray) (k : Nat) : List W := (List.range k).map fun j => (nthB cs j, false, colK V j)
theorem skipB_end (l : List UInt8) : ∀ (b : List UInt8) (F k : Nat), (∀ x ∈ b, blankI ((x.toNat : Nat) : Int) = false) → l.drop k = b → k ≤ l.length → b.length ≤ F → skipB l F k = l.length
  | [], F, k, _, h, hk, _ => by
    have : l.length ≤ k := by simpa using h
    cases F with
    | zero => unfold skipB; omega
    | succ F => unfold skipB; rw [if_neg (by omega)]; omega
  | x :: b, F, k, hb, h, hk, hF => by
    obtain ⟨F, rfl⟩ : ∃ g, F = g + 1 := ⟨F - 1, by simp at hF; omega⟩
    obtain ⟨h1, h2, h3⟩ := bAt_at h
    unfold skipB
    rw [if_pos ⟨h1, by rw [h3]; exact hb x (by simp)⟩]
    exact skipB_end l b F (k + 1) (fun y hy => hb y (by simp [hy])) (drop_one h) (by omega) (by simpa using hF)
theorem wA_end (s : ByteArray) (b : List UInt8) (hp : plainWd b = true) (f k : Nat) (acc : List W) (h : s.data.toList.drop k = b) (hf : s.size + 1 ≤ f + k) (hk : k ≤ s.size) :
    wA s f k acc = .inl (acc ++ [(⟨b.toArray⟩, false, k + 1)]) := by
  have hsz := size_list s
  unfold plainWd at hp
  simp only [Bool.and_eq_true, decide_eq_true_eq, List.all_eq_true, Bool.not_eq_true'] at hp
  obtain ⟨⟨p1, p2, p3⟩, p4⟩ := hp
  have hlen : k + b.length = s.size := by
    have := congrArg List.length h
    rw [List.length_drop, hsz] at this; omega
  have hsk := skipB_end s.data.toList b s.size k p4 h (by omega) (by omega)
  have hex := extract_at (s := s) (k := k) (b := b) (r := []) (by simpa using h)
  cases b with
  | nil => exact absurd rfl p1
  | cons x b =>
    obtain ⟨h1, h2, h3⟩ := bAt_at h
    rw [hsz] at h1 hsk
    have hl1 : 1 ≤ (x :: b).length := by simp
    obtain ⟨f, rfl⟩ : ∃ g, f = g + 2 := ⟨f - 2, by omega⟩
    have hx := p4 x (by simp)
    have n34 : ((x.toNat : Nat) : Int) ≠ 34 := by
      intro e; apply p2; simp; exact UInt8.toNat_inj.1 (by show x.toNat = 34; omega)
    have n35 : ((x.toNat : Nat) : Int) ≠ 35 := by
      intro e; apply p3; simp; exact UInt8.toNat_inj.1 (by show x.toNat = 35; omega)
    rw [hlen] at hex
    unfold wA
    rw [if_neg (by omega), h3, if_neg (by rw [hx]; simp), if_neg n35, if_neg n34, hsk, hex]
    unfold wA
    rw [if_pos (Nat.le_refl _)]
theorem words_pad (V : List Nat) (cs : List ByteArray) (hd : ∀ j, j < cs.length → allDig (nthB cs j)) (hc : ∀ j, j < cs.length → (nthB cs j).size ≤ V.getD j 0) (s : ByteArray) (hs : s.data.toList = padKC V cs cs.length) :
    wordsF s = .inl (wordsK V cs cs.length) := by
  have hsz := size_list s
  have key : ∀ k, k < cs.length → ∃ f, s.size + 1 ≤ f + (padKC V cs k).length ∧ wordsF s = wA s f (padKC V cs k).length (wordsK V cs k) := by
    intro k
    induction k with
    | zero => intro _; exact ⟨s.size + 1, by simp [padKC], rfl⟩
    | succ k ih =>
      intro h
      obtain ⟨f, f1, f2⟩ := ih (by omega)
      obtain ⟨X, hX⟩ := padK_pre V cs (k + 1) cs.length (by omega)
      have hcol := padK_col V cs hc k (by omega)
      have hck := hc k (by omega)
      obtain ⟨g, hg⟩ : ∃ g, V.getD k 0 + 2 - (nthB cs k).size = g + 1 := ⟨V.getD k 0 + 1 - (nthB cs k).size, by omega⟩
      have hpk : padKC V cs (k + 1) = padKC V cs k ++ (nthB cs k).data.toList ++ List.replicate (g + 1) 32 := by simp only [padKC]; rw [if_pos h, hg]
      have hdr : s.data.toList.drop (padKC V cs k).length = formL false (nthB cs k).data.toList ++ 32 :: (List.replicate g 32 ++ X) := by
        rw [hs, hX, hpk]
        simp [formL, List.replicate_succ]
      obtain ⟨f', g1, g2⟩ := wA_form s false _ 32 _ rfl (.inr (allDig_plain (hd k (by omega)))) f _ (wordsK V cs k) hdr f1
      have hdr2 : s.data.toList.drop ((padKC V cs k).length + (formL false (nthB cs k).data.toList).length) = List.replicate (g + 1) 32 ++ X := by
        have := drop_by _ hdr
        rw [this, List.replicate_succ]; rfl
      obtain ⟨f'', k1, k2⟩ := wA_gap s (List.replicate (g + 1) 32) X f' _ (wordsK V cs k ++ [(⟨(nthB cs k).data.toList.toArray⟩, false, (padKC V cs k).length + 1)]) (by intro x hx; rw [List.eq_of_mem_replicate hx]; rfl) hdr2 g1
      have el : (padKC V cs k).length + (formL false (nthB cs k).data.toList).length + (List.replicate (g + 1) (32 : UInt8)).length = (padKC V cs (k + 1)).length := by rw [hpk]; simp [formL]; omega
      rw [el] at k1 k2
      refine ⟨f'', k1, ?_⟩
      rw [f2, g2, k2, hcol]
      unfold wordsK
      rw [List.range_succ, List.map_append]
      rfl
  cases hn : cs.length with
  | zero =>
    rw [hn] at hs
    have : s.size = 0 := by rw [← hsz, hs]; rfl
    unfold wordsF wA wordsK
    rw [if_pos (by omega)]
    rfl
  | succ m =>
    obtain ⟨f, f1, f2⟩ := key m (by omega)
    have hpk : padKC V cs (m + 1) = padKC V cs m ++ (nthB cs m).data.toList := by simp only [padKC]; rw [if_neg (by omega)]; simp
    have hdr : s.data.toList.drop (padKC V cs m).length = (nthB cs m).data.toList := by rw [hs, hn, hpk]; simp
    have hle : (padKC V cs m).length ≤ s.size := by rw [← hsz, hs, hn, hpk]; simp
    rw [f2, wA_end s _ (allDig_plain (hd m (by omega))) f _ _ hdr f1 hle, padK_col V cs hc m (by omega)]
    unfold wordsK
    rw [List.range_succ, List.map_append]
    rfl
theorem padK_last (V : List Nat) (cs : List ByteArray) (hd : ∀ j, j < cs.length → allDig (nthB cs j)) (h : 0 < cs.length) : ∃ l x, padKC V cs cs.length = l ++ [x] ∧ 48 ≤ x.toNat := by
  obtain ⟨m, hm⟩ : ∃ m, cs.length = m + 1 := ⟨cs.length - 1, by omega⟩
  obtain ⟨h1, h2⟩ := hd m (by omega)
  have hpk : padKC V cs (m + 1) = padKC V cs m ++ (nthB cs m).data.toList := by simp only [padKC]; rw [if_neg (by omega)]; simp
  refine ⟨padKC V cs m ++ (nthB cs m).data.toList.dropLast, (nthB cs m).data.toList.getLast h1, ?_, (h2 _ (List.getLast_mem h1)).1⟩
  rw [hm, hpk, List.append_assoc, List.dropLast_concat_getLast]
theorem padK_no10 (V : List Nat) (cs : List ByteArray) (hd : ∀ j, j < cs.length → allDig (nthB cs j)) : ∀ k, k ≤ cs.length → ∀ x ∈ padKC V cs k, x ≠ 10
  | 0, _, x, hx => by simp [padKC] at hx
  | k + 1, h, x, hx => by
    simp only [padKC, List.mem_append] at hx
    rcases hx with (hx | hx) | hx
    · exact padK_no10 V cs hd k (by omega) x hx
    · have := (hd k (by omega)).2 x hx
      intro e; subst e; simp at this
    · split at hx
      · rw [List.eq_of_mem_replicate hx]; decide
      · simp at hx
/-- the lines of a text: those that ended, and what is begun -/
def cutS (st : List (List UInt8) × List UInt8) (x : UInt8) : List (List UInt8) × List UInt8 := if x = 10 then (st.1 ++ [st.2], []) else (st.1, st.2 ++ [x])
theorem cut_line (L : List (List UInt8)) : ∀ (b c : List UInt8), (∀ x ∈ b, x ≠ 10) → b.foldl cutS (L, c) = (L, c ++ b)
  | [], c, _ => by simp
  | x :: b, c, h => by
    rw [List.foldl_cons, show cutS (L, c) x = (L, c ++ [x]) by unfold cutS; rw [if_neg (h x (by simp))], cut_line L b _ (fun y hy => h y (by simp [hy]))]
    simp
theorem cut_text (V : List Nat) (C : Nat → List ByteArray) (n : Nat) (hd : ∀ i, i < n → ∀ j, j < (C i).length → allDig (nthB (C i) j)) : ∀ k, k ≤ n → (textK V C k).foldl cutS ([], []) = ((List.range k).map fun i => padKC V (C i) (C i).length, [])
  | 0, _ => rfl
  | k + 1, h => by
    simp only [textK, List.foldl_append]
    rw [cut_text V C n hd k (by omega), cut_line _ _ _ (padK_no10 V (C k) (hd k (by omega)) _ (Nat.le_refl _)), List.range_succ, List.map_append]
    rfl
theorem textK_len (V : List Nat) (C : Nat → List ByteArray) (M : Nat) (n : Nat) (hM : ∀ j, V.getD j 0 ≤ M) (hc : ∀ i, i < n → ∀ j, j < (C i).length → (nthB (C i) j).size ≤ V.getD j 0) : ∀ k, k ≤ n → (textK V C k).length ≤ ((List.range k).map fun i => (C i).length).sum * (M + 2) + k
  | 0, _ => Nat.zero_le _
  | k + 1, h => by
    have ih := textK_len V C M n hM hc k (by omega)
    have h1 := padK_len V (C k) M hM (fun j => by
      by_cases hj : j < (C k).length
      · exact .inl (hc k (by omega) j hj)
      · exact .inr (by omega)) _ (Nat.le_refl _)
    rw [List.range_succ, List.map_append, List.sum_append]
    simp only [textK, List.length_append, List.map_cons, List.map_nil, List.sum_cons, List.sum_nil, List.length_singleton, Nat.add_zero]
    rw [Nat.add_mul]
    omega
/-- the closest of the first rows ahead of a column -/
def cloK (V : List Nat) (C : Nat → List ByteArray) (j : Nat) : Nat → Nat
  | 0 => 0
  | k + 1 => if j < (C k).length then (let g := V.getD j 0 + 2 - (nthB (C k) j).size; if cloK V C j k = 0 ∨ g < cloK V C j k then g else cloK V C j k) else cloK V C j k
theorem cloK_two (C : Nat → List ByteArray) (n j : Nat) (hj : j < (wK C n).length) : cloK (wK C n) C j n = 2 := by
  obtain ⟨i, h1, h2, h3⟩ := wK_hit C n j hj
  have hge := wK_ge C n
  generalize wK C n = W at *
  have low : ∀ k, k ≤ n → cloK W C j k = 0 ∨ 2 ≤ cloK W C j k := by
    intro k
    induction k with
    | zero => intro _; exact .inl rfl
    | succ k ih =>
      intro hk
      have := ih (by omega)
      simp only [cloK]
      split
      · have := (hge k (by omega)).2 j (by assumption)
        split <;> omega
      · exact this
  have hit : ∀ k, k ≤ n → i < k → cloK W C j k = 2 := by
    intro k
    induction k with
    | zero => intro _ h; omega
    | succ k ih =>
      intro hk hi
      have hl := low k (by omega)
      by_cases e : i = k
      · subst e
        simp only [cloK]
        rw [if_pos h2]
        split <;> omega
      · have h4 := ih (by omega) (by omega)
        simp only [cloK]
        rw [h4]
        split
        · have := (hge k (by omega)).2 j (by assumption)
          split <;> omega
        · rfl
  exact hit n (Nat.le_refl _) h1
end Go.Proofs.YtemanjahkohcpaaGreatDoor

namespace Go.Proofs.YtemanjahkohcpaaGreatDoor
open Go.RowKit WP
section
variable {P : Program} (w : World)
theorem run_append_rd (base : Nat) (t ty e : TypeId) (i : TypeInfo) (z : Value) (bytes : Nat) (ht : P.underlying t = some (.slice e)) (hi : P.info? e = some i) (hz : i.zero = some z)
    (hsize : i.size = 1) (hby : i.bytes = bytes) (hzs : z.cells.size = 1)
    (v : Value) (n : Nat) (xs : List Value) (hown : w.ownsRow base e 1 v n xs)
    (u : Value) (news : List Value) (hr : Rd w u news) (h1 : ∀ u ∈ news, u.oneCell' = true)
    (h63 : n + news.length ≤ maxLen) (hbytes : (n + news.length) * bytes ≤ 140737488355328) (hbase : base ≤ w.heap.size) :
    ∃ v' w', (Builtin.append_ #[t, t] ty #[v, u]).run P w = .ok v' w' ∧ w'.ownsRow base e 1 v' (n + news.length) (xs ++ news) ∧ Onto w v w' v' := by
  obtain ⟨ao, c, rfl, hc1, hc2, hr⟩ := hr
  rcases hr with rfl | ⟨b, off, rfl, hcell⟩
  · cases ao with
    | none =>
      refine ⟨v, w, ?_, by simpa using hown, Onto.refl _ _⟩
      rcases hown.2 with ⟨rfl, rfl⟩ | ⟨g, cap, cur, rfl, _, _, hnc, _⟩
      · simp [Builtin.append_, run_underlying ht, sizeOf, typeInfo, hi, Builtin.lenOf, Builtin.firstCells]
      · simp [Builtin.append_, run_underlying ht, sizeOf, typeInfo, hi, Builtin.lenOf, Builtin.firstCells, hnc, storeCells]
    | some ad =>
      exact run_append_onto (P := P) w base t ty e i z 1 bytes ht hi hz hsize hby hzs (by omega) v n xs hown ad 0 c [] rfl (by intro j u hu; simp at hu) (by simp) h63 hbytes hbase
  · refine run_append_onto (P := P) w base t ty e i z 1 bytes ht hi hz hsize hby hzs (by omega) v n xs hown ⟨b, off, none⟩ news.length c news (by omega) (fun j u hu => ?_) h1 h63 hbytes hbase
    have hadd : (⟨b, off, none⟩ : Addr).add j = ⟨b, off + j, none⟩ := by unfold Addr.add; split <;> simp_all
    rw [hadd]; exact hcell j u hu
theorem wpList_append_rd {ops : Array Oper} {rest : List Oper} {o : Oper} {a : Act} {Q : Exit → Act → World → Prop} (hgd : o.guard = none) (s x : Operand) (t : TypeId)
    (ho : o.op = .call { callee := .builtin .append, args := #[s, x], argTypes := #[t, t] })
    (base : Nat) (e : TypeId) (i : TypeInfo) (z : Value) (bytes : Nat) (ht : P.underlying t = some (.slice e)) (hi : P.info? e = some i) (hz : i.zero = some z)
    (hsize : i.size = 1) (hby : i.bytes = bytes) (hzs : z.cells.size = 1)
    (v : Value) (n : Nat) (xs : List Value) (hs : a.eval s = v) (hown : w.ownsRow base e 1 v n xs)
    (u : Value) (news : List Value) (hx : a.eval x = u) (hr : Rd w u news) (h1 : ∀ u ∈ news, u.oneCell' = true)
    (h63 : n + news.length ≤ maxLen) (hbytes : (n + news.length) * bytes ≤ 140737488355328) (hbase : base ≤ w.heap.size)
    (h : ∀ v' w', w'.ownsRow base e 1 v' (n + news.length) (xs ++ news) → Onto w v w' v' → wpList P ops Q rest (a.put o.dst v') w') : wpList P ops Q (o :: rest) a w := by
  refine wpList_plain hgd fun K hK => ?_
  obtain ⟨v', w', hr, h2, h3⟩ := run_append_rd (P := P) w base t o.type e i z bytes ht hi hz hsize hby hzs v n xs hown u news hr h1 h63 hbytes hbase
  unfold Oper.wp execOp
  simp only [ho, resolve, invoke, builtin, Sem.run_bind, Sem.run_pure, Result.andThen_ok, List.map_toArray, List.map_cons, List.map_nil, hs, hx, hr]
  exact hK _ _ (h v' w' h2 h3)
end
/-- a string's bytes, in new memory -/
theorem conv_to_bytes {P : Program} (w : World) (src dst e : TypeId) (s : ByteArray) (hs : P.underlying src = some .string) (hd : P.underlying dst = some (.slice e)) (he : P.underlying e = some (.int .u8)) (hm : s.size ≤ maxLen) :
    ∃ v w', (convert src dst (.string s)).run P w = .ok v w' ∧ Rd w' v (vb s.data.toList) ∧ Below w.heap.size w w' := by
  have hl := size_list s
  refine ⟨_, _, Lib.run_convert_string_bytes w src dst e s hs hd he, ⟨_, _, by rw [length_vb, hl], by rw [length_vb, hl]; exact grownCap_ge _ _ _ _, grownCap_le_maxLen _ _ _ _ hm, ?_⟩, ?_⟩
  · refine .inr ⟨_, 0, rfl, fun j u hu => ?_⟩
    have hj : j < s.size := by have := (List.getElem?_eq_some_iff.1 hu).1; rw [length_vb, hl] at this; exact this
    rw [Nat.zero_add, Lib.bytesWorld_cell w e s j hj, ← hu, vb_get _ _ (by rw [hl]; exact hj)]
    rfl
  · exact ⟨by simp [Lib.bytesWorld, World.freeze]; rfl, by simp [Lib.bytesWorld, World.freeze], by simp [Lib.bytesWorld, World.freeze]; rfl, by rw [Lib.bytesWorld_size]; omega, fun k hk => Lib.bytesWorld_at_old w e s k hk⟩
theorem strCells_vb (s : ByteArray) : Lib.strCells s = vb s.data.toList := rfl
end Go.Proofs.YtemanjahkohcpaaGreatDoor

namespace Go.Proofs.YtemanjahkohcpaaGreatDoor
open Go.RowKit WP
theorem rows_apart {w : World} {B B' s s' n n' : Nat} {e e' : TypeId} {v v' : Value} {xs xs' : List Value} (h : w.ownsRow B e s v n xs) (h' : w.ownsRow B' e' s' v' n' xs') (hne : e ≠ e') : v.ownBlock = none ∨ v.ownBlock ≠ v'.ownBlock := by
  rcases h.2 with ⟨rfl, _⟩ | ⟨g, cap, cur, rfl, _, hg, _⟩
  · exact .inl rfl
  · right
    intro he
    rcases h'.2 with ⟨rfl, _⟩ | ⟨g', cap', cur', rfl, _, hg', _⟩
    · simp [Value.ownBlock] at he
    · simp only [Value.ownBlock, Option.some.injEq] at he
      subst he
      rw [hg] at hg'
      simp only [Option.some.injEq, Obj.cells.injEq] at hg'
      exact hne hg'.2.1
theorem slice_form {w : World} {B s n : Nat} {e : TypeId} {v : Value} {xs : List Value} (h : w.ownsRow B e s v n xs) : ∃ ao ca, v = .slice ao n ca := by
  rcases h.2 with ⟨rfl, rfl⟩ | ⟨g, cap, cur, rfl, _⟩
  · exact ⟨_, _, rfl⟩
  · exact ⟨_, _, rfl⟩
def vs (l : List ByteArray) : List Value := l.map Value.string
end Go.Proofs.YtemanjahkohcpaaGreatDoor

namespace Go.Proofs.YtemanjahkohcpaaGreatDoor
open Go.RowKit WP
theorem infoI : (Tryz.prog.info? 3).map (fun i => (i.zero, i.size, i.bytes)) = some (some (.int .i64 0), 1, 8) := by kernel_rfl
/-- rows of cells that only are read: the values of the rows, the cells of each -/
structure Grid (w : World) (v : Value) (V : Nat → Value) (C : Nat → List ByteArray) (n : Nat) : Prop where
  rd : Rd w v ((List.range n).map V)
  row : ∀ i, i < n → Rd w (V i) (vs (C i))
def vi (l : List Nat) : List Value := l.map fun (x : Nat) => Value.int .i64 (x : Int)
theorem vi_get (l : List Nat) (i : Nat) (h : i < l.length) : (vi l)[i]? = some (.int .i64 ((l.getD i 0 : Nat) : Int)) := by
  unfold vi; rw [List.getElem?_map, List.getElem?_eq_getElem h, List.getD_eq_getElem?_getD, List.getElem?_eq_getElem h]; rfl
theorem vi_set (l : List Nat) (i x : Nat) : vi (l.set i x) = (vi l).set i (.int .i64 (x : Int)) := by unfold vi; rw [List.map_set]
theorem vi_length (l : List Nat) : (vi l).length = l.length := by simp [vi]
theorem vs_get (l : List ByteArray) (i : Nat) (h : i < l.length) : (vs l)[i]? = some (.string (nthB l i)) := by
  unfold vs nthB; rw [List.getElem?_map, List.getElem?_eq_getElem h, List.getD_eq_getElem?_getD, List.getElem?_eq_getElem h]; rfl
theorem vs_length (l : List ByteArray) : (vs l).length = l.length := by simp [vs]
theorem Grid.later {w w' : World} {v : Value} {V : Nat → Value} {C : Nat → List ByteArray} {n : Nat} (h : Grid w v V C n) (hb : Below w.heap.size w w') : Grid w' v V C n := ⟨h.rd.mono hb, fun i hi => (h.row i hi).mono hb⟩
theorem Grid.form {w : World} {v : Value} {V : Nat → Value} {C : Nat → List ByteArray} {n : Nat} (h : Grid w v V C n) :
    ∃ ao ca, v = .slice ao n ca ∧ n ≤ ca ∧ ca ≤ 9223372036854775807 ∧ ∀ i, i < n → ∃ b off, ao = some ⟨b, off, none⟩ ∧ w.cell? ⟨b, off + i, none⟩ = some (V i) := by
  obtain ⟨ao, ca, rfl, a1, a2, a3⟩ := h.rd
  have e : ((List.range n).map V).length = n := by simp
  rw [e] at a1 ⊢
  refine ⟨ao, ca, rfl, a1, by simpa [maxLen] using a2, fun i hi => ?_⟩
  rcases a3 with a3 | ⟨b, off, rfl, a3⟩
  · have := congrArg List.length a3; simp at this; omega
  · exact ⟨b, off, rfl, a3 i _ (by rw [List.getElem?_map, List.getElem?_range hi]; rfl)⟩
theorem Grid.line {w : World} {v : Value} {V : Nat → Value} {C : Nat → List ByteArray} {n : Nat} (h : Grid w v V C n) (k : Nat) (hk : k < n) :
    ∃ ao ca, V k = .slice ao (C k).length ca ∧ (C k).length ≤ ca ∧ ca ≤ 9223372036854775807 ∧ ∀ i, i < (C k).length → ∃ b off, ao = some ⟨b, off, none⟩ ∧ w.cell? ⟨b, off + i, none⟩ = some (.string (nthB (C k) i)) := by
  obtain ⟨ao, ca, hV, a1, a2, a3⟩ := h.row k hk
  rw [vs_length] at hV a1
  refine ⟨ao, ca, hV, a1, by simpa [maxLen] using a2, fun i hi => ?_⟩
  rcases a3 with a3 | ⟨b, off, rfl, a3⟩
  · have h0 := congrArg List.length a3; rw [vs_length] at h0; have h0 : (C k).length = 0 := h0; omega
  · exact ⟨b, off, rfl, a3 i _ (vs_get _ _ hi)⟩
/-- the text so far and the widths, each in a row of the call's own -/
structure Co (B : Nat) (w0 wx : World) (vo : Value) (o : List UInt8) (vw : Value) (X : List Nat) : Prop where
  oo : wx.ownsRow B 5 1 vo o.length (vb o)
  ow : wx.ownsRow B 3 1 vw X.length (vi X)
  hb : Below B w0 wx
  size : B ≤ wx.heap.size
theorem Co.out {B : Nat} {w0 wx w2 : World} {vo vo' : Value} {o o' : List UInt8} {vw : Value} {X : List Nat} (h : Co B w0 wx vo o vw X) (hg : wx.grownBy w2 vo.ownBlock) (ho : w2.ownsRow B 5 1 vo' o'.length (vb o')) : Co B w0 w2 vo' o' vw X :=
  ⟨ho, h.ow.kept hg (rows_apart h.ow h.oo (by decide)), h.hb.grown hg h.size (fun k hk => (h.oo.lt k hk).1), Nat.le_trans h.size hg.size⟩
theorem Co.outA {B : Nat} {w0 wx w2 : World} {vo vo' : Value} {o o' : List UInt8} {vw : Value} {X : List Nat} (h : Co B w0 wx vo o vw X) (ob : Obj) (hg : (wx.alloc ob).grownBy w2 vo.ownBlock) (ho : w2.ownsRow B 5 1 vo' o'.length (vb o')) : Co B w0 w2 vo' o' vw X :=
  h.out (grownBy_trans (World.grownBy_alloc wx ob _) hg (.inl rfl)) ho
end Go.Proofs.YtemanjahkohcpaaGreatDoor

namespace Go.Proofs.YtemanjahkohcpaaGreatDoor
open Go.RowKit WP
theorem rd_strs {w : World} {v : Value} {l : List ByteArray} (h : Rd w v (vs l)) : ∃ ao ca, v = .slice ao l.length ca ∧ l.length ≤ ca ∧ ca ≤ 9223372036854775807 ∧ ∀ i, i < l.length → ∃ b off, ao = some ⟨b, off, none⟩ ∧ w.cell? ⟨b, off + i, none⟩ = some (.string (nthB l i)) := by
  obtain ⟨ao, ca, hV, a1, a2, a3⟩ := h
  rw [vs_length] at hV a1
  refine ⟨ao, ca, hV, a1, by simpa [maxLen] using a2, fun i hi => ?_⟩
  rcases a3 with a3 | ⟨b, off, rfl, a3⟩
  · have h0 := congrArg List.length a3; rw [vs_length] at h0; have h0 : l.length = 0 := h0; omega
  · exact ⟨b, off, rfl, a3 i _ (vs_get _ _ hi)⟩
/-- a list of words that only is read -/
def WdAt (w : World) (v : Value) (l : List W) : Prop :=
  ∃ ao ca, v = .slice ao l.length ca ∧ l.length ≤ ca ∧ ca ≤ 9223372036854775807 ∧ ∀ (i : Nat) (h : i < l.length), ∃ b off, ao = some ⟨b, off, none⟩ ∧ off = 0 ∧ w.cell? ⟨b, i * 3, none⟩ = some (.string (l[i]).1) ∧ w.cell? ⟨b, i * 3 + 1, none⟩ = some (.bool (l[i]).2.1) ∧ w.cell? ⟨b, i * 3 + 2, none⟩ = some (.int .i64 ((l[i]).2.2 : Int))
theorem ww_get3 : ∀ (l : List W) (j : Nat) (h : j < l.length), (ww l)[j * 3]? = some (.string (l[j]).1) ∧ (ww l)[j * 3 + 1]? = some (.bool (l[j]).2.1) ∧ (ww l)[j * 3 + 2]? = some (.int .i64 ((l[j]).2.2 : Int))
  | [], j, h => absurd h (by simp)
  | x :: l, 0, _ => ⟨rfl, rfl, rfl⟩
  | x :: l, j + 1, h => by
    have ih := ww_get3 l j (by simpa using h)
    have e : ww (x :: l) = [.string x.1, .bool x.2.1, .int .i64 (x.2.2 : Int)] ++ ww l := rfl
    have e1 : (j + 1) * 3 = j * 3 + 3 := by omega
    rw [e, e1]
    exact ih
theorem ww_length (l : List W) : (ww l).length = l.length * 3 := by
  induction l with
  | nil => rfl
  | cons x l ih => show (_ ++ ww l).length = _; rw [List.length_append, ih]; simp; omega
theorem WdAt.of_own {w : World} {B : Nat} {e : TypeId} {v : Value} {l : List W} (h : w.ownsRow B e 3 v l.length (ww l)) : WdAt w v l := by
  rcases h.2 with ⟨rfl, hn⟩ | ⟨g, cap, cur, rfl, h1, h2, h3, h4, h5, h6⟩
  · refine ⟨none, 0, by rw [hn], by omega, by omega, fun i hi => absurd hi (by omega)⟩
  · refine ⟨_, cap, rfl, h3, by simpa [maxLen] using h4, fun i hi => ⟨g, 0, rfl, rfl, ?_, ?_, ?_⟩⟩
    · have := h.cellAt (i * 3) (by omega); rw [this]; exact (ww_get3 l i hi).1
    · have := h.cellAt (i * 3 + 1) (by omega); rw [this]; exact (ww_get3 l i hi).2.1
    · have := h.cellAt (i * 3 + 2) (by omega); rw [this]; exact (ww_get3 l i hi).2.2
end Go.Proofs.YtemanjahkohcpaaGreatDoor
