/- Plain laws: words are told by their bytes and by their digits. -/
import Derived.Test.YtedhinekkmoheaaWordE
namespace Go.Proofs.Ytedhinekkmoheaa
open Go.RowKit WP

/-! ### pieces of one length -/
theorem flat_len {α β : Type} (f : α → List β) (c : Nat) (hf : ∀ x, (f x).length = c) (l : List α) : (l.flatMap f).length = c * l.length := by
  induction l with
  | nil => simp
  | cons a l ih => rw [List.flatMap_cons, List.length_append, ih, hf, List.length_cons, Nat.mul_succ]; omega
theorem flat_piece {α β : Type} (f : α → List β) (c : Nat) (hf : ∀ x, (f x).length = c) : ∀ (l : List α) (i : Nat) (h : i < l.length), ((l.flatMap f).drop (c * i)).take c = f l[i] := by
  intro l
  induction l with
  | nil => intro i h; simp at h
  | cons a l ih =>
    intro i h
    rw [List.flatMap_cons]
    cases i with
    | zero => rw [Nat.mul_zero, List.drop_zero, ← hf a, List.take_left]; rfl
    | succ i =>
      have e : c * (i + 1) = (f a).length + c * i := by rw [hf, Nat.mul_succ]; omega
      rw [e, List.drop_append, List.drop_eq_nil_of_le (by omega), List.nil_append]
      rw [show (f a).length + c * i - (f a).length = c * i by omega]
      exact ih i (by simpa using h)
theorem flat_pieces {β : Type} (c : Nat) : ∀ (n : Nat) (l : List β), l.length = c * n → (List.range n).flatMap (fun i => (l.drop (c * i)).take c) = l := by
  intro n
  induction n with
  | zero => intro l h; have : l = [] := List.eq_nil_of_length_eq_zero (by simpa using h); subst this; simp
  | succ n ih =>
    intro l h
    rw [List.range_succ_eq_map, List.flatMap_cons, List.flatMap_map]
    have e := ih (l.drop c) (by rw [List.length_drop, h, Nat.mul_succ]; omega)
    have e2 : (fun i => ((l.drop c).drop (c * i)).take c) = fun i => (l.drop (c * (i + 1))).take c := by
      funext i; rw [List.drop_drop, Nat.mul_succ, Nat.add_comm]
    rw [e2] at e
    have e3 : (fun i => (l.drop (c * (Nat.succ i))).take c) = fun i => (l.drop (c * (i + 1))).take c := rfl
    rw [e3, e, Nat.mul_zero, List.drop_zero, List.take_append_drop]
/-! ### bytes -/
theorem length_wordB (x : UInt32) : (wordB x).length = 4 := rfl
theorem bytesL_get (l : List UInt32) (i j : Nat) (h : i < l.length) (hj : j < 4) : bAt (bytesL l) (4 * i + j) = bAt (wordB l[i]) j := by
  have h1 := flat_piece wordB 4 length_wordB l i h
  have h2 := congrArg (fun x => x.getD j 0) h1
  simp only [List.getD_eq_getElem?_getD, List.getElem?_take, hj, if_true, List.getElem?_drop] at h2
  unfold bAt bytesL
  simp only [List.getD_eq_getElem?_getD, h2]
theorem wordB_at (x : UInt32) : bAt (wordB x) 0 = (x.toNat : Int) / 16777216 ∧ bAt (wordB x) 1 = (x.toNat : Int) / 65536 % 256 ∧ bAt (wordB x) 2 = (x.toNat : Int) / 256 % 256 ∧ bAt (wordB x) 3 = (x.toNat : Int) % 256 := by
  have := x.toNat_lt
  simp only [bAt, wordB, List.getD_cons_zero, List.getD_cons_succ, UInt8.toNat_ofNat']
  simp
  omega
theorem wAt_get (l : List UInt32) (i : Nat) (h : i < l.length) : wAt l i = ((l[i].toNat : Nat) : Int) := by simp [wAt, h]
theorem word4_bytes (l : List UInt32) (i : Nat) (h : i < l.length) : word4 (bytesL l) i = wAt l i := by
  have h0 := bytesL_get l i 0 h (by decide)
  have h1 := bytesL_get l i 1 h (by decide)
  have h2 := bytesL_get l i 2 h (by decide)
  have h3 := bytesL_get l i 3 h (by decide)
  have hw := wordB_at l[i]
  rw [wAt_get l i h]
  unfold word4
  rw [Nat.add_zero] at h0
  rw [h0, h1, h2, h3, hw.1, hw.2.1, hw.2.2.1, hw.2.2.2]
  omega
theorem ofI_wAt (l : List UInt32) (i : Nat) (h : i < l.length) : ofI (wAt l i) = l[i] := by
  rw [wAt_get l i h]; unfold ofI; rw [Int.toNat_natCast]; exact UInt32.ofNat_toNat
theorem range_map_get (l : List UInt32) (f : Nat → UInt32) (h : ∀ i (hi : i < l.length), f i = l[i]) : (List.range l.length).map f = l := by
  apply List.ext_getElem
  · simp
  · intro i h1 h2; simp; exact h i h2
theorem words_bytes (l : List UInt32) : wordsL (bytesL l) = l := by
  unfold wordsL
  rw [length_bytesL, show 4 * l.length / 4 = l.length by omega]
  exact range_map_get l _ fun i hi => by rw [word4_bytes l i hi, ofI_wAt l i hi]
/-! ### digits -/
theorem digN_hexB (d : Nat) (h : d < 16) : digN (hexB d).toNat = some d := by
  have : d = 0 ∨ d = 1 ∨ d = 2 ∨ d = 3 ∨ d = 4 ∨ d = 5 ∨ d = 6 ∨ d = 7 ∨ d = 8 ∨ d = 9 ∨ d = 10 ∨ d = 11 ∨ d = 12 ∨ d = 13 ∨ d = 14 ∨ d = 15 := by omega
  rcases this with rfl | rfl | rfl | rfl | rfl | rfl | rfl | rfl | rfl | rfl | rfl | rfl | rfl | rfl | rfl | rfl <;> rfl
theorem hexB_digN (c : UInt8) (d : Nat) (h : digN c.toNat = some d) : hexB d = c := by
  have hc := c.toNat_lt
  unfold digN at h
  unfold hexB
  split at h
  · simp at h
    rw [if_pos (by omega)]
    apply UInt8.toNat_inj.1; rw [UInt8.toNat_ofNat']; omega
  · split at h
    · simp at h
      rw [if_neg (by omega)]
      apply UInt8.toNat_inj.1; rw [UInt8.toNat_ofNat']; omega
    · cases h
theorem hexL_eq (n : Nat) : hexL n = [hexB (n / 268435456 % 16), hexB (n / 16777216 % 16), hexB (n / 1048576 % 16), hexB (n / 65536 % 16), hexB (n / 4096 % 16), hexB (n / 256 % 16), hexB (n / 16 % 16), hexB (n % 16)] := by
  simp [hexL, hexD, List.range_succ]
theorem parse_hexL (n : Nat) (h : n < 4294967296) : parseFrom 0 (hexL n) = some n := by
  rw [hexL_eq]
  simp only [parseFrom, digN_hexB _ (Nat.mod_lt _ (by decide : 16 > 0))]
  congr 1
  omega
theorem parse_cons (acc : Nat) (c : UInt8) (l : List UInt8) (n : Nat) (h : parseFrom acc (c :: l) = some n) : ∃ d, d < 16 ∧ hexB d = c ∧ parseFrom (acc * 16 + d) l = some n := by
  simp only [parseFrom] at h
  cases hd : digN c.toNat with
  | none => rw [hd] at h; cases h
  | some d => rw [hd] at h; exact ⟨d, digN_lt hd, hexB_digN c d hd, h⟩
theorem eight {α : Type} {l : List α} (h : l.length = 8) : ∃ a b c d e f g i, l = [a, b, c, d, e, f, g, i] := by
  match l, h with
  | [a, b, c, d, e, f, g, i], _ => exact ⟨a, b, c, d, e, f, g, i, rfl⟩
theorem hexL_parse (l : List UInt8) (n : Nat) (hl : l.length = 8) (h : parseFrom 0 l = some n) : hexL n = l := by
  obtain ⟨c0, c1, c2, c3, c4, c5, c6, c7, rfl⟩ := eight hl
  obtain ⟨d0, l0, rfl, h0⟩ := parse_cons _ _ _ _ h
  obtain ⟨d1, l1, rfl, h1⟩ := parse_cons _ _ _ _ h0
  obtain ⟨d2, l2, rfl, h2⟩ := parse_cons _ _ _ _ h1
  obtain ⟨d3, l3, rfl, h3⟩ := parse_cons _ _ _ _ h2
  obtain ⟨d4, l4, rfl, h4⟩ := parse_cons _ _ _ _ h3
  obtain ⟨d5, l5, rfl, h5⟩ := parse_cons _ _ _ _ h4
  obtain ⟨d6, l6, rfl, h6⟩ := parse_cons _ _ _ _ h5
  obtain ⟨d7, l7, rfl, h7⟩ := parse_cons _ _ _ _ h6
  clear h h0 h1 h2 h3 h4 h5 h6
  simp only [parseFrom, Option.some.injEq] at h7
  rw [hexL_eq]
  have e0 : n / 268435456 % 16 = d0 := by omega
  have e1 : n / 16777216 % 16 = d1 := by omega
  have e2 : n / 1048576 % 16 = d2 := by omega
  have e3 : n / 65536 % 16 = d3 := by omega
  have e4 : n / 4096 % 16 = d4 := by omega
  have e5 : n / 256 % 16 = d5 := by omega
  have e6 : n / 16 % 16 = d6 := by omega
  have e7 : n % 16 = d7 := by omega
  rw [e0, e1, e2, e3, e4, e5, e6, e7]
/-! ### texts -/
theorem strL_mk (l : List UInt8) : strL ⟨l.toArray⟩ = l := rfl
theorem size_mk (l : List UInt8) : (⟨l.toArray⟩ : ByteArray).size = l.length := by show l.toArray.size = _; simp
theorem strL_length (s : ByteArray) : (strL s).length = s.size := by unfold strL; rw [Array.length_toList]; rfl
theorem strL_extract (s : ByteArray) (a b : Nat) : strL (s.extract a b) = ((strL s).drop a).take (b - a) := by
  obtain ⟨⟨l⟩⟩ := s
  unfold strL
  rw [ByteArray.extract_mk]
theorem toList_eq_iff (s t : ByteArray) : (s.toList == t.toList) = decide (strL s = strL t) := by
  rw [ByteArray.toList_eq, ByteArray.toList_eq]
  by_cases h : strL s = strL t
  · have h' : s.data.toList = t.data.toList := h
    simp [h, h']
  · have h' : ¬ s.data.toList = t.data.toList := h
    rw [decide_eq_false h, beq_eq_false_iff_ne]; exact h'
/-- a piece of eight digits -/
theorem chunk_hex (l : List UInt32) (i : Nat) (h : i < l.length) : ((hexAllL l).drop (8 * i)).take 8 = hexL (l[i].toNat) :=
  flat_piece (fun x : UInt32 => hexL x.toNat) 8 (fun x => length_hexL _) l i h
theorem chunkN_hex (l : List UInt32) (i : Nat) (h : i < l.length) : chunkN ⟨(hexAllL l).toArray⟩ i = some (l[i].toNat) := by
  unfold chunkN parse8
  rw [strL_extract, strL_mk, size_mk, List.take_take, length_hexAllL, Nat.min_eq_left (by omega), chunk_hex l i h]
  exact parse_hexL _ (l[i]).toNat_lt
theorem parseAll_hex (l : List UInt32) : parseAllL ⟨(hexAllL l).toArray⟩ = l := by
  unfold parseAllL
  rw [size_mk, length_hexAllL, show 8 * l.length / 8 = l.length by omega]
  refine range_map_get l _ fun i hi => ?_
  unfold chunkI
  rw [chunkN_hex l i hi]
  unfold ofI
  simp
theorem flatMap_congr' {α β : Type} {l : List α} {f g : α → List β} (h : ∀ a, a ∈ l → f a = g a) : l.flatMap f = l.flatMap g := by
  induction l with
  | nil => rfl
  | cons a l ih => rw [List.flatMap_cons, List.flatMap_cons, h a (by simp), ih fun b hb => h b (by simp [hb])]
theorem hex_parseAll (s : ByteArray) (h8 : s.size % 8 = 0) (hall : ∀ i, i < s.size / 8 → chunkN s i ≠ none) : hexAllL (parseAllL s) = strL s := by
  have hp := flat_pieces 8 (s.size / 8) (strL s) (by rw [strL_length]; omega)
  rw [← hp]
  unfold hexAllL parseAllL
  rw [List.flatMap_map]
  refine flatMap_congr' fun i hi => ?_
  have hi := List.mem_range.1 hi
  cases hc : chunkN s i with
  | none => exact absurd hc (hall i hi)
  | some m =>
    have hm := parse8_lt _ _ hc
    have e : (ofI (chunkI s i)).toNat = m := by
      have := ofI_val (chunkI s i) (chunkI_bd s i).1 (chunkI_bd s i).2
      have e2 : chunkI s i = (m : Int) := by unfold chunkI; rw [hc]; rfl
      omega
    rw [e]
    unfold chunkN parse8 at hc
    rw [strL_extract, List.take_take, Nat.min_eq_left (by omega)] at hc
    exact hexL_parse _ _ (by rw [List.length_take, List.length_drop, strL_length]; omega) hc
theorem hex_parse8 (s : ByteArray) (n : Nat) (h8 : s.size = 8) (h : parse8 s = some n) : hexL n = strL s := by
  unfold parse8 at h
  rw [List.take_of_length_le (by rw [strL_length]; omega)] at h
  exact hexL_parse _ _ (by rw [strL_length]; omega) h
end Go.Proofs.Ytedhinekkmoheaa
