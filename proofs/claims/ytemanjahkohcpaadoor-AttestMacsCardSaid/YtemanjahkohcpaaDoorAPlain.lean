/- Plain laws of AttestMacs: the boot key is layer 3's tag of the seed's bytes and the name's. -/
import Derived.Test.YtemanjahkohcpaaDoorASumB
import Derived.Test.YtemanjahkohcpaaDoorAAtt
namespace Go.Proofs.YtemanjahkohcpaaDoor
open Go.RowKit WP
theorem remB_short (l : List UInt32) (h : l.length < 16) : remB l = l := by
  unfold remB
  rw [show l.length / 16 = 0 by omega]; simp
theorem foldB_short (KL S l : List UInt32) (h : l.length < 16) : foldB KL S l = S := by
  unfold foldB
  rw [show l.length / 16 = 0 by omega]; rfl
theorem fold_join (KL : List UInt32) (b : List UInt32) : ∀ (n : Nat) (S a : List UInt32), a.length ≤ n → foldB KL (foldB KL S a) (remB a ++ b) = foldB KL S (a ++ b) ∧ remB (remB a ++ b) = remB (a ++ b) := by
  intro n
  induction n with
  | zero => intro S a ha; rw [remB_short a (by omega), foldB_short _ _ a (by omega)]; exact ⟨rfl, rfl⟩
  | succ n ih =>
    intro S a ha
    by_cases h : a.length < 16
    · rw [remB_short a h, foldB_short _ _ a h]; exact ⟨rfl, rfl⟩
    · have h16 : 16 ≤ a.length := by omega
      have hab : 16 ≤ (a ++ b).length := by rw [List.length_append]; omega
      have e1 : (a ++ b).take 16 = a.take 16 := List.take_append_of_le_length h16
      have e2 : (a ++ b).drop 16 = a.drop 16 ++ b := List.drop_append_of_le_length h16
      rw [foldB_step KL S a h16, remB_step a h16, foldB_step KL S (a ++ b) hab, remB_step (a ++ b) hab, e1, e2]
      exact ih _ _ (by rw [List.length_drop]; omega)
theorem bAt_left (a b : List UInt8) (i : Nat) (h : i < a.length) : bAt (a ++ b) i = bAt a i := by
  simp only [bAt, List.getD_eq_getElem?_getD]; rw [List.getElem?_append_left h]
theorem bAt_right (a b : List UInt8) (i : Nat) : bAt (a ++ b) (a.length + i) = bAt b i := by
  simp only [bAt, List.getD_eq_getElem?_getD]; rw [List.getElem?_append_right (by omega)]; congr 4; omega
theorem word4_wordB (x : UInt32) (r : List UInt8) : ofI (word4 (wordB x ++ r) 0) = x := by
  have hx := x.toNat_lt
  have e : word4 (wordB x ++ r) 0 = (x.toNat : Int) := by
    simp only [word4, bAt, wordB, List.cons_append, List.nil_append, List.getD_cons_zero, List.getD_cons_succ, Nat.mul_zero, Nat.zero_add]
    simp only [UInt8.toNat_ofNat']
    omega
  rw [e]; unfold ofI; simp
theorem wordsL_cons (x : UInt32) (r : List UInt8) : wordsL (wordB x ++ r) = x :: wordsL r := by
  unfold wordsL
  have hl : (wordB x ++ r).length / 4 = r.length / 4 + 1 := by rw [List.length_append]; simp only [wordB, List.length_cons, List.length_nil]; omega
  rw [hl, List.range_succ_eq_map, List.map_cons, word4_wordB, List.map_map]
  refine congrArg (List.cons x) (List.map_congr_left fun i _ => ?_)
  simp only [Function.comp]
  refine congrArg ofI ?_
  have hw : (wordB x).length = 4 := rfl
  unfold word4
  have q : ∀ j, bAt (wordB x ++ r) (4 * (i + 1) + j) = bAt r (4 * i + j) := fun j => by
    have := bAt_right (wordB x) r (4 * i + j)
    rw [hw] at this
    rw [← this]; congr 1; omega
  have q0 := q 0; have q1 := q 1; have q2 := q 2; have q3 := q 3
  simp only [Nat.add_zero] at q0
  simp only [Nat.succ_eq_add_one]
  rw [q0, q1, q2, q3]
theorem wordsL_bytes (m : List UInt32) : wordsL (bytesL m) = m := by
  induction m with
  | nil => rfl
  | cons x m ih =>
    have e : bytesL (x :: m) = wordB x ++ bytesL m := by simp [bytesL]
    rw [e, wordsL_cons, ih]
theorem wordsL_join (m : List UInt32) : ∀ (n : Nat) (a : List UInt8), a.length = 4 * n → wordsL (a ++ bytesL m) = wordsL a ++ m := by
  intro n a ha
  unfold wordsL
  have h1 : (a ++ bytesL m).length / 4 = n + m.length := by rw [List.length_append, length_bytesL]; omega
  have h2 : a.length / 4 = n := by omega
  rw [h1, h2]
  have hm : (List.range m.length).map (fun i => ofI (word4 (bytesL m) i)) = m := by
    have := wordsL_bytes m
    unfold wordsL at this
    rwa [length_bytesL, Nat.mul_div_cancel_left _ (by decide)] at this
  apply List.ext_getElem
  · simp
  · intro i h3 h4
    simp only [List.length_map, List.length_range] at h3
    rw [List.getElem_map, List.getElem_range]
    by_cases hi : i < n
    · rw [List.getElem_append_left (by simpa using hi), List.getElem_map, List.getElem_range]
      refine congrArg ofI ?_
      unfold word4
      rw [bAt_left _ _ _ (by omega), bAt_left _ _ _ (by omega), bAt_left _ _ _ (by omega), bAt_left _ _ _ (by omega)]
    · rw [List.getElem_append_right (by simpa using hi)]
      simp only [List.length_map, List.length_range]
      have hk : i - n < m.length := by omega
      have e : m[i - n] = ofI (word4 (bytesL m) (i - n)) := by
        have := congrArg (fun l => l[i - n]?) hm
        simp only [List.getElem?_map, List.getElem?_range hk, Option.map_some, List.getElem?_eq_getElem hk, Option.some.injEq] at this
        exact this.symm
      rw [e]
      refine congrArg ofI ?_
      unfold word4
      have q : ∀ j, bAt (a ++ bytesL m) (4 * i + j) = bAt (bytesL m) (4 * (i - n) + j) := fun j => by
        rw [← bAt_right a (bytesL m)]; congr 1; omega
      have q0 := q 0
      simp only [Nat.add_zero] at q0
      rw [q0, q 1, q 2, q 3]
/-- the tag of a message under a key, both bytes -/
def tagBytesF (KL : List UInt32) (key m : List UInt8) : List UInt32 := sumBytesF KL (padL key 92 ++ bytesL (sumBytesF KL (padL key 54 ++ m)))
theorem tagBytesF_len (KL : List UInt32) (key m : List UInt8) : (tagBytesF KL key m).length = 8 := sumBytesF_len _ _
/-- the hash of a padded key and words, as the digest of words and as that of bytes -/
theorem hash_eq (KL : List UInt32) (key : List UInt8) (p : Int) (m : List UInt32) (hk : key.length ≤ 64) :
    sumF KL (foldB KL (foldB KL firstL (padW key p)) (remB (padW key p) ++ m)) (remB (remB (padW key p) ++ m)) (16 + m.length) = sumBytesF KL (padL key p ++ bytesL m) := by
  have lp := padL_len key p hk
  obtain ⟨j1, j2⟩ := fold_join KL m _ firstL (padW key p) (Nat.le_refl _)
  rw [j1, j2]
  unfold sumBytesF sumF
  rw [wordsL_join m 16 _ lp, List.length_append, lp, length_bytesL]
  have e : (32 * (16 + (m.length : Int))) = 8 * ((64 + 4 * m.length : Nat) : Int) := by omega
  rw [e]
  rfl
theorem tag_bytes (KL : List UInt32) (key : List UInt8) (m : List UInt32) (hk : key.length ≤ 64) : tagF KL key m = tagBytesF KL key (bytesL m) := by
  unfold tagF tagBytesF outerF innerF
  rw [hash_eq KL key 54 m hk, hash_eq KL key 92 _ hk]
def nameB : List UInt8 := [119, 97, 114, 100, 101, 110, 32, 107, 101, 121, 32, 49]
theorem name_bytes : bytesL keyMsg = nameB := by decide
theorem key_bytes (KL seed : List UInt32) (h : seed.length = 8) : keyF KL seed = tagBytesF KL (bytesL seed) nameB := by
  rw [← name_bytes]
  exact tag_bytes KL (bytesL seed) keyMsg (by rw [length_bytesL]; omega)
end Go.Proofs.YtemanjahkohcpaaDoor
