/- Plain laws of AttestMacs: the boot key is layer 3's tag of the seed's bytes and the name's. The reference's padding of whole words, as plain laws. The reference's padding of a key, and its sums, as plain laws. -/
import Derived.Test.YtemanjahkohcpaaDoorASumB
import Derived.Test.YtemanjahkohcpaaDoorAAtt
namespace Go.Proofs.YtemanjahkohcpaaDoor
open Go.RowKit WP
theorem remB_short (l : List UInt32) (h : l.length < 16) : remB l = l := by
  unfold remB
  rw [show l.length / 16 = 0 by omega]; simp
theorem foldB_short (KL S l : List UInt32) (h : l.length < 16) : foldB KL S l = S := by
  unfold foldB
  rw [show l.length / 16 = 0 by omega]; rfl
theorem fold_join (KL : List UInt32) (b : List UInt32) : ∀ (n : Nat) (S a : List UInt32), a.length ≤ n → foldB KL (foldB KL S a) (remB a ++ b) = foldB KL S (a ++ b) ∧ remB (remB a ++ b) = remB (a ++ b) := by
  intro n
  induction n with
  | zero => intro S a ha; rw [remB_short a (by omega), foldB_short _ _ a (by omega)]; exact ⟨rfl, rfl⟩
  | succ n ih =>
    intro S a ha
    by_cases h : a.length < 16
    · rw [remB_short a h, foldB_short _ _ a h]; exact ⟨rfl, rfl⟩
    · have h16 : 16 ≤ a.length := by omega
      have hab : 16 ≤ (a ++ b).length := by rw [List.length_append]; omega
      have e1 : (a ++ b).take 16 = a.take 16 := List.take_append_of_le_length h16
      have e2 : (a ++ b).drop 16 = a.drop 16 ++ b := List.drop_append_of_le_length h16
      rw [foldB_step KL S a h16, remB_step a h16, foldB_step KL S (a ++ b) hab, remB_step (a ++ b) hab, e1, e2]
      exact ih _ _ (by rw [List.length_drop]; omega)
theorem bAt_left (a b : List UInt8) (i : Nat) (h : i < a.length) : bAt (a ++ b) i = bAt a i := by
  simp only [bAt, List.getD_eq_getElem?_getD]; rw [List.getElem?_append_left h]
theorem bAt_right (a b : List UInt8) (i : Nat) : bAt (a ++ b) (a.length + i) = bAt b i := by
  simp only [bAt, List.getD_eq_getElem?_getD]; rw [List.getElem?_append_right (by omega)]; congr 4; omega
theorem word4_wordB (x : UInt32) (r : List UInt8) : ofI (word4 (wordB x ++ r) 0) = x := by
  have hx := x.toNat_lt
  have e : word4 (wordB x ++ r) 0 = (x.toNat : Int) := by
    simp only [word4, bAt, wordB, List.cons_append, List.nil_append, List.getD_cons_zero, List.getD_cons_succ, Nat.mul_zero, Nat.zero_add]
    simp only [UInt8.toNat_ofNat']
    omega
  rw [e]; unfold ofI; simp
theorem wordsL_cons (x : UInt32) (r : List UInt8) : wordsL (wordB x ++ r) = x :: wordsL r := by
  unfold wordsL
  have hl : (wordB x ++ r).length / 4 = r.length / 4 + 1 := by rw [List.length_append]; simp only [wordB, List.length_cons, List.length_nil]; omega
  rw [hl, List.range_succ_eq_map, List.map_cons, word4_wordB, List.map_map]
  refine congrArg (List.cons x) (List.map_congr_left fun i _ => ?_)
  simp only [Function.comp]
  refine congrArg ofI ?_
  have hw : (wordB x).length = 4 := rfl
  unfold word4
  have q : ∀ j, bAt (wordB x ++ r) (4 * (i + 1) + j) = bAt r (4 * i + j) := fun j => by
    have := bAt_right (wordB x) r (4 * i + j)
    rw [hw] at this
    rw [← this]; congr 1; omega
  have q0 := q 0; have q1 := q 1; have q2 := q 2; have q3 := q 3
  simp only [Nat.add_zero] at q0
  simp only [Nat.succ_eq_add_one]
  rw [q0, q1, q2, q3]
theorem wordsL_bytes (m : List UInt32) : wordsL (bytesL m) = m := by
  induction m with
  | nil => rfl
  | cons x m ih =>
    have e : bytesL (x :: m) = wordB x ++ bytesL m := by simp [bytesL]
    rw [e, wordsL_cons, ih]
theorem wordsL_join (m : List UInt32) : ∀ (n : Nat) (a : List UInt8), a.length = 4 * n → wordsL (a ++ bytesL m) = wordsL a ++ m := by
  intro n a ha
  unfold wordsL
  have h1 : (a ++ bytesL m).length / 4 = n + m.length := by rw [List.length_append, length_bytesL]; omega
  have h2 : a.length / 4 = n := by omega
  rw [h1, h2]
  have hm : (List.range m.length).map (fun i => ofI (word4 (bytesL m) i)) = m := by
    have := wordsL_bytes m
    unfold wordsL at this
    rwa [length_bytesL, Nat.mul_div_cancel_left _ (by decide)] at this
  apply List.ext_getElem
  · simp
  · intro i h3 h4
    simp only [List.length_map, List.length_range] at h3
    rw [List.getElem_map, List.getElem_range]
    by_cases hi : i < n
    · rw [List.getElem_append_left (by simpa using hi), List.getElem_map, List.getElem_range]
      refine congrArg ofI ?_
      unfold word4
      rw [bAt_left _ _ _ (by omega), bAt_left _ _ _ (by omega), bAt_left _ _ _ (by omega), bAt_left _ _ _ (by omega)]
    · rw [List.getElem_append_right (by simpa using hi)]
      simp only [List.length_map, List.length_range]
      have hk : i - n < m.length := by omega
      have e : m[i - n] = ofI (word4 (bytesL m) (i - n)) := by
        have := congrArg (fun l => l[i - n]?) hm
        simp only [List.getElem?_map, List.getElem?_range hk, Option.map_some, List.getElem?_eq_getElem hk, Option.some.injEq] at this
        exact this.symm
      rw [e]
      refine congrArg ofI ?_
      unfold word4
      have q : ∀ j, bAt (a ++ bytesL m) (4 * i + j) = bAt (bytesL m) (4 * (i - n) + j) := fun j => by
        rw [← bAt_right a (bytesL m)]; congr 1; omega
      have q0 := q 0
      simp only [Nat.add_zero] at q0
      rw [q0, q 1, q 2, q 3]
/-- the tag of a message under a key, both bytes -/
def tagBytesF (KL : List UInt32) (key m : List UInt8) : List UInt32 := sumBytesF KL (padL key 92 ++ bytesL (sumBytesF KL (padL key 54 ++ m)))
theorem tagBytesF_len (KL : List UInt32) (key m : List UInt8) : (tagBytesF KL key m).length = 8 := sumBytesF_len _ _
/-- the hash of a padded key and words, as the digest of words and as that of bytes -/
theorem hash_eq (KL : List UInt32) (key : List UInt8) (p : Int) (m : List UInt32) (hk : key.length ≤ 64) :
    sumF KL (foldB KL (foldB KL firstL (padW key p)) (remB (padW key p) ++ m)) (remB (remB (padW key p) ++ m)) (16 + m.length) = sumBytesF KL (padL key p ++ bytesL m) := by
  have lp := padL_len key p hk
  obtain ⟨j1, j2⟩ := fold_join KL m _ firstL (padW key p) (Nat.le_refl _)
  rw [j1, j2]
  unfold sumBytesF sumF
  rw [wordsL_join m 16 _ lp, List.length_append, lp, length_bytesL]
  have e : (32 * (16 + (m.length : Int))) = 8 * ((64 + 4 * m.length : Nat) : Int) := by omega
  rw [e]
  rfl
theorem tag_bytes (KL : List UInt32) (key : List UInt8) (m : List UInt32) (hk : key.length ≤ 64) : tagF KL key m = tagBytesF KL key (bytesL m) := by
  unfold tagF tagBytesF outerF innerF
  rw [hash_eq KL key 54 m hk, hash_eq KL key 92 _ hk]
def nameB : List UInt8 := [119, 97, 114, 100, 101, 110, 32, 107, 101, 121, 32, 49]
theorem name_bytes : bytesL keyMsg = nameB := by decide
theorem key_bytes (KL seed : List UInt32) (h : seed.length = 8) : keyF KL seed = tagBytesF KL (bytesL seed) nameB := by
  rw [← name_bytes]
  exact tag_bytes KL (bytesL seed) keyMsg (by rw [length_bytesL]; omega)
end Go.Proofs.YtemanjahkohcpaaDoor

namespace Go.Proofs.YtemanjahkohcpaaDoor
open Go.RowKit
theorem bytesL_append (a b : List UInt32) : bytesL (a ++ b) = bytesL a ++ bytesL b := by unfold bytesL; simp
theorem bytesL_zeros (k : Nat) : bytesL (List.replicate k 0) = List.replicate (4 * k) 0 := by
  induction k with
  | zero => rfl
  | succ k ih =>
    have e : bytesL (List.replicate (k + 1) 0) = wordB 0 ++ bytesL (List.replicate k 0) := by rw [List.replicate_succ]; rfl
    rw [e, ih, show 4 * (k + 1) = 4 + 4 * k by omega, ← List.replicate_append_replicate]
    rfl
/-- the length of a message, as bytes, the first ones -/
def beN (y m : Nat) : List UInt8 := (List.range m).map fun t => UInt8.ofNat (y / 256 ^ (7 - t) % 256)
theorem beN_len (y m : Nat) : (beN y m).length = m := by simp [beN]
theorem beN_succ (y m : Nat) : beN y (m + 1) = beN y m ++ [UInt8.ofNat (y / 256 ^ (7 - m) % 256)] := by
  unfold beN; rw [List.range_succ, List.map_append]; rfl
theorem ofNat_mod (a b : Nat) (h : a % 256 = b % 256) : UInt8.ofNat a = UInt8.ofNat b := by
  apply UInt8.toNat_inj.1
  rw [UInt8.toNat_ofNat', UInt8.toNat_ofNat']
  exact h
theorem be8_words (y : Nat) (h : y < 18446744073709551616) : beN y 8 = bytesL [ofI ((y : Int) / 4294967296), ofI ((y : Int) % 4294967296)] := by
  have h1 : (ofI ((y : Int) / 4294967296)).toNat = y / 4294967296 := by have := ofI_val ((y : Int) / 4294967296) (by omega) (by omega); omega
  have h2 : (ofI ((y : Int) % 4294967296)).toNat = y % 4294967296 := by have := ofI_val ((y : Int) % 4294967296) (by omega) (by omega); omega
  have e : beN y 8 = [UInt8.ofNat (y / 72057594037927936 % 256), UInt8.ofNat (y / 281474976710656 % 256), UInt8.ofNat (y / 1099511627776 % 256), UInt8.ofNat (y / 4294967296 % 256), UInt8.ofNat (y / 16777216 % 256), UInt8.ofNat (y / 65536 % 256), UInt8.ofNat (y / 256 % 256), UInt8.ofNat (y / 1 % 256)] := rfl
  rw [e]
  simp only [bytesL, List.flatMap_cons, List.flatMap_nil, wordB, h1, h2, List.append_nil, List.cons_append, List.nil_append]
  simp only [List.cons.injEq, and_true]
  refine ⟨ofNat_mod _ _ ?_, ofNat_mod _ _ ?_, ofNat_mod _ _ ?_, ofNat_mod _ _ ?_, ofNat_mod _ _ ?_, ofNat_mod _ _ ?_, ofNat_mod _ _ ?_, ofNat_mod _ _ ?_⟩ <;> omega
/-- how many zero bytes behind the first byte of the padding, if r words wait -/
def zerosN (r : Nat) : Nat := 3 + 4 * padK (r + 1)
theorem zerosN_end (r : Nat) : (4 * r + 1 + zerosN r) % 64 = 56 := by unfold zerosN padK; omega
theorem zerosN_no (r j : Nat) (h : j < zerosN r) : (4 * r + 1 + j) % 64 ≠ 56 := by unfold zerosN padK at h; omega
theorem zerosN_le (r : Nat) : zerosN r ≤ 63 := by unfold zerosN padK; omega
def endB (R : List UInt8) (r y : Nat) : List UInt8 := R ++ [128] ++ List.replicate (zerosN r) 0 ++ beN y 8
theorem endB_len (R : List UInt8) (r y : Nat) (hr : R.length = 4 * r) : (endB R r y).length % 64 = 0 := by
  have := zerosN_end r
  simp only [endB, List.length_append, List.length_singleton, List.length_replicate, beN_len]
  omega
theorem end_bytes (R : List UInt8) (r y : Nat) (hr : R.length = 4 * r) (hy : y < 18446744073709551616) : wordsL (endB R r y) = endL (wordsL R) 2147483648 (y : Int) := by
  have e : endB R r y = R ++ bytesL ([ofI 2147483648] ++ List.replicate (padK (r + 1)) 0 ++ [ofI ((y : Int) / 4294967296), ofI ((y : Int) % 4294967296)]) := by
    unfold endB zerosN
    rw [be8_words y hy, bytesL_append, bytesL_append, bytesL_zeros, ← List.replicate_append_replicate (n := 3) (m := 4 * padK (r + 1))]
    rw [show bytesL [ofI 2147483648] = [128] ++ List.replicate 3 0 from rfl]
    simp only [List.append_assoc]
  have hl : (wordsL R).length = r := by unfold wordsL; rw [List.length_map, List.length_range, hr]; omega
  rw [e, wordsL_join _ r R hr]
  unfold endL
  rw [hl]
  simp only [List.append_assoc]
/-- whole words ahead of a place -/
theorem wordsL_drop (b : List UInt8) (q : Nat) (h : b.length % 4 = 0) (hq : 4 * q ≤ b.length) : wordsL (b.drop (4 * q)) = (wordsL b).drop q := by
  have bd : ∀ j, bAt (b.drop (4 * q)) j = bAt b (4 * q + j) := fun j => by unfold bAt; rw [List.getD_eq_getElem?_getD, List.getD_eq_getElem?_getD, List.getElem?_drop]
  have wd : ∀ i, word4 (b.drop (4 * q)) i = word4 b (q + i) := fun i => by
    unfold word4
    rw [bd, bd, bd, bd, show 4 * q + 4 * i = 4 * (q + i) by omega, show 4 * q + (4 * i + 1) = 4 * (q + i) + 1 by omega, show 4 * q + (4 * i + 2) = 4 * (q + i) + 2 by omega, show 4 * q + (4 * i + 3) = 4 * (q + i) + 3 by omega]
  apply List.ext_getElem?
  intro i
  rw [List.getElem?_drop]
  unfold wordsL
  rw [List.getElem?_map, List.getElem?_map]
  by_cases hi : q + i < b.length / 4
  · rw [List.getElem?_range hi, List.getElem?_range (by rw [List.length_drop]; omega), Option.map_some, Option.map_some, wd]
  · have n1 : (List.range (b.length / 4))[q + i]? = none := List.getElem?_eq_none (by rw [List.length_range]; omega)
    have n2 : (List.range ((b.drop (4 * q)).length / 4))[i]? = none := List.getElem?_eq_none (by rw [List.length_range, List.length_drop]; omega)
    rw [n1, n2, Option.map_none, Option.map_none]
theorem wordsL_len (b : List UInt8) : (wordsL b).length = b.length / 4 := by simp [wordsL]
/-- the state behind the first whole blocks -/
def stN (KL S l : List UInt32) : Nat → List UInt32
  | 0 => S
  | k + 1 => blockF KL (stN KL S l k) ((l.drop (16 * k)).take 16)
theorem stN_len (KL S l : List UInt32) (h : S.length = 8) : ∀ k, (stN KL S l k).length = 8
  | 0 => h
  | k + 1 => blockF_len _ _ _ (stN_len KL S l h k)
theorem foldN_stN (KL l : List UInt32) : ∀ (n k : Nat) (S : List UInt32), foldN KL n (stN KL S l k) (l.drop (16 * k)) = stN KL S l (k + n)
  | 0, k, S => rfl
  | n + 1, k, S => by
    have ih := foldN_stN KL l n (k + 1) S
    simp only [foldN]
    rw [List.drop_drop, show 16 * k + 16 = 16 * (k + 1) by omega]
    rw [show k + (n + 1) = k + 1 + n by omega, ← ih]
    rfl
theorem stN_fold (KL S l : List UInt32) : stN KL S l (l.length / 16) = foldB KL S l := by
  have := foldN_stN KL l (l.length / 16) 0 S
  simp only [Nat.mul_zero, List.drop_zero, Nat.zero_add] at this
  rw [← this]; rfl
end Go.Proofs.YtemanjahkohcpaaDoor

namespace Go.Proofs.YtemanjahkohcpaaDoor
open Go.RowKit
/-- the key's bytes with the mask, the first ones -/
def padT (key : List UInt8) (p : Int) (m : Nat) : List UInt8 := (List.range m).map fun i => UInt8.ofNat (bits .xor .u8 (bAt key i) p).toNat
theorem padT_len (key : List UInt8) (p : Int) (m : Nat) : (padT key p m).length = m := by simp [padT]
theorem padT_succ (key : List UInt8) (p : Int) (m : Nat) : padT key p (m + 1) = padT key p m ++ [UInt8.ofNat (bits .xor .u8 (bAt key m) p).toNat] := by
  unfold padT; rw [List.range_succ, List.map_append]; rfl
theorem padN_at (B : List UInt8) (p : Int) : ∀ (k i : Nat), i < B.length → (padN B p k)[i]? = some (if i < k then UInt8.ofNat (bits .xor .u8 (bAt B i) p).toNat else B.getD i 0)
  | 0, i, h => by
    rw [if_neg (by omega)]
    show B[i]? = _
    rw [List.getD_eq_getElem?_getD, List.getElem?_eq_getElem h]; rfl
  | k + 1, i, h => by
    have ih := padN_at B p k i h
    show ((padN B p k).set k _)[i]? = _
    rw [List.getElem?_set, padN_len]
    by_cases e : k = i
    · subst e
      rw [if_pos rfl, if_pos h, if_pos (by omega)]
      have hb : bAt (padN B p k) k = bAt B k := by
        unfold bAt
        rw [List.getD_eq_getElem?_getD, ih, if_neg (by omega)]; rfl
      rw [hb]
    · rw [if_neg e, ih]
      by_cases h1 : i < k
      · rw [if_pos h1, if_pos (by omega)]
      · rw [if_neg h1, if_neg (by omega)]
theorem bAt_fill (key : List UInt8) (n i : Nat) : bAt (key ++ List.replicate n 0) i = bAt key i := by
  unfold bAt
  rw [List.getD_eq_getElem?_getD, List.getD_eq_getElem?_getD]
  by_cases h : i < key.length
  · rw [List.getElem?_append_left h]
  · rw [List.getElem?_append_right (by omega), List.getElem?_replicate, List.getElem?_eq_none (by omega : key.length ≤ i)]
    split <;> rfl
theorem padT_full (key : List UInt8) (p : Int) (h : key.length ≤ 64) : padT key p 64 = padL key p := by
  apply List.ext_getElem?
  intro i
  unfold padT padL
  rw [List.getElem?_map]
  by_cases hi : i < 64
  · rw [List.getElem?_range hi, padN_at _ _ _ _ (by rw [List.length_append, List.length_replicate]; omega), if_pos hi, bAt_fill]; rfl
  · rw [List.getElem?_eq_none (by rw [List.length_range]; omega), List.getElem?_eq_none (by rw [padN_len, List.length_append, List.length_replicate]; omega)]; rfl
/-- what SumBytes sums, told by blocks -/
theorem sum_blocks (KL : List UInt32) (b : List UInt8) (h : b.length % 4 = 0) : foldB KL (stN KL firstL (wordsL b) (b.length / 64)) (endL (wordsL (b.drop (64 * (b.length / 64)))) 2147483648 ((8 * b.length : Nat) : Int)) = sumBytesF KL b := by
  have l := wordsL_len b
  have h1 : b.length / 64 = (wordsL b).length / 16 := by rw [l]; omega
  unfold sumBytesF
  rw [← stN_fold KL firstL (wordsL b), ← h1]
  have h2 : 64 * (b.length / 64) = 4 * (16 * (b.length / 64)) := by omega
  rw [h2, wordsL_drop b _ h (by omega)]
  unfold remB
  rw [← h1, Nat.mul_comm 16, Int.natCast_mul]
  rfl
end Go.Proofs.YtemanjahkohcpaaDoor
