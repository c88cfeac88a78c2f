/- Whole contracts of Words and ParseAll, of the program and of the reference. -/
import Derived.Test.YtedhinekkmoheaaLawC
namespace Go.Proofs.Ytedhinekkmoheaa
open Go.RowKit WP
theorem Rd.nil (w : World) : Rd w (.slice none 0 0) (vw []) := ⟨none, 0, rfl, Nat.le_refl _, by decide, .inl rfl⟩
def wordsE (l : List UInt8) : Int := if 1048576 < l.length then 2 else if l.length % 4 = 0 then 0 else 11
def wordsR (l : List UInt8) : List UInt32 := if 1048576 < l.length then [] else if l.length % 4 = 0 then wordsL l else []
def WordsPost (l : List UInt8) (w : World) (e : Ending) (w' : World) : Prop :=
  ∃ v', e = .returned (.tuple #[v', .int .i64 (wordsE l)]) ∧ Rd w' v' (vw (wordsR l)) ∧ Below w.heap.size w w'
theorem words_all (va : Value) (l : List UInt8) (w : World) (ha : Rd w va (vb l)) : Calls Try.prog 28 #[va] w (WordsPost l w) := by
  unfold WordsPost wordsE wordsR
  by_cases h1 : 1048576 < l.length
  · simp only [if_pos h1]
    exact (words_long va l w ha h1).mono fun e w' ⟨he, hw⟩ => ⟨_, he, Rd.nil _, by rw [← hw]; exact Below.refl _ _⟩
  · simp only [if_neg h1]
    by_cases h2 : l.length % 4 = 0
    · simp only [if_pos h2]
      exact (words_yes va l w ha (by omega) h2).mono fun e w' ⟨v', he, ho, hb⟩ => ⟨v', he, Rd.of_own ho, hb⟩
    · simp only [if_neg h2]
      exact (words_part va l w ha (by omega) h2).mono fun e w' ⟨he, hw⟩ => ⟨_, he, Rd.nil _, by rw [← hw]; exact Below.refl _ _⟩
theorem rwords_all (va : Value) (l : List UInt8) (w : World) (ha : Rd w va (vb l)) : Calls Try.prog 39 #[va] w (WordsPost l w) := by
  unfold WordsPost wordsE wordsR
  by_cases h1 : 1048576 < l.length
  · simp only [if_pos h1]
    exact (rwords_long va l w ha h1).mono fun e w' ⟨he, hw⟩ => ⟨_, he, Rd.nil _, by rw [← hw]; exact Below.refl _ _⟩
  · simp only [if_neg h1]
    by_cases h2 : l.length % 4 = 0
    · simp only [if_pos h2]
      exact (rwords_yes va l w ha (by omega) h2).mono fun e w' ⟨v', he, ho, hb⟩ => ⟨v', he, Rd.of_own ho, hb⟩
    · simp only [if_neg h2]
      exact (rwords_part va l w ha (by omega) h2).mono fun e w' ⟨he, hw⟩ => ⟨_, he, Rd.nil _, by rw [← hw]; exact Below.refl _ _⟩
/-! ### ParseAll -/
def parseGood (s : ByteArray) : Bool := (List.range (s.size / 8)).all fun i => (chunkN s i).isSome
theorem parseGood_iff (s : ByteArray) : parseGood s = true ↔ ∀ i, i < s.size / 8 → chunkN s i ≠ none := by
  unfold parseGood
  simp only [List.all_eq_true, List.mem_range]
  constructor
  · intro h i hi e; have := h i hi; rw [e] at this; cases this
  · intro h i hi; exact Option.isSome_iff_ne_none.2 (h i hi)
def parseE (s : ByteArray) : Int := if 2097152 < s.size then 2 else if s.size % 8 = 0 then (if parseGood s then 0 else 10) else 10
def parseR (s : ByteArray) : List UInt32 := if 2097152 < s.size then [] else if s.size % 8 = 0 then (if parseGood s then parseAllL s else []) else []
def ParsePost (s : ByteArray) (w : World) (e : Ending) (w' : World) : Prop :=
  ∃ v', e = .returned (.tuple #[v', .int .i64 (parseE s)]) ∧ Rd w' v' (vw (parseR s)) ∧ Below w.heap.size w w'
theorem parse_post (s : ByteArray) (w : World) (h1 : ¬ 2097152 < s.size) (h2 : s.size % 8 = 0) (e : Ending) (w' : World) (h : ParseAllPost s w e w') : ParsePost s w e w' := by
  unfold ParsePost parseE parseR
  simp only [if_neg h1, if_pos h2]
  obtain ⟨hb, ⟨v', he, ho, hall⟩ | ⟨he, i, hi, hn⟩⟩ := h
  · rw [if_pos ((parseGood_iff s).2 hall), if_pos ((parseGood_iff s).2 hall)]
    exact ⟨v', he, Rd.of_own ho, hb⟩
  · have hg : ¬ parseGood s = true := fun h => (parseGood_iff s).1 h i hi hn
    rw [if_neg hg, if_neg hg]
    exact ⟨_, he, Rd.nil _, hb⟩
theorem parseall_all (s : ByteArray) (w : World) (hm : s.size ≤ 9223372036854775807) : Calls Try.prog 29 #[.string s] w (ParsePost s w) := by
  by_cases h1 : 2097152 < s.size
  · unfold ParsePost parseE parseR
    simp only [if_pos h1]
    exact (parseall_long s w hm h1).mono fun e w' ⟨he, hw⟩ => ⟨_, he, Rd.nil _, by rw [← hw]; exact Below.refl _ _⟩
  · by_cases h2 : s.size % 8 = 0
    · exact (parseall_any s w (by omega) h2).mono fun e w' h => parse_post s w h1 h2 e w' h
    · unfold ParsePost parseE parseR
      simp only [if_neg h1, if_neg h2]
      exact (parseall_part s w (by omega) h2).mono fun e w' ⟨he, hw⟩ => ⟨_, he, Rd.nil _, by rw [← hw]; exact Below.refl _ _⟩
theorem rparseall_all (s : ByteArray) (w : World) (hm : s.size ≤ 9223372036854775807) : Calls Try.prog 48 #[.string s] w (ParsePost s w) := by
  by_cases h1 : 2097152 < s.size
  · unfold ParsePost parseE parseR
    simp only [if_pos h1]
    exact (rparseall_long s w hm h1).mono fun e w' ⟨he, hw⟩ => ⟨_, he, Rd.nil _, by rw [← hw]; exact Below.refl _ _⟩
  · by_cases h2 : s.size % 8 = 0
    · exact (rparseall_any s w (by omega) h2).mono fun e w' h => parse_post s w h1 h2 e w' h
    · unfold ParsePost parseE parseR
      simp only [if_neg h1, if_neg h2]
      exact (rparseall_part s w (by omega) h2).mono fun e w' ⟨he, hw⟩ => ⟨_, he, Rd.nil _, by rw [← hw]; exact Below.refl _ _⟩
theorem parseHexV_pair (s : ByteArray) : ∃ n e, parseHexV s = pairV n e := by
  unfold parseHexV
  split
  · split
    · exact ⟨_, _, rfl⟩
    · exact ⟨_, _, rfl⟩
  · exact ⟨_, _, rfl⟩
end Go.Proofs.Ytedhinekkmoheaa
