/- What Lines, Words and Unquote answer, the program's and the reference's alike. -/
import Derived.Test.YtefbogmgcihndaaDoorTUnq
import Derived.Test.YtefbogmgcihndaaDoorTLin
import Derived.Test.YtefbogmgcihndaaDoorKLin
import Derived.Test.YtefbogmgcihndaaDoorKWds
import Derived.Test.YtefbogmgcihndaaDoorTSme
import Derived.Test.YtefbogmgcihndaaDoorTOpD
namespace Go.Proofs.YtefbogmgcihndaaDoor
open Go.RowKit WP
def linesG (P : ByteArray) : List ByteArray := if P.size ≤ 65536 then linesF P else []
def linesE (P : ByteArray) : Int := if P.size ≤ 65536 then 0 else 2
theorem rlines_all (P : ByteArray) (w : World) (hs : P.size ≤ 1114116) : Calls Tryd.prog 34 #[.string P] w fun e w' => ∃ v, e = .returned (.tuple #[v, .int .i64 (linesE P)]) ∧ Rd w' v (vs (linesG P)) ∧ Below w.heap.size w w' := by
  unfold linesE linesG
  by_cases h : P.size ≤ 65536
  · rw [if_pos h, if_pos h]
    refine (rlines_any P w h).mono ?_
    rintro e w' ⟨v, rfl, ho, hb⟩
    exact ⟨v, rfl, Rd.of_own ho, hb⟩
  · rw [if_neg h, if_neg h]
    refine (rlines_no P w (by omega) (by omega)).mono ?_
    rintro e w' ⟨rfl, rfl⟩
    exact ⟨_, rfl, rd_nil _, Below.refl _ _⟩
theorem tlines_all (P : ByteArray) (m : Int) (w : World) (hm : MaxL w m) (hs : P.size ≤ 1114116) : Calls Tryd.prog 32 #[.string P] w fun e w' => ∃ v, e = .returned (.tuple #[v, .int .i64 (linesE P)]) ∧ Rd w' v (vs (linesG P)) ∧ Below w.heap.size w w' := by
  unfold linesE linesG
  by_cases h : P.size ≤ 65536
  · rw [if_pos h, if_pos h]
    refine (tlines_any P m w hm h).mono ?_
    rintro e w' ⟨v, rfl, ho, hb⟩
    exact ⟨v, rfl, Rd.of_own ho, hb⟩
  · rw [if_neg h, if_neg h]
    refine (tlines_no P w (by omega) (by omega)).mono ?_
    rintro e w' ⟨rfl, rfl⟩
    exact ⟨_, rfl, rd_nil _, Below.refl _ _⟩
theorem MaxL.later {w w' : World} {m : Int} (h : MaxL w m) (hb : Below w.heap.size w w') : MaxL w' m := (hb.cell (World.block_lt_of_cell? w _ h)).trans h
theorem WdAt.mono {w w' : World} {v : Value} {l : List W} (h : WdAt w v l) (hb : Below w.heap.size w w') : WdAt w' v l := by
  obtain ⟨ao, ca, hv, a1, a2, a3⟩ := h
  refine ⟨ao, ca, hv, a1, a2, fun i hi => ?_⟩
  obtain ⟨b, off, e1, e2, c0, c1, c2⟩ := a3 i hi
  exact ⟨b, off, e1, e2, (hb.cell (World.block_lt_of_cell? w _ c0)).trans c0, (hb.cell (World.block_lt_of_cell? w _ c1)).trans c1, (hb.cell (World.block_lt_of_cell? w _ c2)).trans c2⟩
theorem WdAt.nil (w : World) : WdAt w (.slice none 0 0) [] := ⟨none, 0, rfl, Nat.le_refl _, by omega, fun i hi => absurd hi (by simp)⟩
def wordsL (S : ByteArray) : List W := match wordsF S with | .inl l => l | .inr _ => []
def wordsC (S : ByteArray) : Int := match wordsF S with | .inl _ => 0 | .inr c => (c : Int)
def wordsE (S : ByteArray) : Int := match wordsF S with | .inl _ => 0 | .inr _ => 40
theorem words_all (S : ByteArray) (w : World) (hs : S.size ≤ 1099511627776) : Calls Tryd.prog 10 #[.string S] w fun e w' => ∃ v, e = .returned (.tuple #[v, .int .i64 (wordsC S), .int .i64 (wordsE S)]) ∧ WdAt w' v (wordsL S) ∧ Below w.heap.size w w' := by
  refine (words_any S w hs).mono ?_
  rintro e w' ⟨hb, hr⟩
  unfold wordsL wordsC wordsE
  cases hF : wordsF S with
  | inl l =>
    rw [hF] at hr
    obtain ⟨v, he, ho⟩ := hr
    exact ⟨v, he, WdAt.of_own ho, hb⟩
  | inr c =>
    rw [hF] at hr
    exact ⟨_, hr, WdAt.nil _, hb⟩
theorem rwords_all (S : ByteArray) (w : World) (hs : S.size ≤ 1099511627776) : Calls Tryd.prog 36 #[.string S] w fun e w' => ∃ v, e = .returned (.tuple #[v, .int .i64 (wordsC S), .int .i64 (wordsE S)]) ∧ WdAt w' v (wordsL S) ∧ Below w.heap.size w w' := by
  refine (rwords_any S w hs).mono ?_
  rintro e w' ⟨hb, hr⟩
  unfold wordsL wordsC wordsE
  cases hF : wordsF S with
  | inl l =>
    rw [hF] at hr
    obtain ⟨v, he, ho⟩ := hr
    exact ⟨v, he, WdAt.of_own ho, hb⟩
  | inr c =>
    rw [hF] at hr
    exact ⟨_, hr, WdAt.nil _, hb⟩
theorem wordsE_is (S : ByteArray) : wordsE S = 0 ∨ wordsE S = 40 := by unfold wordsE; split <;> simp
def unqL (S : ByteArray) : List UInt8 := (unqF S.data.toList).getD []
def unqE (S : ByteArray) : Int := if (unqF S.data.toList).isSome then 0 else 40
theorem unq_res {R : Option (List UInt8)} {B : Nat} {e : Ending} {w' : World} (h : UnqRes R B e w') : ∃ v, e = .returned (.tuple #[v, .int .i64 (if R.isSome then 0 else 40)]) ∧ Rd w' v (vb (R.getD [])) := by
  cases R with
  | none => exact ⟨_, h, rd_nil _⟩
  | some b => obtain ⟨v, he, ho⟩ := h; exact ⟨v, he, Rd.of_own ho⟩
theorem unq_all (S : ByteArray) (w : World) (hs : S.size ≤ 1048576) : Calls Tryd.prog 23 #[.string S] w fun e w' => ∃ v, e = .returned (.tuple #[v, .int .i64 (unqE S)]) ∧ Rd w' v (vb (unqL S)) ∧ Below w.heap.size w w' := by
  refine (unquote_any S w (by omega)).mono ?_
  rintro e w' ⟨hb, hr⟩
  obtain ⟨v, he, hr⟩ := unq_res hr
  exact ⟨v, he, hr, hb⟩
end Go.Proofs.YtefbogmgcihndaaDoor
