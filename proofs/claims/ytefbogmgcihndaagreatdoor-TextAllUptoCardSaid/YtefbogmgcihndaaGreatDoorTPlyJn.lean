/- The law's plays: each call's answer is the document's. -/
import Derived.Test.YtefbogmgcihndaaGreatDoorTPk
import Derived.Test.YtefbogmgcihndaaGreatDoorTNuE
import Derived.Test.YtefbogmgcihndaaGreatDoorTRun
import Derived.Test.YtefbogmgcihndaaGreatDoorTRnb
import Derived.Test.YtefbogmgcihndaaGreatDoorTRna
import Derived.Test.YtefbogmgcihndaaGreatDoorTRte
import Derived.Test.YtefbogmgcihndaaGreatDoorTRqu
import Derived.Test.YtefbogmgcihndaaGreatDoorTRcoJn
import Derived.Test.YtefbogmgcihndaaGreatDoorJn42
import Derived.Test.YtefbogmgcihndaaGreatDoorJn43
import Derived.Test.YtefbogmgcihndaaGreatDoorKWds
import Derived.Test.YtefbogmgcihndaaGreatDoorJn45
namespace Go.Proofs.YtefbogmgcihndaaGreatDoor
open Go.RowKit WP
/-- one call of a script, as it came in -/
structure OpIn (w : World) (S : ByteArray) (bv : Value) (B : List UInt8) (u : Nat) (z : Int) (rv : Value) (V : Nat → Value) (C : Nat → List ByteArray) (n : Nat) : Prop where
  hS : S.size ≤ 1048576
  hB : Rd w bv (vb B)
  hBl : B.length ≤ 1048576
  hu : u < 4294967296
  hz0 : -2147483648 ≤ z
  hz1 : z ≤ 2147483647
  hG : Grid w rv V C n
  hn : n ≤ 1048576
  sum : ((List.range n).map fun i => (C i).length).sum ≤ 1048576
  len : ∀ i, i < n → (C i).length ≤ 1048576 ∧ ∀ j, (nthB (C i) j).size ≤ 1048576
theorem OpIn.later {w w' : World} {S : ByteArray} {bv : Value} {B : List UInt8} {u : Nat} {z : Int} {rv : Value} {V : Nat → Value} {C : Nat → List ByteArray} {n : Nat} (h : OpIn w S bv B u z rv V C n) (hb : Below w.heap.size w w') : OpIn w' S bv B u z rv V C n :=
  ⟨h.hS, h.hB.mono hb, h.hBl, h.hu, h.hz0, h.hz1, h.hG.later hb, h.hn, h.sum, h.len⟩
def opV (k : Int) (S : ByteArray) (pad : Int) (bv : Value) (u : Nat) (z : Int) (rv : Value) : Array Value := #[.int .i64 k, .string S, .int .i64 pad, bv, .int .u32 (u : Int), .int .i32 z, rv]
def linesG (P : ByteArray) : List ByteArray := if P.size ≤ 65536 then linesF P else []
def linesE (P : ByteArray) : Int := if P.size ≤ 65536 then 0 else 2
theorem rd_nil (w : World) : Rd w (.slice none 0 0) [] := ⟨none, 0, rfl, Nat.le_refl _, by decide, .inl rfl⟩
theorem rlines_all (P : ByteArray) (w : World) (hs : P.size ≤ 1114116) : Calls Tryz.prog 10 #[.string P] w fun e w' => ∃ v, e = .returned (.tuple #[v, .int .i64 (linesE P)]) ∧ Rd w' v (vs (linesG P)) ∧ Below w.heap.size w w' := by
  unfold linesE linesG
  by_cases h : P.size ≤ 65536
  · rw [if_pos h, if_pos h]
    refine (rlines_any P w h).mono ?_
    rintro e w' ⟨v, rfl, ho, hb⟩
    exact ⟨v, rfl, Rd.of_own ho, hb⟩
  · rw [if_neg h, if_neg h]
    refine (rlines_no P w (by omega) (by omega)).mono ?_
    rintro e w' ⟨rfl, rfl⟩
    exact ⟨_, rfl, rd_nil _, Below.refl _ _⟩
theorem tlines_all (P : ByteArray) (m : Int) (w : World) (hm : MaxL w m) (hs : P.size ≤ 1114116) : Calls Tryz.prog 11 #[.string P] w fun e w' => ∃ v, e = .returned (.tuple #[v, .int .i64 (linesE P)]) ∧ Rd w' v (vs (linesG P)) ∧ Below w.heap.size w w' := by
  unfold linesE linesG
  by_cases h : P.size ≤ 65536
  · rw [if_pos h, if_pos h]
    refine (tlines_any P m w hm h).mono ?_
    rintro e w' ⟨v, rfl, ho, hb⟩
    exact ⟨v, rfl, Rd.of_own ho, hb⟩
  · rw [if_neg h, if_neg h]
    refine (tlines_no P w (by omega) (by omega)).mono ?_
    rintro e w' ⟨rfl, rfl⟩
    exact ⟨_, rfl, rd_nil _, Below.refl _ _⟩
theorem MaxL.later {w w' : World} {m : Int} (h : MaxL w m) (hb : Below w.heap.size w w') : MaxL w' m := (hb.cell (World.block_lt_of_cell? w _ h)).trans h
theorem WdAt.mono {w w' : World} {v : Value} {l : List W} (h : WdAt w v l) (hb : Below w.heap.size w w') : WdAt w' v l := by
  obtain ⟨ao, ca, hv, a1, a2, a3⟩ := h
  refine ⟨ao, ca, hv, a1, a2, fun i hi => ?_⟩
  obtain ⟨b, off, e1, e2, c0, c1, c2⟩ := a3 i hi
  exact ⟨b, off, e1, e2, (hb.cell (World.block_lt_of_cell? w _ c0)).trans c0, (hb.cell (World.block_lt_of_cell? w _ c1)).trans c1, (hb.cell (World.block_lt_of_cell? w _ c2)).trans c2⟩
theorem WdAt.nil (w : World) : WdAt w (.slice none 0 0) [] := ⟨none, 0, rfl, Nat.le_refl _, by omega, fun i hi => absurd hi (by simp)⟩
def wordsL (S : ByteArray) : List W := match wordsF S with | .inl l => l | .inr _ => []
def wordsC (S : ByteArray) : Int := match wordsF S with | .inl _ => 0 | .inr c => (c : Int)
def wordsE (S : ByteArray) : Int := match wordsF S with | .inl _ => 0 | .inr _ => 40
theorem words_all (S : ByteArray) (w : World) (hs : S.size ≤ 1099511627776) : Calls Tryz.prog 6 #[.string S] w fun e w' => ∃ v, e = .returned (.tuple #[v, .int .i64 (wordsC S), .int .i64 (wordsE S)]) ∧ WdAt w' v (wordsL S) ∧ Below w.heap.size w w' := by
  refine (words_any S w hs).mono ?_
  rintro e w' ⟨hb, hr⟩
  unfold wordsL wordsC wordsE
  cases hF : wordsF S with
  | inl l =>
    rw [hF] at hr
    obtain ⟨v, he, ho⟩ := hr
    exact ⟨v, he, WdAt.of_own ho, hb⟩
  | inr c =>
    rw [hF] at hr
    exact ⟨_, hr, WdAt.nil _, hb⟩
theorem rwords_all (S : ByteArray) (w : World) (hs : S.size ≤ 1099511627776) : Calls Tryz.prog 13 #[.string S] w fun e w' => ∃ v, e = .returned (.tuple #[v, .int .i64 (wordsC S), .int .i64 (wordsE S)]) ∧ WdAt w' v (wordsL S) ∧ Below w.heap.size w w' := by
  refine (rwords_any S w hs).mono ?_
  rintro e w' ⟨hb, hr⟩
  unfold wordsL wordsC wordsE
  cases hF : wordsF S with
  | inl l =>
    rw [hF] at hr
    obtain ⟨v, he, ho⟩ := hr
    exact ⟨v, he, WdAt.of_own ho, hb⟩
  | inr c =>
    rw [hF] at hr
    exact ⟨_, hr, WdAt.nil _, hb⟩
theorem wordsE_is (S : ByteArray) : wordsE S = 0 ∨ wordsE S = 40 := by unfold wordsE; split <;> simp
def unqL (S : ByteArray) : List UInt8 := (unqF S.data.toList).getD []
def unqE (S : ByteArray) : Int := if (unqF S.data.toList).isSome then 0 else 40
theorem unq_res {R : Option (List UInt8)} {B : Nat} {e : Ending} {w' : World} (h : UnqRes R B e w') : ∃ v, e = .returned (.tuple #[v, .int .i64 (if R.isSome then 0 else 40)]) ∧ Rd w' v (vb (R.getD [])) := by
  cases R with
  | none => exact ⟨_, h, rd_nil _⟩
  | some b => obtain ⟨v, he, ho⟩ := h; exact ⟨v, he, Rd.of_own ho⟩
theorem unq_all (S : ByteArray) (w : World) (hs : S.size ≤ 1048576) : Calls Tryz.prog 29 #[.string S] w fun e w' => ∃ v, e = .returned (.tuple #[v, .int .i64 (unqE S)]) ∧ Rd w' v (vb (unqL S)) ∧ Below w.heap.size w w' := by
  refine (unquote_any S w (by omega)).mono ?_
  rintro e w' ⟨hb, hr⟩
  obtain ⟨v, he, hr⟩ := unq_res hr
  exact ⟨v, he, hr, hb⟩
theorem runq_all (S : ByteArray) (w : World) (hs : S.size ≤ 1048576) : Calls Tryz.prog 28 #[.string S] w fun e w' => ∃ v, e = .returned (.tuple #[v, .int .i64 (unqE S)]) ∧ Rd w' v (vb (unqL S)) ∧ Below w.heap.size w w' := by
  refine (runquote_any S w (by omega)).mono ?_
  rintro e w' ⟨hb, hr⟩
  obtain ⟨v, he, hr⟩ := unq_res hr
  exact ⟨v, he, hr, hb⟩
set_option maxRecDepth 100000 in
set_option maxHeartbeats 4000000 in
theorem plays_quote (k : Int) (S : ByteArray) (pad : Int) (bv : Value) (B : List UInt8) (u : Nat) (z : Int) (rv : Value) (V : Nat → Value) (C : Nat → List ByteArray) (n : Nat) (w : World) (h : OpIn w S bv B u z rv V C n) (hk : k = 5) :
    Calls Tryz.prog 5 #[.agg (opV k S pad bv u z rv)] w fun e w' => e = .returned (.bool true) ∧ Below w.heap.size w w' := by
  subst hk
  unfold opV
  have hb0 := (Below.refl w.heap.size w).alloc (Nat.le_refl _) (.cells #[.int .i64 5, .string S, .int .i64 pad, bv, .int .u32 (u : Int), .int .i32 z, rv] 29)
  have hq := fun W (hW : Below w.heap.size w W) => rquote_any bv B W (h.hB.mono hW) (by have := h.hBl; omega)
  have hp := fun W (hW : Below w.heap.size w W) => quote_any bv B W (h.hB.mono hW) (by have := h.hBl; omega)
  obtain ⟨Q, hQ⟩ : ∃ Q : ByteArray, ⟨(quoteL B).toArray⟩ = Q := ⟨_, rfl⟩
  simp only [hQ] at hq hp
  clear hQ
  replace hq := Lib.hid hq; replace hp := Lib.hid hp; replace hb0 := Lib.hid hb0; replace h := Lib.hid h
  go_enter Tryz.func5, Tryz.ntmps5
  go_wp2_with (first
    | (go_at_call 26; refine (hq.out _ hb0.out).mono ?_; rintro e w2 ⟨rfl, hb2⟩; have hb3 := hb0.out.trans (hb2.mono hb0.out.size); have q3 := (hb2.cell (p := ⟨w.heap.size, 3, none⟩) (by simp)).trans (show _ = some bv by simp))
    | (go_at_call 27; refine (hp.out _ hb3).mono ?_; rintro e w4 ⟨rfl, hb4⟩))
  go_ret
  exact ⟨rfl, hb3.trans (hb4.mono hb3.size)⟩
set_option maxRecDepth 100000 in
set_option maxHeartbeats 4000000 in
theorem plays_lines (k : Int) (S : ByteArray) (pad : Int) (bv : Value) (B : List UInt8) (u : Nat) (z : Int) (rv : Value) (V : Nat → Value) (C : Nat → List ByteArray) (n : Nat) (w : World) (h : OpIn w S bv B u z rv V C n) (m : Int) (hm : MaxL w m) (hk : k = 1) :
    Calls Tryz.prog 5 #[.agg (opV k S pad bv u z rv)] w fun e w' => e = .returned (.bool true) ∧ Below w.heap.size w w' := by
  subst hk
  unfold opV
  have hb0 := (Below.refl w.heap.size w).alloc (Nat.le_refl _) (.cells #[.int .i64 1, .string S, .int .i64 pad, bv, .int .u32 (u : Int), .int .i32 z, rv] 29)
  have hp := fun W => padded_any S pad W h.hS
  replace hp := Lib.hid hp; replace hb0 := Lib.hid hb0; replace h := Lib.hid h; replace hm := Lib.hid hm
  go_enter Tryz.func5, Tryz.ntmps5
  go_upto_region 4 with (first
    | (go_at_call 9; refine (hp.out _).mono ?_; rintro e w2 ⟨⟨P, rfl, hPs⟩, hb2⟩; have hb3 := Lib.hid (hb0.out.trans (hb2.mono hb0.out.size)); clear hb2))
  have hr := fun W => rlines_all P W hPs
  have ht := fun W hW => tlines_all P m W hW hPs
  generalize linesE P = E at *
  generalize linesG P = L at *
  replace hr := Lib.hid hr; replace ht := Lib.hid ht
  go_wp2_with (first
    | (go_at_call 10; refine (hr.out _).mono ?_; rintro e w4 ⟨v4, rfl, hr4, hb4⟩; have hb5 := Lib.hid (hb3.out.trans (hb4.mono hb3.out.size)); replace hr4 := Lib.hid hr4; clear hb4)
    | (go_at_call 11; refine (ht.out _ (MaxL.later hm.out hb5.out)).mono ?_; rintro e w6 ⟨v6, rfl, hr6, hb6⟩; have hr7 := Lib.hid (hr4.out.mono hb6); have hb7 := Lib.hid (hb5.out.trans (hb6.mono hb5.out.size)); replace hr6 := Lib.hid hr6; clear hb6)
    | (go_at_call 12; refine (lsame_any _ _ L _ hr6.out hr7.out).mono ?_; rintro e w8 ⟨rfl, q, hw⟩; rw [hw]; clear hw))
  go_ret
  exact ⟨rfl, below_drewN hb7.out _⟩
set_option maxRecDepth 100000 in
set_option maxHeartbeats 4000000 in
theorem plays_words (k : Int) (S : ByteArray) (pad : Int) (bv : Value) (B : List UInt8) (u : Nat) (z : Int) (rv : Value) (V : Nat → Value) (C : Nat → List ByteArray) (n : Nat) (w : World) (h : OpIn w S bv B u z rv V C n) (hk : k = 2) :
    Calls Tryz.prog 5 #[.agg (opV k S pad bv u z rv)] w fun e w' => e = .returned (.bool true) ∧ Below w.heap.size w w' := by
  subst hk
  unfold opV
  have hb0 := (Below.refl w.heap.size w).alloc (Nat.le_refl _) (.cells #[.int .i64 2, .string S, .int .i64 pad, bv, .int .u32 (u : Int), .int .i32 z, rv] 29)
  have hr := fun W => rwords_all S W (by have := h.hS; omega)
  have ht := fun W => words_all S W (by have := h.hS; omega)
  generalize wordsE S = E at *
  generalize wordsC S = K at *
  generalize wordsL S = L at *
  replace hr := Lib.hid hr; replace ht := Lib.hid ht; replace hb0 := Lib.hid hb0; replace h := Lib.hid h
  go_enter Tryz.func5, Tryz.ntmps5
  go_wp2_with (first
    | (go_at_call 13; refine (hr.out _).mono ?_; rintro e w4 ⟨v4, rfl, hr4, hb4⟩; have hb5 := Lib.hid (hb0.out.trans (hb4.mono hb0.out.size)); replace hr4 := Lib.hid hr4; have q1 := (hb4.cell (p := ⟨w.heap.size, 1, none⟩) (by simp)).trans (show _ = some (Value.string S) by simp); clear hb4)
    | (go_at_call 6; refine (ht.out _).mono ?_; rintro e w6 ⟨v6, rfl, hr6, hb6⟩; have hr7 := Lib.hid (hr4.out.mono hb6); have hb7 := Lib.hid (hb5.out.trans (hb6.mono hb5.out.size)); replace hr6 := Lib.hid hr6; clear hb6)
    | (go_at_call 14; refine (sameWords_any _ _ L _ hr6.out hr7.out).mono ?_; rintro e w8 ⟨rfl, q, hw⟩; rw [hw]; clear hw))
  go_ret
  exact ⟨rfl, below_drewN hb7.out _⟩
set_option maxRecDepth 100000 in
set_option maxHeartbeats 4000000 in
theorem plays_unquote (k : Int) (S : ByteArray) (pad : Int) (bv : Value) (B : List UInt8) (u : Nat) (z : Int) (rv : Value) (V : Nat → Value) (C : Nat → List ByteArray) (n : Nat) (w : World) (h : OpIn w S bv B u z rv V C n) (hk : k = 6) :
    Calls Tryz.prog 5 #[.agg (opV k S pad bv u z rv)] w fun e w' => e = .returned (.bool true) ∧ Below w.heap.size w w' := by
  subst hk
  unfold opV
  have hb0 := (Below.refl w.heap.size w).alloc (Nat.le_refl _) (.cells #[.int .i64 6, .string S, .int .i64 pad, bv, .int .u32 (u : Int), .int .i32 z, rv] 29)
  have hr := fun W => runq_all S W h.hS
  have ht := fun W => unq_all S W h.hS
  generalize unqE S = E at *
  generalize unqL S = L at *
  replace hr := Lib.hid hr; replace ht := Lib.hid ht; replace hb0 := Lib.hid hb0; replace h := Lib.hid h
  go_enter Tryz.func5, Tryz.ntmps5
  go_upto_region 25 with (first
    | (go_at_call 28; refine (hr.out _).mono ?_; rintro e w4 ⟨v4, rfl, hr4, hb4⟩; have hb5 := Lib.hid (hb0.out.trans (hb4.mono hb0.out.size)); replace hr4 := Lib.hid hr4; have q1 := (hb4.cell (p := ⟨w.heap.size, 1, none⟩) (by simp)).trans (show _ = some (Value.string S) by simp); clear hb4)
    | (go_at_call 29; refine (ht.out _).mono ?_; rintro e w6 ⟨v6, rfl, hr6, hb6⟩; have hr7 := Lib.hid (hr4.out.mono hb6); have hb7 := Lib.hid (hb5.out.trans (hb6.mono hb5.out.size)); replace hr6 := Lib.hid hr6; clear hb6))
  have hc1 := conv_bytes (P := Tryz.prog) hr6.out 25 5 9 Tryz.underlying25 Tryz.underlying5 Tryz.underlying9
  have hc2 := conv_bytes (P := Tryz.prog) hr7.out 25 5 9 Tryz.underlying25 Tryz.underlying5 Tryz.underlying9
  generalize (⟨L.toArray⟩ : ByteArray) = Q at *
  go_wp2_with fail
  go_ret
  exact ⟨rfl, hb7.out⟩
set_option maxRecDepth 100000 in
set_option maxHeartbeats 4000000 in
theorem plays_columns (k : Int) (S : ByteArray) (pad : Int) (bv : Value) (B : List UInt8) (u : Nat) (z : Int) (rv : Value) (V : Nat → Value) (C : Nat → List ByteArray) (n : Nat) (w : World) (h : OpIn w S bv B u z rv V C n) (hk : k = 7) :
    Calls Tryz.prog 5 #[.agg (opV k S pad bv u z rv)] w fun e w' => e = .returned (.bool true) ∧ Below w.heap.size w w' := by
  subst hk
  unfold opV
  have hb0 := (Below.refl w.heap.size w).alloc (Nat.le_refl _) (.cells #[.int .i64 7, .string S, .int .i64 pad, bv, .int .u32 (u : Int), .int .i32 z, rv] 29)
  have hr := fun W (hW : Below w.heap.size w W) => rcolumns_any rv V C n W (h.hG.later hW) 1048576 1048576 h.sum h.hn h.len (by omega) (by omega)
  have ht := fun W (hW : Below w.heap.size w W) => columnsG_any rv V C n W (h.hG.later hW) 1048576 1048576 h.sum h.hn (fun i hi => ⟨(h.len i hi).1, fun j _ => (h.len i hi).2 j⟩) (by omega) (by omega)
  generalize (⟨(textG (wK C n) C n).toArray⟩ : ByteArray) = Q at *
  replace hr := Lib.hid hr; replace ht := Lib.hid ht; replace hb0 := Lib.hid hb0; replace h := Lib.hid h
  go_enter Tryz.func5, Tryz.ntmps5
  go_wp2_with (first
    | (go_at_call 30; refine (hr.out _ hb0.out).mono ?_; rintro e w2 ⟨rfl, hb2⟩; have hb3 := hb0.out.trans (hb2.mono hb0.out.size); have q6 := (hb2.cell (p := ⟨w.heap.size, 6, none⟩) (by simp)).trans (show _ = some rv by simp))
    | (go_at_call 31; refine (ht.out _ hb3).mono ?_; rintro e w4 ⟨rfl, hb4⟩))
  go_ret
  exact ⟨rfl, hb3.trans (hb4.mono hb3.size)⟩
set_option maxRecDepth 100000 in
set_option maxHeartbeats 4000000 in
theorem plays_number (k : Int) (S : ByteArray) (pad : Int) (bv : Value) (B : List UInt8) (u : Nat) (z : Int) (rv : Value) (V : Nat → Value) (C : Nat → List ByteArray) (n : Nat) (w : World) (h : OpIn w S bv B u z rv V C n) (hP : Pk w) (hk : k = 3) :
    Calls Tryz.prog 5 #[.agg (opV k S pad bv u z rv)] w fun e w' => e = .returned (.bool true) ∧ Below w.heap.size w w' := by
  subst hk
  unfold opV
  have hb0 := (Below.refl w.heap.size w).alloc (Nat.le_refl _) (.cells #[.int .i64 3, .string S, .int .i64 pad, bv, .int .u32 (u : Int), .int .i32 z, rv] 29)
  have hs : S.size ≤ 140737488355328 := by have := h.hS; omega
  have hr1 := fun W => rnumber_any S W hs
  have ht1 := fun W hW => number_any S W hs hW
  have hr2 := fun W => rsigned_any S W hs
  have ht2 := fun W hW => signed_any S W hs hW
  have hn1 := fun W => name_any S W
  have hn2 := fun W => rname_any S W
  generalize (((numF S.data.toList).getD 0 : Nat) : Int) = A at *
  generalize errN (numF S.data.toList).isSome = E at *
  generalize (sgnF S.data.toList).getD 0 = G at *
  generalize errN (sgnF S.data.toList).isSome = F at *
  generalize (if nameF S = true then (0 : Int) else 42) = R at *
  replace hr1 := Lib.hid hr1; replace ht1 := Lib.hid ht1; replace hr2 := Lib.hid hr2; replace ht2 := Lib.hid ht2; replace hn1 := Lib.hid hn1; replace hn2 := Lib.hid hn2
  replace hb0 := Lib.hid hb0; replace h := Lib.hid h; replace hP := Lib.hid hP
  go_enter Tryz.func5, Tryz.ntmps5
  go_upto_region 16 with (first
    | (go_at_call 15; refine (hr1.out _).mono ?_; rintro e w2 ⟨rfl, hw⟩; rw [hw]; clear hw w2)
    | (go_at_call 16; refine (ht1.out _ (hP.out.e.later hb0.out)).mono ?_; rintro e w4 ⟨hb4, rfl⟩; have hb5 := Lib.hid (hb0.out.trans (hb4.mono hb0.out.size)); have q1 := (hb4.cell (p := ⟨w.heap.size, 1, none⟩) (by simp)).trans (show _ = some (Value.string S) by simp); clear hb4)
    | (go_at_call 17; refine (hr2.out _).mono ?_; rintro e w6 ⟨rfl, hw⟩; rw [hw]; clear hw w6)
    | (go_at_call 18; refine (ht2.out _ (hP.out.e.later hb5.out)).mono ?_; rintro e w8 ⟨hb8, rfl⟩; have hb9 := Lib.hid (hb5.out.trans (hb8.mono hb5.out.size)); have q2 := (hb8.cell (p := ⟨w.heap.size, 1, none⟩) (World.block_lt_of_cell? _ _ q1)).trans q1; clear hb8 q1))
  go_quiet ((first
    | (go_at_call 19; exact Calls.quiet_of_same (hn1.out _))
    | (go_at_call 20; exact Calls.quiet_of_same (hn2.out _))))
  go_wp2_with fail
  go_ret
  exact ⟨rfl, below_drewN hb9.out _⟩
set_option maxRecDepth 100000 in
set_option maxHeartbeats 4000000 in
theorem plays_told (k : Int) (S : ByteArray) (pad : Int) (bv : Value) (B : List UInt8) (u : Nat) (z : Int) (rv : Value) (V : Nat → Value) (C : Nat → List ByteArray) (n : Nat) (w : World) (h : OpIn w S bv B u z rv V C n) (hP : Pk w) (hk : k = 4) :
    Calls Tryz.prog 5 #[.agg (opV k S pad bv u z rv)] w fun e w' => e = .returned (.bool true) ∧ Below w.heap.size w w' := by
  subst hk
  unfold opV
  have hb0 := (Below.refl w.heap.size w).alloc (Nat.le_refl _) (.cells #[.int .i64 4, .string S, .int .i64 pad, bv, .int .u32 (u : Int), .int .i32 z, rv] 29)
  have hr1 := fun W => rtens_any u W h.hu
  have ht1 := fun W hW => tens_any u h.hu W hW
  have hr2 := fun W => rhexed_any (u : Int) W (by omega) (by have := h.hu; omega)
  have ht2 := fun W => hexed_any (u : Int) W (by omega) (by have := h.hu; omega)
  have hr3 := fun W => rminus_any z W h.hz0 h.hz1
  have ht3 := fun W hW => minus_any z W h.hz0 h.hz1 hW
  have e1 : (⟨(Lib.decDigits u).toArray⟩ : ByteArray) = strS (Lib.decDigits u) := rfl
  have e3 : (⟨(Lib.itoa z).toArray⟩ : ByteArray) = strS (Lib.itoa z) := rfl
  simp only [e1] at ht1
  simp only [e3] at ht3
  clear e1 e3
  generalize strS (Lib.decDigits u) = TX at *
  generalize hexTx (u : Int) = HX at *
  generalize strS (Lib.itoa z) = MX at *
  generalize (u : Int) = x at *
  replace hr1 := Lib.hid hr1; replace ht1 := Lib.hid ht1; replace hr2 := Lib.hid hr2; replace ht2 := Lib.hid ht2; replace hr3 := Lib.hid hr3; replace ht3 := Lib.hid ht3
  replace h := Lib.hid h; replace hP := Lib.hid hP
  go_enter Tryz.func5, Tryz.ntmps5
  go_upto_region 18 with fail
  generalize hw1 : w.alloc (.cells #[.int .i64 4, .string S, .int .i64 pad, bv, .int .u32 x, .int .i32 z, rv] 29) = w1 at *
  have c4 : w1.cell? ⟨w.heap.size, 4, none⟩ = some (.int .u32 x) := by rw [← hw1]; simp
  have c5 : w1.cell? ⟨w.heap.size, 5, none⟩ = some (.int .i32 z) := by rw [← hw1]; simp
  have g4 : ∀ g : GrownOf w1, g.w'.cell? ⟨w.heap.size, 4, none⟩ = some (.int .u32 x) := fun g => (g.h.cell (World.block_lt_of_cell? _ _ c4)).trans c4
  have g5 : ∀ g : GrownOf w1, g.w'.cell? ⟨w.heap.size, 5, none⟩ = some (.int .i32 z) := fun g => (g.h.cell (World.block_lt_of_cell? _ _ c5)).trans c5
  have hP1 := Lib.hid (hP.out.later (hb0.mono (Nat.le_refl _)))
  clear hw1 c4 c5
  replace hb0 := Lib.hid hb0
  have hne : Nonempty (GrownOf w1) := ⟨⟨w1, Below.refl _ _⟩⟩
  refine wp_region_grown (by kernel_rfl) (by kernel_rfl) ?_
  repeat (go_big_quiet_step (first
    | (rename_i g; go_at_call 8; refine (ht1.out _ (pow10_later hP1.out.p g.h)).mono ?_; rintro e w5 ⟨rfl, b2⟩; exact ⟨rfl, ⟨w5, g.h.trans (b2.mono g.h.size)⟩, rfl⟩)
    | (rename_i g; go_at_call 22; refine (ht2.out _).mono ?_; rintro e w5 ⟨rfl, b2⟩; exact ⟨rfl, ⟨w5, g.h.trans (b2.mono g.h.size)⟩, rfl⟩)
    | (rename_i g; go_at_call 24; refine (ht3.out _ (pow10_later hP1.out.p g.h)).mono ?_; rintro e w5 ⟨rfl, b2⟩; exact ⟨rfl, ⟨w5, g.h.trans (b2.mono g.h.size)⟩, rfl⟩)
    | (rename_i g; go_at_call 21; refine (hr1.out _).mono ?_; rintro e w5 ⟨rfl, rfl⟩; exact ⟨rfl, g, rfl⟩)
    | (rename_i g; go_at_call 23; refine (hr2.out _).mono ?_; rintro e w5 ⟨rfl, rfl⟩; exact ⟨rfl, g, rfl⟩)
    | (rename_i g; go_at_call 25; refine (hr3.out _).mono ?_; rintro e w5 ⟨rfl, rfl⟩; exact ⟨rfl, g, rfl⟩)))
  refine wpQuiet_nil ?_
  rintro _ ⟨g, rfl⟩
  go_wp2_with fail
  go_ret
  exact ⟨rfl, hb0.out.trans (g.h.mono hb0.out.size)⟩
set_option maxRecDepth 100000 in
theorem plays_other (k : Int) (S : ByteArray) (pad : Int) (bv : Value) (u : Nat) (z : Int) (rv : Value) (w : World) (h1 : k ≠ 1) (h2 : k ≠ 2) (h3 : k ≠ 3) (h4 : k ≠ 4) (h5 : k ≠ 5) (h6 : k ≠ 6) (h7 : k ≠ 7) :
    Calls Tryz.prog 5 #[.agg (opV k S pad bv u z rv)] w fun e w' => e = .returned (.bool true) ∧ Below w.heap.size w w' := by
  unfold opV
  have hb0 := (Below.refl w.heap.size w).alloc (Nat.le_refl _) (.cells #[.int .i64 k, .string S, .int .i64 pad, bv, .int .u32 (u : Int), .int .i32 z, rv] 29)
  have d1 : (k == 1) = false := by simp [h1]
  have d2 : (k == 2) = false := by simp [h2]
  have d3 : (k == 3) = false := by simp [h3]
  have d4 : (k == 4) = false := by simp [h4]
  have d5 : (k == 5) = false := by simp [h5]
  have d6 : (k == 6) = false := by simp [h6]
  have d7 : (k == 7) = false := by simp [h7]
  clear h1 h2 h3 h4 h5 h6 h7
  replace hb0 := Lib.hid hb0
  go_enter Tryz.func5, Tryz.ntmps5
  go_wp2_with fail
  go_ret
  exact ⟨rfl, hb0.out⟩
theorem plays_any (k : Int) (S : ByteArray) (pad : Int) (bv : Value) (B : List UInt8) (u : Nat) (z : Int) (rv : Value) (V : Nat → Value) (C : Nat → List ByteArray) (n : Nat) (w : World) (h : OpIn w S bv B u z rv V C n) (m : Int) (hm : MaxL w m) (hP : Pk w) :
    Calls Tryz.prog 5 #[.agg (opV k S pad bv u z rv)] w fun e w' => e = .returned (.bool true) ∧ Below w.heap.size w w' := by
  by_cases h1 : k = 1
  · exact plays_lines k S pad bv B u z rv V C n w h m hm h1
  by_cases h2 : k = 2
  · exact plays_words k S pad bv B u z rv V C n w h h2
  by_cases h3 : k = 3
  · exact plays_number k S pad bv B u z rv V C n w h hP h3
  by_cases h4 : k = 4
  · exact plays_told k S pad bv B u z rv V C n w h hP h4
  by_cases h5 : k = 5
  · exact plays_quote k S pad bv B u z rv V C n w h h5
  by_cases h6 : k = 6
  · exact plays_unquote k S pad bv B u z rv V C n w h h6
  by_cases h7 : k = 7
  · exact plays_columns k S pad bv B u z rv V C n w h h7
  exact plays_other k S pad bv u z rv w h1 h2 h3 h4 h5 h6 h7
end Go.Proofs.YtefbogmgcihndaaGreatDoor
