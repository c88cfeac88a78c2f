/- The contracts of asm's Assemble and Labels. -/
import Derived.Test.YtiknookfnameiaaGreatDoorMRd2Jn
import Derived.Test.YtiknookfnameiaaGreatDoorJn21
namespace Go.Proofs.YtiknookfnameiaaGreatDoor
open Go.RowKit WP
set_option linter.unusedSimpArgs false
set_option linter.unusedVariables false
/-- a list that is handed out: as long as its room, in a block of its own -/
def OutW (w : World) (B : Nat) (e : TypeId) (size : Nat) (v : Value) (n : Nat) (xs : List Value) : Prop :=
  xs.length = n * size ∧ ((v = .slice none 0 0 ∧ n = 0) ∨ ∃ g cur, v = .slice (some ⟨g, 0, none⟩) n n ∧ B ≤ g ∧ n ≤ 9223372036854775807 ∧ w.heap[g]? = some (.cells cur e (0, 0)) ∧ n * size ≤ cur.size ∧ cur.toList.take (n * size) = xs)
theorem OutW.same {w w' : World} {B : Nat} {e : TypeId} {size : Nat} {v : Value} {n : Nat} {xs : List Value} (h : OutW w B e size v n xs) (hk : ∀ g, v.ownBlock = some g → w'.heap[g]? = w.heap[g]?) : OutW w' B e size v n xs := by
  obtain ⟨h0, h⟩ := h
  refine ⟨h0, ?_⟩
  rcases h with h | ⟨g, cur, rfl, h1, h2, h3, h4⟩
  · exact .inl h
  · exact .inr ⟨g, cur, rfl, h1, h2, (hk g rfl).trans h3, h4⟩
theorem OutW.lt {w : World} {B : Nat} {e : TypeId} {size : Nat} {v : Value} {n : Nat} {xs : List Value} (h : OutW w B e size v n xs) : ∀ g, v.ownBlock = some g → B ≤ g ∧ g < w.heap.size := by
  intro g hg
  rcases h.2 with ⟨rfl, _⟩ | ⟨g', cur, rfl, h1, h2, h3, h4⟩
  · cases hg
  · have : g' = g := by simpa [Value.ownBlock] using hg
    subst this
    exact ⟨h1, (Array.getElem?_eq_some_iff.1 h3).1⟩
theorem OutW.later {w w' : World} {B : Nat} {e : TypeId} {size : Nat} {v : Value} {n : Nat} {xs : List Value} (h : OutW w B e size v n xs) (hb : Below w.heap.size w w') : OutW w' B e size v n xs :=
  h.same fun g hg => hb.block g (h.lt g hg).2
theorem OutW.low {w : World} {B B' : Nat} {e : TypeId} {size : Nat} {v : Value} {n : Nat} {xs : List Value} (h : OutW w B e size v n xs) (hb : B' ≤ B) : OutW w B' e size v n xs := by
  obtain ⟨h0, h⟩ := h
  refine ⟨h0, ?_⟩
  rcases h with h | ⟨g, cur, rfl, h1, h2⟩
  · exact .inl h
  · exact .inr ⟨g, cur, rfl, by omega, h2⟩
/-- what Assemble and Labels answer -/
def AsmRes (w' : World) (B : Nat) (T : TypeId) (size : Nat) (e : Ending) : (Nat × List Value) ⊕ Flt → Prop
  | .inl x => ∃ v, e = .returned (.tuple #[v, fltV (0, 0, 0)]) ∧ OutW w' B T size v x.1 x.2
  | .inr f => e = .returned (.tuple #[.slice none 0 0, fltV f])
def wordsR : (List Int × List (ByteArray × Nat)) ⊕ Flt → (Nat × List Value) ⊕ Flt
  | .inl x => .inl (x.1.length, wi x.1)
  | .inr f => .inr f
def labsR : (List Int × List (ByteArray × Nat)) ⊕ Flt → (Nat × List Value) ⊕ Flt
  | .inl x => .inl (x.2.length, lc x.2)
  | .inr f => .inr f
theorem read_all (s : ByteArray) (base m : Int) (w : World) (hE : AEnv w) (hM : MaxL w m) (hs : s.size ≤ 9223372036854775807) (nb : base < 4294967296 ∧ 0 ≤ base) :
    Calls Tryz.prog 23 #[.string s, .int .u32 base] w fun e w' => Below w.heap.size w w' ∧ ReadRes w' w.heap.size base e (readM base s) := by
  by_cases h : s.size ≤ 65536
  · exact read_any s base m w hE hM h nb
  · have e : readM base s = .inr (2, 0, 0) := by unfold readM; rw [if_pos (by omega)]
    rw [e]
    exact read_long s base w (by omega) hs
theorem flt_frame (w : World) (f0 f1 f2 : Value) {w3 : World} (hR : w3.heap[w.heap.size]? = some (.cells #[.int .i64 0, .int .i64 0, .int .i64 0] 27 (0, 0))) (hb : Below w.heap.size w w3) :
    (((w3.setCell ⟨w.heap.size, 0, none⟩ f0).setCell ⟨w.heap.size, 1, none⟩ f1).setCell ⟨w.heap.size, 2, none⟩ f2).heap[w.heap.size]? = some (.cells #[f0, f1, f2] 27 (0, 0)) ∧
    Below w.heap.size w (((w3.setCell ⟨w.heap.size, 0, none⟩ f0).setCell ⟨w.heap.size, 1, none⟩ f1).setCell ⟨w.heap.size, 2, none⟩ f2) ∧
    (w3.cell? ⟨w.heap.size, 0, none⟩ = some (.int .i64 0) ∧ w3.cell? ⟨w.heap.size, 1, none⟩ = some (.int .i64 0) ∧ w3.cell? ⟨w.heap.size, 2, none⟩ = some (.int .i64 0)) ∧
    (w3.frozen? ⟨w.heap.size, 0, none⟩ = false ∧ w3.frozen? ⟨w.heap.size, 1, none⟩ = false ∧ w3.frozen? ⟨w.heap.size, 2, none⟩ = false) ∧
    ∀ k, k ≠ w.heap.size → (((w3.setCell ⟨w.heap.size, 0, none⟩ f0).setCell ⟨w.heap.size, 1, none⟩ f1).setCell ⟨w.heap.size, 2, none⟩ f2).heap[k]? = w3.heap[k]? := by
  have h1 := heap_setCell_same w3 w.heap.size 0 _ _ f0 hR
  have h2 := heap_setCell_same _ w.heap.size 1 _ _ f1 h1
  have h3 := heap_setCell_same _ w.heap.size 2 _ _ f2 h2
  refine ⟨h3, ((hb.setCell (p := ⟨w.heap.size, 0, none⟩) (Nat.le_refl _) f0).setCell (p := ⟨w.heap.size, 1, none⟩) (Nat.le_refl _) f1).setCell (p := ⟨w.heap.size, 2, none⟩) (Nat.le_refl _) f2, ⟨cell_of_row _ _ _ _ _ _ hR, cell_of_row _ _ _ _ _ _ hR, cell_of_row _ _ _ _ _ _ hR⟩, ⟨frozen_of_row _ _ _ _ _ hR, frozen_of_row _ _ _ _ _ hR, frozen_of_row _ _ _ _ _ hR⟩, fun k hk => ?_⟩
  rw [Below.heap_setCell _ ⟨w.heap.size, 2, none⟩ _ k hk, Below.heap_setCell _ ⟨w.heap.size, 1, none⟩ _ k hk, Below.heap_setCell _ ⟨w.heap.size, 0, none⟩ _ k hk]
set_option maxRecDepth 100000 in
set_option maxHeartbeats 2000000 in
theorem assemble_any (s : ByteArray) (base m : Int) (w : World) (hE : AEnv w) (hM : MaxL w m) (hT : ErrT w) (hs : s.size ≤ 9223372036854775807) (nb : base < 4294967296 ∧ 0 ≤ base) :
    Calls Tryz.prog 9 #[.string s, .int .u32 base] w fun e w' => Below w.heap.size w w' ∧ AsmRes w' w.heap.size 22 1 e (wordsR (readM base s)) := by
  obtain ⟨FR, hFR⟩ : ∃ FR, readM base s = FR := ⟨_, rfl⟩
  obtain ⟨w1, hw1⟩ : ∃ w1, w.alloc (.cells #[.int .i64 0, .int .i64 0, .int .i64 0] 27) = w1 := ⟨_, rfl⟩
  have b1 : Below w.heap.size w w1 := by rw [← hw1]; exact (Below.refl _ _).alloc (Nat.le_refl _) _
  have hR1 : w1.heap[w.heap.size]? = some (.cells #[.int .i64 0, .int .i64 0, .int .i64 0] 27 (0, 0)) := by rw [← hw1]; exact heap_alloc_new w _
  have hl1 : w1.heap.size = w.heap.size + 1 := by rw [← hw1]; simp
  have hM1 : MaxL w1 m := by
    show w1.cell? _ = _
    rw [← show w.cell? _ = _ from hM]
    unfold World.cell?
    rw [b1.block _ (World.block_lt_of_cell? w _ hM)]
  have hrd := read_all s base m w1 (hE.later b1) hM1 hs nb
  have hT1 := hT.later b1
  rw [hFR] at hrd ⊢
  replace b1 := Lib.hid b1; replace hR1 := Lib.hid hR1; replace hrd := Lib.hid hrd; replace hT1 := Lib.hid hT1; replace hl1 := Lib.hid hl1
  clear hE hM hM1 hT hFR
  go_enter Tryz.func9, Tryz.ntmps9
  go_upto_region 1 with fail
  try (change Code.wp _ _ _ _ (w.alloc (.cells #[.int .i64 0, .int .i64 0, .int .i64 0] 27)); rw [hw1])
  clear hw1
  go_wp2_with fail
  refine hrd.out.mono ?_
  rintro e w2 ⟨b12, hres⟩
  have hR2 := (b12.block w.heap.size (by have := hl1.out; omega)).trans hR1.out
  have bel2 := b1.out.trans (b12.mono (by have := hl1.out; omega))
  have hT2 := hT1.out.later b12
  clear hrd hR1
  cases FR with
  | inr f =>
    obtain ⟨v, rfl, hft⟩ := hres
    have hfo := fault_any v f w2 hT2 hft
    obtain ⟨gg, rfl, hgg⟩ := hft
    replace hfo := Lib.hid hfo; replace b12 := Lib.hid b12; replace bel2 := Lib.hid bel2; replace hR2 := Lib.hid hR2; replace hgg := Lib.hid hgg; replace hT2 := Lib.hid hT2
    go_wp2_with fail
    refine hfo.out.mono ?_
    rintro e w3 ⟨rfl, b23⟩
    have hR3 := (b23.block w.heap.size (Array.getElem?_eq_some_iff.1 hR2.out).1).trans hR2.out
    have bel3 := bel2.out.trans (b23.mono bel2.out.size)
    obtain ⟨hN, bN, ⟨r0, r1, r2⟩, ⟨q0, q1, q2⟩, _⟩ := flt_frame w (.int .i64 f.1) (.int .i64 (f.2.1 : Int)) (.int .i64 (f.2.2 : Int)) hR3 bel3
    unfold fltV
    replace hN := Lib.hid hN; replace bN := Lib.hid bN; replace hR3 := Lib.hid hR3; replace bel3 := Lib.hid bel3; replace b23 := Lib.hid b23
    go_wp2_with fail
    refine bodyPost_ret (results_snd rfl rfl rfl hN.out Tryz.underlying27 rfl infoFlt) rfl ⟨bN.out, ?_⟩
    rfl
  | inl x =>
    obtain ⟨R, ln, mb, vw, vl, vf, rfl, hBR, hRd, how, hol⟩ := hres
    obtain ⟨ws, labs⟩ := x
    simp only at how hol
    obtain ⟨hN, bN, ⟨r0, r1, r2⟩, ⟨q0, q1, q2⟩, hoth⟩ := flt_frame w (.int .i64 0) (.int .i64 0) (.int .i64 0) hR2 bel2
    have c2 : w2.cell? ⟨R, 2, none⟩ = some vw := cell_of_row _ _ _ _ _ _ hRd
    obtain ⟨n, hn⟩ : ∃ n, ws.length = n := ⟨_, rfl⟩
    obtain ⟨xs, hxs⟩ : ∃ xs, wi ws = xs := ⟨_, rfl⟩
    have hW : wordsR (.inl (ws, labs)) = .inl (n, xs) := by unfold wordsR; simp only [hn, hxs]
    rw [hn, hxs] at how
    have hown := how.1
    rcases how.2 with ⟨rfl, hn0⟩ | ⟨g, cap, cur, rfl, hg1, hg2, hg3, hg4, hg5, hg6⟩
    · subst hn0
      replace hN := Lib.hid hN; replace bN := Lib.hid bN; replace hR2 := Lib.hid hR2; replace bel2 := Lib.hid bel2; replace b12 := Lib.hid b12; replace hol := Lib.hid hol; replace how := Lib.hid how; replace hRd := Lib.hid hRd; replace hoth := Lib.hid hoth; replace hT2 := Lib.hid hT2; replace hW := Lib.hid hW
      clear hn hxs
      go_wp2_with fail
      go_region
      go_wp2_with fail
      refine bodyPost_ret (results_snd rfl rfl rfl hN.out Tryz.underlying27 rfl infoFlt) rfl ⟨bN.out.drew, ?_⟩
      rw [hW.out]
      exact ⟨_, rfl, hown, .inl ⟨rfl, rfl⟩⟩
    · have hgw : g ≠ w.heap.size := fun e => by have := hl1.out; omega
      have hg7 := (hoth g hgw).trans hg2
      have hg8 : w.heap.size ≤ g := by have := hl1.out; omega
      replace hN := Lib.hid hN; replace bN := Lib.hid bN; replace hR2 := Lib.hid hR2; replace bel2 := Lib.hid bel2; replace b12 := Lib.hid b12; replace hol := Lib.hid hol; replace how := Lib.hid how; replace hRd := Lib.hid hRd; replace hoth := Lib.hid hoth; replace hT2 := Lib.hid hT2; replace hg2 := Lib.hid hg2; replace hg6 := Lib.hid hg6; replace hg7 := Lib.hid hg7; replace hW := Lib.hid hW
      clear hn hxs
      go_wp2_with fail
      go_region
      go_wp2_with fail
      refine bodyPost_ret (results_snd rfl rfl rfl hN.out Tryz.underlying27 rfl infoFlt) rfl ⟨bN.out.drew, ?_⟩
      rw [hW.out]
      exact ⟨_, rfl, hown, .inr ⟨g, cur, rfl, hg8, (Nat.le_trans hg3 hg4 : n ≤ maxLen), hg7.out, by rw [hg5]; omega, hg6.out⟩⟩
set_option maxRecDepth 100000 in
set_option maxHeartbeats 2000000 in
theorem labels_any (s : ByteArray) (m : Int) (w : World) (hE : AEnv w) (hM : MaxL w m) (hT : ErrT w) (hs : s.size ≤ 9223372036854775807) :
    Calls Tryz.prog 14 #[.string s] w fun e w' => Below w.heap.size w w' ∧ AsmRes w' w.heap.size 44 2 e (labsR (readM 0 s)) := by
  obtain ⟨FR, hFR⟩ : ∃ FR, readM 0 s = FR := ⟨_, rfl⟩
  obtain ⟨w1, hw1⟩ : ∃ w1, w.alloc (.cells #[.int .i64 0, .int .i64 0, .int .i64 0] 27) = w1 := ⟨_, rfl⟩
  have b1 : Below w.heap.size w w1 := by rw [← hw1]; exact (Below.refl _ _).alloc (Nat.le_refl _) _
  have hR1 : w1.heap[w.heap.size]? = some (.cells #[.int .i64 0, .int .i64 0, .int .i64 0] 27 (0, 0)) := by rw [← hw1]; exact heap_alloc_new w _
  have hl1 : w1.heap.size = w.heap.size + 1 := by rw [← hw1]; simp
  have hM1 : MaxL w1 m := by
    show w1.cell? _ = _
    rw [← show w.cell? _ = _ from hM]
    unfold World.cell?
    rw [b1.block _ (World.block_lt_of_cell? w _ hM)]
  have hrd := read_all s 0 m w1 (hE.later b1) hM1 hs ⟨by decide, by decide⟩
  have hT1 := hT.later b1
  rw [hFR] at hrd ⊢
  replace b1 := Lib.hid b1; replace hR1 := Lib.hid hR1; replace hrd := Lib.hid hrd; replace hT1 := Lib.hid hT1; replace hl1 := Lib.hid hl1
  clear hE hM hM1 hT hFR
  go_enter Tryz.func14, Tryz.ntmps14
  go_upto_region 1 with fail
  try (change Code.wp _ _ _ _ (w.alloc (.cells #[.int .i64 0, .int .i64 0, .int .i64 0] 27)); rw [hw1])
  clear hw1
  go_wp2_with fail
  refine hrd.out.mono ?_
  rintro e w2 ⟨b12, hres⟩
  have hR2 := (b12.block w.heap.size (by have := hl1.out; omega)).trans hR1.out
  have bel2 := b1.out.trans (b12.mono (by have := hl1.out; omega))
  have hT2 := hT1.out.later b12
  clear hrd hR1
  cases FR with
  | inr f =>
    obtain ⟨v, rfl, hft⟩ := hres
    have hfo := fault_any v f w2 hT2 hft
    obtain ⟨gg, rfl, hgg⟩ := hft
    replace hfo := Lib.hid hfo; replace b12 := Lib.hid b12; replace bel2 := Lib.hid bel2; replace hR2 := Lib.hid hR2; replace hgg := Lib.hid hgg; replace hT2 := Lib.hid hT2
    go_wp2_with fail
    refine hfo.out.mono ?_
    rintro e w3 ⟨rfl, b23⟩
    have hR3 := (b23.block w.heap.size (Array.getElem?_eq_some_iff.1 hR2.out).1).trans hR2.out
    have bel3 := bel2.out.trans (b23.mono bel2.out.size)
    obtain ⟨hN, bN, ⟨r0, r1, r2⟩, ⟨q0, q1, q2⟩, _⟩ := flt_frame w (.int .i64 f.1) (.int .i64 (f.2.1 : Int)) (.int .i64 (f.2.2 : Int)) hR3 bel3
    unfold fltV
    replace hN := Lib.hid hN; replace bN := Lib.hid bN; replace hR3 := Lib.hid hR3; replace bel3 := Lib.hid bel3; replace b23 := Lib.hid b23
    go_wp2_with fail
    refine bodyPost_ret (results_snd rfl rfl rfl hN.out Tryz.underlying27 rfl infoFlt) rfl ⟨bN.out, ?_⟩
    rfl
  | inl x =>
    obtain ⟨R, ln, mb, vw, vl, vf, rfl, hBR, hRd, how, hol⟩ := hres
    obtain ⟨ws, labs⟩ := x
    simp only at how hol
    obtain ⟨hN, bN, ⟨r0, r1, r2⟩, ⟨q0, q1, q2⟩, hoth⟩ := flt_frame w (.int .i64 0) (.int .i64 0) (.int .i64 0) hR2 bel2
    have c2 : w2.cell? ⟨R, 3, none⟩ = some vl := cell_of_row _ _ _ _ _ _ hRd
    obtain ⟨n, hn⟩ : ∃ n, labs.length = n := ⟨_, rfl⟩
    obtain ⟨xs, hxs⟩ : ∃ xs, lc labs = xs := ⟨_, rfl⟩
    have hW : labsR (.inl (ws, labs)) = .inl (n, xs) := by unfold labsR; simp only [hn, hxs]
    rw [hn, hxs] at hol
    have hown := hol.1
    rcases hol.2 with ⟨rfl, hn0⟩ | ⟨g, cap, cur, rfl, hg1, hg2, hg3, hg4, hg5, hg6⟩
    · subst hn0
      replace hN := Lib.hid hN; replace bN := Lib.hid bN; replace hR2 := Lib.hid hR2; replace bel2 := Lib.hid bel2; replace b12 := Lib.hid b12; replace hol := Lib.hid hol; replace how := Lib.hid how; replace hRd := Lib.hid hRd; replace hoth := Lib.hid hoth; replace hT2 := Lib.hid hT2; replace hW := Lib.hid hW
      clear hn hxs
      go_wp2_with fail
      go_region
      go_wp2_with fail
      refine bodyPost_ret (results_snd rfl rfl rfl hN.out Tryz.underlying27 rfl infoFlt) rfl ⟨bN.out.drew, ?_⟩
      rw [hW.out]
      exact ⟨_, rfl, hown, .inl ⟨rfl, rfl⟩⟩
    · have hgw : g ≠ w.heap.size := fun e => by have := hl1.out; omega
      have hg7 := (hoth g hgw).trans hg2
      have hg8 : w.heap.size ≤ g := by have := hl1.out; omega
      replace hN := Lib.hid hN; replace bN := Lib.hid bN; replace hR2 := Lib.hid hR2; replace bel2 := Lib.hid bel2; replace b12 := Lib.hid b12; replace hol := Lib.hid hol; replace how := Lib.hid how; replace hRd := Lib.hid hRd; replace hoth := Lib.hid hoth; replace hT2 := Lib.hid hT2; replace hg2 := Lib.hid hg2; replace hg6 := Lib.hid hg6; replace hg7 := Lib.hid hg7; replace hW := Lib.hid hW
      clear hn hxs
      go_wp2_with fail
      go_region
      go_wp2_with fail
      refine bodyPost_ret (results_snd rfl rfl rfl hN.out Tryz.underlying27 rfl infoFlt) rfl ⟨bN.out.drew, ?_⟩
      rw [hW.out]
      exact ⟨_, rfl, hown, .inr ⟨g, cur, rfl, hg8, (Nat.le_trans hg3 hg4 : n ≤ maxLen), hg7.out, by rw [hg5]; omega, hg6.out⟩⟩
end Go.Proofs.YtiknookfnameiaaGreatDoor
