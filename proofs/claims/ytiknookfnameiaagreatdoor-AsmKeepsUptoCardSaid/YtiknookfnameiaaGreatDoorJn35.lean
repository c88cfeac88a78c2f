/- The contracts of asm's Assemble and Labels. The law's same and first. -/
import Derived.Test.YtiknookfnameiaaGreatDoorMRd2Jn
import Derived.Test.YtiknookfnameiaaGreatDoorJn19
import Derived.BigQuiet
namespace Go.Proofs.YtiknookfnameiaaGreatDoor
open Go.RowKit WP
set_option linter.unusedSimpArgs false
set_option linter.unusedVariables false
/-- a list that is handed out: as long as its room, in a block of its own -/
def OutW (w : World) (B : Nat) (e : TypeId) (size : Nat) (v : Value) (n : Nat) (xs : List Value) : Prop :=
  xs.length = n * size ∧ ((v = .slice none 0 0 ∧ n = 0) ∨ ∃ g cur, v = .slice (some ⟨g, 0, none⟩) n n ∧ B ≤ g ∧ n ≤ 9223372036854775807 ∧ w.heap[g]? = some (.cells cur e (0, 0)) ∧ n * size ≤ cur.size ∧ cur.toList.take (n * size) = xs)
theorem OutW.same {w w' : World} {B : Nat} {e : TypeId} {size : Nat} {v : Value} {n : Nat} {xs : List Value} (h : OutW w B e size v n xs) (hk : ∀ g, v.ownBlock = some g → w'.heap[g]? = w.heap[g]?) : OutW w' B e size v n xs := by
  obtain ⟨h0, h⟩ := h
  refine ⟨h0, ?_⟩
  rcases h with h | ⟨g, cur, rfl, h1, h2, h3, h4⟩
  · exact .inl h
  · exact .inr ⟨g, cur, rfl, h1, h2, (hk g rfl).trans h3, h4⟩
theorem OutW.lt {w : World} {B : Nat} {e : TypeId} {size : Nat} {v : Value} {n : Nat} {xs : List Value} (h : OutW w B e size v n xs) : ∀ g, v.ownBlock = some g → B ≤ g ∧ g < w.heap.size := by
  intro g hg
  rcases h.2 with ⟨rfl, _⟩ | ⟨g', cur, rfl, h1, h2, h3, h4⟩
  · cases hg
  · have : g' = g := by simpa [Value.ownBlock] using hg
    subst this
    exact ⟨h1, (Array.getElem?_eq_some_iff.1 h3).1⟩
theorem OutW.later {w w' : World} {B : Nat} {e : TypeId} {size : Nat} {v : Value} {n : Nat} {xs : List Value} (h : OutW w B e size v n xs) (hb : Below w.heap.size w w') : OutW w' B e size v n xs :=
  h.same fun g hg => hb.block g (h.lt g hg).2
theorem OutW.low {w : World} {B B' : Nat} {e : TypeId} {size : Nat} {v : Value} {n : Nat} {xs : List Value} (h : OutW w B e size v n xs) (hb : B' ≤ B) : OutW w B' e size v n xs := by
  obtain ⟨h0, h⟩ := h
  refine ⟨h0, ?_⟩
  rcases h with h | ⟨g, cur, rfl, h1, h2⟩
  · exact .inl h
  · exact .inr ⟨g, cur, rfl, by omega, h2⟩
/-- what Assemble and Labels answer -/
def AsmRes (w' : World) (B : Nat) (T : TypeId) (size : Nat) (e : Ending) : (Nat × List Value) ⊕ Flt → Prop
  | .inl x => ∃ v, e = .returned (.tuple #[v, fltV (0, 0, 0)]) ∧ OutW w' B T size v x.1 x.2
  | .inr f => e = .returned (.tuple #[.slice none 0 0, fltV f])
def wordsR : (List Int × List (ByteArray × Nat)) ⊕ Flt → (Nat × List Value) ⊕ Flt
  | .inl x => .inl (x.1.length, wi x.1)
  | .inr f => .inr f
def labsR : (List Int × List (ByteArray × Nat)) ⊕ Flt → (Nat × List Value) ⊕ Flt
  | .inl x => .inl (x.2.length, lc x.2)
  | .inr f => .inr f
theorem read_all (s : ByteArray) (base m : Int) (w : World) (hE : AEnv w) (hM : MaxL w m) (hs : s.size ≤ 9223372036854775807) (nb : base < 4294967296 ∧ 0 ≤ base) :
    Calls Tryz.prog 23 #[.string s, .int .u32 base] w fun e w' => Below w.heap.size w w' ∧ ReadRes w' w.heap.size base e (readM base s) := by
  by_cases h : s.size ≤ 65536
  · exact read_any s base m w hE hM h nb
  · have e : readM base s = .inr (2, 0, 0) := by unfold readM; rw [if_pos (by omega)]
    rw [e]
    exact read_long s base w (by omega) hs
theorem flt_frame (w : World) (f0 f1 f2 : Value) {w3 : World} (hR : w3.heap[w.heap.size]? = some (.cells #[.int .i64 0, .int .i64 0, .int .i64 0] 27 (0, 0))) (hb : Below w.heap.size w w3) :
    (((w3.setCell ⟨w.heap.size, 0, none⟩ f0).setCell ⟨w.heap.size, 1, none⟩ f1).setCell ⟨w.heap.size, 2, none⟩ f2).heap[w.heap.size]? = some (.cells #[f0, f1, f2] 27 (0, 0)) ∧
    Below w.heap.size w (((w3.setCell ⟨w.heap.size, 0, none⟩ f0).setCell ⟨w.heap.size, 1, none⟩ f1).setCell ⟨w.heap.size, 2, none⟩ f2) ∧
    (w3.cell? ⟨w.heap.size, 0, none⟩ = some (.int .i64 0) ∧ w3.cell? ⟨w.heap.size, 1, none⟩ = some (.int .i64 0) ∧ w3.cell? ⟨w.heap.size, 2, none⟩ = some (.int .i64 0)) ∧
    (w3.frozen? ⟨w.heap.size, 0, none⟩ = false ∧ w3.frozen? ⟨w.heap.size, 1, none⟩ = false ∧ w3.frozen? ⟨w.heap.size, 2, none⟩ = false) ∧
    ∀ k, k ≠ w.heap.size → (((w3.setCell ⟨w.heap.size, 0, none⟩ f0).setCell ⟨w.heap.size, 1, none⟩ f1).setCell ⟨w.heap.size, 2, none⟩ f2).heap[k]? = w3.heap[k]? := by
  have h1 := heap_setCell_same w3 w.heap.size 0 _ _ f0 hR
  have h2 := heap_setCell_same _ w.heap.size 1 _ _ f1 h1
  have h3 := heap_setCell_same _ w.heap.size 2 _ _ f2 h2
  refine ⟨h3, ((hb.setCell (p := ⟨w.heap.size, 0, none⟩) (Nat.le_refl _) f0).setCell (p := ⟨w.heap.size, 1, none⟩) (Nat.le_refl _) f1).setCell (p := ⟨w.heap.size, 2, none⟩) (Nat.le_refl _) f2, ⟨cell_of_row _ _ _ _ _ _ hR, cell_of_row _ _ _ _ _ _ hR, cell_of_row _ _ _ _ _ _ hR⟩, ⟨frozen_of_row _ _ _ _ _ hR, frozen_of_row _ _ _ _ _ hR, frozen_of_row _ _ _ _ _ hR⟩, fun k hk => ?_⟩
  rw [Below.heap_setCell _ ⟨w.heap.size, 2, none⟩ _ k hk, Below.heap_setCell _ ⟨w.heap.size, 1, none⟩ _ k hk, Below.heap_setCell _ ⟨w.heap.size, 0, none⟩ _ k hk]
set_option maxRecDepth 100000 in
set_option maxHeartbeats 2000000 in
theorem assemble_any (s : ByteArray) (base m : Int) (w : World) (hE : AEnv w) (hM : MaxL w m) (hT : ErrT w) (hs : s.size ≤ 9223372036854775807) (nb : base < 4294967296 ∧ 0 ≤ base) :
    Calls Tryz.prog 9 #[.string s, .int .u32 base] w fun e w' => Below w.heap.size w w' ∧ AsmRes w' w.heap.size 22 1 e (wordsR (readM base s)) := by
  obtain ⟨FR, hFR⟩ : ∃ FR, readM base s = FR := ⟨_, rfl⟩
  obtain ⟨w1, hw1⟩ : ∃ w1, w.alloc (.cells #[.int .i64 0, .int .i64 0, .int .i64 0] 27) = w1 := ⟨_, rfl⟩
  have b1 : Below w.heap.size w w1 := by rw [← hw1]; exact (Below.refl _ _).alloc (Nat.le_refl _) _
  have hR1 : w1.heap[w.heap.size]? = some (.cells #[.int .i64 0, .int .i64 0, .int .i64 0] 27 (0, 0)) := by rw [← hw1]; exact heap_alloc_new w _
  have hl1 : w1.heap.size = w.heap.size + 1 := by rw [← hw1]; simp
  have hM1 : MaxL w1 m := by
    show w1.cell? _ = _
    rw [← show w.cell? _ = _ from hM]
    unfold World.cell?
    rw [b1.block _ (World.block_lt_of_cell? w _ hM)]
  have hrd := read_all s base m w1 (hE.later b1) hM1 hs nb
  have hT1 := hT.later b1
  rw [hFR] at hrd ⊢
  replace b1 := Lib.hid b1; replace hR1 := Lib.hid hR1; replace hrd := Lib.hid hrd; replace hT1 := Lib.hid hT1; replace hl1 := Lib.hid hl1
  clear hE hM hM1 hT hFR
  go_enter Tryz.func9, Tryz.ntmps9
  go_upto_region 1 with fail
  try (change Code.wp _ _ _ _ (w.alloc (.cells #[.int .i64 0, .int .i64 0, .int .i64 0] 27)); rw [hw1])
  clear hw1
  go_wp2_with fail
  refine hrd.out.mono ?_
  rintro e w2 ⟨b12, hres⟩
  have hR2 := (b12.block w.heap.size (by have := hl1.out; omega)).trans hR1.out
  have bel2 := b1.out.trans (b12.mono (by have := hl1.out; omega))
  have hT2 := hT1.out.later b12
  clear hrd hR1
  cases FR with
  | inr f =>
    obtain ⟨v, rfl, hft⟩ := hres
    have hfo := fault_any v f w2 hT2 hft
    obtain ⟨gg, rfl, hgg⟩ := hft
    replace hfo := Lib.hid hfo; replace b12 := Lib.hid b12; replace bel2 := Lib.hid bel2; replace hR2 := Lib.hid hR2; replace hgg := Lib.hid hgg; replace hT2 := Lib.hid hT2
    go_wp2_with fail
    refine hfo.out.mono ?_
    rintro e w3 ⟨rfl, b23⟩
    have hR3 := (b23.block w.heap.size (Array.getElem?_eq_some_iff.1 hR2.out).1).trans hR2.out
    have bel3 := bel2.out.trans (b23.mono bel2.out.size)
    obtain ⟨hN, bN, ⟨r0, r1, r2⟩, ⟨q0, q1, q2⟩, _⟩ := flt_frame w (.int .i64 f.1) (.int .i64 (f.2.1 : Int)) (.int .i64 (f.2.2 : Int)) hR3 bel3
    unfold fltV
    replace hN := Lib.hid hN; replace bN := Lib.hid bN; replace hR3 := Lib.hid hR3; replace bel3 := Lib.hid bel3; replace b23 := Lib.hid b23
    go_wp2_with fail
    refine bodyPost_ret (results_snd rfl rfl rfl hN.out Tryz.underlying27 rfl infoFlt) rfl ⟨bN.out, ?_⟩
    rfl
  | inl x =>
    obtain ⟨R, ln, mb, vw, vl, vf, rfl, hBR, hRd, how, hol⟩ := hres
    obtain ⟨ws, labs⟩ := x
    simp only at how hol
    obtain ⟨hN, bN, ⟨r0, r1, r2⟩, ⟨q0, q1, q2⟩, hoth⟩ := flt_frame w (.int .i64 0) (.int .i64 0) (.int .i64 0) hR2 bel2
    have c2 : w2.cell? ⟨R, 2, none⟩ = some vw := cell_of_row _ _ _ _ _ _ hRd
    obtain ⟨n, hn⟩ : ∃ n, ws.length = n := ⟨_, rfl⟩
    obtain ⟨xs, hxs⟩ : ∃ xs, wi ws = xs := ⟨_, rfl⟩
    have hW : wordsR (.inl (ws, labs)) = .inl (n, xs) := by unfold wordsR; simp only [hn, hxs]
    rw [hn, hxs] at how
    have hown := how.1
    rcases how.2 with ⟨rfl, hn0⟩ | ⟨g, cap, cur, rfl, hg1, hg2, hg3, hg4, hg5, hg6⟩
    · subst hn0
      replace hN := Lib.hid hN; replace bN := Lib.hid bN; replace hR2 := Lib.hid hR2; replace bel2 := Lib.hid bel2; replace b12 := Lib.hid b12; replace hol := Lib.hid hol; replace how := Lib.hid how; replace hRd := Lib.hid hRd; replace hoth := Lib.hid hoth; replace hT2 := Lib.hid hT2; replace hW := Lib.hid hW
      clear hn hxs
      go_wp2_with fail
      go_region
      go_wp2_with fail
      refine bodyPost_ret (results_snd rfl rfl rfl hN.out Tryz.underlying27 rfl infoFlt) rfl ⟨bN.out.drew, ?_⟩
      rw [hW.out]
      exact ⟨_, rfl, hown, .inl ⟨rfl, rfl⟩⟩
    · have hgw : g ≠ w.heap.size := fun e => by have := hl1.out; omega
      have hg7 := (hoth g hgw).trans hg2
      have hg8 : w.heap.size ≤ g := by have := hl1.out; omega
      replace hN := Lib.hid hN; replace bN := Lib.hid bN; replace hR2 := Lib.hid hR2; replace bel2 := Lib.hid bel2; replace b12 := Lib.hid b12; replace hol := Lib.hid hol; replace how := Lib.hid how; replace hRd := Lib.hid hRd; replace hoth := Lib.hid hoth; replace hT2 := Lib.hid hT2; replace hg2 := Lib.hid hg2; replace hg6 := Lib.hid hg6; replace hg7 := Lib.hid hg7; replace hW := Lib.hid hW
      clear hn hxs
      go_wp2_with fail
      go_region
      go_wp2_with fail
      refine bodyPost_ret (results_snd rfl rfl rfl hN.out Tryz.underlying27 rfl infoFlt) rfl ⟨bN.out.drew, ?_⟩
      rw [hW.out]
      exact ⟨_, rfl, hown, .inr ⟨g, cur, rfl, hg8, (Nat.le_trans hg3 hg4 : n ≤ maxLen), hg7.out, by rw [hg5]; omega, hg6.out⟩⟩
set_option maxRecDepth 100000 in
set_option maxHeartbeats 2000000 in
theorem labels_any (s : ByteArray) (m : Int) (w : World) (hE : AEnv w) (hM : MaxL w m) (hT : ErrT w) (hs : s.size ≤ 9223372036854775807) :
    Calls Tryz.prog 14 #[.string s] w fun e w' => Below w.heap.size w w' ∧ AsmRes w' w.heap.size 44 2 e (labsR (readM 0 s)) := by
  obtain ⟨FR, hFR⟩ : ∃ FR, readM 0 s = FR := ⟨_, rfl⟩
  obtain ⟨w1, hw1⟩ : ∃ w1, w.alloc (.cells #[.int .i64 0, .int .i64 0, .int .i64 0] 27) = w1 := ⟨_, rfl⟩
  have b1 : Below w.heap.size w w1 := by rw [← hw1]; exact (Below.refl _ _).alloc (Nat.le_refl _) _
  have hR1 : w1.heap[w.heap.size]? = some (.cells #[.int .i64 0, .int .i64 0, .int .i64 0] 27 (0, 0)) := by rw [← hw1]; exact heap_alloc_new w _
  have hl1 : w1.heap.size = w.heap.size + 1 := by rw [← hw1]; simp
  have hM1 : MaxL w1 m := by
    show w1.cell? _ = _
    rw [← show w.cell? _ = _ from hM]
    unfold World.cell?
    rw [b1.block _ (World.block_lt_of_cell? w _ hM)]
  have hrd := read_all s 0 m w1 (hE.later b1) hM1 hs ⟨by decide, by decide⟩
  have hT1 := hT.later b1
  rw [hFR] at hrd ⊢
  replace b1 := Lib.hid b1; replace hR1 := Lib.hid hR1; replace hrd := Lib.hid hrd; replace hT1 := Lib.hid hT1; replace hl1 := Lib.hid hl1
  clear hE hM hM1 hT hFR
  go_enter Tryz.func14, Tryz.ntmps14
  go_upto_region 1 with fail
  try (change Code.wp _ _ _ _ (w.alloc (.cells #[.int .i64 0, .int .i64 0, .int .i64 0] 27)); rw [hw1])
  clear hw1
  go_wp2_with fail
  refine hrd.out.mono ?_
  rintro e w2 ⟨b12, hres⟩
  have hR2 := (b12.block w.heap.size (by have := hl1.out; omega)).trans hR1.out
  have bel2 := b1.out.trans (b12.mono (by have := hl1.out; omega))
  have hT2 := hT1.out.later b12
  clear hrd hR1
  cases FR with
  | inr f =>
    obtain ⟨v, rfl, hft⟩ := hres
    have hfo := fault_any v f w2 hT2 hft
    obtain ⟨gg, rfl, hgg⟩ := hft
    replace hfo := Lib.hid hfo; replace b12 := Lib.hid b12; replace bel2 := Lib.hid bel2; replace hR2 := Lib.hid hR2; replace hgg := Lib.hid hgg; replace hT2 := Lib.hid hT2
    go_wp2_with fail
    refine hfo.out.mono ?_
    rintro e w3 ⟨rfl, b23⟩
    have hR3 := (b23.block w.heap.size (Array.getElem?_eq_some_iff.1 hR2.out).1).trans hR2.out
    have bel3 := bel2.out.trans (b23.mono bel2.out.size)
    obtain ⟨hN, bN, ⟨r0, r1, r2⟩, ⟨q0, q1, q2⟩, _⟩ := flt_frame w (.int .i64 f.1) (.int .i64 (f.2.1 : Int)) (.int .i64 (f.2.2 : Int)) hR3 bel3
    unfold fltV
    replace hN := Lib.hid hN; replace bN := Lib.hid bN; replace hR3 := Lib.hid hR3; replace bel3 := Lib.hid bel3; replace b23 := Lib.hid b23
    go_wp2_with fail
    refine bodyPost_ret (results_snd rfl rfl rfl hN.out Tryz.underlying27 rfl infoFlt) rfl ⟨bN.out, ?_⟩
    rfl
  | inl x =>
    obtain ⟨R, ln, mb, vw, vl, vf, rfl, hBR, hRd, how, hol⟩ := hres
    obtain ⟨ws, labs⟩ := x
    simp only at how hol
    obtain ⟨hN, bN, ⟨r0, r1, r2⟩, ⟨q0, q1, q2⟩, hoth⟩ := flt_frame w (.int .i64 0) (.int .i64 0) (.int .i64 0) hR2 bel2
    have c2 : w2.cell? ⟨R, 3, none⟩ = some vl := cell_of_row _ _ _ _ _ _ hRd
    obtain ⟨n, hn⟩ : ∃ n, labs.length = n := ⟨_, rfl⟩
    obtain ⟨xs, hxs⟩ : ∃ xs, lc labs = xs := ⟨_, rfl⟩
    have hW : labsR (.inl (ws, labs)) = .inl (n, xs) := by unfold labsR; simp only [hn, hxs]
    rw [hn, hxs] at hol
    have hown := hol.1
    rcases hol.2 with ⟨rfl, hn0⟩ | ⟨g, cap, cur, rfl, hg1, hg2, hg3, hg4, hg5, hg6⟩
    · subst hn0
      replace hN := Lib.hid hN; replace bN := Lib.hid bN; replace hR2 := Lib.hid hR2; replace bel2 := Lib.hid bel2; replace b12 := Lib.hid b12; replace hol := Lib.hid hol; replace how := Lib.hid how; replace hRd := Lib.hid hRd; replace hoth := Lib.hid hoth; replace hT2 := Lib.hid hT2; replace hW := Lib.hid hW
      clear hn hxs
      go_wp2_with fail
      go_region
      go_wp2_with fail
      refine bodyPost_ret (results_snd rfl rfl rfl hN.out Tryz.underlying27 rfl infoFlt) rfl ⟨bN.out.drew, ?_⟩
      rw [hW.out]
      exact ⟨_, rfl, hown, .inl ⟨rfl, rfl⟩⟩
    · have hgw : g ≠ w.heap.size := fun e => by have := hl1.out; omega
      have hg7 := (hoth g hgw).trans hg2
      have hg8 : w.heap.size ≤ g := by have := hl1.out; omega
      replace hN := Lib.hid hN; replace bN := Lib.hid bN; replace hR2 := Lib.hid hR2; replace bel2 := Lib.hid bel2; replace b12 := Lib.hid b12; replace hol := Lib.hid hol; replace how := Lib.hid how; replace hRd := Lib.hid hRd; replace hoth := Lib.hid hoth; replace hT2 := Lib.hid hT2; replace hg2 := Lib.hid hg2; replace hg6 := Lib.hid hg6; replace hg7 := Lib.hid hg7; replace hW := Lib.hid hW
      clear hn hxs
      go_wp2_with fail
      go_region
      go_wp2_with fail
      refine bodyPost_ret (results_snd rfl rfl rfl hN.out Tryz.underlying27 rfl infoFlt) rfl ⟨bN.out.drew, ?_⟩
      rw [hW.out]
      exact ⟨_, rfl, hown, .inr ⟨g, cur, rfl, hg8, (Nat.le_trans hg3 hg4 : n ≤ maxLen), hg7.out, by rw [hg5]; omega, hg6.out⟩⟩
end Go.Proofs.YtiknookfnameiaaGreatDoor

namespace Go.Proofs.YtiknookfnameiaaGreatDoor
open Go.RowKit WP
set_option linter.unusedSimpArgs false
set_option linter.unusedVariables false
theorem OutW.rd {w : World} {B : Nat} {e : TypeId} {v : Value} {n : Nat} {xs : List Value} (h : OutW w B e 1 v n xs) : Rd w v xs := by
  obtain ⟨h0, h⟩ := h
  rw [Nat.mul_one] at h0
  rcases h with ⟨rfl, rfl⟩ | ⟨g, cur, rfl, h1, h2, h3, h4, h5⟩
  · have : xs = [] := List.eq_nil_of_length_eq_zero h0
    subst this
    exact ⟨none, 0, rfl, Nat.le_refl _, by decide, .inl rfl⟩
  · refine ⟨_, _, by rw [h0], by omega, h2, .inr ⟨g, 0, rfl, fun j u hu => ?_⟩⟩
    have hj := (List.getElem?_eq_some_iff.1 hu).1
    rw [Nat.mul_one] at h5
    rw [Nat.zero_add, cell_of_row _ _ _ _ _ _ h3]
    rw [← h5, List.getElem?_take_of_lt (by omega)] at hu
    rw [← hu, Array.getElem?_toList]
theorem rd_ints {w : World} {v : Value} {l : List Int} (h : Rd w v (wi l)) : ∃ ao ca, v = .slice ao l.length ca ∧ l.length ≤ ca ∧ ca ≤ 9223372036854775807 ∧ ∀ i, i < l.length → ∃ b off, ao = some ⟨b, off, none⟩ ∧ w.cell? ⟨b, off + i, none⟩ = some (.int .u32 (l.getD i 0)) := by
  obtain ⟨ao, ca, hV, a1, a2, a3⟩ := h
  rw [wi_len] at hV a1
  refine ⟨ao, ca, hV, a1, by simpa [maxLen] using a2, fun i hi => ?_⟩
  have hg : (wi l)[i]? = some (.int .u32 (l.getD i 0)) := by
    unfold wi; rw [List.getElem?_map, List.getElem?_eq_getElem hi, List.getD_eq_getElem?_getD, List.getElem?_eq_getElem hi]; rfl
  rcases a3 with a3 | ⟨b, off, rfl, a3⟩
  · rw [a3] at hg; simp at hg
  · exact ⟨b, off, rfl, a3 i _ hg⟩
theorem selfDrewN (w : World) : ∀ n, Below w.heap.size w (w.drewN n)
  | 0 => Below.refl _ _
  | n + 1 => (selfDrewN w n).drew
set_option maxRecDepth 100000 in
set_option maxHeartbeats 1000000 in
theorem asame_any (v u : Value) (l : List Int) (w : World) (hv : Rd w v (wi l)) (hu : Rd w u (wi l)) :
    Calls Tryz.prog 10 #[v, u] w fun e w' => e = .returned (.bool true) ∧ Below w.heap.size w w' := by
  obtain ⟨ao, ca, rfl, a1, a2, a3⟩ := rd_ints hv
  obtain ⟨bo, cb, rfl, b1, b2, b3⟩ := rd_ints hu
  have hne : ((l.length : Int) != (l.length : Int)) = false := by simp
  have hbw : ∀ n, Below w.heap.size w (w.drewN n) := selfDrewN w
  replace a3 := Lib.hid a3; replace b3 := Lib.hid b3; replace hbw := Lib.hid hbw
  clear hv hu
  go_enter Tryz.func10, Tryz.ntmps10
  go_wp2_with fail
  go_loopw [5] (fun i wr => ∃ k : Nat, k ≤ l.length ∧ i = .int .i64 k ∧ ∃ n, wr = w.drewN n) (fun i _ => l.length - (intOf i).toNat)
  case atStart => exact ⟨0, by omega, rfl, 0, rfl⟩
  case round =>
    obtain ⟨k, hk, rfl, n, rfl⟩ := hrel
    by_cases hlt : k < l.length
    · obtain ⟨ab, af, rfl, hc⟩ := a3.out k hlt
      obtain ⟨bb, bf, rfl, hd⟩ := b3.out k hlt
      generalize l.getD k 0 = S at *
      have i1 : (0 : Int) ≤ (k : Int) := by omega
      have i2 : (k : Int) < (l.length : Int) := by omega
      have d1 : decide ((k : Int) < (l.length : Int)) = true := decide_eq_true i2
      go_wp2_with fail
      go_quiet (fail)
      go_wp2_with fail
      go_roundw
      case rel => exact ⟨k + 1, by omega, by go_num, n + nq, rfl⟩
      case measure => simp [intOf]; omega
    · obtain rfl : k = l.length := by omega
      have d1 : decide ((l.length : Int) < (l.length : Int)) = false := decide_eq_false (by omega)
      go_wp2_with fail
      go_ret
      exact ⟨rfl, hbw.out n⟩
def firstT : ByteArray := ⟨#[108, 105, 32, 114, 50, 32, 101, 110, 100, 10, 120, 58, 32, 98, 32, 97, 108, 32, 120, 10, 119, 111, 114, 100, 32, 101, 110, 100, 10, 101, 110, 100, 58]⟩
theorem first_read : ∃ labs, readM 4096 firstT = .inl ([75501584, 142606336, 1409351679, 4112], labs) := by
  have h : (match readM 4096 firstT with | .inl x => some x.1 | .inr _ => none) = some [75501584, 142606336, 1409351679, 4112] := by decide +kernel
  cases hr : readM 4096 firstT with
  | inr f => rw [hr] at h; cases h
  | inl x =>
    rw [hr] at h
    simp only [Option.some.injEq] at h
    obtain ⟨ws, labs⟩ := x
    exact ⟨labs, by rw [← h]⟩
/-- a fault in a variable of its own -/
theorem flt_new (w : World) (a b c : Value) : ∃ w4, w.alloc (.cells #[a, b, c] 27) = w4 ∧
    w4.heap[w.heap.size]? = some (.cells #[a, b, c] 27 (0, 0)) ∧ Below w.heap.size w w4 :=
  ⟨_, rfl, heap_alloc_new w _, (Below.refl _ _).alloc (Nat.le_refl _) _⟩
set_option maxRecDepth 100000 in
set_option maxHeartbeats 2000000 in
theorem first_any (m : Int) (w : World) (hE : AEnv w) (hM : MaxL w m) (hT : ErrT w) :
    Calls Tryz.prog 8 #[] w fun e w' => e = .returned (.bool true) ∧ Below w.heap.size w w' := by
  obtain ⟨labs, hrd⟩ := first_read
  have has := assemble_any firstT 4096 m w hE hM hT (by decide) ⟨by decide, by decide⟩
  rw [hrd] at has
  replace has := Lib.hid has
  clear hrd
  go_enter Tryz.func8, Tryz.ntmps8
  go_wp2_with fail
  refine has.out.mono ?_
  rintro e w2 ⟨b2, v, rfl, ho⟩
  unfold fltV
  obtain ⟨w4, hw4, hR4, b4⟩ := flt_new w2 (.int .i64 0) (.int .i64 0) (.int .i64 0)
  have c0 : w4.cell? ⟨w2.heap.size, 0, none⟩ = some (.int .i64 0) := cell_of_row _ _ _ _ _ _ hR4
  have c1 : w4.cell? ⟨w2.heap.size, 1, none⟩ = some (.int .i64 0) := cell_of_row _ _ _ _ _ _ hR4
  have c2 : w4.cell? ⟨w2.heap.size, 2, none⟩ = some (.int .i64 0) := cell_of_row _ _ _ _ _ _ hR4
  have hr4 := ho.rd.mono b4
  simp only at hr4
  have hsm := asame_any v (.slice (some ⟨w4.heap.size, 0, none⟩) 4 4) [75501584, 142606336, 1409351679, 4112] (w4.alloc (.cells #[.int .u32 75501584, .int .u32 142606336, .int .u32 1409351679, .int .u32 4112] 22)) (hr4.alloc _) (Rd.new w4 (wi [75501584, 142606336, 1409351679, 4112]) 22 (0, 0) (by decide))
  have bel := (b2.trans (b4.mono b2.size)).alloc (Nat.le_trans b2.size b4.size) (.cells #[.int .u32 75501584, .int .u32 142606336, .int .u32 1409351679, .int .u32 4112] 22)
  have hbs := bel.size
  replace b2 := Lib.hid b2; replace b4 := Lib.hid b4; replace hR4 := Lib.hid hR4; replace hr4 := Lib.hid hr4; replace hsm := Lib.hid hsm; replace bel := Lib.hid bel; replace ho := Lib.hid ho; replace hw4 := Lib.hid hw4; replace hbs := Lib.hid hbs
  clear has hE hM hT
  go_upto_region 2 with fail
  rw [hw4.out]
  clear hw4
  go_wp2_with fail
  refine hsm.out.mono ?_
  rintro e w5 ⟨rfl, b5⟩
  have hfin := bel.out.trans (b5.mono hbs.out)
  replace hfin := Lib.hid hfin
  clear b5
  go_wp2_with fail
  go_ret
  exact ⟨rfl, hfin.out⟩
theorem maxl_later {w w' : World} {m : Int} (h : MaxL w m) (hb : Below w.heap.size w w') : MaxL w' m := by
  show w'.cell? _ = _
  rw [← show w.cell? _ = _ from h]
  unfold World.cell?
  rw [hb.block _ (World.block_lt_of_cell? w _ h)]
theorem OutW.form {w : World} {B : Nat} {e : TypeId} {size : Nat} {v : Value} {n : Nat} {xs : List Value} (h : OutW w B e size v n xs) : ∃ ao ca, v = .slice ao n ca := by
  rcases h.2 with ⟨rfl, rfl⟩ | ⟨g, cur, rfl, _⟩
  · exact ⟨_, _, rfl⟩
  · exact ⟨_, _, rfl⟩
end Go.Proofs.YtiknookfnameiaaGreatDoor
