/- The contracts of asm's at, room, count; operands as they lie. -/
import Derived.Test.YtiknookfnameiaaGreatDoorJn25
namespace Go.Proofs.YtiknookfnameiaaGreatDoor
open Go.RowKit WP
set_option linter.unusedSimpArgs false
/-- words of a line as they lie in a block of words -/
def WsAt (w : World) (v : Value) (ops : List W) : Prop :=
  ∃ ao cap, v = .slice ao ops.length cap ∧ ops.length ≤ cap ∧ cap ≤ 9223372036854775807 ∧ (ops = [] ∨ ∃ b off cs, ao = some ⟨b, off, none⟩ ∧ w.heap[b]? = some (Obj.cells cs 152 (0, 0)) ∧
    ∀ i x, ops[i]? = some x → cs[off + i * 3]? = some (.string x.1) ∧ cs[off + i * 3 + 1]? = some (.bool x.2.1) ∧ cs[off + i * 3 + 2]? = some (.int .i64 (x.2.2 : Int)))
theorem WsAt.keep {w w' : World} {v : Value} {ops : List W} (h : WsAt w v ops) (hk : Keep w w') : WsAt w' v ops := by
  obtain ⟨ao, cap, rfl, h1, h2, h3⟩ := h
  refine ⟨ao, cap, rfl, h1, h2, ?_⟩
  rcases h3 with h | ⟨b, off, cs, e, hb, hc⟩
  · exact .inl h
  · exact .inr ⟨b, off, cs, e, hk.at_ hb (.inr (.inl rfl)), hc⟩
theorem WsAt.later {w w' : World} {v : Value} {ops : List W} (h : WsAt w v ops) (hb : Below w.heap.size w w') : WsAt w' v ops := h.keep (Keep.below hb)
/-- the word at a place -/
theorem WsAt.get {w : World} {v : Value} {ops : List W} (h : WsAt w v ops) (i : Nat) (x : W) (hi : ops[i]? = some x) : ∃ b off cap, v = .slice (some ⟨b, off, none⟩) ops.length cap ∧ ops.length ≤ cap ∧ cap ≤ 9223372036854775807 ∧ w.cell? ⟨b, off + i * 3, none⟩ = some (.string x.1) ∧ w.cell? ⟨b, off + i * 3 + 1, none⟩ = some (.bool x.2.1) ∧ w.cell? ⟨b, off + i * 3 + 2, none⟩ = some (.int .i64 (x.2.2 : Int)) := by
  obtain ⟨ao, cap, rfl, h1, h2, h3⟩ := h
  rcases h3 with rfl | ⟨b, off, cs, rfl, hb, hc⟩
  · simp at hi
  · obtain ⟨c0, c1, c2⟩ := hc i x hi
    exact ⟨b, off, cap, rfl, h1, h2, (cell_of_row _ _ _ _ _ _ hb).trans c0, (cell_of_row _ _ _ _ _ _ hb).trans c1, (cell_of_row _ _ _ _ _ _ hb).trans c2⟩
theorem WsAt.of_own {w : World} {B n : Nat} {v : Value} {ws : List W} (h : w.ownsRow B 152 3 v n (ww ws)) (hn : n = ws.length) : WsAt w v ws := by
  subst hn
  rcases h.2 with ⟨rfl, h0⟩ | ⟨g, cap, cur, rfl, _, hg, h1, h2, hcs, htake⟩
  · refine ⟨none, 0, by rw [h0], by omega, by decide, .inl (List.eq_nil_of_length_eq_zero h0)⟩
  · refine ⟨some ⟨g, 0, none⟩, cap, rfl, h1, h2, .inr ⟨g, 0, cur, rfl, hg, ?_⟩⟩
    have hw : ∀ (L : List W) (i : Nat) (x : W), L[i]? = some x → (ww L)[i * 3]? = some (.string x.1) ∧ (ww L)[i * 3 + 1]? = some (.bool x.2.1) ∧ (ww L)[i * 3 + 2]? = some (.int .i64 (x.2.2 : Int)) := by
      intro L
      induction L with
      | nil => intro i x hi; simp at hi
      | cons y L ih =>
        intro i x hi
        have e : ww (y :: L) = [.string y.1, .bool y.2.1, .int .i64 (y.2.2 : Int)] ++ ww L := rfl
        cases i with
        | zero => simp only [List.getElem?_cons_zero, Option.some.injEq] at hi; subst hi; rw [e]; exact ⟨rfl, rfl, rfl⟩
        | succ i =>
          simp only [List.getElem?_cons_succ] at hi
          obtain ⟨a, b, c⟩ := ih i x hi
          rw [e]
          refine ⟨?_, ?_, ?_⟩
          · rw [List.getElem?_append_right (by simp; omega)]; rw [← a]; congr 1; simp; omega
          · rw [List.getElem?_append_right (by simp; omega)]; rw [← b]; congr 1; simp; omega
          · rw [List.getElem?_append_right (by simp; omega)]; rw [← c]; congr 1; simp; omega
    have hcell : ∀ (j : Nat) (u : Value), (ww ws)[j]? = some u → cur[j]? = some u := by
      intro j u hj
      have hlt := (List.getElem?_eq_some_iff.1 hj).1
      have hl := h.1
      rw [← htake] at hj
      rw [List.getElem?_take_of_lt (by rw [← hl]; exact hlt)] at hj
      rw [← hj, Array.getElem?_toList]
    intro i x hi
    obtain ⟨a, b, c⟩ := hw ws i x hi
    simp only [Nat.zero_add]
    exact ⟨hcell _ _ a, hcell _ _ b, hcell _ _ c⟩
set_option maxRecDepth 100000 in
theorem at_any (R ln col : Nat) (e : Int) (w : World) (hl : w.cell? ⟨R, 1, none⟩ = some (.int .i64 (ln : Int))) :
    Calls Tryz.prog 39 #[ptr R, .int .i64 e, .int .i64 (col : Int)] w fun en w' => ∃ v, en = .returned v ∧ FltAt w' v (e, ln, col) ∧ Below w.heap.size w w' := by
  have hb := (Below.refl w.heap.size w).alloc (Nat.le_refl _) (.cells #[.int .i64 e, .int .i64 (ln : Int), .int .i64 (col : Int)] 112)
  have hn := heap_alloc_new w (.cells #[.int .i64 e, .int .i64 (ln : Int), .int .i64 (col : Int)] 112)
  replace hb := Lib.hid hb; replace hn := Lib.hid hn
  go_enter Tryz.func39, Tryz.ntmps39
  go_wp2_with fail
  go_ret
  exact ⟨_, rfl, ⟨_, rfl, hn.out⟩, hb.out⟩
/-- what a check answers -/
def ErrRes (w' : World) (e : Ending) : Option Flt → Prop
  | none => e = .returned .nilIface
  | some f => ∃ v, e = .returned v ∧ FltAt w' v f
set_option maxRecDepth 100000 in
theorem room_any {B : Nat} {w0 w : World} {R : Nat} {base : Int} {ln : Nat} {st : Asm} {vw vl : Value} {mb : Nat} {vf : Value} {fs : List Value} {bs : List Nat} {ml : List (ByteArray × Nat)} (h : RSt B w0 w R base ln st vw vl mb vf fs bs ml) (name : W) (n : Nat) (hn : n ≤ 4096) (hst : st.ws.length ≤ 4096) :
    Calls Tryz.prog 110 #[ptr R, wV name, .int .i64 (n : Int)] w fun e w' => ErrRes w' e (roomM ln name st n) ∧ Below w.heap.size w w' := by
  obtain ⟨s, q, c⟩ := name
  obtain ⟨aw, cw, rfl, _, _⟩ := own_shape h.ws
  obtain ⟨w1, hw1⟩ : ∃ w1, w.alloc (.cells #[.string s, .bool q, .int .i64 (c : Int)] 152) = w1 := ⟨_, rfl⟩
  have b1 : Below w.heap.size w w1 := by rw [← hw1]; exact (Below.refl w.heap.size w).alloc (Nat.le_refl _) _
  have c2 : w1.cell? ⟨w.heap.size, 2, none⟩ = some (.int .i64 (c : Int)) := by rw [← hw1]; exact cell_of_row _ _ 2 _ _ _ (heap_alloc_new w _)
  have h1 := h.later b1
  obtain ⟨_, hl, hv, _⟩ := h1.c
  obtain ⟨L, hL⟩ : ∃ L, st.ws.length = L := ⟨_, rfl⟩
  unfold wV roomM
  dsimp only
  rw [hL] at hv hst ⊢
  clear h h1
  by_cases hr : 2048 < L + n
  · rw [if_pos hr]
    have d1 : decide ((L : Int) + (n : Int) > 2048) = true := decide_eq_true (by omega)
    have d2 : (2048 : Int) < (L : Int) + (n : Int) := by omega
    have hat := at_any R ln c 66 w1 hl
    replace b1 := Lib.hid b1; replace hat := Lib.hid hat
    go_enter Tryz.func110, Tryz.ntmps110
    go_upto_region 1 with fail
    try rw [hw1]
    clear hw1
    go_wp2_with fail
    refine hat.out.mono ?_
    rintro e w2 ⟨v, rfl, hf, b2⟩
    go_wp2_with fail
    go_ret
    exact ⟨⟨v, rfl, hf⟩, b1.out.trans (b2.mono b1.out.size)⟩
  · rw [if_neg hr]
    have d1 : decide ((L : Int) + (n : Int) > 2048) = false := decide_eq_false (by omega)
    have d2 : ¬ (2048 : Int) < (L : Int) + (n : Int) := by omega
    replace b1 := Lib.hid b1
    go_enter Tryz.func110, Tryz.ntmps110
    go_upto_region 1 with fail
    try rw [hw1]
    clear hw1
    go_wp2_with fail
    go_ret
    exact ⟨rfl, b1.out⟩
set_option maxRecDepth 100000 in
theorem count_any (R ln : Nat) (name : W) (v : Value) (ops : List W) (n : Nat) (w : World) (hl : w.cell? ⟨R, 1, none⟩ = some (.int .i64 (ln : Int))) (ho : WsAt w v ops) (hn : n ≤ 4096) :
    Calls Tryz.prog 112 #[ptr R, wV name, v, .int .i64 (n : Int)] w fun e w' => ErrRes w' e (countM ln name ops n) ∧ Below w.heap.size w w' := by
  obtain ⟨s, q, c⟩ := name
  obtain ⟨w1, hw1⟩ : ∃ w1, w.alloc (.cells #[.string s, .bool q, .int .i64 (c : Int)] 152) = w1 := ⟨_, rfl⟩
  have b1 : Below w.heap.size w w1 := by rw [← hw1]; exact (Below.refl w.heap.size w).alloc (Nat.le_refl _) _
  have c2 : w1.cell? ⟨w.heap.size, 2, none⟩ = some (.int .i64 (c : Int)) := by rw [← hw1]; exact cell_of_row _ _ 2 _ _ _ (heap_alloc_new w _)
  have hl1 : w1.cell? ⟨R, 1, none⟩ = some (.int .i64 (ln : Int)) := (b1.cell (World.block_lt_of_cell? _ _ hl)).trans hl
  have ho1 := ho.later b1
  unfold wV countM
  dsimp only
  by_cases h1 : ops.length < n
  · rw [if_pos h1]
    obtain ⟨ao, cap, rfl, p1, p2, _⟩ := id ho1
    obtain ⟨L, hL⟩ : ∃ L, ops.length = L := ⟨_, rfl⟩
    rw [hL] at h1 ⊢
    have d1 : decide ((L : Int) < (n : Int)) = true := decide_eq_true (by omega)
    have d2 : (L : Int) < (n : Int) := by omega
    have hat := at_any R ln c 62 w1 hl1
    clear ho ho1 hl hl1
    replace b1 := Lib.hid b1; replace hat := Lib.hid hat
    go_enter Tryz.func112, Tryz.ntmps112
    go_upto_region 1 with fail
    try rw [hw1]
    clear hw1
    go_wp2_with fail
    refine hat.out.mono ?_
    rintro e w2 ⟨v, rfl, hf, b2⟩
    go_wp2_with fail
    go_ret
    exact ⟨⟨v, rfl, hf⟩, b1.out.trans (b2.mono b1.out.size)⟩
  · rw [if_neg h1]
    by_cases h2 : n < ops.length
    · rw [if_pos h2]
      obtain ⟨x, hx⟩ : ∃ x, ops[n]? = some x := ⟨_, List.getElem?_eq_getElem h2⟩
      obtain ⟨b, off, cap, rfl, p1, p2, _, _, k2⟩ := ho1.get n x hx
      have ex : (ops.getD n (⟨#[]⟩, false, 0)).2.2 = x.2.2 := by rw [List.getD_eq_getElem?_getD, hx]; rfl
      rw [ex]
      obtain ⟨L, hL⟩ : ∃ L, ops.length = L := ⟨_, rfl⟩
      rw [hL] at h1 h2 p1 ⊢
      have d1 : decide ((L : Int) < (n : Int)) = false := decide_eq_false (by omega)
      have d2 : ¬ (L : Int) < (n : Int) := by omega
      have d3 : decide ((L : Int) > (n : Int)) = true := decide_eq_true (by omega)
      have d4 : (n : Int) < (L : Int) := by omega
      have d5 : (0 : Int) ≤ (n : Int) := by omega
      have hat := at_any R ln x.2.2 62 w1 hl1
      clear ho ho1 hl hl1 ex hx hL
      replace b1 := Lib.hid b1; replace hat := Lib.hid hat
      go_enter Tryz.func112, Tryz.ntmps112
      go_upto_region 1 with fail
      try rw [hw1]
      clear hw1
      go_wp2_with fail
      refine hat.out.mono ?_
      rintro e w2 ⟨v, rfl, hf, b2⟩
      go_wp2_with fail
      go_ret
      exact ⟨⟨v, rfl, hf⟩, b1.out.trans (b2.mono b1.out.size)⟩
    · rw [if_neg h2]
      obtain ⟨ao, cap, rfl, p1, p2, _⟩ := id ho1
      obtain ⟨L, hL⟩ : ∃ L, ops.length = L := ⟨_, rfl⟩
      rw [hL] at h1 h2 ⊢
      have d1 : decide ((L : Int) < (n : Int)) = false := decide_eq_false (by omega)
      have d2 : ¬ (L : Int) < (n : Int) := by omega
      have d3 : decide ((L : Int) > (n : Int)) = false := decide_eq_false (by omega)
      have d4 : ¬ (n : Int) < (L : Int) := by omega
      clear ho ho1 hl hl1
      replace b1 := Lib.hid b1
      go_enter Tryz.func112, Tryz.ntmps112
      go_upto_region 1 with fail
      try rw [hw1]
      clear hw1
      go_wp2_with fail
      go_ret
      exact ⟨rfl, b1.out⟩
end Go.Proofs.YtiknookfnameiaaGreatDoor
