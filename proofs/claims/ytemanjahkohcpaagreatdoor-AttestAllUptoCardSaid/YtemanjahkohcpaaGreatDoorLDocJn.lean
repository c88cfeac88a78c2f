/- The contract of the law's docPolicy. -/
import Derived.Test.YtemanjahkohcpaaGreatDoorJn25
import Derived.Test.YtemanjahkohcpaaGreatDoorRPpoJn
import Derived.Deep.RegionHeld3
namespace Go.Proofs.YtemanjahkohcpaaGreatDoor
open Go.RowKit WP
set_option linter.unusedSimpArgs false
attribute [local go_sem ↓] Go.wp_at_zero Go.wp_at_succ
/-- the reference's policy in a block of the call's own -/
structure DSt (C pb : Nat) (w0 w : World) (v : Value) (rs : List RuleD) (o : Bool) : Prop where
  blk : w.heap[pb]? = some (.cells #[v, .bool o] 36 (0, 0))
  own : w.ownsRow C 64 10 v rs.length (rulesC rs)
  lt : pb < C
  size : C ≤ w.heap.size
  keep : ∀ k, k < C → k ≠ pb → w.heap[k]? = w0.heap[k]?
  os : w.os = w0.os
  tape : w.tape = w0.tape
  output : w.output = w0.output
theorem DSt.belowB {C pb B : Nat} {w0 w w1 : World} {v : Value} {rs : List RuleD} {o : Bool} (h : DSt C pb w0 w v rs o) (hb : Below B w1 w0) (hB : B ≤ pb) (hs : w1.heap.size ≤ C) : Below B w1 w :=
  ⟨h.os.trans hb.os, h.tape.trans hb.tape, h.output.trans hb.output, Nat.le_trans hs h.size, fun k hk => (h.keep k (by have := h.lt; omega) (by omega)).trans (hb.block k hk)⟩
theorem DSt.more {C pb : Nat} {w0 w wa w3 : World} {v v' : Value} {rs rs' : List RuleD} {o : Bool} (h : DSt C pb w0 w v rs o) (ha : Below w.heap.size w wa) (hO : Onto wa v w3 v') (ho : w3.ownsRow C 64 10 v' rs'.length (rulesC rs')) :
    DSt C pb w0 (w3.setCell ⟨pb, 0, none⟩ v') v' rs' o ∧ w3.cell? ⟨pb, 0, none⟩ = some v ∧ w3.frozen? ⟨pb, 0, none⟩ = false ∧ ∀ k, k < C → w3.heap[k]? = w.heap[k]? := by
  have hs := h.size
  have hl := h.lt
  have has := ha.size
  have hv : ∀ k, v.ownBlock = some k → C ≤ k := fun k hk => (h.own.lt k hk).1
  have hk : ∀ k, k < C → w3.heap[k]? = w.heap[k]? := fun k hk =>
    (hO.1.block k (by omega) (fun e => by have := hv k e.symm; omega)).trans (ha.block k (by omega))
  have hp := (hk pb hl).trans h.blk
  refine ⟨⟨?_, ownsRow_setCell_below (a := ⟨pb, 0, none⟩) ho hl _, hl, by have := hO.1.size; simp; omega, ?_, hO.1.os.trans (ha.os.trans h.os), hO.1.tape.trans (ha.tape.trans h.tape), hO.1.output.trans (ha.output.trans h.output)⟩, cell_of_row _ _ _ _ _ _ hp, frozen_of_row _ _ _ _ _ hp, hk⟩
  · rw [heap_setCell_same w3 pb 0 _ _ v' hp]; rfl
  · intro k hk' hne
    rw [heap_setCell_other _ _ _ _ (fun e => hne (by simpa using e)), hk k hk']; exact h.keep k hk' hne
theorem DSt.c0 {C pb : Nat} {w0 w : World} {v : Value} {rs : List RuleD} {o : Bool} (h : DSt C pb w0 w v rs o) : w.cell? ⟨pb, 0, none⟩ = some v := cell_of_row _ _ _ _ _ _ h.blk
theorem DSt.c1 {C pb : Nat} {w0 w : World} {v : Value} {rs : List RuleD} {o : Bool} (h : DSt C pb w0 w v rs o) : w.cell? ⟨pb, 1, none⟩ = some (.bool o) := cell_of_row _ _ _ _ _ _ h.blk
theorem DSt.f0 {C pb : Nat} {w0 w : World} {v : Value} {rs : List RuleD} {o : Bool} (h : DSt C pb w0 w v rs o) : w.frozen? ⟨pb, 0, none⟩ = false := frozen_of_row _ _ _ _ _ h.blk
set_option maxRecDepth 100000 in
set_option maxHeartbeats 8000000 in
theorem docPolicy_any (rs : List RuleD) (o : Bool) (v : Value) (w : World) (hr : Rules w v rs) (hn : rs.length ≤ 1048576) :
    Calls Tryz.prog 37 #[.agg #[v, .bool o]] w fun e w' => ∃ v' C, w.heap.size ≤ C ∧ e = .returned (.agg #[v', .bool o]) ∧ w'.ownsRow C 64 10 v' rs.length (rulesC rs) ∧ Below w.heap.size w w' := by
  obtain ⟨ao, cap, rfl, n1, n2, h8, hsrc⟩ := id hr
  obtain ⟨iR, zR, hiR, hzR0, hzR1, hzR2, hzR3⟩ := infoRR_parts
  obtain ⟨w1, hw1⟩ : ∃ w1, ((w.alloc (.cells #[.slice ao rs.length cap, .bool o] 24)).alloc (.cells #[.slice none 0 0, .bool false] 36)).alloc (.cells #[.slice none 0 0, .bool o] 36) = w1 := ⟨_, rfl⟩
  have b1 : Below w.heap.size w w1 := by rw [← hw1]; exact (((Below.refl _ _).alloc (Nat.le_refl _) _).alloc (by simp) _).alloc (by simp; omega) _
  have hA : w1.heap[w.heap.size]? = some (.cells #[.slice ao rs.length cap, .bool o] 24 (0, 0)) := by
    rw [← hw1, heap_alloc_old _ _ (by simp; omega), heap_alloc_old _ _ (by simp)]; exact heap_alloc_new w _
  have hR : w1.heap[w.heap.size + 1]? = some (.cells #[.slice none 0 0, .bool false] 36 (0, 0)) := by
    rw [← hw1, heap_alloc_old _ _ (by simp)]
    exact (congrArg (fun k => _[k]?) (by simp)).trans (heap_alloc_new (w.alloc (.cells #[.slice ao rs.length cap, .bool o] 24)) _)
  have hP : w1.heap[w.heap.size + 1 + 1]? = some (.cells #[.slice none 0 0, .bool o] 36 (0, 0)) := by
    rw [← hw1]
    exact (congrArg (fun k => _[k]?) (by simp)).trans (heap_alloc_new ((w.alloc (.cells #[.slice ao rs.length cap, .bool o] 24)).alloc (.cells #[.slice none 0 0, .bool false] 36)) _)
  have hs1 : w1.heap.size = w.heap.size + 3 := by rw [← hw1]; simp
  have hbw : ∀ bb, bb < w.heap.size → w1.heap[bb]? = w.heap[bb]? := fun bb hb => b1.block bb hb
  have L0 : DSt w1.heap.size (w.heap.size + 1 + 1) w1 w1 (.slice none 0 0) [] o := ⟨hP, World.ownsRow_nil _ _ _ _, by omega, Nat.le_refl _, fun _ _ _ => rfl, rfl, rfl, rfl⟩
  have c1 : w1.cell? ⟨w.heap.size, 1, none⟩ = some (.bool o) := cell_of_row _ _ 1 _ _ _ hA
  obtain ⟨n, hn'⟩ : ∃ n, rs.length = n := ⟨_, rfl⟩
  rw [hn'] at n1 hn hA hw1 ⊢
  replace b1 := Lib.hid b1; replace hA := Lib.hid hA; replace hR := Lib.hid hR; replace hP := Lib.hid hP; replace L0 := Lib.hid L0; replace hsrc := Lib.hid hsrc; replace h8 := Lib.hid h8; replace hn' := Lib.hid hn'; replace hbw := Lib.hid hbw
  clear hr
  go_enter Tryz.func37, Tryz.ntmps37
  go_upto_region 2 with fail
  try rw [hw1]
  clear hw1
  go_wp2_with fail
  go_loopw [4] (fun i wr => ∃ (k : Nat) (vv : Value), k ≤ n ∧ i = .int .i64 (k : Int) ∧ DSt w1.heap.size (w.heap.size + 1 + 1) w1 wr vv (rs.take k) o) (fun i _ => n - (intOf i).toNat)
  case atStart => exact ⟨0, _, by omega, rfl, by simpa using L0.out⟩
  case round =>
    obtain ⟨wo, rfl⟩ : ∃ wo, wo = wr := ⟨wr, rfl⟩
    obtain ⟨k, vv, hk, rfl, hL⟩ := hrel
    have hbo := hL.belowB b1.out (by omega) (by omega)
    have hA2 := (hL.keep w.heap.size (by omega) (by omega)).trans hA.out
    have p0 : wo.cell? ⟨w.heap.size, 0, none⟩ = some (.slice ao n cap) := cell_of_row _ _ 0 _ _ _ hA2
    by_cases hlt : k < n
    · have hkr : k < rs.length := by rw [hn'.out]; exact hlt
      obtain ⟨r, hri⟩ : ∃ r, rs[k]? = some r := ⟨_, List.getElem?_eq_getElem hkr⟩
      have hre : rs[k] = r := (List.getElem?_eq_some_iff.1 hri).2
      have lr : r.me.length = 8 := h8.out r (List.mem_of_getElem? hri)
      have htk : rs.take (k + 1) = rs.take k ++ [r] := by rw [List.take_succ_eq_append_getElem hkr, hre]
      obtain ⟨b, off, rfl, hbl, hcl⟩ := hsrc.out.resolve_left (by intro h; rw [h] at hkr; simp at hkr)
      have hrk : wo.rangeAt b (off + k * 10) (ruleC r) := rangeAt_kept (hcl k r hri) (hbo.block b hbl)
      obtain ⟨x0, x1, x2, x3, x4, x5, x6, x7, x8, x9⟩ := cells_rule hrk lr
      have i1 : (0 : Int) ≤ (k : Int) := by omega
      have i2 : (k : Int) < (n : Int) := by omega
      have q0 := hL.c0
      have qf := hL.f0
      have hLo := hL.own
      have hLs := hL.size
      have hlk : (rs.take k).length = k := by rw [List.length_take]; omega
      rw [hlk] at hLo
      have hSof : ∀ W : World, (∀ kk, kk < w1.heap.size → kk ≠ w.heap.size + 1 + 1 → W.heap[kk]? = wo.heap[kk]?) → (fun w' : World => w'.cell? ⟨w.heap.size, 0, none⟩ = some (.slice (some ⟨b, off, none⟩) n cap) ∧ w'.cell? ⟨b, off + k * 10, none⟩ = some (.bool r.allow) ∧ w'.cell? ⟨b, off + k * 10 + 1, none⟩ = some (.string r.name) ∧ w'.cell? ⟨b, off + k * 10 + 2, none⟩ = some (.int .u32 (wAt r.me 0)) ∧ w'.cell? ⟨b, off + k * 10 + 3, none⟩ = some (.int .u32 (wAt r.me 1)) ∧ w'.cell? ⟨b, off + k * 10 + 4, none⟩ = some (.int .u32 (wAt r.me 2)) ∧ w'.cell? ⟨b, off + k * 10 + 5, none⟩ = some (.int .u32 (wAt r.me 3)) ∧ w'.cell? ⟨b, off + k * 10 + 6, none⟩ = some (.int .u32 (wAt r.me 4)) ∧ w'.cell? ⟨b, off + k * 10 + 7, none⟩ = some (.int .u32 (wAt r.me 5)) ∧ w'.cell? ⟨b, off + k * 10 + 8, none⟩ = some (.int .u32 (wAt r.me 6)) ∧ w'.cell? ⟨b, off + k * 10 + 9, none⟩ = some (.int .u32 (wAt r.me 7))) W := by
        intro W hW
        have e1 := hW w.heap.size (by omega) (by omega)
        have e2 := hW b (by omega) (by omega)
        exact ⟨(cell_kept e1).trans p0, (cell_kept e2).trans x0, (cell_kept e2).trans x1, (cell_kept e2).trans x2, (cell_kept e2).trans x3, (cell_kept e2).trans x4, (cell_kept e2).trans x5, (cell_kept e2).trans x6, (cell_kept e2).trans x7, (cell_kept e2).trans x8, (cell_kept e2).trans x9⟩
      have hlits := ruleC_lits r lr
      have hq0a : ∀ ob, (wo.alloc ob).cell? ⟨w.heap.size + 1 + 1, 0, none⟩ = some vv := fun ob => cell_alloc_up q0
      clear hre hcl hri hkr hrk hA2
      replace hL := Lib.hid hL; replace hbo := Lib.hid hbo; replace hSof := Lib.hid hSof; replace hLo := Lib.hid hLo; replace hlits := Lib.hid hlits; replace htk := Lib.hid htk; replace lr := Lib.hid lr; replace hlk := Lib.hid hlk
      go_upto_region 5 with fail
      refine wp_region_held_drew (S := fun w' : World => w'.cell? ⟨w.heap.size, 0, none⟩ = some (.slice (some ⟨b, off, none⟩) n cap) ∧ w'.cell? ⟨b, off + k * 10, none⟩ = some (.bool r.allow) ∧ w'.cell? ⟨b, off + k * 10 + 1, none⟩ = some (.string r.name) ∧ w'.cell? ⟨b, off + k * 10 + 2, none⟩ = some (.int .u32 (wAt r.me 0)) ∧ w'.cell? ⟨b, off + k * 10 + 3, none⟩ = some (.int .u32 (wAt r.me 1)) ∧ w'.cell? ⟨b, off + k * 10 + 4, none⟩ = some (.int .u32 (wAt r.me 2)) ∧ w'.cell? ⟨b, off + k * 10 + 5, none⟩ = some (.int .u32 (wAt r.me 3)) ∧ w'.cell? ⟨b, off + k * 10 + 6, none⟩ = some (.int .u32 (wAt r.me 4)) ∧ w'.cell? ⟨b, off + k * 10 + 7, none⟩ = some (.int .u32 (wAt r.me 5)) ∧ w'.cell? ⟨b, off + k * 10 + 8, none⟩ = some (.int .u32 (wAt r.me 6)) ∧ w'.cell? ⟨b, off + k * 10 + 9, none⟩ = some (.int .u32 (wAt r.me 7))) (by kernel_rfl) (hSof.out _ (fun _ _ _ => rfl)) (fun hHeld => ?_)
      refine wpAnyH_take (i := 0) (v := ?v0) rfl (by kernel_rfl) (by kernel_rfl) (by kernel_rfl) (fun _ _ _ h => h) (Or.inl ⟨by rfl, ?h0⟩) (by assumption) ?r0
      case h0 =>
        intro w' hSw
        try dsimp only at hSw
        go_simp
        try with_reducible rfl
      try simp only [Act.put, List.setIfInBounds_toArray, List.set_cons_zero, List.set_cons_succ]
      refine wpAnyH_take (i := 2) (v := ?v2) rfl (by kernel_rfl) (by kernel_rfl) (by kernel_rfl) (fun _ _ _ h => h) (Or.inl ⟨by rfl, ?h2⟩) (by assumption) ?r2
      case h2 =>
        intro w' hSw
        try dsimp only at hSw
        go_simp
        try with_reducible rfl
      try simp only [Act.put, List.setIfInBounds_toArray, List.set_cons_zero, List.set_cons_succ]
      refine wpAnyH_take (i := 3) (v := ?v3) rfl (by kernel_rfl) (by kernel_rfl) (by kernel_rfl) (fun _ _ _ h => h) (Or.inl ⟨by rfl, ?h3⟩) (by assumption) ?r3
      case h3 =>
        intro w' hSw
        try dsimp only at hSw
        go_simp
        try with_reducible rfl
      try simp only [Act.put, List.setIfInBounds_toArray, List.set_cons_zero, List.set_cons_succ]
      refine wpAnyH_take (i := 4) (v := ?v4) rfl (by kernel_rfl) (by kernel_rfl) (by kernel_rfl) (fun _ _ _ h => h) (Or.inl ⟨by rfl, ?h4⟩) (by assumption) ?r4
      case h4 =>
        intro w' hSw
        try dsimp only at hSw
        go_simp
        try with_reducible rfl
      try simp only [Act.put, List.setIfInBounds_toArray, List.set_cons_zero, List.set_cons_succ]
      refine wpAnyH_take (i := 5) (v := ?v5) rfl (by kernel_rfl) (by kernel_rfl) (by kernel_rfl) (fun _ _ _ h => h) (Or.inl ⟨by rfl, ?h5⟩) (by assumption) ?r5
      case h5 =>
        intro w' hSw
        try dsimp only at hSw
        go_simp
        try with_reducible rfl
      try simp only [Act.put, List.setIfInBounds_toArray, List.set_cons_zero, List.set_cons_succ]
      refine wpAnyH_take (i := 6) (v := ?v6) rfl (by kernel_rfl) (by kernel_rfl) (by kernel_rfl) (fun _ _ _ h => h) (Or.inl ⟨by rfl, ?h6⟩) (by assumption) ?r6
      case h6 =>
        intro w' hSw
        try dsimp only at hSw
        go_simp
        try with_reducible rfl
      try simp only [Act.put, List.setIfInBounds_toArray, List.set_cons_zero, List.set_cons_succ]
      refine wpAnyH_take (i := 7) (v := ?v7) rfl (by kernel_rfl) (by kernel_rfl) (by kernel_rfl) (fun _ _ _ h => h) (Or.inl ⟨by rfl, ?h7⟩) (by assumption) ?r7
      case h7 =>
        intro w' hSw
        try dsimp only at hSw
        go_simp
        try with_reducible rfl
      try simp only [Act.put, List.setIfInBounds_toArray, List.set_cons_zero, List.set_cons_succ]
      refine wpAnyH_take (i := 8) (v := ?v8) rfl (by kernel_rfl) (by kernel_rfl) (by kernel_rfl) (fun _ _ _ h => h) (Or.inl ⟨by rfl, ?h8⟩) (by assumption) ?r8
      case h8 =>
        intro w' hSw
        try dsimp only at hSw
        go_simp
        try with_reducible rfl
      try simp only [Act.put, List.setIfInBounds_toArray, List.set_cons_zero, List.set_cons_succ]
      refine wpAnyH_take (i := 9) (v := ?v9) rfl (by kernel_rfl) (by kernel_rfl) (by kernel_rfl) (fun _ _ _ h => h) (Or.inl ⟨by rfl, ?h9⟩) (by assumption) ?r9
      case h9 =>
        intro w' hSw
        try dsimp only at hSw
        go_simp
        try with_reducible rfl
      try simp only [Act.put, List.setIfInBounds_toArray, List.set_cons_zero, List.set_cons_succ]
      refine wpAnyH_take (i := 10) (v := ?v10) rfl (by kernel_rfl) (by kernel_rfl) (by kernel_rfl) (fun _ _ _ h => h) (Or.inl ⟨by rfl, ?h10⟩) (by assumption) ?r10
      case h10 =>
        intro w' hSw
        try dsimp only at hSw
        go_simp
        try with_reducible rfl
      try simp only [Act.put, List.setIfInBounds_toArray, List.set_cons_zero, List.set_cons_succ]
      refine wpAnyH_take (i := 11) (v := ?v11) rfl (by kernel_rfl) (by kernel_rfl) (by kernel_rfl) (fun _ _ _ h => h) (Or.inl ⟨by rfl, ?h11⟩) (by assumption) ?r11
      case h11 =>
        intro w' hSw
        try dsimp only at hSw
        go_simp
        try with_reducible rfl
      try simp only [Act.put, List.setIfInBounds_toArray, List.set_cons_zero, List.set_cons_succ]
      refine wpAnyH_take (i := 12) (v := ?v12) rfl (by kernel_rfl) (by kernel_rfl) (by kernel_rfl) (fun _ _ _ h => h) (Or.inl ⟨by rfl, ?h12⟩) (by assumption) ?r12
      case h12 =>
        intro w' hSw
        try dsimp only at hSw
        go_simp
        try with_reducible rfl
      try simp only [Act.put, List.setIfInBounds_toArray, List.set_cons_zero, List.set_cons_succ]
      refine wpAnyH_take (i := 13) (v := ?v13) rfl (by kernel_rfl) (by kernel_rfl) (by kernel_rfl) (fun _ _ _ h => h) (Or.inl ⟨by rfl, ?h13⟩) (by assumption) ?r13
      case h13 =>
        intro w' hSw
        try dsimp only at hSw
        go_simp
        try with_reducible rfl
      try simp only [Act.put, List.setIfInBounds_toArray, List.set_cons_zero, List.set_cons_succ]
      refine wpAnyH_take (i := 14) (v := ?v14) rfl (by kernel_rfl) (by kernel_rfl) (by kernel_rfl) (fun _ _ _ h => h) (Or.inl ⟨by rfl, ?h14⟩) (by assumption) ?r14
      case h14 =>
        intro w' hSw
        try dsimp only at hSw
        go_simp
        try with_reducible rfl
      try simp only [Act.put, List.setIfInBounds_toArray, List.set_cons_zero, List.set_cons_succ]
      refine wpAnyH_take (i := 15) (v := ?v15) rfl (by kernel_rfl) (by kernel_rfl) (by kernel_rfl) (fun _ _ _ h => h) (Or.inl ⟨by rfl, ?h15⟩) (by assumption) ?r15
      case h15 =>
        intro w' hSw
        try dsimp only at hSw
        go_simp
        try with_reducible rfl
      try simp only [Act.put, List.setIfInBounds_toArray, List.set_cons_zero, List.set_cons_succ]
      refine wpAnyH_take (i := 16) (v := ?v16) rfl (by kernel_rfl) (by kernel_rfl) (by kernel_rfl) (fun _ _ _ h => h) (Or.inl ⟨by rfl, ?h16⟩) (by assumption) ?r16
      case h16 =>
        intro w' hSw
        try dsimp only at hSw
        go_simp
        try with_reducible rfl
      try simp only [Act.put, List.setIfInBounds_toArray, List.set_cons_zero, List.set_cons_succ]
      refine wpAnyH_take (i := 17) (v := ?v17) rfl (by kernel_rfl) (by kernel_rfl) (by kernel_rfl) (fun _ _ _ h => h) (Or.inl ⟨by rfl, ?h17⟩) (by assumption) ?r17
      case h17 =>
        intro w' hSw
        try dsimp only at hSw
        go_simp
        try with_reducible rfl
      try simp only [Act.put, List.setIfInBounds_toArray, List.set_cons_zero, List.set_cons_succ]
      refine wpAnyH_take (i := 18) (v := ?v18) rfl (by kernel_rfl) (by kernel_rfl) (by kernel_rfl) (fun _ _ _ h => h) (Or.inl ⟨by rfl, ?h18⟩) (by assumption) ?r18
      case h18 =>
        intro w' hSw
        try dsimp only at hSw
        go_simp
        try with_reducible rfl
      try simp only [Act.put, List.setIfInBounds_toArray, List.set_cons_zero, List.set_cons_succ]
      refine wpAnyH_take (i := 19) (v := ?v19) rfl (by kernel_rfl) (by kernel_rfl) (by kernel_rfl) (fun _ _ _ h => h) (Or.inl ⟨by rfl, ?h19⟩) (by assumption) ?r19
      case h19 =>
        intro w' hSw
        try dsimp only at hSw
        go_simp
        try with_reducible rfl
      try simp only [Act.put, List.setIfInBounds_toArray, List.set_cons_zero, List.set_cons_succ]
      refine wpAnyH_take (i := 20) (v := ?v20) rfl (by kernel_rfl) (by kernel_rfl) (by kernel_rfl) (fun _ _ _ h => h) (Or.inl ⟨by rfl, ?h20⟩) (by assumption) ?r20
      case h20 =>
        intro w' hSw
        try dsimp only at hSw
        go_simp
        try with_reducible rfl
      try simp only [Act.put, List.setIfInBounds_toArray, List.set_cons_zero, List.set_cons_succ]
      refine wpAnyH_ready (rs := [1, 21]) (by kernel_rfl) (by simp) ?_
      refine AllReadyH.cons (o := _) rfl (fun K hK => ?step1) ?more1
      case step1 =>
        go_simp
        refine hK.out _ _ (hSof.out _ (fun _ _ _ => rfl)) (fun hHeld => ?_)
        clear hK K
        try simp only [Act.put, List.setIfInBounds_toArray, List.set_cons_zero, List.set_cons_succ]
        refine wpAnyH_ready (rs := [21]) (by kernel_rfl) (by simp) ?_
        refine AllReadyH.cons (o := _) rfl (fun K hK => ?step2) ?more2
        case step2 =>
          go_simp
          refine hK.out _ _ (hSof.out _ (fun kk h1 h2 => heap_alloc_old wo _ (Nat.lt_of_lt_of_le h1 hLs))) (fun hHeld => ?_)
          clear hK K
          try simp only [Act.put, List.setIfInBounds_toArray, List.set_cons_zero, List.set_cons_succ]
          refine wpAnyH_ready (rs := [22]) (by kernel_rfl) (by simp) ?_
          refine AllReadyH.cons (o := _) rfl (fun K hK => ?step3) ?more3
          case step3 =>
            refine step_append_still _ (by rfl) _ _ 34 (by rfl) w1.heap.size 64 iR zR 10 56 Tryz.underlying34 hiR hzR0 hzR1 hzR2 hzR3 (by decide) _ k (rulesC (rs.take k)) (by rfl) ((hLo.out.alloc _).drew) ⟨wo.heap.size, 0, none⟩ 1 1 [.bool r.allow, .string r.name, .int .u32 (wAt r.me 0), .int .u32 (wAt r.me 1), .int .u32 (wAt r.me 2), .int .u32 (wAt r.me 3), .int .u32 (wAt r.me 4), .int .u32 (wAt r.me 5), .int .u32 (wAt r.me 6), .int .u32 (wAt r.me 7)] (by rfl) (by rfl) (cells_new wo _ _ _) (by simp [Value.oneCell']) (by simp only [maxLen]; omega) (by omega) (by simp; omega) ?_
            intro v7 w7 ho7 hO7 _
            obtain ⟨a7, e7, rfl, _, _⟩ := own_shape ho7
            obtain ⟨hL7, q7, qf7, hk7⟩ := hL.out.more (wa := (wo.alloc (.cells #[.bool r.allow, .string r.name, .int .u32 (wAt r.me 0), .int .u32 (wAt r.me 1), .int .u32 (wAt r.me 2), .int .u32 (wAt r.me 3), .int .u32 (wAt r.me 4), .int .u32 (wAt r.me 5), .int .u32 (wAt r.me 6), .int .u32 (wAt r.me 7)] 64)).drew) ((Below.refl _ _).alloc (Nat.le_refl _) _).drew hO7 (rs' := rs.take (k + 1)) (by rw [htk.out, rulesC_append, show rulesC [r] = ruleC r by simp [rulesC], hlits.out, List.length_append, hlk.out]; exact ho7)
            clear ho7 hO7
            refine hK.out _ _ (hSof.out _ (fun kk h1 h2 => hk7 kk h1)) (fun hHeld => ?_)
            clear hK K
            try simp only [Act.put, List.setIfInBounds_toArray, List.set_cons_zero, List.set_cons_succ]
            refine wpAnyH_ready (rs := [23]) (by kernel_rfl) (by simp) ?_
            refine AllReadyH.cons (o := _) rfl (fun K hK => ?step4) ?more4
            case step4 =>
              go_simp
              refine hK.out _ _ (hSof.out _ (fun kk h1 h2 => hk7 kk h1)) (fun hHeld => ?_)
              clear hK K
              try simp only [Act.put, List.setIfInBounds_toArray, List.set_cons_zero, List.set_cons_succ]
              refine wpAnyH_ready (rs := [24]) (by kernel_rfl) (by simp) ?_
              refine AllReadyH.cons (o := _) rfl (fun K hK => ?step5) ?more5
              case step5 =>
                go_simp
                refine hK.out _ _ (hSof.out _ (fun kk h1 h2 => (heap_setCell_other _ _ _ _ (fun e => h2 (by simpa using e))).trans (hk7 kk h1))) (fun hHeld => ?_)
                clear hK K
                try simp only [Act.put, List.setIfInBounds_toArray, List.set_cons_zero, List.set_cons_succ]
                refine wpAnyH_done (by kernel_rfl) ?_ _
                replace hL7 := Lib.hid hL7
                clear hHeld hSof hL hLo q7 qf7 hk7
                go_wp2_with fail
                go_roundw
                case rel => exact ⟨k + 1, _, by omega, by go_num, hL7.out⟩
                case measure => simp [intOf]; omega
              exact AllReadyH.nil
            exact AllReadyH.nil
          exact AllReadyH.nil
        exact AllReadyH.nil
      refine AllReadyH.cons (o := _) rfl (fun K hK => ?step6) ?more6
      case step6 =>
        go_simp
        refine hK.out _ _ (hSof.out _ (fun kk h1 h2 => heap_alloc_old wo _ (Nat.lt_of_lt_of_le h1 hLs))) (fun hHeld => ?_)
        clear hK K
        try simp only [Act.put, List.setIfInBounds_toArray, List.set_cons_zero, List.set_cons_succ]
        refine wpAnyH_ready (rs := [1]) (by kernel_rfl) (by simp) ?_
        refine AllReadyH.cons (o := _) rfl (fun K hK => ?step7) ?more7
        case step7 =>
          go_simp
          refine hK.out _ _ (hSof.out _ (fun kk h1 h2 => heap_alloc_old wo _ (Nat.lt_of_lt_of_le h1 hLs))) (fun hHeld => ?_)
          clear hK K
          try simp only [Act.put, List.setIfInBounds_toArray, List.set_cons_zero, List.set_cons_succ]
          refine wpAnyH_ready (rs := [22]) (by kernel_rfl) (by simp) ?_
          refine AllReadyH.cons (o := _) rfl (fun K hK => ?step8) ?more8
          case step8 =>
            refine step_append_still _ (by rfl) _ _ 34 (by rfl) w1.heap.size 64 iR zR 10 56 Tryz.underlying34 hiR hzR0 hzR1 hzR2 hzR3 (by decide) _ k (rulesC (rs.take k)) (by rfl) ((hLo.out.alloc _).drew) ⟨wo.heap.size, 0, none⟩ 1 1 [.bool r.allow, .string r.name, .int .u32 (wAt r.me 0), .int .u32 (wAt r.me 1), .int .u32 (wAt r.me 2), .int .u32 (wAt r.me 3), .int .u32 (wAt r.me 4), .int .u32 (wAt r.me 5), .int .u32 (wAt r.me 6), .int .u32 (wAt r.me 7)] (by rfl) (by rfl) (cells_new wo _ _ _) (by simp [Value.oneCell']) (by simp only [maxLen]; omega) (by omega) (by simp; omega) ?_
            intro v7 w7 ho7 hO7 _
            obtain ⟨a7, e7, rfl, _, _⟩ := own_shape ho7
            obtain ⟨hL7, q7, qf7, hk7⟩ := hL.out.more (wa := (wo.alloc (.cells #[.bool r.allow, .string r.name, .int .u32 (wAt r.me 0), .int .u32 (wAt r.me 1), .int .u32 (wAt r.me 2), .int .u32 (wAt r.me 3), .int .u32 (wAt r.me 4), .int .u32 (wAt r.me 5), .int .u32 (wAt r.me 6), .int .u32 (wAt r.me 7)] 64)).drew) ((Below.refl _ _).alloc (Nat.le_refl _) _).drew hO7 (rs' := rs.take (k + 1)) (by rw [htk.out, rulesC_append, show rulesC [r] = ruleC r by simp [rulesC], hlits.out, List.length_append, hlk.out]; exact ho7)
            clear ho7 hO7
            refine hK.out _ _ (hSof.out _ (fun kk h1 h2 => hk7 kk h1)) (fun hHeld => ?_)
            clear hK K
            try simp only [Act.put, List.setIfInBounds_toArray, List.set_cons_zero, List.set_cons_succ]
            refine wpAnyH_ready (rs := [23]) (by kernel_rfl) (by simp) ?_
            refine AllReadyH.cons (o := _) rfl (fun K hK => ?step9) ?more9
            case step9 =>
              go_simp
              refine hK.out _ _ (hSof.out _ (fun kk h1 h2 => hk7 kk h1)) (fun hHeld => ?_)
              clear hK K
              try simp only [Act.put, List.setIfInBounds_toArray, List.set_cons_zero, List.set_cons_succ]
              refine wpAnyH_ready (rs := [24]) (by kernel_rfl) (by simp) ?_
              refine AllReadyH.cons (o := _) rfl (fun K hK => ?step10) ?more10
              case step10 =>
                go_simp
                refine hK.out _ _ (hSof.out _ (fun kk h1 h2 => (heap_setCell_other _ _ _ _ (fun e => h2 (by simpa using e))).trans (hk7 kk h1))) (fun hHeld => ?_)
                clear hK K
                try simp only [Act.put, List.setIfInBounds_toArray, List.set_cons_zero, List.set_cons_succ]
                refine wpAnyH_done (by kernel_rfl) ?_ _
                replace hL7 := Lib.hid hL7
                clear hHeld hSof hL hLo q7 qf7 hk7
                go_wp2_with fail
                go_roundw
                case rel => exact ⟨k + 1, _, by omega, by go_num, hL7.out⟩
                case measure => simp [intOf]; omega
              exact AllReadyH.nil
            exact AllReadyH.nil
          exact AllReadyH.nil
        exact AllReadyH.nil
      exact AllReadyH.nil

    · obtain rfl : k = n := by omega
      have htk : rs.take k = rs := by rw [← hn'.out, List.take_length]
      rw [htk] at hL
      have q0 := hL.c0
      have q1 := hL.c1
      have hR2 := (hL.keep (w.heap.size + 1) (by omega) (by omega)).trans hR.out
      have r0 : wo.cell? ⟨w.heap.size + 1, 0, none⟩ = some (.slice none 0 0) := cell_of_row _ _ 0 _ _ _ hR2
      have r1 : wo.cell? ⟨w.heap.size + 1, 1, none⟩ = some (.bool false) := cell_of_row _ _ 1 _ _ _ hR2
      have rf0 := frozen_of_row wo (w.heap.size + 1) 0 _ _ hR2
      have rf1 := frozen_of_row wo (w.heap.size + 1) 1 _ _ hR2
      have hown := ownsRow_setCell_below (a := ⟨w.heap.size + 1, 1, none⟩) (ownsRow_setCell_below (a := ⟨w.heap.size + 1, 0, none⟩) hL.own (show w.heap.size + 1 < w1.heap.size by omega) vv) (show w.heap.size + 1 < w1.heap.size by omega) (.bool o)
      have hbf2 := (hbo.setCell (p := ⟨w.heap.size + 1, 0, none⟩) (by show w.heap.size ≤ w.heap.size + 1; omega) vv).setCell (p := ⟨w.heap.size + 1, 1, none⟩) (by show w.heap.size ≤ w.heap.size + 1; omega) (.bool o)
      rw [hn'.out] at hown
      obtain ⟨av, cv, rfl, _, _⟩ := own_shape hown
      clear hbo hR2 hA2 htk
      replace hL := Lib.hid hL; replace hown := Lib.hid hown; replace hbf2 := Lib.hid hbf2
      go_wp2_with fail
      refine bodyPost_ret (by simp [results, Tryz.results37, go_sem, r0, r1]; try rfl) rfl ?_
      exact ⟨_, w1.heap.size, by omega, rfl, hown.out, hbf2.out⟩
end Go.Proofs.YtemanjahkohcpaaGreatDoor
