/- Rules copied over the first rules of a row of the call's own. The contract of the law's judged. The contracts of the law's marked, grown and bears. -/
import Derived.Test.YtemanjahkohcpaaGreatDoorJn22
import Derived.Laws.CopyOwn
import Derived.Test.YtemanjahkohcpaaGreatDoorLDecJn
import Derived.Test.YtemanjahkohcpaaGreatDoorJn24
namespace Go.Proofs.YtemanjahkohcpaaGreatDoor
open Go.RowKit WP
theorem Reads.prefix {w : World} {size n m g cap : Nat} {xs ys : List Value} (h : Reads w size (.slice (some ⟨g, 0, none⟩) m cap) m (xs ++ ys)) (hx : xs.length = n * size) (hnm : n ≤ m) : Reads w size (.slice (some ⟨g, 0, none⟩) n cap) n xs := by
  refine ⟨hx, ?_⟩
  rcases h.2 with ⟨hv, _⟩ | ⟨g', cap', hv, hg, h1, h2, hc⟩
  · simp at hv
  · simp only [Value.slice.injEq, Option.some.injEq, Addr.mk.injEq, and_true, true_and] at hv
    obtain ⟨rfl, rfl⟩ := hv
    exact .inr ⟨g, cap, rfl, hg, by omega, h2, fun j u hu => hc j u (by rw [List.getElem?_append_left (List.getElem?_eq_some_iff.1 hu).1]; exact hu)⟩
section
variable {P : Program}
theorem run_copy_zero (w : World) (dT sT ty elem : TypeId) (a : Addr) (dLen dCap c : Nat) (hu : P.underlying dT = some (.slice elem)) (hs : ((P.info? elem).map (·.size)).isSome = true) :
    (Builtin.copy_ #[dT, sT] ty #[.slice (some a) dLen dCap, .slice none 0 c]).run P w = .ok (goInt 0) w := by
  cases hq : P.info? elem with
  | none => simp [hq] at hs
  | some i => simp [Builtin.copy_, run_underlying hu, Builtin.lenOf, Builtin.firstCells, sizeOf, typeInfo, hq, storeCells]
theorem own_row {w : World} {base g q cap : Nat} {e : TypeId} {cs xs ys : List Value} (h : w.ownsRow base e 10 (.slice (some ⟨g, 0, none⟩) q cap) q (xs ++ ys)) (hl : cs.length = xs.length) :
    ∃ cur, w.heap[g]? = some (.cells cur e (0, 0)) ∧ 0 + cs.length ≤ cur.size ∧
      (w.setRow g (cur.toList.take 0 ++ cs ++ cur.toList.drop (0 + cs.length)).toArray).ownsRow base e 10 (.slice (some ⟨g, 0, none⟩) q cap) q (cs ++ ys) ∧
      Touch [.slice (some ⟨g, 0, none⟩) q cap] w (w.setRow g (cur.toList.take 0 ++ cs ++ cur.toList.drop (0 + cs.length)).toArray) := by
  have hlen := h.1
  rcases h.2 with ⟨hv, _⟩ | ⟨g', cap', cur, hv, hbg, hg, hnc, hcm, hcs, htake⟩
  · simp at hv
  · simp only [Value.slice.injEq, Option.some.injEq, Addr.mk.injEq, and_true, true_and] at hv
    obtain ⟨rfl, rfl⟩ := hv
    rw [List.length_append] at hlen
    have hsz : xs.length ≤ cur.size := by
      have : q * 10 ≤ cap * 10 := Nat.mul_le_mul_right _ hnc
      omega
    have hcl : cur.toList.length = cur.size := by simp
    refine ⟨cur, hg, by omega, ⟨by rw [List.length_append]; omega, .inr ⟨g, cap, _, rfl, hbg, setRow_heap w g cur _ e _ hg, hnc, hcm, ?_, ?_⟩⟩, ⟨rfl, rfl, rfl, by simp [World.setRow], fun k _ hf => setRow_other w g k _ (fun hk => hf _ (List.mem_singleton_self _) (by simp [Value.ownBlock, hk]))⟩⟩
    · simp only [List.take_zero, List.nil_append, Nat.zero_add, List.size_toArray, List.length_append, List.length_drop]
      omega
    · have hd : cur.toList.take (q * 10) = xs ++ ys := htake
      simp only [List.take_zero, List.nil_append, Nat.zero_add]
      rw [List.take_append, List.take_of_length_le (show cs.length ≤ q * 10 by omega)]
      congr 1
      have : (cur.toList.drop cs.length).take (q * 10 - cs.length) = (cur.toList.take (q * 10)).drop cs.length := by rw [List.drop_take]
      rw [this, hd, hl, List.drop_left]
theorem wpList_copy_rules (w : World) {ops : Array Oper} {rest : List Oper} {o : Oper} {a : Act} {Q : Exit → Act → World → Prop} (hgd : o.guard = none) (d s : Operand) (dT sT : TypeId)
    (ho : o.op = .call { callee := .builtin .copy, args := #[d, s], argTypes := #[dT, sT] }) (base : Nat) (e : TypeId) (hu : P.underlying dT = some (.slice e)) (hi : (P.info? e).map (·.size) = some 10)
    (g q cap : Nat) (ao : Option Addr) (c : Nat) (rs rs' : List RuleD) (ys : List Value) (hd : a.eval d = .slice (some ⟨g, 0, none⟩) q cap) (hs : a.eval s = .slice ao rs'.length c)
    (hown : w.ownsRow base e 10 (.slice (some ⟨g, 0, none⟩) q cap) q (rulesC rs ++ ys)) (hl : rs'.length = rs.length) (h8 : ∀ r ∈ rs, r.me.length = 8) (h8' : ∀ r ∈ rs', r.me.length = 8) (hq : rs.length ≤ q)
    (hsrc : rs' = [] ∨ ∃ b off, ao = some ⟨b, off, none⟩ ∧ b < w.heap.size ∧ w.rangeAt b off (rulesC rs'))
    (h : ∀ w', w'.ownsRow base e 10 (.slice (some ⟨g, 0, none⟩) q cap) q (rulesC rs' ++ ys) → Touch [.slice (some ⟨g, 0, none⟩) q cap] w w' → wpList P ops Q rest (a.put o.dst (goInt rs'.length)) w') : wpList P ops Q (o :: rest) a w := by
  refine wpList_plain hgd fun K hK => ?_
  cases ao with
  | none =>
    have hr : rs' = [] := hsrc.resolve_right (by rintro ⟨b, off, hh, _⟩; cases hh)
    subst hr
    have hr2 : rs = [] := List.eq_nil_of_length_eq_zero (by simpa using hl.symm)
    subst hr2
    have hrun := run_copy_zero (P := P) w dT sT o.type e ⟨g, 0, none⟩ q cap c hu (by rw [hi]; rfl)
    unfold Oper.wp execOp
    simp only [ho, resolve, invoke, builtin, Sem.run_bind, Sem.run_pure, Result.andThen_ok, List.map_toArray, List.map_cons, List.map_nil, hd, hs, List.length_nil, hrun]
    exact hK _ _ (h w hown (Touch.refl _ _))
  | some ad =>
    have hcl : (rulesC rs').length = (rulesC rs).length := by rw [rulesC_len rs' h8', rulesC_len rs h8, hl]
    obtain ⟨cur, hg, hfit, hown', hT⟩ := own_row hown hcl
    have hmin : Nat.min rs'.length q = rs'.length := Nat.min_eq_left (by omega)
    have hrun := run_copy_wide (P := P) w dT sT o.type e g 0 q cap ad rs'.length c 10 cur e (rulesC rs') hu hi hg (by rw [hmin, rulesC_len rs' h8']) (fun j u hj => by
      rcases hsrc with rfl | ⟨b, off, hh, _, hr⟩
      · simp [rulesC] at hj
      · simp only [Option.some.injEq] at hh
        subst hh
        have hadd : (⟨b, off, none⟩ : Addr).add j = ⟨b, off + j, none⟩ := by unfold Addr.add; split <;> simp_all
        rw [hadd]; exact hr j u hj) hfit (fun u hu' => by obtain ⟨r, _, hr⟩ := List.mem_flatMap.1 hu'; exact ruleC_one r u hr)
    rw [hmin] at hrun
    unfold Oper.wp execOp
    simp only [ho, resolve, invoke, builtin, Sem.run_bind, Sem.run_pure, Result.andThen_ok, List.map_toArray, List.map_cons, List.map_nil, hd, hs, hrun]
    exact hK _ _ (h _ hown' hT)
end
end Go.Proofs.YtemanjahkohcpaaGreatDoor

namespace Go.Proofs.YtemanjahkohcpaaGreatDoor
open Go.RowKit WP
attribute [local go_sem ↓] Go.wp_at_zero Go.wp_at_succ
set_option maxRecDepth 100000 in
set_option maxHeartbeats 8000000 in
theorem judged_any (KL sd nc me da tg : List UInt32) (right same : Bool) (rs : List RuleD) (o : Bool) (vp : Value) (w : World) (hK : Rounds w KL) (hKR : RoundsR w KL)
    (ls : sd.length = 8) (ln : nc.length = 8) (lm : me.length = 8) (ld : da.length = 8) (lt : tg.length = 8) (hp : Rules w vp rs) (hN : rs.length ≤ 1048576) :
    Calls Tryz.prog 11 #[.agg #[vp, .bool o], .agg (claimC sd nc me da tg right same).toArray] w fun e w' => e = .returned (.bool true) ∧ Below w.heap.size w w' := by
  have h8 : ∀ r ∈ rs, r.me.length = 8 := by obtain ⟨_, _, _, _, _, h, _⟩ := hp; exact h
  have h8t := turn_eight rs h8
  have hlt := turn_len rs
  obtain ⟨cc, hcc⟩ : ∃ cc, claimC sd nc me da tg right same = cc := ⟨_, rfl⟩
  have lcc : cc.length = 42 := by rw [← hcc]; unfold claimC; simp [ls, ln, lm, ld, lt]
  have hdc := fun rs o g q n cap vp W h1 h2 h3 h4 h5 h6 h7 h8 h9 => decided_any KL sd nc me da tg right same rs o g q n cap vp W h1 h2 ls ln lm ld lt h3 h4 h5 h6 h7 h8 h9
  rw [hcc] at hdc ⊢
  obtain ⟨w1, hw1⟩ : ∃ w1, (w.alloc (.cells #[vp, .bool o] 24)).alloc (.cells cc.toArray 30) = w1 := ⟨_, rfl⟩
  have b1 : Below w.heap.size w w1 := by rw [← hw1]; exact ((Below.refl _ _).alloc (Nat.le_refl _) _).alloc (by simp) _
  have hP1 : w1.heap[w.heap.size]? = some (.cells #[vp, .bool o] 24 (0, 0)) := by
    rw [← hw1, heap_alloc_old _ _ (by simp)]; exact heap_alloc_new w _
  have hC1 : w1.heap[w.heap.size + 1]? = some (.cells cc.toArray 30 (0, 0)) := by
    rw [← hw1]
    exact (congrArg (fun k => _[k]?) (by simp)).trans (heap_alloc_new (w.alloc (.cells #[vp, .bool o] 24)) _)
  have hs1 : w1.heap.size = w.heap.size + 2 := by rw [← hw1]; simp
  have p0 : w1.cell? ⟨w.heap.size, 0, none⟩ = some vp := cell_of_row _ _ 0 _ _ _ hP1
  have p1 : w1.cell? ⟨w.heap.size, 1, none⟩ = some (.bool o) := cell_of_row _ _ 1 _ _ _ hP1
  have hA1 : ∀ W, Below w1.heap.size w1 W → W.cell? ⟨w.heap.size, 0, none⟩ = some vp ∧ W.cell? ⟨w.heap.size, 1, none⟩ = some (.bool o) ∧ W.rangeAt (w.heap.size + 1) 0 cc ∧ Rules W vp rs ∧ Rounds W KL ∧ RoundsR W KL := fun W hW =>
    ⟨cell_below p0 hW, cell_below p1 hW, rangeAt_kept (range_block hC1) (hW.block _ (by omega)), hp.below (b1.trans (hW.mono (by omega))), hK.below (b1.trans (hW.mono (by omega))), hKR.below (b1.trans (hW.mono (by omega)))⟩
  clear hP1 hC1 hp hK hKR
  replace hA1 := Lib.hid hA1; replace h8 := Lib.hid h8; replace h8t := Lib.hid h8t; replace hlt := Lib.hid hlt; replace hdc := Lib.hid hdc; replace lcc := Lib.hid lcc; replace hcc := Lib.hid hcc; replace b1 := Lib.hid b1; replace hs1 := Lib.hid hs1
  go_enter Tryz.func11, Tryz.ntmps11
  go_upto_region 1 with fail
  try rw [hw1]
  clear hw1
  obtain ⟨p0, p1, hcr, hpr, hk, hkr⟩ := hA1.out _ (Below.refl _ _)
  replace hcr := Lib.hid hcr; replace hpr := Lib.hid hpr; replace hk := Lib.hid hk; replace hkr := Lib.hid hkr
  go_wp2_with fail
  refine (plent_any rs o vp _ hpr.out hN).mono ?_
  rintro e w2 ⟨v2, C2, hC2, rfl, own2, b2⟩
  obtain ⟨aq, cap, rfl, hc1, hc2⟩ := own_shape own2
  obtain ⟨g, _, hv, hg1, hg2⟩ := own2.form (by omega)
  simp only [Value.slice.injEq, true_and] at hv
  obtain ⟨rfl, rfl⟩ := hv
  obtain ⟨q, hq⟩ : ∃ q, rs.length + 120 = q := ⟨_, rfl⟩
  rw [hq] at own2 hc1 ⊢
  obtain ⟨w3, hw3⟩ : ∃ w3, w2.alloc (Obj.cells #[.slice (some ⟨g, 0, none⟩) q cap, .bool o] 24) = w3 := ⟨_, rfl⟩
  have b3 : Below w2.heap.size w2 w3 := by rw [← hw3]; exact (Below.refl _ _).alloc (Nat.le_refl _) _
  have hQ3 : w3.heap[w2.heap.size]? = some (.cells #[.slice (some ⟨g, 0, none⟩) q cap, .bool o] 24 (0, 0)) := by rw [← hw3]; exact heap_alloc_new _ _
  have hs2 := b2.size
  have hs3 : w3.heap.size = w2.heap.size + 1 := by rw [← hw3]; simp
  have own3 := own_below own2 b3
  have B3 := b2.trans (b3.mono hs2)
  clear p0 p1 hcr hpr hk hkr b2 own2 b3
  obtain ⟨p0, p1, hcr, hpr, hk, hkr⟩ := hA1.out _ B3
  have hqa : Rules w3 (.slice (some ⟨g, 0, none⟩) q cap) (rs ++ List.replicate 120 (mkR spareB)) := (Reads.of_own own3).rules (fun r hr => by
    rcases List.mem_append.1 hr with h | h
    · exact h8.out r h
    · exact mkR_eight _ _ r h)
  have hqb : Rules w3 (.slice (some ⟨g, 0, none⟩) rs.length cap) rs := (Reads.prefix (n := rs.length) (by have h := Reads.of_own own3; rw [rulesC_append] at h; exact h) (rulesC_len rs h8.out) (by omega)).rules h8.out
  have hd1 := hdc.out rs o g q rs.length cap vp w3 hk hkr hqa hqb hpr hq.symm hc1 hc2 hN
  have q0 : w3.cell? ⟨w2.heap.size, 0, none⟩ = some (.slice (some ⟨g, 0, none⟩) q cap) := cell_of_row _ _ 0 _ _ _ hQ3
  have q1 : w3.cell? ⟨w2.heap.size, 1, none⟩ = some (.bool o) := cell_of_row _ _ 1 _ _ _ hQ3
  clear hpr hk hkr hqa hqb
  replace hd1 := Lib.hid hd1; replace own3 := Lib.hid own3; replace B3 := Lib.hid B3; replace hQ3 := Lib.hid hQ3; replace hq := Lib.hid hq
  go_upto_region 2 with fail
  try rw [hw3]
  clear hw3
  go_wp2_with (refine wpList_load_mid rfl 30 _ rfl (w.heap.size + 1) 0 rfl cc _ hcr Tryz.underlying30 rfl (by rw [lcc.out]; exact infoClm) ?_)
  refine hd1.out.mono ?_
  rintro e w4 ⟨rfl, b4⟩
  have B4 := B3.out.trans (b4.mono B3.out.size)
  have own4 := own_below own3.out b4
  have hQ4 := (b4.block _ (by omega)).trans hQ3.out
  clear p0 p1 hcr hd1 q0 q1 own3 hQ3 B3
  obtain ⟨p0, p1, hcr, hpr, hk, hkr⟩ := hA1.out _ B4
  have hs4 := b4.size
  clear hcr hk hkr b4
  replace own4 := Lib.hid own4; replace hQ4 := Lib.hid hQ4; replace B4 := Lib.hid B4; replace hpr := Lib.hid hpr
  go_wp2_with fail
  refine (turned_any rs o vp _ hpr.out hN).mono ?_
  rintro e w5 ⟨v5, C5, hC5, rfl, own5, b5⟩
  obtain ⟨a5, c5, rfl, hd1, hd2⟩ := own_shape own5
  have B5 := B4.out.trans (b5.mono B4.out.size)
  have own4' := own_below own4.out b5
  have hQ5 := (b5.block _ (by omega)).trans hQ4.out
  have hs5 := b5.size
  obtain ⟨w6, hw6⟩ : ∃ w6, w5.alloc (Obj.cells #[.slice a5 rs.length c5, .bool (!o)] 24) = w6 := ⟨_, rfl⟩
  have b6 : Below w5.heap.size w5 w6 := by rw [← hw6]; exact (Below.refl _ _).alloc (Nat.le_refl _) _
  have hR6 : w6.heap[w5.heap.size]? = some (.cells #[.slice a5 rs.length c5, .bool (!o)] 24 (0, 0)) := by rw [← hw6]; exact heap_alloc_new _ _
  have hs6 : w6.heap.size = w5.heap.size + 1 := by rw [← hw6]; simp
  have B6 := B5.trans (b6.mono B5.size)
  have own6 := own_below own4' b6
  have own5' := own_below own5 b6
  have hQ6 := (b6.block _ (by omega)).trans hQ5
  have hsrc : turnR rs = [] ∨ ∃ b off, a5 = some ⟨b, off, none⟩ ∧ b < w6.heap.size ∧ w6.rangeAt b off (rulesC (turnR rs)) := by
    obtain ⟨ao, cp, hv, _, _, h⟩ := ((Reads.of_own own5').rules h8t.out).range
    simp only [Value.slice.injEq] at hv
    obtain ⟨rfl, _, _⟩ := hv
    exact h
  have q0 : w6.cell? ⟨w2.heap.size, 0, none⟩ = some (.slice (some ⟨g, 0, none⟩) q cap) := cell_of_row _ _ 0 _ _ _ hQ6
  have r0 : w6.cell? ⟨w5.heap.size, 0, none⟩ = some (.slice a5 rs.length c5) := cell_of_row _ _ 0 _ _ _ hR6
  rw [rulesC_append] at own6
  have lt5 := fun k hk => own5'.lt k hk
  clear hQ4 hQ5 own4 own4' B4 B5 b5 own5 b6 p0 p1
  replace own6 := Lib.hid own6; replace own5' := Lib.hid own5'; replace hQ6 := Lib.hid hQ6; replace hR6 := Lib.hid hR6; replace B6 := Lib.hid B6; replace hsrc := Lib.hid hsrc; replace hpr := Lib.hid hpr; replace lt5 := Lib.hid lt5
  go_upto_region 5 with fail
  try rw [hw6]
  clear hw6
  go_wp2_with (refine wpList_copy_rules _ rfl _ _ 22 22 rfl C2 67 Tryz.underlying22 info42 g q cap a5 c5 rs (turnR rs) (rulesC (List.replicate 120 (mkR spareB))) rfl (by rw [hlt.out]; rfl) own6.out hlt.out h8.out h8t.out (by have := hq.out; omega) hsrc.out ?_)
  intro w7 own7 hT7
  have ne : ∀ k, k ≠ g → ∀ s ∈ [Value.slice (some ⟨g, 0, none⟩) q cap], s.ownBlock ≠ some k := fun k hk s hs e => by rw [List.mem_singleton.1 hs] at e; simp only [Value.ownBlock, Option.some.injEq] at e; exact hk e.symm
  have h61 := B6.out.size
  have hbk : ∀ k, k < w6.heap.size → k ≠ g → w7.heap[k]? = w6.heap[k]? := fun k hk hne => hT7.block k hk (ne k hne)
  have hQ7 := (hbk w2.heap.size (by omega) (by omega)).trans hQ6.out
  have hR7 := (hbk w5.heap.size (by omega) (by omega)).trans hR6.out
  have B7 := B6.out.trans (hT7.below (B := w1.heap.size) (by omega) (fun v hv k hk => by rw [List.mem_singleton.1 hv] at hk; simp only [Value.ownBlock, Option.some.injEq] at hk; omega))
  have own57 := hT7.own own5'.out (fun s hs k k1 k2 => by
    rw [List.mem_singleton.1 hs] at k2; simp only [Value.ownBlock, Option.some.injEq] at k2
    have := (lt5.out k k1).1; omega)
  have q0 : w7.cell? ⟨w2.heap.size, 0, none⟩ = some (.slice (some ⟨g, 0, none⟩) q cap) := cell_of_row _ _ 0 _ _ _ hQ7
  have q1 : w7.cell? ⟨w2.heap.size, 1, none⟩ = some (.bool o) := cell_of_row _ _ 1 _ _ _ hQ7
  have qf := frozen_of_row w7 w2.heap.size 1 _ _ hQ7
  have r1 : w7.cell? ⟨w5.heap.size, 1, none⟩ = some (.bool (!o)) := cell_of_row _ _ 1 _ _ _ hR7
  obtain ⟨w8, hw8⟩ : ∃ w8, w7.setCell ⟨w2.heap.size, 1, none⟩ (.bool (!o)) = w8 := ⟨_, rfl⟩
  have hs7 := hT7.size
  have hQ8 := heap_setCell_same w7 w2.heap.size 1 _ _ (.bool (!o)) hQ7
  have hR8 := (Below.heap_setCell w7 ⟨w2.heap.size, 1, none⟩ (.bool (!o)) w5.heap.size (by show w5.heap.size ≠ w2.heap.size; omega)).trans hR7
  have B8 := B7.setCell (p := ⟨w2.heap.size, 1, none⟩) (by show w1.heap.size ≤ w2.heap.size; omega) (.bool (!o))
  have own8 := ownsRow_setCell_other own7 (a := ⟨w2.heap.size, 1, none⟩) (by simp [Value.ownBlock]; omega) (.bool (!o))
  have own58 := ownsRow_setCell_other own57 (a := ⟨w2.heap.size, 1, none⟩) (by intro e; have := (lt5.out _ e).1; simp at this; omega) (.bool (!o))
  rw [hw8] at hQ8 hR8 B8 own8 own58
  obtain ⟨p0, p1, hcr, hpr', hk, hkr⟩ := hA1.out _ B8
  have y0 : w8.cell? ⟨w2.heap.size, 0, none⟩ = some (.slice (some ⟨g, 0, none⟩) q cap) := cell_of_row _ _ 0 _ _ _ hQ8
  have y1 : w8.cell? ⟨w2.heap.size, 1, none⟩ = some (.bool (!o)) := cell_of_row _ _ 1 _ _ _ hQ8
  have z0 : w8.cell? ⟨w5.heap.size, 0, none⟩ = some (.slice a5 rs.length c5) := cell_of_row _ _ 0 _ _ _ hR8
  have z1 : w8.cell? ⟨w5.heap.size, 1, none⟩ = some (.bool (!o)) := cell_of_row _ _ 1 _ _ _ hR8
  have hqa : Rules w8 (.slice (some ⟨g, 0, none⟩) q cap) (turnR rs ++ List.replicate 120 (mkR spareB)) := (Reads.of_own (by rw [rulesC_append]; exact own8)).rules (fun r hr => by
    rcases List.mem_append.1 hr with h | h
    · exact h8t.out r h
    · exact mkR_eight _ _ r h)
  have hqb : Rules w8 (.slice (some ⟨g, 0, none⟩) (turnR rs).length cap) (turnR rs) := (Reads.prefix (Reads.of_own own8) (rulesC_len _ h8t.out) (by have := hlt.out; have := hq.out; omega)).rules h8t.out
  have hd2 := hdc.out (turnR rs) (!o) g q (turnR rs).length cap (.slice a5 rs.length c5) w8 hk hkr hqa hqb ((Reads.of_own own58).rules h8t.out) (by rw [hlt.out]; exact hq.out.symm) hc1 hc2 (by rw [hlt.out]; exact hN)
  clear own7 hT7 ne hbk hQ7 hR7 B7 own57 hQ8 hR8 own8 own58 hpr' hk hkr hqa hqb own6 own5' hQ6 hR6 B6 hsrc lt5 r0
  replace hd2 := Lib.hid hd2; replace B8 := Lib.hid B8
  go_upto_region 7 with fail
  try rw [hw8]
  clear hw8 q0 q1 qf r1
  go_wp2_with (refine wpList_load_mid rfl 30 _ rfl (w.heap.size + 1) 0 rfl cc _ hcr Tryz.underlying30 rfl (by rw [lcc.out]; exact infoClm) ?_)
  refine hd2.out.mono ?_
  rintro e w9 ⟨rfl, b9⟩
  go_wp2_with fail
  go_ret
  exact ⟨rfl, b1.out.trans ((B8.out.trans (b9.mono B8.out.size)).mono (by have := hs1.out; omega))⟩
end Go.Proofs.YtemanjahkohcpaaGreatDoor

namespace Go.Proofs.YtemanjahkohcpaaGreatDoor
open Go.RowKit WP
set_option maxRecDepth 100000 in
set_option maxHeartbeats 4000000 in
theorem marked_any (base : Nat) (v : Value) (rs : List RuleD) (n : Nat) (m : ByteArray) (w : World) (ho : w.ownsRow base 67 10 v n (rulesC rs)) (hn : rs.length = n) (h8 : ∀ r ∈ rs, r.me.length = 8) :
    Calls Tryz.prog 8 #[v, .string m] w fun e w' => e = .returned v ∧ w'.ownsRow base 67 10 v n (rulesC (List.replicate n (mkR m))) ∧ Touch [v] w w' := by
  obtain ⟨ao, ca, rfl, p1, p2⟩ := own_shape ho
  replace ho := Lib.hid ho; replace hn := Lib.hid hn; replace h8 := Lib.hid h8
  go_enter Tryz.func8, Tryz.ntmps8
  go_wp2_with fail
  go_loopw [5] (fun i wr => ∃ k : Nat, k ≤ n ∧ i = .int .i64 (k : Int) ∧ wr.ownsRow base 67 10 (.slice ao n ca) n (rulesC (List.replicate k (mkR m) ++ rs.drop k)) ∧ Touch [.slice ao n ca] w wr) (fun i _ => n - (intOf i).toNat)
  case atStart => exact ⟨0, by omega, rfl, by simpa using ho.out, Touch.refl _ _⟩
  case round =>
    obtain ⟨k, hk, rfl, ok, hT⟩ := hrel
    by_cases hlt : k < n
    · have hkl : k < rs.length := by rw [hn.out]; exact hlt
      obtain ⟨g, _, hv, hg1, hg2⟩ := ok.form (by omega)
      simp only [Value.slice.injEq, true_and] at hv
      obtain ⟨rfl, rfl⟩ := hv
      rw [List.drop_eq_getElem_cons hkl] at ok
      have hall : ∀ r ∈ List.replicate k (mkR m) ++ rs[k] :: rs.drop (k + 1), r.me.length = 8 := by
        intro r hr
        rcases List.mem_append.1 hr with hr | hr
        · exact mkR_eight m k r hr
        · rcases List.mem_cons.1 hr with hr | hr
          · rw [hr]; exact h8.out _ (List.getElem_mem _)
          · exact h8.out _ (List.mem_of_mem_drop hr)
      have hst := store10 ok (List.length_replicate ..) hall (mkR m) rfl
      have hrk : wr.rangeAt g (k * 10) (ruleC rs[k]) := by
        have h1 := (Reads.of_own ok).rule hall k (by simp; omega)
        rw [List.getElem_append_right (by simp)] at h1
        simpa using h1
      obtain ⟨c0, c1, c2, c3, c4, c5, c6, c7, c8, c9⟩ := cells_rule hrk (h8.out _ (List.getElem_mem _))
      have fz := fun j => ok.frozenAt j
      have hre : List.replicate k (mkR m) ++ mkR m :: rs.drop (k + 1) = List.replicate (k + 1) (mkR m) ++ rs.drop (k + 1) := by rw [List.replicate_succ', List.append_assoc]; rfl
      rw [hre] at hst
      obtain ⟨hs1, hs2⟩ := hst
      unfold setR at hs1 hs2
      have hT2 := hT.trans hs2
      simp only [mkR] at hs1 hs2 hT2
      have w0 : wAt (List.replicate 8 0) 0 = 0 := rfl
      have w1 : wAt (List.replicate 8 0) 1 = 0 := rfl
      have w2 : wAt (List.replicate 8 0) 2 = 0 := rfl
      have w3 : wAt (List.replicate 8 0) 3 = 0 := rfl
      have w4 : wAt (List.replicate 8 0) 4 = 0 := rfl
      have w5 : wAt (List.replicate 8 0) 5 = 0 := rfl
      have w6 : wAt (List.replicate 8 0) 6 = 0 := rfl
      have w7 : wAt (List.replicate 8 0) 7 = 0 := rfl
      simp only [w0, w1, w2, w3, w4, w5, w6, w7] at hs1 hT2
      clear ok hall hrk hre hT hs2 w0 w1 w2 w3 w4 w5 w6 w7
      replace hs1 := Lib.hid hs1; replace hT2 := Lib.hid hT2
      go_wp2_with fail
      go_roundw
      case rel => exact ⟨k + 1, by omega, by go_num, hs1.out, hT2.out⟩
      case measure => simp [intOf]; omega
    · obtain rfl : k = n := by omega
      rw [List.drop_of_length_le (by rw [hn.out]; exact Nat.le_refl _), List.append_nil] at ok
      replace ok := Lib.hid ok; replace hT := Lib.hid hT
      go_wp2_with fail
      go_ret
      exact ⟨rfl, ok.out, hT.out⟩
theorem bears_any (v : Value) (n : Nat) (m : ByteArray) (w : World) (h : Reads w 10 v n (rulesC (List.replicate n (mkR m)))) :
    Calls Tryz.prog 10 #[v, .string m] w fun e w' => e = .returned (.bool true) ∧ w' = w := by
  obtain ⟨ao, ca, rfl, p1, p2⟩ := h.shape
  replace h := Lib.hid h
  go_enter Tryz.func10, Tryz.ntmps10
  go_wp2_with fail
  go_loopw [5] (fun i wr => ∃ k : Nat, k ≤ n ∧ i = .int .i64 (k : Int) ∧ wr = w) (fun i _ => n - (intOf i).toNat)
  case atStart => exact ⟨0, by omega, rfl, rfl⟩
  case round =>
    obtain ⟨k, hk, rfl, rfl⟩ := hrel
    by_cases hlt : k < n
    · obtain ⟨g, _, hv, hg, hx, hy, hcell⟩ := h.out.cellAt (by omega)
      simp only [Value.slice.injEq, true_and] at hv
      obtain ⟨rfl, rfl⟩ := hv
      have hrk := h.out.rule (mkR_eight m n) k (by simpa using hlt)
      rw [List.getElem_replicate] at hrk
      have c1 : wr.cell? ⟨g, k * 10 + 1, none⟩ = some (.string m) := hrk 1 _ rfl
      have i1 : (0 : Int) ≤ (k : Int) := by omega
      have i2 : (k : Int) < (n : Int) := by omega
      clear hcell hrk
      go_wp2_with fail
      go_roundw
      case rel => exact ⟨k + 1, by omega, by go_num, trivial⟩
      case measure => simp [intOf]; omega
    · obtain rfl : k = n := by omega
      go_wp2_with fail
      go_ret
      exact ⟨rfl, rfl⟩
set_option maxRecDepth 100000 in
set_option maxHeartbeats 4000000 in
theorem grown_any (base : Nat) (v : Value) (n : Nat) (m : ByteArray) (w : World) (ho : w.ownsRow base 67 10 v n (rulesC (List.replicate n (mkR m)))) (hb : base ≤ w.heap.size) (hn : n ≤ 1048576) :
    Calls Tryz.prog 9 #[v, .string m] w fun e w' => ∃ v', e = .returned v' ∧ w'.ownsRow base 67 10 v' (n + 80) (rulesC (List.replicate (n + 80) (mkR m))) ∧ Reads w' 10 v n (rulesC (List.replicate n (mkR m))) ∧ Touch [v] w w' ∧ Near w v v' := by
  obtain ⟨iR, zR, hiR, hzR0, hzR1, hzR2, hzR3⟩ := infoR_parts
  have hlit := mkR_lit m
  have hrd := Reads.of_own ho
  replace ho := Lib.hid ho; replace hrd := Lib.hid hrd; replace hlit := Lib.hid hlit
  go_enter Tryz.func9, Tryz.ntmps9
  go_wp2_with fail
  go_loopw [0, 5] (fun vv i wr => ∃ k : Nat, k ≤ 80 ∧ i = .int .i64 (k : Int) ∧ wr.ownsRow base 67 10 vv (n + k) (rulesC (List.replicate (n + k) (mkR m))) ∧ Reads wr 10 v n (rulesC (List.replicate n (mkR m))) ∧ Touch [v] w wr ∧ Near w v vv) (fun _ i _ => 80 - (intOf i).toNat)
  case atStart => exact ⟨0, by omega, rfl, by simpa using ho.out, hrd.out, Touch.refl _ _, Near.refl _ _⟩
  case round =>
    obtain ⟨wo, rfl⟩ : ∃ wo, wo = wr := ⟨wr, rfl⟩
    obtain ⟨vv, rfl⟩ : ∃ b, b = u0 := ⟨u0, rfl⟩
    obtain ⟨k, hk, rfl, ok, hR, hT, hN⟩ := hrel
    have hs := hT.size
    by_cases hlt : k < 80
    · replace ok := Lib.hid ok; replace hR := Lib.hid hR; replace hT := Lib.hid hT; replace hN := Lib.hid hN
      go_wp2_with (at_builtin; refine wpList_append_still _ rfl _ _ 22 rfl base 67 iR zR 10 56 Tryz.underlying22 hiR hzR0 hzR1 hzR2 hzR3 (by decide) _ (n + k) (rulesC (List.replicate (n + k) (mkR m))) rfl (ok.out.alloc _) ⟨wo.heap.size, 0, none⟩ 1 1 [.bool false, .string m, .int .u32 0, .int .u32 0, .int .u32 0, .int .u32 0, .int .u32 0, .int .u32 0, .int .u32 0, .int .u32 0] rfl rfl (cells_new _ _ _ _) ?k2 ?k3 ?k4 ?k5 ?_)
      case k2 => simp [Value.oneCell']
      case k3 => simp only [maxLen]; omega
      case k4 => omega
      case k5 => simp; omega
      intro v7 w7 ho7 hO7 hR7
      have bal : Below wo.heap.size wo (wo.alloc (.cells #[.bool false, .string m, .int .u32 0, .int .u32 0, .int .u32 0, .int .u32 0, .int .u32 0, .int .u32 0, .int .u32 0, .int .u32 0] 67)) := (Below.refl _ _).alloc (Nat.le_refl _) _
      have ho8 : w7.ownsRow base 67 10 v7 (n + (k + 1)) (rulesC (List.replicate (n + (k + 1)) (mkR m))) := by
        rw [show n + (k + 1) = n + k + 1 by omega, List.replicate_succ', rulesC_append, show rulesC [mkR m] = ruleC (mkR m) by simp [rulesC], hlit.out]; exact ho7
      have hT1 := hT.out.trans (Touch.of_below (S := [v]) bal)
      have hR8 : Reads w7 10 v n (rulesC (List.replicate n (mkR m))) := Reads.onto (hR.out.later bal) (by rw [← rulesC_append, List.replicate_append_replicate]; exact hR7) hO7 (ys := rulesC (List.replicate k (mkR m)))
      have hT8 := hT1.near hN.out hO7
      have hN8 := hN.out.onto hO7 hT1.size
      clear ho7 hO7 hR7 bal hT1 ok hR hT hN
      replace ho8 := Lib.hid ho8; replace hR8 := Lib.hid hR8; replace hT8 := Lib.hid hT8; replace hN8 := Lib.hid hN8
      go_wp2_with fail
      go_roundw
      case rel => exact ⟨k + 1, by omega, by go_num, ho8.out, hR8.out, hT8.out, hN8.out⟩
      case measure => simp [intOf]; omega
    · obtain rfl : k = 80 := by omega
      replace ok := Lib.hid ok; replace hR := Lib.hid hR; replace hT := Lib.hid hT; replace hN := Lib.hid hN
      go_wp2_with fail
      go_ret
      exact ⟨_, rfl, ok.out, hR.out, hT.out, hN.out⟩
end Go.Proofs.YtemanjahkohcpaaGreatDoor
