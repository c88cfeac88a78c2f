/- The contract of the law's hold: three rows are written over and appended to. -/
import Derived.Test.YtefbogmgcihndaaDoorJn37
import Derived.BigQuiet
import Derived.Deep.RegionHeld3
import Derived.Deep.DrawnRows
namespace Go.Proofs.YtefbogmgcihndaaDoor
open Go.RowKit WP
attribute [local go_sem ↓] Go.wp_at_zero Go.wp_at_succ
theorem hcvM (m : UInt8) (W : World) : (convert 24 9 (.slice (some ⟨W.heap.size, 0, none⟩) 2 2)).run Tryd.prog (W.alloc (.cells #[.int .u8 109, .int .u8 (m.toNat : Int)] 5)) = .ok (.string (markS m)) (W.alloc (.cells #[.int .u8 109, .int .u8 (m.toNat : Int)] 5)) := by
  have h : Rd (W.alloc (.cells #[.int .u8 109, .int .u8 (m.toNat : Int)] 5)) (.slice (some ⟨W.heap.size, 0, none⟩) 2 2) (vb [109, m]) := by
    refine ⟨_, 2, rfl, Nat.le_refl _, by decide, .inr ⟨W.heap.size, 0, rfl, fun j u hu => ?_⟩⟩
    have := cells_new W (vb [109, m]) 5 (0, 0) j u hu
    have hadd : (⟨W.heap.size, 0, none⟩ : Addr).add j = ⟨W.heap.size, 0 + j, none⟩ := by unfold Addr.add; split <;> simp_all
    rw [hadd] at this
    exact this
  exact conv_bytes (P := Tryd.prog) h 24 5 9 Tryd.underlying24 Tryd.underlying5 Tryd.underlying9
theorem ww_rep (x : W) (k : Nat) : ww (List.replicate (k + 1) x) = ww (List.replicate k x) ++ [.string x.1, .bool x.2.1, .int .i64 (x.2.2 : Int)] := by
  rw [List.replicate_succ', ww_append]; rfl
def fillW (x : W) (ys : List Value) (k : Nat) : List Value := ww (List.replicate k x) ++ ys.drop (k * 3)
theorem set_fillW (x : W) (ys : List Value) (k : Nat) (h : k * 3 + 2 < ys.length) : (((fillW x ys k).set (k * 3) (.string x.1)).set (k * 3 + 1) (.bool x.2.1)).set (k * 3 + 2) (.int .i64 (x.2.2 : Int)) = fillW x ys (k + 1) := by
  unfold fillW
  have hl : (ww (List.replicate k x)).length = k * 3 := by rw [ww_length, List.length_replicate]
  rw [ww_rep, List.set_append_right _ _ (by omega), List.set_append_right _ _ (by omega), List.set_append_right _ _ (by omega), hl, List.append_assoc, show (k + 1) * 3 = k * 3 + 3 by omega]
  congr 1
  rw [List.drop_eq_getElem_cons (by omega : k * 3 < ys.length), List.drop_eq_getElem_cons (by omega : k * 3 + 1 < ys.length), List.drop_eq_getElem_cons (by omega : k * 3 + 1 + 1 < ys.length)]
  rw [Nat.sub_self, show k * 3 + 1 - k * 3 = 1 by omega, show k * 3 + 2 - k * 3 = 2 by omega]
  rfl
theorem get_fillW (x : W) (ys : List Value) (k j : Nat) (h : k * 3 + j < ys.length) : ∃ y, (fillW x ys k)[k * 3 + j]? = some y :=
  ⟨_, List.getElem?_eq_getElem (by unfold fillW; rw [List.length_append, ww_length, List.length_replicate, List.length_drop]; omega)⟩
theorem fillW_all (x : W) (ys : List Value) (k : Nat) (h : ys.length = k * 3) : fillW x ys k = ww (List.replicate k x) := by
  unfold fillW; rw [List.drop_of_length_le (by omega), List.append_nil]
def heldZ : Array Value := #[.slice none 0 0, .slice none 0 0, .slice none 0 0, .slice none 0 0, .slice none 0 0, .slice none 0 0, .int .u8 0]
/-- behind the three appends -/
theorem hold_end {base : Nat} {w w4 w6 w7 w8 : World} {l wv b v1 v2 v3 : Value} {n q p : Nat} (m : UInt8) (hnb : ∀ v ∈ [l, wv, b], ∀ k, v.ownBlock = some k → k < w.heap.size) (f1 : Far l wv) (f2 : Far l b) (f3 : Far wv b) (hs : w.heap.size + 3 ≤ w4.heap.size)
    (T1 : Touch [l] w4 w6) (T2 : Touch [wv] w6 w7) (T3 : Touch [b] w7 w8) (N1 : Near w4 l v1) (N2 : Near w4 wv v2) (N3 : Near w4 b v3)
    (q1 : w6.ownsRow base 9 1 v1 (n + 1) (List.replicate n (.string (markS m)) ++ [.string (markS m)])) (q2 : w7.ownsRow base 30 3 v2 (q + 1) (ww (List.replicate q (markS m, false, m.toNat)) ++ [.string (markS m), .bool false, .int .i64 (m.toNat : Int)])) (q3 : w8.ownsRow base 5 1 v3 (p + 1) (List.replicate p (.int .u8 (m.toNat : Int)) ++ [.int .u8 (m.toNat : Int)]))
    (R1 : Reads w6 1 l n (List.replicate n (.string (markS m)))) (R2 : Reads w7 3 wv q (ww (List.replicate q (markS m, false, m.toNat)))) (R3 : Reads w8 1 b p (List.replicate p (.int .u8 (m.toNat : Int))))
    (hR : w4.heap[w.heap.size]? = some (.cells heldZ 50 (0, 0))) :
    EntRead w8 ⟨l, v1, wv, v2, b, v3, (m.toNat : Int)⟩ ∧ (∀ c, c < 6 → w8.cell? ⟨w.heap.size, c, none⟩ = some (.slice none 0 0)) ∧ w8.cell? ⟨w.heap.size, 6, none⟩ = some (.int .u8 0) ∧ (∀ c, w8.frozen? ⟨w.heap.size, c, none⟩ = false) ∧
      Touch [l, wv, b] w4 w8 ∧ (∀ x ∈ [l, v1, wv, v2, b, v3], x.ownBlock ≠ some w.heap.size) ∧ Near w l v1 ∧ Near w wv v2 ∧ Near w b v3 := by
  have lt4 : ∀ v ∈ [l, wv, b], ∀ k, v.ownBlock = some k → k < w4.heap.size := fun v hv k hk => by have := hnb v hv k hk; omega
  have fb1 : Far v1 b := N1.far f2 (lt4 b (by simp))
  have fw1 : Far v1 wv := N1.far f1 (lt4 wv (by simp))
  have fb2 : Far v2 b := N2.far f3 (lt4 b (by simp))
  have one : ∀ {y : Value} {s : Value}, Far y s → ∀ t ∈ [s], Far y t := fun h t ht => by rw [List.mem_singleton.1 ht]; exact h
  have w18 : ∀ {S S' : List Value} {a b : World}, Touch S a b → (∀ x ∈ S, x ∈ S') → Touch S' a b := fun h hS => ⟨h.os, h.tape, h.output, h.size, fun k hk hf => h.block k hk fun v hv => hf v (hS v hv)⟩
  have TT : Touch [l, wv, b] w4 w8 := by
    exact ((w18 T1 (by simp)).trans (w18 T2 (by simp))).trans (w18 T3 (by simp))
  have hR8 : w8.heap[w.heap.size]? = some (.cells heldZ 50 (0, 0)) :=
    (TT.block _ (by omega) (fun v hv e => by have := hnb v hv _ e; omega)).trans hR
  have up : ∀ {x y : Value}, Near w4 x y → Near w x y := fun h => h.imp id fun h k hk => by have := h k hk; omega
  have nw : ∀ {x y : Value}, x ∈ [l, wv, b] → Near w4 x y → y.ownBlock ≠ some w.heap.size := fun hx h e => by
    rcases h with h | h
    · rw [h] at e; have := hnb _ hx _ e; omega
    · have := h _ e; omega
  have rep : ∀ (n : Nat) (x : Value), List.replicate n x ++ [x] = List.replicate (n + 1) x := fun n x => (List.replicate_succ').symm
  rw [rep] at q1 q3
  rw [← ww_rep (markS m, false, m.toNat) q] at q2
  refine ⟨⟨m, n, q, p, rfl, ?_, ?_, ?_, ?_, R3, Reads.of_own q3⟩, fun c hc => ?_, cell_of_row w8 _ 6 _ _ _ hR8, fun c => frozen_of_row w8 _ c _ _ hR8, TT, ?_, up N1, up N2, up N3⟩
  · exact (R1.touch T2 (one f1)).touch T3 (one f2)
  · exact ((Reads.of_own q1).touch T2 (one fw1)).touch T3 (one fb1)
  · exact R2.touch T3 (one f3)
  · exact (Reads.of_own q2).touch T3 (one fb2)
  · rw [cell_of_row w8 _ c _ _ _ hR8]
    match c, hc with
    | 0, _ => rfl
    | 1, _ => rfl
    | 2, _ => rfl
    | 3, _ => rfl
    | 4, _ => rfl
    | 5, _ => rfl
    | c + 6, h => exact absurd h (by omega)
  · intro x hx
    simp only [List.mem_cons, List.not_mem_nil, or_false] at hx
    rcases hx with rfl | rfl | rfl | rfl | rfl | rfl
    · exact nw (by simp) (Near.refl _ _)
    · exact nw (by simp) N1
    · exact nw (by simp) (Near.refl _ _)
    · exact nw (by simp) N2
    · exact nw (by simp) (Near.refl _ _)
    · exact nw (by simp) N3
/-- behind the store into the result -/
theorem hold_fin {w w1 w4 w8 : World} {l wv b v1 v2 v3 : Value} {k : Int} {S : List Value} (a0 a1 a2 a3 a4 a5 a6 : Value) (hb1 : Below w.heap.size w w1) (t1 : Touch S w1 w4) (TT : Touch S w4 w8) (hE : EntRead w8 ⟨l, v1, wv, v2, b, v3, k⟩) (hR : ∀ x ∈ [l, v1, wv, v2, b, v3], x.ownBlock ≠ some w.heap.size) :
    EntRead (((((((w8.setCell ⟨w.heap.size, 0, none⟩ a0).setCell ⟨w.heap.size, 1, none⟩ a1).setCell ⟨w.heap.size, 2, none⟩ a2).setCell ⟨w.heap.size, 3, none⟩ a3).setCell ⟨w.heap.size, 4, none⟩ a4).setCell ⟨w.heap.size, 5, none⟩ a5).setCell ⟨w.heap.size, 6, none⟩ a6) ⟨l, v1, wv, v2, b, v3, k⟩ ∧
    Touch S w (((((((w8.setCell ⟨w.heap.size, 0, none⟩ a0).setCell ⟨w.heap.size, 1, none⟩ a1).setCell ⟨w.heap.size, 2, none⟩ a2).setCell ⟨w.heap.size, 3, none⟩ a3).setCell ⟨w.heap.size, 4, none⟩ a4).setCell ⟨w.heap.size, 5, none⟩ a5).setCell ⟨w.heap.size, 6, none⟩ a6) := by
  have one : ∀ (W : World) (c : Nat) (a : Value), Touch [.slice (some ⟨w.heap.size, 0, none⟩) 0 0] W (W.setCell ⟨w.heap.size, c, none⟩ a) := fun W c a =>
    ⟨rfl, rfl, rfl, by simp [World.setCell], fun k _ hf => Below.heap_setCell _ _ _ _ (fun e => hf _ (List.mem_singleton_self _) (by rw [e]; rfl))⟩
  have all := ((((((one w8 0 a0).trans (one _ 1 a1)).trans (one _ 2 a2)).trans (one _ 3 a3)).trans (one _ 4 a4)).trans (one _ 5 a5)).trans (one _ 6 a6)
  refine ⟨hE.touch all fun y hy s hs k k1 k2 => ?_, ?_⟩
  · rw [List.mem_singleton.1 hs] at k2
    simp only [Value.ownBlock, Option.some.injEq] at k2
    exact hR y hy (by rw [k1, ← k2])
  · have t8 : Touch S w w8 := ((Touch.of_below hb1).trans t1).trans TT
    exact ⟨all.os.trans t8.os, all.tape.trans t8.tape, all.output.trans t8.output, Nat.le_trans t8.size all.size, fun k hk hf => (all.block k (Nat.lt_of_lt_of_le hk t8.size) fun v hv e => by rw [List.mem_singleton.1 hv] at e; simp only [Value.ownBlock, Option.some.injEq] at e; omega).trans (t8.block k hk hf)⟩
set_option maxRecDepth 100000 in
set_option maxHeartbeats 40000000 in
theorem hold_any (base : Nat) (l wv b : Value) (n q p : Nat) (xs ys zs : List Value) (m : UInt8) (w : World) (hl : w.ownsRow base 9 1 l n xs) (hw : w.ownsRow base 30 3 wv q ys) (hb : w.ownsRow base 5 1 b p zs)
    (f1 : Far l wv) (f2 : Far l b) (f3 : Far wv b) (n1 : n ≤ 4294967296) (n2 : q ≤ 4294967296) (n3 : p ≤ 4294967296) (hbs : base ≤ w.heap.size) :
    Calls Tryd.prog 17 #[l, wv, b, .int .u8 (m.toNat : Int)] w fun e w' => ∃ t : Ent, e = .returned (.agg t.cells.toArray) ∧ t.l = l ∧ t.w = wv ∧ t.b = b ∧ EntRead w' t ∧ Touch [l, wv, b] w w' ∧ Near w l t.ml ∧ Near w wv t.mw ∧ Near w b t.mb := by
  have hcv := hcvM m (w.alloc (.cells #[.slice none 0 0, .slice none 0 0, .slice none 0 0, .slice none 0 0, .slice none 0 0, .slice none 0 0, .int .u8 0] 50))
  rw [show (w.alloc (.cells #[.slice none 0 0, .slice none 0 0, .slice none 0 0, .slice none 0 0, .slice none 0 0, .slice none 0 0, .int .u8 0] 50)).heap.size = w.heap.size + 1 by simp] at hcv
  obtain ⟨o1, c1, rfl, a1, a2⟩ := own_shape hl
  obtain ⟨o2, c2, rfl, a3, a4⟩ := own_shape hw
  obtain ⟨o3, c3, rfl, a5, a6⟩ := own_shape hb
  have hmt := m.toNat_lt
  have hnb : ∀ v ∈ [Value.slice o1 n c1, .slice o2 q c2, .slice o3 p c3], ∀ k, v.ownBlock = some k → k < w.heap.size := by
    intro v hv k hk
    simp only [List.mem_cons, List.not_mem_nil, or_false] at hv
    rcases hv with rfl | rfl | rfl
    · exact (hl.lt k hk).2
    · exact (hw.lt k hk).2
    · exact (hb.lt k hk).2
  replace hnb := Lib.hid hnb
  replace hl := Lib.hid hl; replace hw := Lib.hid hw; replace hb := Lib.hid hb; replace f1 := Lib.hid f1; replace f2 := Lib.hid f2; replace f3 := Lib.hid f3
  go_enter Tryd.func17, Tryd.ntmps17
  go_wp2_with fail
  obtain ⟨w1, hw1⟩ : ∃ w1, ((w.alloc (Obj.cells #[Value.slice none 0 0, Value.slice none 0 0, Value.slice none 0 0, Value.slice none 0 0, Value.slice none 0 0, Value.slice none 0 0, Value.int IntKind.u8 0] 50)).alloc (Obj.cells #[Value.int IntKind.u8 109, Value.int IntKind.u8 (m.toNat : Int)] 5)).alloc
      (Obj.cells #[Value.string (markS m), Value.bool false, Value.int IntKind.i64 (m.toNat : Int)] 30) = w1 := ⟨_, rfl⟩
  have hb1 : Below w.heap.size w w1 := by rw [← hw1]; exact (((Below.refl _ _).alloc (Nat.le_refl _) _).alloc (by simp) _).alloc (by simp; omega) _
  have hR1 : w1.heap[w.heap.size]? = some (.cells #[Value.slice none 0 0, Value.slice none 0 0, Value.slice none 0 0, Value.slice none 0 0, Value.slice none 0 0, Value.slice none 0 0, Value.int IntKind.u8 0] 50 (0, 0)) := by
    rw [← hw1, Below.heap_alloc _ _ _ (by simp; omega), Below.heap_alloc _ _ _ (by simp)]; exact heap_alloc_new _ _
  have hX1 : w1.heap[w.heap.size + 1 + 1]? = some (.cells #[Value.string (markS m), Value.bool false, Value.int IntKind.i64 (m.toNat : Int)] 30 (0, 0)) := by
    rw [← hw1]
    exact (congrArg (fun k => _[k]?) (by simp)).trans (heap_alloc_new ((w.alloc (Obj.cells #[Value.slice none 0 0, Value.slice none 0 0, Value.slice none 0 0, Value.slice none 0 0, Value.slice none 0 0, Value.slice none 0 0, Value.int IntKind.u8 0] 50)).alloc (Obj.cells #[Value.int IntKind.u8 109, Value.int IntKind.u8 (m.toNat : Int)] 5)) _)
  rw [hw1]
  clear hcv hw1
  replace hb1 := Lib.hid hb1
  have ol := Lib.hid (own_below hl.out hb1.out)
  have hs1 := hb1.out.size
  have hxl : xs.length = n := by simpa using hl.out.1
  have hyl : ys.length = q * 3 := by simpa using hw.out.1
  have hzl : zs.length = p := by simpa using hb.out.1
  replace hxl := Lib.hid hxl; replace hyl := Lib.hid hyl; replace hzl := Lib.hid hzl
  replace hR1 := Lib.hid hR1; replace hX1 := Lib.hid hX1
  go_loopw [11] (fun j wr => ∃ k : Nat, k ≤ n ∧ j = .int .i64 k ∧ wr.ownsRow base 9 1 (.slice o1 n c1) n (List.replicate k (.string (markS m)) ++ xs.drop k) ∧ Touch [.slice o1 n c1, .slice o2 q c2, .slice o3 p c3] w1 wr ∧ Touch [.slice o1 n c1] w1 wr) (fun j _ => n - (intOf j).toNat)
  case atStart => exact ⟨0, by omega, rfl, by simpa using ol.out, Touch.refl _ _, Touch.refl _ _⟩
  case round =>
    obtain ⟨k, hk, rfl, oq, t1, t2⟩ := hrel
    by_cases hlt : k < n
    · obtain ⟨g1, _, hv, _, _⟩ := oq.form (by omega)
      simp only [Value.slice.injEq, true_and] at hv
      obtain ⟨rfl, rfl⟩ := hv
      obtain ⟨y, hy⟩ := get_fill (.string (markS m)) xs k (by rw [hxl.out]; exact hlt)
      have hcq := (oq.cellAt k (by omega)).trans hy
      have hfq := oq.frozenAt k
      have hst := oq.stored k (.string (markS m))
      rw [set_fill _ _ _ (by rw [hxl.out]; exact hlt)] at hst
      replace hst := Lib.hid hst; replace t1 := Lib.hid t1; replace t2 := Lib.hid t2
      clear oq hy
      go_wp2_with fail
      refine ⟨⟨k + 1, by omega, by go_num, hst.out.1, t1.out.trans (Touch.grown (v := .slice (some ⟨g1, 0, none⟩) n c1) hst.out.2 (by simp)), t2.out.trans (Touch.grown (v := .slice (some ⟨g1, 0, none⟩) n c1) hst.out.2 (by simp))⟩, by simp [intOf]; omega⟩
    · obtain rfl : k = n := by omega
      rw [fill_all _ _ _ hxl.out] at oq
      obtain ⟨w2, rfl⟩ : ∃ w2, w2 = wr := ⟨wr, rfl⟩
      have ow2 := t2.own (own_below hw.out hb1.out) (fun s hs => by rw [List.mem_singleton.1 hs]; exact f1.out.symm)
      have hX2 := t1.block _ (Array.getElem?_eq_some_iff.1 hX1.out).1 (fun v hv e => by have := hnb.out v hv _ e; omega)
      have ob2 := t2.own (own_below hb.out hb1.out) (fun s hs => by rw [List.mem_singleton.1 hs]; exact f2.out.symm)
      replace ob2 := Lib.hid ob2
      clear t2 ol hlt
      replace ow2 := Lib.hid ow2; replace oq := Lib.hid oq; replace t1 := Lib.hid t1; replace hX2 := Lib.hid (hX2.trans hX1.out)
      go_wp2_with fail
      go_loopw [12] (fun j wr => ∃ z : Nat, z ≤ q ∧ j = .int .i64 z ∧ wr.ownsRow base 30 3 (.slice o2 q c2) q (fillW (markS m, false, m.toNat) ys z) ∧ Touch [.slice o1 k c1, .slice o2 q c2, .slice o3 p c3] w2 wr ∧ Touch [.slice o2 q c2] w2 wr) (fun j _ => q - (intOf j).toNat)
      case atStart => exact ⟨0, by omega, rfl, by simpa [fillW, ww] using ow2.out, Touch.refl _ _, Touch.refl _ _⟩
      case round =>
        obtain ⟨z, hz, rfl, oz, t3, t4⟩ := hrel
        by_cases hlt : z < q
        · obtain ⟨g1, _, hv, _, _⟩ := oz.form (by omega)
          simp only [Value.slice.injEq, true_and] at hv
          obtain ⟨rfl, rfl⟩ := hv
          obtain ⟨y0, hy0⟩ := get_fillW (markS m, false, m.toNat) ys z 0 (by rw [hyl.out]; omega)
          obtain ⟨y1, hy1⟩ := get_fillW (markS m, false, m.toNat) ys z 1 (by rw [hyl.out]; omega)
          obtain ⟨y2, hy2⟩ := get_fillW (markS m, false, m.toNat) ys z 2 (by rw [hyl.out]; omega)
          have hc0 := (oz.cellAt (z * 3 + 0) (by omega)).trans hy0
          have hc1 := (oz.cellAt (z * 3 + 1) (by omega)).trans hy1
          have hc2 := (oz.cellAt (z * 3 + 2) (by omega)).trans hy2
          rw [Nat.add_zero] at hc0
          have hf0 := oz.frozenAt (z * 3)
          have hf1 := oz.frozenAt (z * 3 + 1)
          have hf2 := oz.frozenAt (z * 3 + 2)
          have hX3 : wr.heap[w.heap.size + 1 + 1]? = some (.cells #[Value.string (markS m), Value.bool false, Value.int IntKind.i64 (m.toNat : Int)] 30 (0, 0)) := (t3.block _ (Array.getElem?_eq_some_iff.1 hX2.out).1 (fun v hv e => by have := hnb.out v hv _ e; omega)).trans hX2.out
          have x0 := cell_of_row wr (w.heap.size + 1 + 1) 0 _ _ _ hX3
          have x1 := cell_of_row wr (w.heap.size + 1 + 1) 1 _ _ _ hX3
          have x2 := cell_of_row wr (w.heap.size + 1 + 1) 2 _ _ _ hX3
          replace x0 : wr.cell? ⟨w.heap.size + 1 + 1, 0, none⟩ = some (.string (markS m)) := x0
          replace x1 : wr.cell? ⟨w.heap.size + 1 + 1, 1, none⟩ = some (.bool false) := x1
          replace x2 : wr.cell? ⟨w.heap.size + 1 + 1, 2, none⟩ = some (.int .i64 (m.toNat : Int)) := x2
          replace t3 := Lib.hid t3; replace t4 := Lib.hid t4; replace oz := Lib.hid oz
          clear hy0 hy1 hy2 hX3
          go_wp2_with fail
          have hs0 := oz.out.stored (z * 3) (.string (markS m))
          have hs1' := hs0.1.stored (z * 3 + 1) (.bool false)
          have hs2' := hs1'.1.stored (z * 3 + 2) (.int .i64 (m.toNat : Int))
          have hff := set_fillW (markS m, false, m.toNat) ys z (by rw [hyl.out]; omega)
          have ho3 := hs2'.1
          dsimp only at hff
          rw [hff] at ho3
          have htt : ∀ S : List Value, .slice (some ⟨g1, 0, none⟩) q c2 ∈ S → Touch S wr (((wr.setCell ⟨g1, z * 3, none⟩ (.string (markS m))).setCell ⟨g1, z * 3 + 1, none⟩ (.bool false)).setCell ⟨g1, z * 3 + 2, none⟩ (.int .i64 (m.toNat : Int))) := fun S hS =>
            ((Touch.grown (v := .slice (some ⟨g1, 0, none⟩) q c2) hs0.2 hS).trans (Touch.grown (v := .slice (some ⟨g1, 0, none⟩) q c2) hs1'.2 hS)).trans (Touch.grown (v := .slice (some ⟨g1, 0, none⟩) q c2) hs2'.2 hS)
          exact ⟨⟨z + 1, by omega, by go_num, ho3, t3.out.trans (htt _ (by simp)), t4.out.trans (htt _ (by simp))⟩, by simp [intOf]; omega⟩
        · obtain rfl : z = q := by omega
          rw [fillW_all _ _ _ hyl.out] at oz
          obtain ⟨w3, rfl⟩ : ∃ w3, w3 = wr := ⟨wr, rfl⟩
          have oq3 := t4.own oq.out (fun s hs => by rw [List.mem_singleton.1 hs]; exact f1.out)
          have hX3 := (t3.block _ (Array.getElem?_eq_some_iff.1 hX2.out).1 (fun v hv e => by have := hnb.out v hv _ e; omega)).trans hX2.out
          have ob3 : w3.ownsRow base 5 1 (.slice o3 p c3) p zs := by
            refine t4.own (?_ : w2.ownsRow base 5 1 (.slice o3 p c3) p zs) (fun s hs => by rw [List.mem_singleton.1 hs]; exact f3.out.symm)
            exact ob2.out
          have t13 := t1.out.trans t3
          clear t3 t4 oq ow2 hlt hX2 t1 ob2
          replace oz := Lib.hid oz; replace oq3 := Lib.hid oq3; replace t13 := Lib.hid t13; replace hX3 := Lib.hid hX3; replace ob3 := Lib.hid ob3
          go_wp2_with fail
          go_loopw [13] (fun j wr => ∃ y : Nat, y ≤ p ∧ j = .int .i64 y ∧ wr.ownsRow base 5 1 (.slice o3 p c3) p (List.replicate y (.int .u8 (m.toNat : Int)) ++ zs.drop y) ∧ Touch [.slice o1 k c1, .slice o2 z c2, .slice o3 p c3] w3 wr ∧ Touch [.slice o3 p c3] w3 wr) (fun j _ => p - (intOf j).toNat)
          case atStart => exact ⟨0, by omega, rfl, by simpa using ob3.out, Touch.refl _ _, Touch.refl _ _⟩
          case round =>
            obtain ⟨y, hy, rfl, ow, t5, t6⟩ := hrel
            by_cases hlt : y < p
            · obtain ⟨g1, _, hv, _, _⟩ := ow.form (by omega)
              simp only [Value.slice.injEq, true_and] at hv
              obtain ⟨rfl, rfl⟩ := hv
              obtain ⟨u, hu⟩ := get_fill (.int .u8 (m.toNat : Int)) zs y (by rw [hzl.out]; exact hlt)
              have hcq := (ow.cellAt y (by omega)).trans hu
              have hfq := ow.frozenAt y
              have hst := ow.stored y (.int .u8 (m.toNat : Int))
              rw [set_fill _ _ _ (by rw [hzl.out]; exact hlt)] at hst
              replace hst := Lib.hid hst; replace t5 := Lib.hid t5; replace t6 := Lib.hid t6
              clear ow hu
              go_wp2_with fail
              refine ⟨⟨y + 1, by omega, by go_num, hst.out.1, t5.out.trans (Touch.grown (v := .slice (some ⟨g1, 0, none⟩) p c3) hst.out.2 (by simp)), t6.out.trans (Touch.grown (v := .slice (some ⟨g1, 0, none⟩) p c3) hst.out.2 (by simp))⟩, by simp [intOf]; omega⟩
            · obtain rfl : y = p := by omega
              rw [fill_all _ _ _ hzl.out] at ow
              obtain ⟨w4, rfl⟩ : ∃ w4, w4 = wr := ⟨wr, rfl⟩
              have oq4 := t6.own oq3.out (fun s hs => by rw [List.mem_singleton.1 hs]; exact f2.out)
              have oz4 := t6.own oz.out (fun s hs => by rw [List.mem_singleton.1 hs]; exact f3.out)
              have hX4 := (t5.block _ (Array.getElem?_eq_some_iff.1 hX3.out).1 (fun v hv e => by have := hnb.out v hv _ e; omega)).trans hX3.out
              have t14 := t13.out.trans t5
              have hR4 := (t14.block _ (Array.getElem?_eq_some_iff.1 hR1.out).1 (fun v hv e => by have := hnb.out v hv _ e; omega)).trans hR1.out
              clear t5 t6 oq3 oz t13 hX3 hlt hR1 hX1 ob3
              replace oq4 := Lib.hid oq4; replace oz4 := Lib.hid oz4; replace ow := Lib.hid ow; replace t14 := Lib.hid t14; replace hX4 := Lib.hid hX4; replace hR4 := Lib.hid hR4
              have x0 : w4.cell? ⟨w.heap.size + 1 + 1, 0, none⟩ = some (.string (markS m)) := cell_of_row w4 (w.heap.size + 1 + 1) 0 _ _ _ hX4.out
              have x1 : w4.cell? ⟨w.heap.size + 1 + 1, 1, none⟩ = some (.bool false) := cell_of_row w4 (w.heap.size + 1 + 1) 1 _ _ _ hX4.out
              have x2 : w4.cell? ⟨w.heap.size + 1 + 1, 2, none⟩ = some (.int .i64 (m.toNat : Int)) := cell_of_row w4 (w.heap.size + 1 + 1) 2 _ _ _ hX4.out
              have oq5 : w4.ownsRow base 9 1 (.slice o1 k c1) k (List.replicate k (.string (markS m))) := oq4.out
              have oz5 : w4.ownsRow base 30 3 (.slice o2 z c2) z (ww (List.replicate z (markS m, false, m.toNat))) := oz4.out
              have ow5 : w4.ownsRow base 5 1 (.slice o3 y c3) y (List.replicate y (.int .u8 (m.toNat : Int))) := ow.out
              have hs4 : w.heap.size + 3 ≤ w4.heap.size := by have := hX4.out; have := (Array.getElem?_eq_some_iff.1 this).1; omega
              have hbase : base ≤ w4.heap.size := by have := t14.out.size; omega
              have nG : ∀ (G : Nat) (r : Value), r ∈ [Value.slice o1 k c1, Value.slice o2 z c2, Value.slice o3 y c3] → w.heap.size ≤ G → ∀ v ∈ [r], v.ownBlock ≠ some G := fun G r hr hG v hv e => by
                rw [List.mem_singleton.1 hv] at e
                have := hnb.out r hr G e
                omega
              replace oq5 := Lib.hid oq5; replace oz5 := Lib.hid oz5; replace ow5 := Lib.hid ow5
              clear oq4 oz4 ow
              replace x0 := Lib.hid x0; replace x1 := Lib.hid x1; replace x2 := Lib.hid x2
              go_upto_region 15 with fail
              obtain ⟨i0, hi0, ha0, ha1, ha2⟩ := info_parts infoStr
              obtain ⟨i8, hi8, hb0, hb1', hb2⟩ := info_parts infoU8
              obtain ⟨iw, zw, hiw, hc0', hc1', hc2', hc3'⟩ := infoW_parts
              go_region_held3 (fun w' => w'.cell? ⟨w.heap.size + 1 + 1, 0, none⟩ = some (.string (markS m)) ∧ w'.cell? ⟨w.heap.size + 1 + 1, 1, none⟩ = some (.bool false) ∧ w'.cell? ⟨w.heap.size + 1 + 1, 2, none⟩ = some (.int .i64 (m.toNat : Int)))
                (refine ⟨?_, ?_, ?_⟩ <;> (repeat (first | with_reducible apply cell_drew_up | with_reducible apply cell_alloc_up | with_reducible refine cell_set_far ?_ (by simp; omega))) <;> (first | with_reducible exact x0.out | with_reducible exact x1.out | with_reducible exact x2.out | with_reducible exact x06.out | with_reducible exact x16.out | with_reducible exact x26.out | with_reducible exact x07.out | with_reducible exact x17.out | with_reducible exact x27.out | with_reducible exact x08.out | with_reducible exact x18.out | with_reducible exact x28.out | fail))
                (first
                  | (have hq := b7
                     clear hq
                     refine step_append_still _ (by rfl) (.tmp 62) (.tmp 64) 24 (by rfl) base 5 i8 (.int .u8 0) 1 1 Tryd.underlying24 hi8 hb0 hb1' hb2 rfl (by decide) (Value.slice o3 y c3) y (List.replicate y (.int .u8 (m.toNat : Int))) (by rfl) (by first | with_reducible exact b7.out | with_reducible exact (b7.out.alloc _).drew | with_reducible exact ((b7.out.alloc _).alloc _).drew | with_reducible exact (((b7.out.alloc _).alloc _).alloc _).drew | with_reducible exact b7.out.alloc _ | with_reducible exact (b7.out.alloc _).alloc _ | with_reducible exact ((b7.out.alloc _).alloc _).alloc _) _ 1 1 [.int .u8 (m.toNat : Int)] (by rfl) (by rfl) (fun j u hu => by rw [add_zero']; repeat (first | exact lit_new (by first | rfl | simp) (by simpa using hu) | with_reducible apply cell_drew_up | with_reducible apply cell_alloc_up | refine U2.out.cell ?_ (nG _ _ (by simp) (by first | omega | (simp; omega))) | refine U1.out.cell ?_ (nG _ _ (by simp) (by first | omega | (simp; omega))))) (by simp [Value.oneCell']) (by simp only [maxLen]; omega) (by omega) (by first | omega | (simp; omega)) ?_
                     intro v3 w8 q3 O3 R3
                     have U3 := Touch.onto (S := [Value.slice o3 y c3]) O3 (by simp)
                     have T3 : Touch [Value.slice o3 y c3] w7 w8 := (by first | with_reducible exact U3 | with_reducible exact Touch.alloc1 U3 | with_reducible exact Touch.alloc1 (Touch.alloc1 U3) | with_reducible exact Touch.alloc1 (Touch.alloc1 (Touch.alloc1 U3)) | with_reducible exact Touch.alloc1 (Touch.drew1 U3) | with_reducible exact Touch.alloc1 (Touch.alloc1 (Touch.drew1 U3)) | with_reducible exact Touch.alloc1 (Touch.alloc1 (Touch.alloc1 (Touch.drew1 U3))))
                     have N3 : Near w4 (Value.slice o3 y c3) v3 := O3.2.imp id fun h k' hk' => Nat.le_trans (by first | omega | (simp; omega)) (h k' hk')
                     have hfin := hold_end m hnb.out f1.out f2.out f3.out hs4 T1.out T2.out T3 N1.out N2.out N3 q1.out q2.out q3 R1.out R2.out R3 hR4.out
                     obtain ⟨p3, e3, rfl, _, _⟩ := own_shape q3
                     have r0 := hfin.2.1 0 (by decide)
                     have r1 := hfin.2.1 1 (by decide)
                     have r2 := hfin.2.1 2 (by decide)
                     have r3 := hfin.2.1 3 (by decide)
                     have r4 := hfin.2.1 4 (by decide)
                     have r5 := hfin.2.1 5 (by decide)
                     have r6 := hfin.2.2.1
                     have rf := hfin.2.2.2.1
                     have x08 := T3.cell x07.out (nG _ _ (by simp) (by first | omega | (simp; omega)))
                     have x18 := T3.cell x17.out (nG _ _ (by simp) (by first | omega | (simp; omega)))
                     have x28 := T3.cell x27.out (nG _ _ (by simp) (by first | omega | (simp; omega)))
                     clear O3 U3 T3 N3 q3 R3
                     replace hfin := Lib.hid hfin; replace x08 := Lib.hid x08; replace x18 := Lib.hid x18; replace x28 := Lib.hid x28)
                  | (have hq := z6
                     clear hq
                     refine step_append_still _ (by rfl) (.tmp 57) (.tmp 59) 25 (by rfl) base 30 iw zw 3 32 Tryd.underlying25 hiw hc0' hc1' hc2' hc3' (by decide) (Value.slice o2 z c2) z (ww (List.replicate z (markS m, false, m.toNat))) (by rfl) (by first | with_reducible exact z6.out | with_reducible exact (z6.out.alloc _).drew | with_reducible exact ((z6.out.alloc _).alloc _).drew | with_reducible exact (((z6.out.alloc _).alloc _).alloc _).drew | with_reducible exact z6.out.alloc _ | with_reducible exact (z6.out.alloc _).alloc _ | with_reducible exact ((z6.out.alloc _).alloc _).alloc _) _ 1 1 [.string (markS m), .bool false, .int .i64 (m.toNat : Int)] (by rfl) (by rfl) (fun j u hu => by rw [add_zero']; repeat (first | exact lit_new (by first | rfl | simp) (by simpa using hu) | with_reducible apply cell_drew_up | with_reducible apply cell_alloc_up | refine U1.out.cell ?_ (nG _ _ (by simp) (by first | omega | (simp; omega))))) (by simp [Value.oneCell']) (by simp only [maxLen]; omega) (by omega) (by first | omega | (simp; omega)) ?_
                     intro v2 w7 q2 O2 R2
                     have U2 := Touch.onto (S := [Value.slice o2 z c2]) O2 (by simp)
                     have T2 : Touch [Value.slice o2 z c2] w6 w7 := (by first | with_reducible exact U2 | with_reducible exact Touch.alloc1 U2 | with_reducible exact Touch.alloc1 (Touch.alloc1 U2) | with_reducible exact Touch.alloc1 (Touch.alloc1 (Touch.alloc1 U2)) | with_reducible exact Touch.alloc1 (Touch.drew1 U2) | with_reducible exact Touch.alloc1 (Touch.alloc1 (Touch.drew1 U2)) | with_reducible exact Touch.alloc1 (Touch.alloc1 (Touch.alloc1 (Touch.drew1 U2))))
                     have N2 : Near w4 (Value.slice o2 z c2) v2 := O2.2.imp id fun h k' hk' => Nat.le_trans (by first | exact s6 | (simp; omega)) (h k' hk')
                     have b7 := T2.own b6.out (fun s hs => by rw [List.mem_singleton.1 hs]; exact f3.out.symm)
                     have x07 := T2.cell x06.out (nG _ _ (by simp) (by first | omega | (simp; omega)))
                     have x17 := T2.cell x16.out (nG _ _ (by simp) (by first | omega | (simp; omega)))
                     have x27 := T2.cell x26.out (nG _ _ (by simp) (by first | omega | (simp; omega)))
                     have s7 : w6.heap.size ≤ w7.heap.size := T2.size
                     obtain ⟨p2, e2, rfl, _, _⟩ := own_shape q2
                     clear O2
                     replace U2 := Lib.hid U2; replace T2 := Lib.hid T2; replace N2 := Lib.hid N2; replace b7 := Lib.hid b7; replace x07 := Lib.hid x07; replace x17 := Lib.hid x17; replace x27 := Lib.hid x27; replace q2 := Lib.hid q2; replace R2 := Lib.hid R2)
                  | (refine step_append_still _ (by rfl) (.tmp 52) (.tmp 54) 39 (by rfl) base 9 i0 (.string ⟨#[]⟩) 1 16 Tryd.underlying39 hi0 ha0 ha1 ha2 rfl (by decide) (Value.slice o1 k c1) k (List.replicate k (.string (markS m))) (by rfl) (by first | with_reducible exact oq5.out | with_reducible exact (oq5.out.alloc _).drew | with_reducible exact ((oq5.out.alloc _).alloc _).drew | with_reducible exact (((oq5.out.alloc _).alloc _).alloc _).drew | with_reducible exact oq5.out.alloc _ | with_reducible exact (oq5.out.alloc _).alloc _ | with_reducible exact ((oq5.out.alloc _).alloc _).alloc _) _ 1 1 [.string (markS m)] (by rfl) (by rfl) (fun j u hu => by rw [add_zero']; repeat (first | exact lit_new (by first | rfl | simp) (by simpa using hu) | with_reducible apply cell_drew_up | with_reducible apply cell_alloc_up)) (by simp [Value.oneCell']) (by simp only [maxLen]; omega) (by omega) (by first | omega | (simp; omega)) ?_
                     intro v1 w6 q1 O1 R1
                     have U1 := Touch.onto (S := [Value.slice o1 k c1]) O1 (by simp)
                     have T1 : Touch [Value.slice o1 k c1] w4 w6 := (by first | with_reducible exact U1 | with_reducible exact Touch.alloc1 U1 | with_reducible exact Touch.alloc1 (Touch.alloc1 U1) | with_reducible exact Touch.alloc1 (Touch.alloc1 (Touch.alloc1 U1)) | with_reducible exact Touch.alloc1 (Touch.drew1 U1) | with_reducible exact Touch.alloc1 (Touch.alloc1 (Touch.drew1 U1)) | with_reducible exact Touch.alloc1 (Touch.alloc1 (Touch.alloc1 (Touch.drew1 U1))))
                     have N1 : Near w4 (Value.slice o1 k c1) v1 := O1.2.imp id fun h k' hk' => Nat.le_trans (by first | exact Nat.le_refl _ | (simp; done) | (simp; omega)) (h k' hk')
                     have z6 := T1.own oz5.out (fun s hs => by rw [List.mem_singleton.1 hs]; exact f1.out.symm)
                     have b6 := T1.own ow5.out (fun s hs => by rw [List.mem_singleton.1 hs]; exact f2.out.symm)
                     have x06 := T1.cell x0.out (nG _ _ (by simp) (by first | omega | (simp; omega)))
                     have x16 := T1.cell x1.out (nG _ _ (by simp) (by first | omega | (simp; omega)))
                     have x26 := T1.cell x2.out (nG _ _ (by simp) (by first | omega | (simp; omega)))
                     have s6 : w4.heap.size ≤ w6.heap.size := T1.size
                     obtain ⟨p1, e1, rfl, _, _⟩ := own_shape q1
                     clear O1
                     replace U1 := Lib.hid U1; replace T1 := Lib.hid T1; replace N1 := Lib.hid N1; replace z6 := Lib.hid z6; replace b6 := Lib.hid b6; replace x06 := Lib.hid x06; replace x16 := Lib.hid x16; replace x26 := Lib.hid x26; replace q1 := Lib.hid q1; replace R1 := Lib.hid R1))
              all_goals
                have hf1 := hold_fin (.slice o1 k c1) (.slice p1 (k + 1) e1) (.slice o2 z c2) (.slice p2 (z + 1) e2) (.slice o3 y c3) (.slice p3 (y + 1) e3) (.int .u8 (m.toNat : Int)) hb1.out t14.out hfin.out.2.2.2.2.1 hfin.out.1 hfin.out.2.2.2.2.2.1
                have hf2 := hfin.out.2.2.2.2.2.2
                replace hf1 := Lib.hid hf1; replace hf2 := Lib.hid hf2
                clear x0 x1 x2 x06 x16 x26 x07 x17 x27 x08 x18 x28 hfin U1 U2 T1 T2 N1 N2 z6 b6 b7 q1 q2 R1 R2 oq5 oz5 ow5 hR4 hX4 nG hnb
                go_wp2_with fail
                refine bodyPost_ret (by simp [results, Tryd.results17, go_sem, r0, r1, r2, r3, r4, r5, r6]; try rfl) rfl ?_
                exact ⟨⟨_, _, _, _, _, _, _⟩, rfl, rfl, rfl, rfl, hf1.out.1, hf1.out.2, hf2.out⟩
end Go.Proofs.YtefbogmgcihndaaDoor
