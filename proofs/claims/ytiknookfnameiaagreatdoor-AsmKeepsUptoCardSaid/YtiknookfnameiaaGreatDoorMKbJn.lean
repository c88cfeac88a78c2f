/- AsmKeeps: lists that were handed out, written over and appended to; the book of what must stay. -/
import Derived.Test.YtiknookfnameiaaGreatDoorJn35
import Derived.Test.YtiknookfnameiaaGreatDoorJn15
namespace Go.Proofs.YtiknookfnameiaaGreatDoor
open Go.RowKit WP
set_option linter.unusedVariables false
section
variable {P : Program} (w : World)
theorem run_append_rdK (base : Nat) (t ty e : TypeId) (i : TypeInfo) (z : Value) (bytes : Nat) (ht : P.underlying t = some (.slice e)) (hi : P.info? e = some i) (hz : i.zero = some z)
    (hsize : i.size = 1) (hby : i.bytes = bytes) (hzs : z.cells.size = 1)
    (v : Value) (n : Nat) (xs : List Value) (hown : w.ownsRow base e 1 v n xs)
    (u : Value) (news : List Value) (hr : Rd w u news) (h1 : ∀ u ∈ news, u.oneCell' = true)
    (h63 : n + news.length ≤ maxLen) (hbytes : (n + news.length) * bytes ≤ 140737488355328) (hbase : base ≤ w.heap.size) :
    ∃ v' w', (Builtin.append_ #[t, t] ty #[v, u]).run P w = .ok v' w' ∧ w'.ownsRow base e 1 v' (n + news.length) (xs ++ news) ∧ Onto w v w' v' := by
  obtain ⟨ao, c, rfl, hc1, hc2, hr⟩ := hr
  rcases hr with rfl | ⟨b, off, rfl, hcell⟩
  · cases ao with
    | none =>
      refine ⟨v, w, ?_, by simpa using hown, Onto.refl _ _⟩
      rcases hown.2 with ⟨rfl, rfl⟩ | ⟨g, cap, cur, rfl, _, _, hnc, _⟩
      · simp [Builtin.append_, run_underlying ht, sizeOf, typeInfo, hi, Builtin.lenOf, Builtin.firstCells]
      · simp [Builtin.append_, run_underlying ht, sizeOf, typeInfo, hi, Builtin.lenOf, Builtin.firstCells, hnc, storeCells]
    | some ad =>
      exact run_append_onto (P := P) w base t ty e i z 1 bytes ht hi hz hsize hby hzs (by omega) v n xs hown ad 0 c [] rfl (by intro j u hu; simp at hu) (by simp) h63 hbytes hbase
  · refine run_append_onto (P := P) w base t ty e i z 1 bytes ht hi hz hsize hby hzs (by omega) v n xs hown ⟨b, off, none⟩ news.length c news (by omega) (fun j u hu => ?_) h1 h63 hbytes hbase
    have hadd : (⟨b, off, none⟩ : Addr).add j = ⟨b, off + j, none⟩ := by unfold Addr.add; split <;> simp_all
    rw [hadd]; exact hcell j u hu
theorem wpList_append_rdK {ops : Array Oper} {rest : List Oper} {o : Oper} {a : Act} {Q : Exit → Act → World → Prop} (hgd : o.guard = none) (s x : Operand) (t : TypeId)
    (ho : o.op = .call { callee := .builtin .append, args := #[s, x], argTypes := #[t, t] })
    (base : Nat) (e : TypeId) (i : TypeInfo) (z : Value) (bytes : Nat) (ht : P.underlying t = some (.slice e)) (hi : P.info? e = some i) (hz : i.zero = some z)
    (hsize : i.size = 1) (hby : i.bytes = bytes) (hzs : z.cells.size = 1)
    (v : Value) (n : Nat) (xs : List Value) (hs : a.eval s = v) (hown : w.ownsRow base e 1 v n xs)
    (u : Value) (news : List Value) (hx : a.eval x = u) (hr : Rd w u news) (h1 : ∀ u ∈ news, u.oneCell' = true)
    (h63 : n + news.length ≤ maxLen) (hbytes : (n + news.length) * bytes ≤ 140737488355328) (hbase : base ≤ w.heap.size)
    (h : ∀ v' w', w'.ownsRow base e 1 v' (n + news.length) (xs ++ news) → Onto w v w' v' → wpList P ops Q rest (a.put o.dst v') w') : wpList P ops Q (o :: rest) a w := by
  refine wpList_plain hgd fun K hK => ?_
  obtain ⟨v', w', hr, h2, h3⟩ := run_append_rdK (P := P) w base t o.type e i z bytes ht hi hz hsize hby hzs v n xs hown u news hr h1 h63 hbytes hbase
  unfold Oper.wp execOp
  simp only [ho, resolve, invoke, builtin, Sem.run_bind, Sem.run_pure, Result.andThen_ok, List.map_toArray, List.map_cons, List.map_nil, hs, hx, hr]
  exact hK _ _ (h v' w' h2 h3)
/-- an append to a list that was handed out: its room is its length, so the answer is new -/
theorem run_append_out (B : Nat) (t ty e : TypeId) (i : TypeInfo) (z : Value) (size bytes : Nat) (ht : P.underlying t = some (.slice e)) (hi : P.info? e = some i) (hz : i.zero = some z)
    (hsize : i.size = size) (hby : i.bytes = bytes) (hzs : z.cells.size = size) (hsz : 0 < size)
    (v : Value) (n : Nat) (xs : List Value) (hout : OutW w B e size v n xs)
    (a : Addr) (m c : Nat) (news : List Value) (hl : news.length = m * size) (hnews : ∀ j u, news[j]? = some u → w.cell? (a.add j) = some u) (h1 : ∀ u ∈ news, u.oneCell' = true)
    (hm : 0 < m) (h63 : n + m ≤ maxLen) (hbytes : (n + m) * bytes ≤ 140737488355328) :
    ∃ v' w', (Builtin.append_ #[t, t] ty #[v, .slice (some a) m c]).run P w = .ok v' w' ∧ w'.ownsRow w.heap.size e size v' (n + m) (xs ++ news) ∧ Below w.heap.size w w' := by
  obtain ⟨h0, hout⟩ := hout
  rcases hout with ⟨rfl, rfl⟩ | ⟨g, cur, rfl, hbg, hn, hg, hsz2, htake⟩
  · have hown : w.ownsRow w.heap.size e size (.slice none 0 0) 0 xs := ⟨h0, .inl ⟨rfl, rfl⟩⟩
    obtain ⟨v', w', hr, h2, h3⟩ := run_append_onto (P := P) w w.heap.size t ty e i z size bytes ht hi hz hsize hby hzs hsz _ 0 xs hown a m c news hl hnews h1 h63 hbytes (Nat.le_refl _)
    exact ⟨v', w', hr, h2, h3.below (Nat.le_refl _) (fun k hk => by simp [Value.ownBlock] at hk)⟩
  · subst hsize
    have hsmall : n + m ≤ 9223372036854775807 := by simp only [maxLen] at h63; omega
    have holds : ∀ j u, xs[j]? = some u → w.cell? ((⟨g, 0, none⟩ : Addr).add j) = some u := by
      intro j u hu
      rw [add_zero', cell_of_row _ _ _ _ _ _ hg]
      have hj := (List.getElem?_eq_some_iff.1 hu).1
      rw [← htake, List.getElem?_take_of_lt (by omega)] at hu
      rw [← hu, Array.getElem?_toList]
    have hr' := run_append_grow (P := P) w t ty e i z ht hi hz ⟨g, 0, none⟩ n n xs h0 holds a m c news hl hnews (by omega) (by omega) (growslice_fits (by omega) (by rw [hby]; exact hbytes))
    have hlen : (xs ++ news).length = (n + m) * i.size := by rw [List.length_append, h0, hl, Nat.add_mul]
    have hge := grownCap_ge w (n + m) n e
    have hcm : grownCap w (n + m) n e ≤ maxLen := grownCap_le_maxLen w (n + m) n e h63
    refine ⟨_, _, hr', ⟨hlen, .inr ⟨w.heap.size, _, _, rfl, Nat.le_refl _, heap_alloc_new w.drew _, hge, hcm, ?_, ?_⟩⟩, ((Below.refl _ w).drew).alloc (Nat.le_refl _) _⟩
    · simp only [Array.size_append, List.size_toArray, size_zeroCells, hzs, h0, hl, ← Nat.add_mul]
      congr 1
      omega
    · simp only [Array.toList_append, List.append_assoc]
      rw [← List.append_assoc, ← hlen]
      exact List.take_left
theorem wpList_append_out {ops : Array Oper} {rest : List Oper} {o : Oper} {a : Act} {Q : Exit → Act → World → Prop} (hgd : o.guard = none) (s x : Operand) (t : TypeId)
    (ho : o.op = .call { callee := .builtin .append, args := #[s, x], argTypes := #[t, t] })
    (B : Nat) (e : TypeId) (i : TypeInfo) (z : Value) (size bytes : Nat) (ht : P.underlying t = some (.slice e)) (hi : P.info? e = some i) (hz : i.zero = some z)
    (hsize : i.size = size) (hby : i.bytes = bytes) (hzs : z.cells.size = size) (hsz : 0 < size)
    (v : Value) (n : Nat) (xs : List Value) (hs : a.eval s = v) (hout : OutW w B e size v n xs)
    (ad : Addr) (m c : Nat) (news : List Value) (hx : a.eval x = .slice (some ad) m c) (hl : news.length = m * size) (hnews : ∀ j u, news[j]? = some u → w.cell? (ad.add j) = some u) (h1 : ∀ u ∈ news, u.oneCell' = true)
    (hm : 0 < m) (h63 : n + m ≤ maxLen) (hbytes : (n + m) * bytes ≤ 140737488355328)
    (h : ∀ v' w', w'.ownsRow w.heap.size e size v' (n + m) (xs ++ news) → Below w.heap.size w w' → wpList P ops Q rest (a.put o.dst v') w') : wpList P ops Q (o :: rest) a w := by
  refine wpList_plain hgd fun K hK => ?_
  obtain ⟨v', w', hr, h2, h3⟩ := run_append_out (P := P) w B t o.type e i z size bytes ht hi hz hsize hby hzs hsz v n xs hout ad m c news hl hnews h1 hm h63 hbytes
  unfold Oper.wp execOp
  simp only [ho, resolve, invoke, builtin, Sem.run_bind, Sem.run_pure, Result.andThen_ok, List.map_toArray, List.map_cons, List.map_nil, hs, hx, hr]
  exact hK _ _ (h v' w' h2 h3)
end
theorem OutW.reads {w : World} {B : Nat} {e : TypeId} {size : Nat} {v : Value} {n : Nat} {xs : List Value} (h : OutW w B e size v n xs) : Reads w size v n xs := by
  obtain ⟨h0, h⟩ := h
  refine ⟨h0, ?_⟩
  rcases h with h | ⟨g, cur, rfl, h1, h2, h3, h4, h5⟩
  · exact .inl h
  · refine .inr ⟨g, n, rfl, (Array.getElem?_eq_some_iff.1 h3).1, Nat.le_refl _, h2, fun j u hu => ?_⟩
    have hj := (List.getElem?_eq_some_iff.1 hu).1
    rw [cell_of_row _ _ _ _ _ _ h3]
    rw [← h5, List.getElem?_take_of_lt (by omega)] at hu
    rw [← hu, Array.getElem?_toList]
theorem OutW.touch {S : List Value} {w w' : World} {B : Nat} {e : TypeId} {size : Nat} {v : Value} {n : Nat} {xs : List Value} (h : OutW w B e size v n xs) (ht : Touch S w w') (hf : ∀ s ∈ S, Far v s) : OutW w' B e size v n xs :=
  h.same fun g hg => ht.block g (h.lt g hg).2 fun s hs => hf s hs g hg
theorem OutW.cellAt {w : World} {B : Nat} {e : TypeId} {size : Nat} {g n c : Nat} {xs : List Value} (h : OutW w B e size (.slice (some ⟨g, 0, none⟩) n c) n xs) (j : Nat) (hj : j < n * size) : w.cell? ⟨g, j, none⟩ = xs[j]? ∧ w.frozen? ⟨g, j, none⟩ = false := by
  obtain ⟨h0, h⟩ := h
  rcases h with ⟨hv, _⟩ | ⟨g', cur, hv, h1, h2, h3, h4, h5⟩
  · simp at hv
  · simp only [Value.slice.injEq, Option.some.injEq, Addr.mk.injEq, and_true, true_and] at hv
    obtain ⟨rfl, rfl⟩ := hv
    refine ⟨?_, frozen_of_row _ _ _ _ _ h3⟩
    rw [cell_of_row _ _ _ _ _ _ h3, ← h5, List.getElem?_take_of_lt (by omega), Array.getElem?_toList]
theorem OutW.stored {w : World} {B : Nat} {e : TypeId} {size : Nat} {g n c : Nat} {xs : List Value} (h : OutW w B e size (.slice (some ⟨g, 0, none⟩) n c) n xs) (j : Nat) (u : Value) :
    OutW (w.setCell ⟨g, j, none⟩ u) B e size (.slice (some ⟨g, 0, none⟩) n c) n (xs.set j u) ∧ Touch [.slice (some ⟨g, 0, none⟩) n c] w (w.setCell ⟨g, j, none⟩ u) := by
  refine ⟨?_, ⟨rfl, rfl, rfl, by simp [World.setCell], fun k _ hf => Below.heap_setCell _ _ _ _ (fun e => hf _ (List.mem_singleton_self _) (by rw [e]; rfl))⟩⟩
  obtain ⟨h0, h⟩ := h
  refine ⟨by rw [List.length_set]; exact h0, ?_⟩
  rcases h with ⟨hv, _⟩ | ⟨g', cur, hv, h1, h2, h3, h4, h5⟩
  · simp at hv
  · simp only [Value.slice.injEq, Option.some.injEq, Addr.mk.injEq, and_true, true_and] at hv
    obtain ⟨rfl, rfl⟩ := hv
    refine .inr ⟨g, _, rfl, h1, h2, heap_setCell_same _ _ _ _ _ _ h3, by simpa using h4, ?_⟩
    rw [Array.toList_setIfInBounds, List.take_set, h5]
theorem OutW.some {w : World} {B : Nat} {e : TypeId} {size : Nat} {v : Value} {n : Nat} {xs : List Value} (h : OutW w B e size v n xs) (hn : 0 < n) : ∃ g, v = .slice (some ⟨g, 0, none⟩) n n := by
  rcases h.2 with ⟨_, h0⟩ | ⟨g, cur, hv, _⟩
  · omega
  · exact ⟨g, hv⟩
theorem below_drewK {w w' : World} {B : Nat} (h : Below B w w') : ∀ n, Below B w (w'.drewN n)
  | 0 => h
  | n + 1 => (below_drewK h n).drew
/-! ### the book -/
structure KEnt where
  l : Value
  ml : Value
  na : Value
  lo : Value
  k : Nat
def four (e : KEnt) : List Value := [e.l, e.ml, e.na, e.lo]
def mkV (k : Nat) : Value := .int .u32 ((k + 7 : Nat) : Int)
def labK (n k : Nat) : List Value := lc (List.replicate n ((⟨#[35]⟩ : ByteArray), k))
theorem labK_len (n k : Nat) : (labK n k).length = n * 2 := by
  unfold labK lc; rw [List.length_flatMap]; simp
theorem labK_succ (n k : Nat) : labK (n + 1) k = labK n k ++ [.string ⟨#[35]⟩, .int .i64 (k : Int)] := by
  unfold labK; rw [List.replicate_succ', lc_append]; rfl
structure KRead (w : World) (n : Nat) (e : KEnt) : Prop where
  l : Reads w 1 e.l n (List.replicate n (mkV e.k))
  ml : Reads w 1 e.ml (n + 1) (List.replicate (n + 1) (mkV e.k))
  na : Reads w 2 e.na 4 (labK 4 e.k)
  lo : Reads w 2 e.lo 44 (labK 44 e.k)
def rowK (E : List KEnt) : List Value := E.flatMap fun e => [e.l, e.ml, mkV e.k]
theorem rowK_append (E : List KEnt) (e : KEnt) : rowK (E ++ [e]) = rowK E ++ [e.l, e.ml, mkV e.k] := by unfold rowK; rw [List.flatMap_append]; simp
theorem KRead.lt {w : World} {n : Nat} {e : KEnt} (h : KRead w n e) : ∀ y ∈ four e, ∀ k, y.ownBlock = some k → k < w.heap.size := by
  intro y hy k hk
  simp only [four, List.mem_cons, List.not_mem_nil, or_false] at hy
  rcases hy with rfl | rfl | rfl | rfl
  · exact h.l.lt k hk
  · exact h.ml.lt k hk
  · exact h.na.lt k hk
  · exact h.lo.lt k hk
theorem KRead.touch {S : List Value} {w w' : World} {n : Nat} {e : KEnt} (h : KRead w n e) (ht : Touch S w w') (hf : ∀ y ∈ four e, ∀ s ∈ S, Far y s) : KRead w' n e :=
  ⟨h.l.touch ht (hf _ (by simp [four])), h.ml.touch ht (hf _ (by simp [four])), h.na.touch ht (hf _ (by simp [four])), h.lo.touch ht (hf _ (by simp [four]))⟩
structure KBook (base : Nat) (w : World) (vB vN vL : Value) (n : Nat) (E : List KEnt) : Prop where
  rB : w.ownsRow base 65 3 vB E.length (rowK E)
  rN : w.ownsRow base 37 1 vN E.length (E.map (·.na))
  rL : w.ownsRow base 37 1 vL E.length (E.map (·.lo))
  f12 : Far vB vN
  f13 : Far vB vL
  f23 : Far vN vL
  told : ∀ i (h : i < E.length), KRead w n E[i] ∧ E[i].k = i
  off : ∀ e ∈ E, ∀ y ∈ four e, Far y vB ∧ Far y vN ∧ Far y vL
theorem KBook.mem {base : Nat} {w : World} {vB vN vL : Value} {n : Nat} {E : List KEnt} (h : KBook base w vB vN vL n E) {e : KEnt} (he : e ∈ E) : KRead w n e := by
  obtain ⟨i, hi, rfl⟩ := List.getElem_of_mem he
  exact (h.told i hi).1
theorem KBook.nil (base : Nat) (w : World) (n : Nat) : KBook base w (.slice none 0 0) (.slice none 0 0) (.slice none 0 0) n [] :=
  ⟨World.ownsRow_nil w base _ 3, World.ownsRow_nil w base _ 1, World.ownsRow_nil w base _ 1, fun k h => by simp [Value.ownBlock] at h, fun k h => by simp [Value.ownBlock] at h, fun k h => by simp [Value.ownBlock] at h, fun i h => by simp at h, fun e h => by simp at h⟩
theorem KBook.touch {S : List Value} {base : Nat} {w w' : World} {vB vN vL : Value} {n : Nat} {E : List KEnt} (h : KBook base w vB vN vL n E) (ht : Touch S w w') (h1 : ∀ s ∈ S, Far vB s ∧ Far vN s ∧ Far vL s) (h2 : ∀ e ∈ E, ∀ y ∈ four e, ∀ s ∈ S, Far y s) : KBook base w' vB vN vL n E :=
  ⟨ht.own h.rB fun s hs => (h1 s hs).1, ht.own h.rN fun s hs => (h1 s hs).2.1, ht.own h.rL fun s hs => (h1 s hs).2.2, h.f12, h.f13, h.f23, fun i hi => ⟨(h.told i hi).1.touch ht (h2 _ (List.getElem_mem hi)), (h.told i hi).2⟩, h.off⟩
theorem KBook.below {base : Nat} {w w' : World} {vB vN vL : Value} {n : Nat} {E : List KEnt} (h : KBook base w vB vN vL n E) (hb : Below w.heap.size w w') : KBook base w' vB vN vL n E :=
  h.touch (Touch.of_below (S := []) hb) (by simp) (by simp)
/-! ### what a round has taken and not yet written over -/
def valsT (T : List (Value × Value)) : List Value := T.flatMap fun p => [p.1, p.2]
theorem mem_valsT {T : List (Value × Value)} {v : Value} : v ∈ valsT T ↔ ∃ p ∈ T, v = p.1 ∨ v = p.2 := by unfold valsT; simp
structure KTodo (base : Nat) (w : World) (vB vN vL vT vA : Value) (n : Nat) (E : List KEnt) (xs ys : List Value) (R T : List (Value × Value)) : Prop where
  own : ∀ p ∈ T, OutW w base 22 1 p.1 n xs ∧ OutW w base 44 2 p.2 4 ys
  far : (valsT T).Pairwise Far
  off : ∀ v ∈ valsT T, Far v vB ∧ Far v vN ∧ Far v vL ∧ Far v vT ∧ Far v vA ∧ ∀ e ∈ E, ∀ y ∈ four e, Far y v
  rT : Reads w 1 vT R.length (R.map (·.1))
  rA : Reads w 1 vA R.length (R.map (·.2))
  fT : Far vT vB ∧ Far vT vN ∧ Far vT vL
  fA : Far vA vB ∧ Far vA vN ∧ Far vA vL
theorem KTodo.lt {base : Nat} {w : World} {vB vN vL vT vA : Value} {n : Nat} {E : List KEnt} {xs ys : List Value} {R T : List (Value × Value)} (h : KTodo base w vB vN vL vT vA n E xs ys R T) : ∀ v ∈ valsT T, ∀ k, v.ownBlock = some k → base ≤ k ∧ k < w.heap.size := by
  intro v hv k hk
  obtain ⟨p, hp, rfl | rfl⟩ := mem_valsT.1 hv
  · exact (h.own p hp).1.lt k hk
  · exact (h.own p hp).2.lt k hk
theorem KTodo.touch {S : List Value} {base : Nat} {w w' : World} {vB vN vL vT vA : Value} {n : Nat} {E : List KEnt} {xs ys : List Value} {R T : List (Value × Value)} (h : KTodo base w vB vN vL vT vA n E xs ys R T) (ht : Touch S w w') (h1 : ∀ v ∈ valsT T, ∀ s ∈ S, Far v s) (h2 : ∀ s ∈ S, Far vT s ∧ Far vA s) : KTodo base w' vB vN vL vT vA n E xs ys R T :=
  ⟨fun p hp => ⟨(h.own p hp).1.touch ht (h1 _ (mem_valsT.2 ⟨p, hp, .inl rfl⟩)), (h.own p hp).2.touch ht (h1 _ (mem_valsT.2 ⟨p, hp, .inr rfl⟩))⟩, h.far, h.off, h.rT.touch ht fun s hs => (h2 s hs).1, h.rA.touch ht fun s hs => (h2 s hs).2, h.fT, h.fA⟩
theorem KTodo.below {base : Nat} {w w' : World} {vB vN vL vT vA : Value} {n : Nat} {E : List KEnt} {xs ys : List Value} {R T : List (Value × Value)} (h : KTodo base w vB vN vL vT vA n E xs ys R T) (hb : Below w.heap.size w w') : KTodo base w' vB vN vL vT vA n E xs ys R T :=
  h.touch (Touch.of_below (S := []) hb) (by simp) (by simp)
/-- one pair of a round is written over, appended to and booked -/
theorem KBook.step {base : Nat} {w w1 w2 w3 w4 w5 w6 : World} {vB vN vL vT vA vB' vN' vL' l a ml lo : Value} {n : Nat} {E : List KEnt} {xs ys : List Value} {R T : List (Value × Value)}
    (h : KBook base w vB vN vL n E) (ht : KTodo base w vB vN vL vT vA n E xs ys R ((l, a) :: T)) (hbs : base ≤ w.heap.size)
    (t1 : Touch [l] w w1) (r1 : Reads w1 1 l n (List.replicate n (mkV E.length))) (r2 : Reads w1 1 ml (n + 1) (List.replicate (n + 1) (mkV E.length))) (n1 : ∀ k, ml.ownBlock = some k → w.heap.size ≤ k)
    (t2 : Touch [vB] w1 w2) (o2 : w2.ownsRow base 65 3 vB' (E.length + 1) (rowK E ++ [l, ml, mkV E.length])) (n2 : Near w1 vB vB')
    (t3 : Touch [a] w2 w3) (r3 : Reads w3 2 a 4 (labK 4 E.length))
    (t4 : Touch [vN] w3 w4) (o4 : w4.ownsRow base 37 1 vN' (E.length + 1) (E.map (·.na) ++ [a])) (n4 : Near w3 vN vN')
    (t5 : Below w4.heap.size w4 w5) (r5 : Reads w5 2 lo 44 (labK 44 E.length)) (n5 : ∀ k, lo.ownBlock = some k → w4.heap.size ≤ k)
    (t6 : Touch [vL] w5 w6) (o6 : w6.ownsRow base 37 1 vL' (E.length + 1) (E.map (·.lo) ++ [lo])) (n6 : Near w5 vL vL') :
    KBook base w6 vB' vN' vL' n (E ++ [⟨l, ml, a, lo, E.length⟩]) ∧ KTodo base w6 vB' vN' vL' vT vA n (E ++ [⟨l, ml, a, lo, E.length⟩]) xs ys R T ∧ Below base w w6 := by
  have s1 := t1.size; have s2 := t2.size; have s3 := t3.size; have s4 := t4.size; have s5 := t5.size; have s6 := t6.size
  have hoff := ht.off
  have hlt := ht.lt
  have hfar := ht.far
  rw [show valsT ((l, a) :: T) = l :: a :: valsT T from rfl] at hfar hoff hlt
  rw [List.pairwise_cons, List.pairwise_cons] at hfar
  obtain ⟨p1, p2, p3⟩ := hfar
  have la : Far l a := p1 a (by simp)
  obtain ⟨lB, lN, lL, lT, lA, lE⟩ := hoff l (by simp)
  obtain ⟨aB, aN, aL, aT, aA, aE⟩ := hoff a (by simp)
  have ltB : ∀ k, vB.ownBlock = some k → base ≤ k ∧ k < w.heap.size := fun k hk => h.rB.lt k hk
  have ltN : ∀ k, vN.ownBlock = some k → base ≤ k ∧ k < w.heap.size := fun k hk => h.rN.lt k hk
  have ltL : ∀ k, vL.ownBlock = some k → base ≤ k ∧ k < w.heap.size := fun k hk => h.rL.lt k hk
  have ltl := hlt l (by simp)
  have lta := hlt a (by simp)
  have up : ∀ {W : World} {x y : Value}, w.heap.size ≤ W.heap.size → Near W x y → Near w x y := fun hs hn => hn.imp id fun h k hk => Nat.le_trans hs (h k hk)
  have N2 := up s1 n2
  have N4 := up (by omega) n4
  have N6 := up (by omega) n6
  -- what is old (below w) and far from the row is far from the row's later form
  have old : ∀ {x v v' : Value}, Near w v v' → Far x v → (∀ k, x.ownBlock = some k → k < w.heap.size) → Far x v' := fun hn hf hx => (Near.far hn hf.symm hx).symm
  have new : ∀ {x v : Value}, (∀ k, x.ownBlock = some k → w.heap.size ≤ k) → (∀ k, v.ownBlock = some k → k < w.heap.size) → Far x v := fun hx hv k h1 h2 => by have := hx k h1; have := hv k h2; omega
  have one : ∀ {S : Value} {x : Value}, Far x S → ∀ s ∈ [S], Far x s := fun h s hs => by rw [List.mem_singleton.1 hs]; exact h
  have T5 : Touch [] w4 w5 := Touch.of_below t5
  have nlo : ∀ k, lo.ownBlock = some k → w.heap.size ≤ k := fun k hk => by have := n5 k hk; omega
  have ltml : ∀ k, ml.ownBlock = some k → k < w1.heap.size := r2.lt
  -- everything from w to w6
  have wk : ∀ {S S' : List Value} {a b : World}, Touch S a b → (∀ x ∈ S, x ∈ S') → Touch S' a b := fun h hS => ⟨h.os, h.tape, h.output, h.size, fun k hk hf => h.block k hk fun v hv => hf v (hS v hv)⟩
  have TT : Touch [l, a, vB, vN, vL] w w6 := (((((wk t1 (by simp)).trans (wk t2 (by simp))).trans (wk t3 (by simp))).trans (wk t4 (by simp))).trans (wk T5 (by simp))).trans (wk t6 (by simp))
  have BB : Below base w w6 := TT.below hbs (by
    intro v hv k hk
    simp only [List.mem_cons, List.not_mem_nil, or_false] at hv
    rcases hv with rfl | rfl | rfl | rfl | rfl
    · exact (ltl k hk).1
    · exact (lta k hk).1
    · exact (ltB k hk).1
    · exact (ltN k hk).1
    · exact (ltL k hk).1)
  have oldE : ∀ e ∈ E, ∀ y ∈ four e, ∀ k, y.ownBlock = some k → k < w.heap.size := fun e he y hy => (h.mem he).lt y hy
  -- the rows at the end
  have ltB' : ∀ k, vB'.ownBlock = some k → k < w2.heap.size := fun k hk => (o2.lt k hk).2
  have ltN' : ∀ k, vN'.ownBlock = some k → k < w4.heap.size := fun k hk => (o4.lt k hk).2
  have hBa : Far vB' a := N2.far aB.symm (fun k hk => (lta k hk).2)
  have hBN : Far vB' vN := N2.far h.f12 (fun k hk => (ltN k hk).2)
  have hBL : Far vB' vL := N2.far h.f13 (fun k hk => (ltL k hk).2)
  have hNL : Far vN' vL := N4.far h.f23 (fun k hk => (ltL k hk).2)
  have hBN' : Far vB' vN' := by
    rcases n4 with e | hn
    · intro k h1 h2; exact hBN k h1 (by rw [← e]; exact h2)
    · intro k h1 h2; have := ltB' k h1; have := hn k h2; omega
  have hBL' : Far vB' vL' := by
    rcases n6 with e | hn
    · intro k h1 h2; exact hBL k h1 (by rw [← e]; exact h2)
    · intro k h1 h2; have := ltB' k h1; have := hn k h2; omega
  have hNL' : Far vN' vL' := by
    rcases n6 with e | hn
    · intro k h1 h2; exact hNL k h1 (by rw [← e]; exact h2)
    · intro k h1 h2; have := ltN' k h1; have := hn k h2; omega
  have hoB : w6.ownsRow base 65 3 vB' (E.length + 1) (rowK E ++ [l, ml, mkV E.length]) :=
    t6.own (T5.own (t4.own (t3.own o2 (one hBa)) (one hBN)) (by simp)) (one hBL)
  have hoN : w6.ownsRow base 37 1 vN' (E.length + 1) (E.map (·.na) ++ [a]) := t6.own (T5.own o4 (by simp)) (one hNL)
  -- the new entry
  have mB : Far ml vB := new n1 (fun k hk => (ltB k hk).2)
  have mN : Far ml vN := new n1 (fun k hk => (ltN k hk).2)
  have mL : Far ml vL := new n1 (fun k hk => (ltL k hk).2)
  have ma : Far ml a := new n1 (fun k hk => (lta k hk).2)
  have mB' : Far ml vB' := by
    rcases n2 with e | hn
    · intro k h1 h2; exact mB k h1 (by rw [← e]; exact h2)
    · intro k h1 h2; have := ltml k h1; have := hn k h2; omega
  have mN' : Far ml vN' := by
    rcases n4 with e | hn
    · intro k h1 h2; exact mN k h1 (by rw [← e]; exact h2)
    · intro k h1 h2; have := ltml k h1; have := hn k h2; omega
  have mL' : Far ml vL' := by
    rcases n6 with e | hn
    · intro k h1 h2; exact mL k h1 (by rw [← e]; exact h2)
    · intro k h1 h2; have := ltml k h1; have := hn k h2; omega
  have oL : Far lo vL := new nlo (fun k hk => (ltL k hk).2)
  have oB' : Far lo vB' := fun k h1 h2 => by have := n5 k h1; have := ltB' k h2; omega
  have oN' : Far lo vN' := fun k h1 h2 => by have := n5 k h1; have := ltN' k h2; omega
  have oL' : Far lo vL' := by
    rcases n6 with e | hn
    · intro k h1 h2; exact oL k h1 (by rw [← e]; exact h2)
    · intro k h1 h2; have := r5.lt k h1; have := hn k h2; omega
  have hE1 : KRead w6 n ⟨l, ml, a, lo, E.length⟩ :=
    ⟨(((((r1.touch t2 (one lB)).touch t3 (one la)).touch t4 (one lN)).touch T5 (by simp)).touch t6 (one lL)),
     (((((r2.touch t2 (one mB)).touch t3 (one ma)).touch t4 (one mN)).touch T5 (by simp)).touch t6 (one mL)),
     ((r3.touch t4 (one aN)).touch T5 (by simp)).touch t6 (one aL), r5.touch t6 (one oL)⟩
  have hll : ∀ k, l.ownBlock = some k → k < w.heap.size := fun k hk => (ltl k hk).2
  have haa : ∀ k, a.ownBlock = some k → k < w.heap.size := fun k hk => (lta k hk).2
  have offE : ∀ e ∈ E ++ [(⟨l, ml, a, lo, E.length⟩ : KEnt)], ∀ y ∈ four e, Far y vB' ∧ Far y vN' ∧ Far y vL' := by
    intro e he y hy
    rcases List.mem_append.1 he with he | he
    · obtain ⟨q1, q2, q3⟩ := h.off e he y hy
      have := oldE e he y hy
      exact ⟨old N2 q1 this, old N4 q2 this, old N6 q3 this⟩
    · rw [List.mem_singleton.1 he] at hy
      simp only [four, List.mem_cons, List.not_mem_nil, or_false] at hy
      rcases hy with rfl | rfl | rfl | rfl
      · exact ⟨old N2 lB hll, old N4 lN hll, old N6 lL hll⟩
      · exact ⟨mB', mN', mL'⟩
      · exact ⟨old N2 aB haa, old N4 aN haa, old N6 aL haa⟩
      · exact ⟨oB', oN', oL'⟩
  have hlen : (E ++ [(⟨l, ml, a, lo, E.length⟩ : KEnt)]).length = E.length + 1 := by simp
  refine ⟨⟨?_, ?_, ?_, hBN', hBL', hNL', ?_, offE⟩, ⟨?_, p3, ?_, ?_, ?_, ?_, ?_⟩, BB⟩
  · rw [hlen, rowK_append]; exact hoB
  · rw [hlen, List.map_append]; exact hoN
  · rw [hlen, List.map_append]; exact o6
  · intro i hi
    by_cases hi' : i < E.length
    · rw [List.getElem_append_left hi']
      refine ⟨(h.told i hi').1.touch TT fun y hy s hs => ?_, (h.told i hi').2⟩
      have hm := List.getElem_mem hi'
      obtain ⟨q1, q2, q3⟩ := h.off _ hm y hy
      simp only [List.mem_cons, List.not_mem_nil, or_false] at hs
      rcases hs with rfl | rfl | rfl | rfl | rfl
      · exact lE _ hm y hy
      · exact aE _ hm y hy
      · exact q1
      · exact q2
      · exact q3
    · obtain rfl : i = E.length := by omega
      rw [List.getElem_append_right (Nat.le_refl _)]
      simp only [Nat.sub_self, List.getElem_cons_zero]
      exact ⟨hE1, trivial⟩
  · intro p hp
    have f1 : ∀ v ∈ [p.1, p.2], ∀ s ∈ [l, a, vB, vN, vL], Far v s := by
      intro v hv s hs
      have hvT : v ∈ valsT T := by
        simp only [List.mem_cons, List.not_mem_nil, or_false] at hv
        rcases hv with rfl | rfl
        · exact mem_valsT.2 ⟨p, hp, .inl rfl⟩
        · exact mem_valsT.2 ⟨p, hp, .inr rfl⟩
      obtain ⟨q1, q2, q3, _⟩ := hoff v (by simp [hvT])
      simp only [List.mem_cons, List.not_mem_nil, or_false] at hs
      rcases hs with rfl | rfl | rfl | rfl | rfl
      · exact (p1 v (by simp [hvT])).symm
      · exact (p2 v hvT).symm
      · exact q1
      · exact q2
      · exact q3
    have := ht.own p (List.mem_cons_of_mem _ hp)
    exact ⟨this.1.touch TT (f1 _ (by simp)), this.2.touch TT (f1 _ (by simp))⟩
  · intro v hv
    obtain ⟨q1, q2, q3, q4, q5, q6⟩ := hoff v (by simp [hv])
    have hvv : ∀ k, v.ownBlock = some k → k < w.heap.size := fun k hk => (hlt v (by simp [hv]) k hk).2
    refine ⟨old N2 q1 hvv, old N4 q2 hvv, old N6 q3 hvv, q4, q5, fun e he y hy => ?_⟩
    rcases List.mem_append.1 he with he | he
    · exact q6 e he y hy
    · rw [List.mem_singleton.1 he] at hy
      simp only [four, List.mem_cons, List.not_mem_nil, or_false] at hy
      rcases hy with rfl | rfl | rfl | rfl
      · exact p1 v (by simp [hv])
      · exact new n1 hvv
      · exact p2 v hv
      · exact new nlo hvv
  · refine ht.rT.touch TT fun s hs => ?_
    simp only [List.mem_cons, List.not_mem_nil, or_false] at hs
    rcases hs with rfl | rfl | rfl | rfl | rfl
    · exact lT.symm
    · exact aT.symm
    · exact ht.fT.1
    · exact ht.fT.2.1
    · exact ht.fT.2.2
  · refine ht.rA.touch TT fun s hs => ?_
    simp only [List.mem_cons, List.not_mem_nil, or_false] at hs
    rcases hs with rfl | rfl | rfl | rfl | rfl
    · exact lA.symm
    · exact aA.symm
    · exact ht.fA.1
    · exact ht.fA.2.1
    · exact ht.fA.2.2
  · exact ⟨old N2 ht.fT.1 ht.rT.lt, old N4 ht.fT.2.1 ht.rT.lt, old N6 ht.fT.2.2 ht.rT.lt⟩
  · exact ⟨old N2 ht.fA.1 ht.rA.lt, old N4 ht.fA.2.1 ht.rA.lt, old N6 ht.fA.2.2 ht.rA.lt⟩
end Go.Proofs.YtiknookfnameiaaGreatDoor
