/- A digest in memory; the append to a full list. -/
import Derived.Test.YtemanjahkohcpaaGreatDoorABlockJn
namespace Go.Proofs.YtemanjahkohcpaaGreatDoor
open Go.RowKit WP
section
variable {P : Program} (w : World)
theorem run_append_fresh (t ty e : TypeId) (i : TypeInfo) (z : Value) (bytes : Nat) (ht : P.underlying t = some (.slice e)) (hi : P.info? e = some i) (hz : i.zero = some z)
    (hsize : i.size = 1) (hby : i.bytes = bytes) (hzs : z.cells.size = 1)
    (ao : Option Addr) (n : Nat) (xs : List Value) (hu : Rd w (.slice ao n n) xs)
    (y : Value) (news : List Value) (hy : Rd w y news) (h1 : ∀ u ∈ news, u.oneCell' = true) (hpos : 0 < news.length)
    (h63 : n + news.length ≤ maxLen) (hbytes : (n + news.length) * bytes ≤ 140737488355328) :
    ∃ v' w', (Builtin.append_ #[t, t] ty #[.slice ao n n, y]).run P w = .ok v' w' ∧ w'.ownsRow w.heap.size e 1 v' (n + news.length) (xs ++ news) ∧ Below w.heap.size w w' := by
  obtain ⟨ay, c, rfl, hc1, hc2, hr⟩ := hy
  obtain ⟨b, off, rfl, hcell⟩ := hr.resolve_left (by intro h; rw [h] at hpos; simp at hpos)
  have hnews : ∀ j u, news[j]? = some u → w.cell? ((⟨b, off, none⟩ : Addr).add j) = some u := fun j u hu => by
    have hadd : (⟨b, off, none⟩ : Addr).add j = ⟨b, off + j, none⟩ := by unfold Addr.add; split <;> simp_all
    rw [hadd]; exact hcell j u hu
  obtain ⟨ao', n', hv, hn1, hn2, hr2⟩ := hu
  simp only [Value.slice.injEq] at hv
  obtain ⟨rfl, hxl, rfl⟩ := hv
  cases ao with
  | none =>
    have hx : xs = [] := by
      rcases hr2 with h | ⟨_, _, h, _⟩
      · exact h
      · cases h
    subst hx
    obtain rfl : n = 0 := by simpa using hxl
    obtain ⟨v', w', hrun, h2, h3⟩ := run_append_onto (P := P) w w.heap.size t ty e i z 1 bytes ht hi hz hsize hby hzs (by decide) (.slice none 0 0) 0 [] (World.ownsRow_nil _ _ _ _) ⟨b, off, none⟩ news.length c news (by omega) hnews h1 h63 hbytes (Nat.le_refl _)
    exact ⟨v', w', hrun, h2, h3.below (Nat.le_refl _) (by simp [Value.ownBlock])⟩
  | some ad =>
    have holds : ∀ j u, xs[j]? = some u → w.cell? (ad.add j) = some u := fun j u hu => by
      rcases hr2 with h | ⟨b2, off2, h, hc⟩
      · rw [h] at hu; simp at hu
      · cases h
        have hadd : (⟨b2, off2, none⟩ : Addr).add j = ⟨b2, off2 + j, none⟩ := by unfold Addr.add; split <;> simp_all
        rw [hadd]; exact hc j u hu
    have hsmall : n + news.length ≤ 9223372036854775807 := by simp only [maxLen] at h63; omega
    have hr' := run_append_grow (P := P) w t ty e i z ht hi hz ad n n xs (by rw [hsize]; omega) holds ⟨b, off, none⟩ news.length c news (by rw [hsize]; omega) hnews (by omega) (by omega) (growslice_fits (by omega) (by rw [hby]; exact hbytes))
    refine ⟨_, _, hr', ?_, ?_⟩
    · have hge := grownCap_ge w (n + news.length) n e
      have hcm : grownCap w (n + news.length) n e ≤ maxLen := grownCap_le_maxLen w (n + news.length) n e h63
      refine ⟨by rw [List.length_append]; omega, .inr ⟨w.heap.size, _, _, rfl, Nat.le_refl _, heap_alloc_new w.drew _, hge, hcm, ?_, ?_⟩⟩
      · simp only [Array.size_append, List.size_toArray, size_zeroCells, hzs]
        omega
      · simp only [Array.toList_append, List.append_assoc]
        rw [← List.append_assoc]
        exact List.take_left' (by rw [List.length_append]; omega)
    · exact (Below.refl _ _).drew.alloc (Nat.le_refl _) _
/-- an append to a list with no room: nothing to append, and it is that list; else a new one -/
theorem run_append_full (t ty e : TypeId) (i : TypeInfo) (z : Value) (bytes : Nat) (ht : P.underlying t = some (.slice e)) (hi : P.info? e = some i) (hz : i.zero = some z)
    (hsize : i.size = 1) (hby : i.bytes = bytes) (hzs : z.cells.size = 1)
    (ao : Option Addr) (n : Nat) (xs : List Value) (hu : Rd w (.slice ao n n) xs)
    (y : Value) (news : List Value) (hy : Rd w y news) (h1 : ∀ u ∈ news, u.oneCell' = true)
    (h63 : n + news.length ≤ maxLen) (hbytes : (n + news.length) * bytes ≤ 140737488355328) :
    ∃ v' w', (Builtin.append_ #[t, t] ty #[.slice ao n n, y]).run P w = .ok v' w' ∧ Rd w' v' (xs ++ news) ∧ Below w.heap.size w w' ∧
      (v'.ownBlock = (Value.slice ao n n).ownBlock ∨ ∀ k, v'.ownBlock = some k → w.heap.size ≤ k) := by
  by_cases h0 : news.length = 0
  · obtain rfl : news = [] := List.eq_nil_of_length_eq_zero h0
    refine ⟨.slice ao n n, w, ?_, by simpa using hu, Below.refl _ _, .inl rfl⟩
    obtain ⟨ay, c, rfl, hc1, hc2, hr⟩ := hy
    cases ay <;> cases ao <;> simp [Builtin.append_, run_underlying ht, sizeOf, typeInfo, hi, Builtin.lenOf, Builtin.firstCells, storeCells, loadCells, loadCellsFrom]
  · obtain ⟨v', w', hr, h2, h3⟩ := run_append_fresh (P := P) w t ty e i z bytes ht hi hz hsize hby hzs ao n xs hu y news hy h1 (by omega) h63 hbytes
    exact ⟨v', w', hr, Rd.of_own h2, h3, .inr fun k hk => (h2.lt k hk).1⟩
theorem step_append_full {ops : Array Oper} {o : Oper} {a : Act} {K : Act → World → Prop} {Q : Exit → Act → World → Prop} {E : Prop} (hgd : o.guard = none) (s x : Operand) (t : TypeId)
    (ho : o.op = .call { callee := .builtin .append, args := #[s, x], argTypes := #[t, t] })
    (e : TypeId) (i : TypeInfo) (z : Value) (bytes : Nat) (ht : P.underlying t = some (.slice e)) (hi : P.info? e = some i) (hz : i.zero = some z)
    (hsize : i.size = 1) (hby : i.bytes = bytes) (hzs : z.cells.size = 1)
    (ao : Option Addr) (n : Nat) (xs : List Value) (hs : a.eval s = .slice ao n n) (hu : Rd w (.slice ao n n) xs)
    (y : Value) (news : List Value) (hx : a.eval x = y) (hy : Rd w y news) (h1 : ∀ u ∈ news, u.oneCell' = true)
    (h63 : n + news.length ≤ maxLen) (hbytes : (n + news.length) * bytes ≤ 140737488355328)
    (h : ∀ v' w', Rd w' v' (xs ++ news) → Below w.heap.size w w' → (v'.ownBlock = (Value.slice ao n n).ownBlock ∨ ∀ k, v'.ownBlock = some k → w.heap.size ≤ k) → K (a.put o.dst v') w') :
    if Region.wanted o (yielded ops a.tmps) = true then Oper.wp P o a w K Q else E := by
  have hw : Region.wanted o (yielded ops a.tmps) = true := by simp [Region.wanted, hgd]
  rw [if_pos hw]
  obtain ⟨v', w', hr, h2, h3, h4⟩ := run_append_full (P := P) w t o.type e i z bytes ht hi hz hsize hby hzs ao n xs hu y news hy h1 h63 hbytes
  unfold Oper.wp execOp
  simp only [ho, resolve, invoke, builtin, Sem.run_bind, Sem.run_pure, Result.andThen_ok, List.map_toArray, List.map_cons, List.map_nil, hs, hx, hr]
  exact h v' w' h2 h3 h4
theorem step_append_fresh {ops : Array Oper} {o : Oper} {a : Act} {K : Act → World → Prop} {Q : Exit → Act → World → Prop} {E : Prop} (hgd : o.guard = none) (s x : Operand) (t : TypeId)
    (ho : o.op = .call { callee := .builtin .append, args := #[s, x], argTypes := #[t, t] })
    (e : TypeId) (i : TypeInfo) (z : Value) (bytes : Nat) (ht : P.underlying t = some (.slice e)) (hi : P.info? e = some i) (hz : i.zero = some z)
    (hsize : i.size = 1) (hby : i.bytes = bytes) (hzs : z.cells.size = 1)
    (ao : Option Addr) (n : Nat) (xs : List Value) (hs : a.eval s = .slice ao n n) (hu : Rd w (.slice ao n n) xs)
    (y : Value) (news : List Value) (hx : a.eval x = y) (hy : Rd w y news) (h1 : ∀ u ∈ news, u.oneCell' = true) (hpos : 0 < news.length)
    (h63 : n + news.length ≤ maxLen) (hbytes : (n + news.length) * bytes ≤ 140737488355328)
    (h : ∀ v' w', w'.ownsRow w.heap.size e 1 v' (n + news.length) (xs ++ news) → Below w.heap.size w w' → K (a.put o.dst v') w') :
    if Region.wanted o (yielded ops a.tmps) = true then Oper.wp P o a w K Q else E := by
  have hw : Region.wanted o (yielded ops a.tmps) = true := by simp [Region.wanted, hgd]
  rw [if_pos hw]
  obtain ⟨v', w', hr, h2, h3⟩ := run_append_fresh (P := P) w t o.type e i z bytes ht hi hz hsize hby hzs ao n xs hu y news hy h1 hpos h63 hbytes
  unfold Oper.wp execOp
  simp only [ho, resolve, invoke, builtin, Sem.run_bind, Sem.run_pure, Result.andThen_ok, List.map_toArray, List.map_cons, List.map_nil, hs, hx, hr]
  exact h v' w' h2 h3
theorem wpList_append_full {ops : Array Oper} {rest : List Oper} {o : Oper} {a : Act} {Q : Exit → Act → World → Prop} (hgd : o.guard = none) (s x : Operand) (t : TypeId)
    (ho : o.op = .call { callee := .builtin .append, args := #[s, x], argTypes := #[t, t] })
    (e : TypeId) (i : TypeInfo) (z : Value) (bytes : Nat) (ht : P.underlying t = some (.slice e)) (hi : P.info? e = some i) (hz : i.zero = some z)
    (hsize : i.size = 1) (hby : i.bytes = bytes) (hzs : z.cells.size = 1)
    (ao : Option Addr) (n : Nat) (xs : List Value) (hs : a.eval s = .slice ao n n) (hu : Rd w (.slice ao n n) xs)
    (y : Value) (news : List Value) (hx : a.eval x = y) (hy : Rd w y news) (h1 : ∀ u ∈ news, u.oneCell' = true)
    (h63 : n + news.length ≤ maxLen) (hbytes : (n + news.length) * bytes ≤ 140737488355328)
    (h : ∀ v' w', Rd w' v' (xs ++ news) → Below w.heap.size w w' → (v'.ownBlock = (Value.slice ao n n).ownBlock ∨ ∀ k, v'.ownBlock = some k → w.heap.size ≤ k) → wpList P ops Q rest (a.put o.dst v') w') : wpList P ops Q (o :: rest) a w := by
  refine wpList_plain hgd fun K hK => ?_
  obtain ⟨v', w', hr, h2, h3, h4⟩ := run_append_full (P := P) w t o.type e i z bytes ht hi hz hsize hby hzs ao n xs hu y news hy h1 h63 hbytes
  unfold Oper.wp execOp
  simp only [ho, resolve, invoke, builtin, Sem.run_bind, Sem.run_pure, Result.andThen_ok, List.map_toArray, List.map_cons, List.map_nil, hs, hx, hr]
  exact hK _ _ (h v' w' h2 h3 h4)
end
section
variable {P : Program}
theorem wpStill_load_mid {ops : Array Oper} {w : World} {Q : Act → Prop} {a : Act} {o : Oper} {rest : List Oper} (hgd : o.guard = none) (ty : TypeId) (x : Operand) (ho : o.op = .load ty x)
    (b off : Nat) (hx : a.eval x = .pointer (some ⟨b, off, none⟩)) {e : TypeId} {n : Nat} (l : List UInt32) (hc : w.rangeAt b off (vw l)) (hu : P.underlying ty = some (.array n e)) (hi : (P.info? ty).map (·.size) = some n) (hl : l.length = n)
    (k : wpStill P ops w Q rest (a.put o.dst (.agg (vw l).toArray))) : wpStill P ops w Q (o :: rest) a := by
  refine wpStill_step fun K hK => ?_
  rw [if_pos (by simp [Region.wanted, hgd])]
  have hr := run_loadVar_mid (P := P) w b off ty (vw l) _ hc hu rfl (by rw [hi]; simp [hl])
  unfold Oper.still execOp
  simp only [ho, hx, Instr.loadAt, Instr.sureAddr, Sem.run_bind, Sem.run_pure, Result.andThen_ok, hr]
  exact ⟨rfl, hK _ k⟩
end
theorem loadAt_arr {P : Program} {w : World} {b off n : Nat} {ty e : TypeId} (l : List UInt32) (hc : w.rangeAt b off (vw l)) (hu : P.underlying ty = some (.array n e)) (hi : (P.info? ty).map (·.size) = some n) (hl : l.length = n) :
    (Instr.loadAt ty (.pointer (some ⟨b, off, none⟩))).run P w = .ok (.agg (vw l).toArray) w :=
  run_loadAt_mid w b off ty (vw l) _ hc hu rfl (by rw [hi]; simp [hl])
theorem storeAt_arr {P : Program} {w : World} {b off n : Nat} {ty : TypeId} (l : List UInt32) (ht : w.there b off n) (hi : (P.info? ty).map (·.size) = some n) (hl : l.length = n) :
    (Instr.storeAt ty (.pointer (some ⟨b, off, none⟩)) (.agg (vw l).toArray)).run P w = .ok () (w.setCells b off (vw l)) := by
  have := run_storeAt_mid (P := P) w b off ty (vw l).toArray (by simpa [hl] using ht) (by rw [hi]; simp [hl]) (vw_all l)
  simpa using this
theorem vw_lit8 (l : List UInt32) (h : l.length = 8) : (vw l).toArray = #[.int .u32 (wAt l 0), .int .u32 (wAt l 1), .int .u32 (wAt l 2), .int .u32 (wAt l 3), .int .u32 (wAt l 4), .int .u32 (wAt l 5), .int .u32 (wAt l 6), .int .u32 (wAt l 7)] := by
  match l, h with
  | [_, _, _, _, _, _, _, _], _ => rfl
theorem vw_lit16 (l : List UInt32) (h : 16 ≤ l.length) : (vw (l.take 16)).toArray = #[.int .u32 (wAt l 0), .int .u32 (wAt l 1), .int .u32 (wAt l 2), .int .u32 (wAt l 3), .int .u32 (wAt l 4), .int .u32 (wAt l 5), .int .u32 (wAt l 6), .int .u32 (wAt l 7), .int .u32 (wAt l 8), .int .u32 (wAt l 9), .int .u32 (wAt l 10), .int .u32 (wAt l 11), .int .u32 (wAt l 12), .int .u32 (wAt l 13), .int .u32 (wAt l 14), .int .u32 (wAt l 15)] := by
  match l, h with
  | _ :: _ :: _ :: _ :: _ :: _ :: _ :: _ :: _ :: _ :: _ :: _ :: _ :: _ :: _ :: _ :: r, _ => rfl
theorem storeCells_arr {P : Program} {w : World} {b n : Nat} (l : List UInt32) (ht : w.there b 0 n) (hl : l.length = n) :
    (storeCells ⟨b, 0, none⟩ (vw l)).run P w = .ok () (w.setCells b 0 (vw l)) := by
  have := run_storeCells_cells (P := P) b 0 (vw l) 0 w (fun j hj => by simpa using (ht j (by simp at hj; omega)).1) (fun j hj => by simpa using (ht j (by simp at hj; omega)).2) (vw_oneCell l)
  simpa using this
theorem Rd.range {w : World} {b off n cap : Nat} {l : List UInt32} (h : Rd w (.slice (some ⟨b, off, none⟩) n cap) (vw l)) (k : Nat) (hk : k ≤ l.length) : w.rangeAt b off (vw (l.take k)) := by
  obtain ⟨ao', c', hv, h1, h2, h3⟩ := h
  simp only [Value.slice.injEq] at hv
  obtain ⟨rfl, rfl, rfl⟩ := hv
  intro j u hu
  rcases h3 with h | ⟨b2, off2, h, hc⟩
  · have : l = [] := by simpa [vw] using h
    subst this
    simp [vw] at hu
  · cases h
    refine hc j u ?_
    unfold vw at hu ⊢
    rw [List.map_take] at hu
    exact (List.getElem?_eq_some_iff.2 (by obtain ⟨h1, h2⟩ := List.getElem?_eq_some_iff.1 hu; rw [List.getElem_take] at h2; exact ⟨by rw [List.length_take] at h1; omega, h2⟩))
theorem Rd.full {w : World} {ao : Option Addr} {n cap : Nat} {xs : List Value} (h : Rd w (.slice ao n cap) xs) : Rd w (.slice ao n n) xs := by
  obtain ⟨ao', c', hv, h1, h2, h3⟩ := h
  simp only [Value.slice.injEq] at hv
  obtain ⟨rfl, rfl, rfl⟩ := hv
  exact ⟨ao, _, rfl, Nat.le_refl _, by omega, h3⟩
theorem setCells_other (b : Nat) : ∀ (vs : List Value) (o : Nat) (w : World) (k : Nat), k ≠ b → (w.setCells b o vs).heap[k]? = w.heap[k]?
  | [], _, _, _, _ => rfl
  | v :: r, o, w, k, h => by rw [World.setCells, setCells_other b r (o + 1) _ k h, heap_setCell_other w ⟨b, o, none⟩ k v (fun e => h e)]
theorem setCells_rest (b : Nat) : ∀ (vs : List Value) (o : Nat) (w : World), (w.setCells b o vs).os = w.os ∧ (w.setCells b o vs).tape = w.tape ∧ (w.setCells b o vs).output = w.output ∧ (w.setCells b o vs).heap.size = w.heap.size
  | [], _, _ => ⟨rfl, rfl, rfl, rfl⟩
  | v :: r, o, w => by
    obtain ⟨h1, h2, h3, h4⟩ := setCells_rest b r (o + 1) (w.setCell ⟨b, o, none⟩ v)
    exact ⟨h1, h2, h3, h4.trans (by simp)⟩
theorem grownBy_setCells (w : World) (b o : Nat) (vs : List Value) : w.grownBy (w.setCells b o vs) (some b) := by
  obtain ⟨h1, h2, h3, h4⟩ := setCells_rest b vs o w
  exact ⟨h1, h2, h3, by omega, fun k _ hk => setCells_other b vs o w k fun e => hk (by rw [e])⟩
theorem grownBy_setCell (w : World) (b o : Nat) (v : Value) : w.grownBy (w.setCell ⟨b, o, none⟩ v) (some b) :=
  ⟨rfl, rfl, rfl, by simp, fun k _ hk => heap_setCell_other w ⟨b, o, none⟩ k _ (fun e => hk (by simp [e]))⟩
/-- a digest: its state, how many words so far, the list that waits -/
structure Dig (w : World) (g : Nat) (S : List UInt32) (n : Int) (v : Value) : Prop where
  lt : g < w.heap.size
  len : S.length = 8
  st : w.rangeAt g 0 (vw S)
  cn : w.cell? ⟨g, 8, none⟩ = some (.int .i64 n)
  cw : w.cell? ⟨g, 9, none⟩ = some v
  fr : w.there g 0 10
theorem Dig.kept {w w' : World} {g : Nat} {S : List UInt32} {n : Int} {v : Value} (h : Dig w g S n v) (hs : w.heap.size ≤ w'.heap.size) (hb : w'.heap[g]? = w.heap[g]?) : Dig w' g S n v := by
  have hc : ∀ o, w'.cell? ⟨g, o, none⟩ = w.cell? ⟨g, o, none⟩ := fun o => World.cell?_of_block (a := ⟨g, o, none⟩) hb
  have hf : ∀ o, w'.frozen? ⟨g, o, none⟩ = w.frozen? ⟨g, o, none⟩ := fun o => World.frozen?_of_block (a := ⟨g, o, none⟩) hb
  exact ⟨Nat.lt_of_lt_of_le h.lt hs, h.len, fun j u hu => (hc _).trans (h.st j u hu), (hc _).trans h.cn, (hc _).trans h.cw, fun j hj => ⟨by rw [hc]; exact (h.fr j hj).1, by rw [hf]; exact (h.fr j hj).2⟩⟩
theorem Dig.below {w w' : World} {g : Nat} {S : List UInt32} {n : Int} {v : Value} (h : Dig w g S n v) (hb : Below w.heap.size w w') : Dig w' g S n v := h.kept hb.size (hb.block g h.lt)
theorem Dig.grown {w w' : World} {g : Nat} {S : List UInt32} {n : Int} {v : Value} {r : Option Nat} (h : Dig w g S n v) (hg : w.grownBy w' r) (hr : some g ≠ r) : Dig w' g S n v := h.kept hg.size (hg.block g h.lt hr)
theorem Dig.drew {w : World} {g : Nat} {S : List UInt32} {n : Int} {v : Value} (h : Dig w g S n v) : Dig w.drew g S n v := h.kept (Nat.le_refl _) rfl
theorem Dig.alloc {w : World} {g : Nat} {S : List UInt32} {n : Int} {v : Value} (h : Dig w g S n v) (o : Obj) : Dig (w.alloc o) g S n v := h.kept (by simp) (heap_alloc_old w o h.lt)
theorem there_setCell {w : World} {b n : Nat} (h : w.there b 0 n) (o : Nat) (v : Value) : (w.setCell ⟨b, o, none⟩ v).there b 0 n := World.there_setCells h b o [v]
theorem Dig.setN {w : World} {g : Nat} {S : List UInt32} {n : Int} {v : Value} (h : Dig w g S n v) (n' : Int) : Dig (w.setCell ⟨g, 8, none⟩ (.int .i64 n')) g S n' v := by
  refine ⟨by simpa using h.lt, h.len, ?_, World.cell?_setCell_same _ _ _ h.cn, ?_, there_setCell h.fr _ _⟩
  · exact World.rangeAt_setCells_apart h.st g 8 [_] (.inr (.inl (by simp [h.len])))
  · exact (World.cell?_setCell_other _ _ _ _ (by simp)).trans h.cw
theorem Dig.setW {w : World} {g : Nat} {S : List UInt32} {n : Int} {v : Value} (h : Dig w g S n v) (v' : Value) : Dig (w.setCell ⟨g, 9, none⟩ v') g S n v' := by
  refine ⟨by simpa using h.lt, h.len, ?_, ?_, World.cell?_setCell_same _ _ _ h.cw, there_setCell h.fr _ _⟩
  · exact World.rangeAt_setCells_apart h.st g 9 [_] (.inr (.inl (by simp [h.len])))
  · exact (World.cell?_setCell_other _ _ _ _ (by simp)).trans h.cn
theorem Dig.setS {w : World} {g : Nat} {S : List UInt32} {n : Int} {v : Value} (h : Dig w g S n v) (S' : List UInt32) (hS : S'.length = 8) : Dig (w.setCells g 0 (vw S')) g S' n v := by
  have h4 := (setCells_rest g (vw S') 0 w).2.2.2
  refine ⟨by rw [h4]; exact h.lt, hS, World.rangeAt_setCells_same w g 0 (vw S') (fun j hj => h.fr j (by simp [hS] at hj; omega)), ?_, ?_, World.there_setCells h.fr _ _ _⟩
  · exact (World.cell?_setCells_out g (vw S') 0 w ⟨g, 8, none⟩ (fun _ _ => .inr (by simp [hS]))).trans h.cn
  · exact (World.cell?_setCells_out g (vw S') 0 w ⟨g, 9, none⟩ (fun _ _ => .inr (by simp [hS]))).trans h.cw
theorem Dig.of_block {w : World} {g : Nat} {t : TypeId} {S : List UInt32} {n : Int} {v : Value} (h : w.heap[g]? = some (.cells (vw S ++ [.int .i64 n, v]).toArray t (0, 0))) (hS : S.length = 8) : Dig w g S n v := by
  have hc : ∀ j, w.cell? ⟨g, j, none⟩ = (vw S ++ [Value.int .i64 n, v])[j]? := fun j => by rw [cell_of_row w g j _ t _ h]; simp
  have l8 : (vw S).length = 8 := by simp [hS]
  refine ⟨(Array.getElem?_eq_some_iff.1 h).1, hS, fun j u hu => ?_, ?_, ?_, fun j hj => ⟨?_, frozen_of_row w g _ _ t h⟩⟩
  · rw [Nat.zero_add, hc, List.getElem?_append_left (List.getElem?_eq_some_iff.1 hu).1]; exact hu
  · rw [hc, List.getElem?_append_right (by omega), l8]; rfl
  · rw [hc, List.getElem?_append_right (by omega), l8]; rfl
  · rw [hc, List.getElem?_eq_getElem (by rw [List.length_append, l8]; simp; omega)]; rfl
end Go.Proofs.YtemanjahkohcpaaGreatDoor
