/- The law's book, as a row of seven cells an entry: what an entry holds as it was answered, and as it was written over. -/
import Derived.Test.YtefbogmgcihndaaDoorUBas
import Derived.Test.YtefbogmgcihndaaDoorTAns
namespace Go.Proofs.YtefbogmgcihndaaDoor
open Go.RowKit WP
/-- an entry of the book: the three lists, the three with one more, the mark -/
structure Ent where
  l : Value
  ml : Value
  w : Value
  mw : Value
  b : Value
  mb : Value
  k : Int
def Ent.cells (e : Ent) : List Value := [e.l, e.ml, e.w, e.mw, e.b, e.mb, .int .u8 e.k]
def rowsOf (E : List Ent) : List Value := E.flatMap Ent.cells
theorem rowsOf_len (E : List Ent) : (rowsOf E).length = E.length * 7 := by
  induction E with
  | nil => rfl
  | cons e E ih => unfold rowsOf at *; rw [List.flatMap_cons, List.length_append, ih]; simp [Ent.cells]; omega
theorem rowsOf_append (E F : List Ent) : rowsOf (E ++ F) = rowsOf E ++ rowsOf F := List.flatMap_append
theorem rowsOf_get (E : List Ent) (i : Nat) (h : i < E.length) (c : Nat) (hc : c < 7) : (rowsOf E)[i * 7 + c]? = (E[i]).cells[c]? := by
  have hs : E = E.take i ++ E[i] :: E.drop (i + 1) := by rw [List.getElem_cons_drop, List.take_append_drop]
  have hl : (rowsOf (E.take i)).length = i * 7 := by rw [rowsOf_len, List.length_take]; omega
  conv => lhs; rw [hs]
  rw [rowsOf_append, List.getElem?_append_right (by omega), hl, show i * 7 + c - i * 7 = c by omega]
  unfold rowsOf
  rw [List.flatMap_cons, List.getElem?_append_left (by simp [Ent.cells]; omega)]
/-- what lies at an entry's place -/
structure EntAt (w : World) (B at_ : Nat) (e : Ent) : Prop where
  c0 : w.cell? ⟨B, at_, none⟩ = some e.l
  c1 : w.cell? ⟨B, at_ + 1, none⟩ = some e.ml
  c2 : w.cell? ⟨B, at_ + 2, none⟩ = some e.w
  c3 : w.cell? ⟨B, at_ + 3, none⟩ = some e.mw
  c4 : w.cell? ⟨B, at_ + 4, none⟩ = some e.b
  c5 : w.cell? ⟨B, at_ + 5, none⟩ = some e.mb
  c6 : w.cell? ⟨B, at_ + 6, none⟩ = some (.int .u8 e.k)
theorem EntAt.later {w w' : World} {B at_ : Nat} {e : Ent} (h : EntAt w B at_ e) (hb : Below w.heap.size w w') : EntAt w' B at_ e :=
  ⟨(hb.cell (World.block_lt_of_cell? _ _ h.c0)).trans h.c0, (hb.cell (World.block_lt_of_cell? _ _ h.c1)).trans h.c1, (hb.cell (World.block_lt_of_cell? _ _ h.c2)).trans h.c2, (hb.cell (World.block_lt_of_cell? _ _ h.c3)).trans h.c3, (hb.cell (World.block_lt_of_cell? _ _ h.c4)).trans h.c4, (hb.cell (World.block_lt_of_cell? _ _ h.c5)).trans h.c5, (hb.cell (World.block_lt_of_cell? _ _ h.c6)).trans h.c6⟩
theorem book_at {w : World} {base : Nat} {t : TypeId} {vb : Value} {E : List Ent} (h : w.ownsRow base t 7 vb E.length (rowsOf E)) (i : Nat) (hi : i < E.length) :
    ∃ B cap, vb = .slice (some ⟨B, 0, none⟩) E.length cap ∧ base ≤ B ∧ B < w.heap.size ∧ E.length ≤ cap ∧ cap ≤ maxLen ∧ EntAt w B (i * 7) E[i] := by
  obtain ⟨B, cap, rfl, h1, h2⟩ := h.form (by omega)
  obtain ⟨_, hv | ⟨g, cap', cur, hv, _, _, hc1, hc2, _⟩⟩ := id h
  · simp at hv
  simp only [Value.slice.injEq, Option.some.injEq, Addr.mk.injEq, and_true, true_and] at hv
  obtain ⟨rfl, rfl⟩ := hv
  have key : ∀ c, c < 7 → w.cell? ⟨B, i * 7 + c, none⟩ = (E[i]).cells[c]? := fun c hc => (h.cellAt (i * 7 + c) (by omega)).trans (rowsOf_get E i hi c hc)
  exact ⟨B, cap, rfl, h1, h2, hc1, hc2, key 0 (by decide), key 1 (by decide), key 2 (by decide), key 3 (by decide), key 4 (by decide), key 5 (by decide), key 6 (by decide)⟩
def vals (E : List Ent) : List Value := E.flatMap fun e => [e.l, e.w, e.b]
theorem vals_append (E F : List Ent) : vals (E ++ F) = vals E ++ vals F := List.flatMap_append
theorem vals_cons (e : Ent) (E : List Ent) : vals (e :: E) = e.l :: e.w :: e.b :: vals E := by unfold vals; rw [List.flatMap_cons]; rfl
theorem mem_vals {E : List Ent} {v : Value} : v ∈ vals E ↔ ∃ e ∈ E, v = e.l ∨ v = e.w ∨ v = e.b := by simp [vals]
/-- an entry whose lists are rows of the call's own, whatever they hold -/
def EntOwn (base : Nat) (w : World) (e : Ent) : Prop :=
  ∃ n xs m ys q zs, n ≤ 4294967296 ∧ m ≤ 4294967296 ∧ q ≤ 4294967296 ∧ w.ownsRow base 9 1 e.l n xs ∧ w.ownsRow base 30 3 e.w m ys ∧ w.ownsRow base 5 1 e.b q zs
/-- an entry as it was answered -/
structure EntTold (base : Nat) (d : OpD) (w : World) (e : Ent) : Prop where
  hl : w.ownsRow base 9 1 e.l (linesG d.S).length (vs (linesG d.S))
  hw : w.ownsRow base 30 3 e.w (wordsL d.S).length (ww (wordsL d.S))
  hb : w.ownsRow base 5 1 e.b d.B.length (vb d.B)
  nl : (linesG d.S).length ≤ 4294967296
  nw : (wordsL d.S).length ≤ 4294967296
  nb : d.B.length ≤ 4294967296
theorem EntTold.own {base : Nat} {d : OpD} {w : World} {e : Ent} (h : EntTold base d w e) : EntOwn base w e :=
  ⟨_, _, _, _, _, _, h.nl, h.nw, h.nb, h.hl, h.hw, h.hb⟩
theorem EntTold.touch {S : List Value} {base : Nat} {d : OpD} {w w' : World} {e : Ent} (h : EntTold base d w e) (ht : Touch S w w') (h1 : ∀ s ∈ S, Far e.l s) (h2 : ∀ s ∈ S, Far e.w s) (h3 : ∀ s ∈ S, Far e.b s) : EntTold base d w' e :=
  ⟨ht.own h.hl h1, ht.own h.hw h2, ht.own h.hb h3, h.nl, h.nw, h.nb⟩
theorem EntTold.below {base : Nat} {d : OpD} {w w' : World} {e : Ent} (h : EntTold base d w e) (hb : Below w.heap.size w w') : EntTold base d w' e :=
  ⟨own_below h.hl hb, own_below h.hw hb, own_below h.hb hb, h.nl, h.nw, h.nb⟩
theorem EntTold.base {B B' : Nat} {d : OpD} {w : World} {e : Ent} (h : EntTold B d w e) (hb : B' ≤ B) : EntTold B' d w e :=
  ⟨own_base h.hl hb, own_base h.hw hb, own_base h.hb hb, h.nl, h.nw, h.nb⟩
theorem EntOwn.touch {S : List Value} {base : Nat} {w w' : World} {e : Ent} (h : EntOwn base w e) (ht : Touch S w w') (h1 : ∀ s ∈ S, Far e.l s) (h2 : ∀ s ∈ S, Far e.w s) (h3 : ∀ s ∈ S, Far e.b s) : EntOwn base w' e := by
  obtain ⟨n, xs, m, ys, q, zs, a1, a2, a3, a4, a5, a6⟩ := h
  exact ⟨n, xs, m, ys, q, zs, a1, a2, a3, ht.own a4 h1, ht.own a5 h2, ht.own a6 h3⟩
theorem EntOwn.lt {base : Nat} {w : World} {e : Ent} (h : EntOwn base w e) : ∀ v, v = e.l ∨ v = e.w ∨ v = e.b → ∀ k, v.ownBlock = some k → base ≤ k ∧ k < w.heap.size := by
  obtain ⟨n, xs, m, ys, q, zs, _, _, _, a4, a5, a6⟩ := h
  rintro v (rfl | rfl | rfl) k hk
  · exact a4.lt k hk
  · exact a5.lt k hk
  · exact a6.lt k hk
/-- the mark's text -/
def markS (m : UInt8) : ByteArray := ⟨#[109, m]⟩
/-- an entry that is written over with its mark -/
structure EntRead (w : World) (e : Ent) : Prop where
  at_ : ∃ (m : UInt8) (n q p : Nat), e.k = (m.toNat : Int) ∧ Reads w 1 e.l n (List.replicate n (.string (markS m))) ∧ Reads w 1 e.ml (n + 1) (List.replicate (n + 1) (.string (markS m))) ∧
    Reads w 3 e.w q (ww (List.replicate q (markS m, false, m.toNat))) ∧ Reads w 3 e.mw (q + 1) (ww (List.replicate (q + 1) (markS m, false, m.toNat))) ∧
    Reads w 1 e.b p (List.replicate p (.int .u8 (m.toNat : Int))) ∧ Reads w 1 e.mb (p + 1) (List.replicate (p + 1) (.int .u8 (m.toNat : Int)))
def six (e : Ent) : List Value := [e.l, e.ml, e.w, e.mw, e.b, e.mb]
theorem EntRead.touch {S : List Value} {w w' : World} {e : Ent} (h : EntRead w e) (ht : Touch S w w') (hf : ∀ y ∈ six e, ∀ s ∈ S, Far y s) : EntRead w' e := by
  obtain ⟨m, n, q, p, h0, h1, h2, h3, h4, h5, h6⟩ := h.at_
  exact ⟨m, n, q, p, h0, h1.touch ht (hf _ (by simp [six])), h2.touch ht (hf _ (by simp [six])), h3.touch ht (hf _ (by simp [six])), h4.touch ht (hf _ (by simp [six])), h5.touch ht (hf _ (by simp [six])), h6.touch ht (hf _ (by simp [six]))⟩
theorem EntRead.later {w w' : World} {e : Ent} (h : EntRead w e) (hb : Below w.heap.size w w') : EntRead w' e :=
  h.touch (Touch.of_below (S := []) hb) (by simp)
theorem EntRead.lt {w : World} {e : Ent} (h : EntRead w e) : ∀ y ∈ six e, ∀ k, y.ownBlock = some k → k < w.heap.size := by
  obtain ⟨m, n, q, p, h0, h1, h2, h3, h4, h5, h6⟩ := h.at_
  intro y hy
  simp only [six, List.mem_cons, List.not_mem_nil, or_false] at hy
  rcases hy with rfl | rfl | rfl | rfl | rfl | rfl
  · exact h1.lt
  · exact h2.lt
  · exact h3.lt
  · exact h4.lt
  · exact h5.lt
  · exact h6.lt
/-! ### the book while entries are added -/
/-- which op an entry answers -/
def kk (i : Nat) : Nat := if i % 3 = 2 then i / 3 / 2 else i / 3
structure Book (base : Nat) (t : TypeId) (D : Nat → OpD) (w : World) (b : Value) (E : List Ent) : Prop where
  row : w.ownsRow base t 7 b E.length (rowsOf E)
  far : (vals E).Pairwise Far
  off : ∀ v ∈ vals E, Far v b
  told : ∀ i (h : i < E.length), EntTold base (D (kk i)) w E[i]
theorem Book.nil (base : Nat) (t : TypeId) (D : Nat → OpD) (w : World) : Book base t D w (.slice none 0 0) [] :=
  ⟨World.ownsRow_nil _ _ _ _, List.Pairwise.nil, by simp [vals], fun i h => absurd h (by simp)⟩
theorem Book.below {base : Nat} {t : TypeId} {D : Nat → OpD} {w w' : World} {b : Value} {E : List Ent} (h : Book base t D w b E) (hb : Below w.heap.size w w') : Book base t D w' b E :=
  ⟨own_below h.row hb, h.far, h.off, fun i hi => (h.told i hi).below hb⟩
theorem Book.mem {base : Nat} {t : TypeId} {D : Nat → OpD} {w : World} {b : Value} {E : List Ent} (h : Book base t D w b E) {e : Ent} (he : e ∈ E) : EntOwn base w e := by
  obtain ⟨i, hi, rfl⟩ := List.getElem_of_mem he
  exact (h.told i hi).own
/-- one entry more -/
theorem Book.add {base B : Nat} {t : TypeId} {D : Nat → OpD} {w w0 w' : World} {b b' : Value} {E : List Ent} {e : Ent} (h : Book base t D w0 b E) (hb : Below w0.heap.size w0 w) (he : EntTold B (D (kk E.length)) w e) (hB : w0.heap.size ≤ B) (hbB : base ≤ w0.heap.size)
    (hfar : [e.l, e.w, e.b].Pairwise Far)
    (hrow : w'.ownsRow base t 7 b' (E.length + 1) (rowsOf E ++ e.cells)) (hO : Onto w b w' b') :
    Book base t D w' b' (E ++ [e]) := by
  have hE := h.below hb
  have hoff : ∀ v ∈ vals (E ++ [e]), Far v b := by
    intro v hv
    rw [vals_append, List.mem_append] at hv
    rcases hv with hv | hv
    · exact h.off v hv
    · intro k h1 h2
      obtain ⟨e', he', hev⟩ := mem_vals.1 hv
      rw [List.mem_singleton.1 he'] at hev
      have := (he.own.lt v hev k h1).1
      have := (h.row.lt k h2).2
      omega
  have hlt : ∀ v ∈ vals (E ++ [e]), ∀ k, v.ownBlock = some k → k < w.heap.size := by
    intro v hv k hk
    obtain ⟨e', he', hev⟩ := mem_vals.1 hv
    rcases List.mem_append.1 he' with hm | hm
    · exact ((hE.mem hm).lt v hev k hk).2
    · rw [List.mem_singleton.1 hm] at hev
      exact (he.own.lt v hev k hk).2
  have ht : Touch [b] w w' := Touch.onto hO (by simp)
  have hE' : ∀ e' ∈ E ++ [e], (∀ s ∈ [b], Far e'.l s) ∧ (∀ s ∈ [b], Far e'.w s) ∧ (∀ s ∈ [b], Far e'.b s) := by
    intro e' he'
    refine ⟨?_, ?_, ?_⟩ <;> intro s hs <;> rw [List.mem_singleton.1 hs]
    · exact hoff _ (mem_vals.2 ⟨e', he', .inl rfl⟩)
    · exact hoff _ (mem_vals.2 ⟨e', he', .inr (.inl rfl)⟩)
    · exact hoff _ (mem_vals.2 ⟨e', he', .inr (.inr rfl)⟩)
  refine ⟨?_, ?_, ?_, ?_⟩
  · have e1 : rowsOf (E ++ [e]) = rowsOf E ++ e.cells := by rw [rowsOf_append]; unfold rowsOf; simp
    rw [e1, List.length_append]; exact hrow
  · rw [vals_append, List.pairwise_append]
    refine ⟨h.far, ?_, fun u hu v hv k h1 h2 => ?_⟩
    · rw [vals_cons]; exact hfar
    · obtain ⟨e1, he1, hev1⟩ := mem_vals.1 hu
      obtain ⟨e2, he2, hev2⟩ := mem_vals.1 hv
      rw [List.mem_singleton.1 he2] at hev2
      have := ((h.mem he1).lt u hev1 k h1).2
      have := (he.own.lt v hev2 k h2).1
      omega
  · intro v hv
    exact ((Near.far (w := w) (v := b) (v' := b') hO.2 (hoff v hv).symm (hlt v hv))).symm
  · intro i hi
    by_cases hi' : i < E.length
    · rw [List.getElem_append_left hi']
      obtain ⟨f1, f2, f3⟩ := hE' E[i] (List.mem_append_left _ (List.getElem_mem hi'))
      exact (hE.told i hi').touch ht f1 f2 f3
    · obtain rfl : i = E.length := by simp at hi; omega
      rw [List.getElem_append_right (Nat.le_refl _)]
      simp only [Nat.sub_self, List.getElem_cons_zero]
      obtain ⟨f1, f2, f3⟩ := hE' e (by simp)
      exact (he.base (by omega)).touch ht f1 f2 f3
/-! ### the book while its entries are written over -/
structure Book4 (base : Nat) (ty : TypeId) (w : World) (b : Value) (D T : List Ent) : Prop where
  row : w.ownsRow base ty 7 b (D ++ T).length (rowsOf (D ++ T))
  far : (vals T).Pairwise Far
  off : ∀ v ∈ vals T, Far v b
  done : ∀ d ∈ D, EntRead w d ∧ ∀ y ∈ six d, Far y b ∧ ∀ v ∈ vals T, Far y v
  todo : ∀ t ∈ T, EntOwn base w t
theorem Book4.start {base : Nat} {ty : TypeId} {Ds : Nat → OpD} {w : World} {b : Value} {T : List Ent} (h : Book base ty Ds w b T) : Book4 base ty w b [] T :=
  ⟨h.row, h.far, h.off, by simp, fun _ ht => h.mem ht⟩
theorem Book4.below {base : Nat} {ty : TypeId} {w w' : World} {b : Value} {D T : List Ent} (h : Book4 base ty w b D T) (hb : Below w.heap.size w w') : Book4 base ty w' b D T :=
  ⟨own_below h.row hb, h.far, h.off, fun d hd => ⟨(h.done d hd).1.later hb, (h.done d hd).2⟩, fun t ht => (h.todo t ht).touch (Touch.of_below (S := []) hb) (by simp) (by simp) (by simp)⟩
theorem rowsOf_upd (D T : List Ent) (t t' : Ent) : rowsOf (D ++ t' :: T) = (rowsOf (D ++ t :: T)).take (D.length * 7) ++ t'.cells ++ (rowsOf (D ++ t :: T)).drop (D.length * 7 + 7) := by
  have e : ∀ x : Ent, rowsOf (D ++ x :: T) = rowsOf D ++ (x.cells ++ rowsOf T) := fun x => by rw [rowsOf_append]; unfold rowsOf; rw [List.flatMap_cons]
  rw [e, e, ← rowsOf_len, List.take_left, ← List.drop_drop, List.drop_left, List.append_assoc]
  congr 2
/-- one entry is written over: w1 is behind the hold, w2 behind the store of its answer -/
theorem Book4.step {base : Nat} {ty : TypeId} {w w1 w2 : World} {b : Value} {D T : List Ent} {t t' : Ent} (h : Book4 base ty w b D (t :: T))
    (ht : Touch [t.l, t.w, t.b] w w1) (hR : EntRead w1 t') (e1 : t'.l = t.l) (e2 : t'.w = t.w) (e3 : t'.b = t.b) (n1 : Near w t.l t'.ml) (n2 : Near w t.w t'.mw) (n3 : Near w t.b t'.mb)
    (hg : Touch [b] w1 w2) (hrow : w2.ownsRow base ty 7 b (D ++ t' :: T).length (rowsOf (D ++ t' :: T))) :
    Book4 base ty w2 b (D ++ [t']) T := by
  have hfar := h.far
  have hoff := h.off
  rw [vals_cons] at hfar hoff
  rw [List.pairwise_cons, List.pairwise_cons, List.pairwise_cons] at hfar
  obtain ⟨f1, f2, f3, f4⟩ := hfar
  have lw := f1 t.w (by simp)
  have lb := f1 t.b (by simp)
  have wb := f2 t.b (by simp)
  have ltT : ∀ v ∈ vals T, ∀ k, v.ownBlock = some k → k < w.heap.size := fun v hv k hk => by
    obtain ⟨e, he, hev⟩ := mem_vals.1 hv
    exact ((h.todo e (List.mem_cons_of_mem _ he)).lt v hev k hk).2
  have ltb : ∀ k, b.ownBlock = some k → k < w.heap.size := fun k hk => (h.row.lt k hk).2
  have farT : ∀ v ∈ vals T, ∀ s ∈ [t.l, t.w, t.b], Far v s := by
    intro v hv s hs
    simp only [List.mem_cons, List.not_mem_nil, or_false] at hs
    rcases hs with rfl | rfl | rfl
    · exact (f1 v (by simp [hv])).symm
    · exact (f2 v (by simp [hv])).symm
    · exact (f3 v hv).symm
  have offT : ∀ v ∈ vals T, Far v b := fun v hv => hoff v (by simp [hv])
  have new : ∀ y ∈ six t', Far y b ∧ ∀ v ∈ vals T, Far y v := by
    intro y hy
    simp only [six, List.mem_cons, List.not_mem_nil, or_false] at hy
    have hl := hoff t.l (by simp)
    have hw := hoff t.w (by simp)
    have hb := hoff t.b (by simp)
    rcases hy with rfl | rfl | rfl | rfl | rfl | rfl
    · rw [e1]; exact ⟨hl, fun v hv => (farT v hv t.l (by simp)).symm⟩
    · exact ⟨n1.far hl ltb, fun v hv => n1.far (farT v hv t.l (by simp)).symm (ltT v hv)⟩
    · rw [e2]; exact ⟨hw, fun v hv => (farT v hv t.w (by simp)).symm⟩
    · exact ⟨n2.far hw ltb, fun v hv => n2.far (farT v hv t.w (by simp)).symm (ltT v hv)⟩
    · rw [e3]; exact ⟨hb, fun v hv => (farT v hv t.b (by simp)).symm⟩
    · exact ⟨n3.far hb ltb, fun v hv => n3.far (farT v hv t.b (by simp)).symm (ltT v hv)⟩
  refine ⟨?_, f4, offT, ?_, ?_⟩
  · rw [List.append_assoc]; exact hrow
  · intro d hd
    rcases List.mem_append.1 hd with hd | hd
    · obtain ⟨r1, r2⟩ := h.done d hd
      refine ⟨(r1.touch ht fun y hy s hs => ?_).touch hg fun y hy s hs => ?_, fun y hy => ⟨(r2 y hy).1, fun v hv => (r2 y hy).2 v (by rw [vals_cons]; simp [hv])⟩⟩
      · refine (r2 y hy).2 s ?_
        rw [vals_cons]
        simp only [List.mem_cons, List.not_mem_nil, or_false] at hs ⊢
        rcases hs with rfl | rfl | rfl <;> simp
      · rw [List.mem_singleton.1 hs]; exact (r2 y hy).1
    · rw [List.mem_singleton.1 hd]
      exact ⟨hR.touch hg fun y hy s hs => by rw [List.mem_singleton.1 hs]; exact (new y hy).1, new⟩
  · intro u hu
    have m1 : u.l ∈ vals T := mem_vals.2 ⟨u, hu, .inl rfl⟩
    have m2 : u.w ∈ vals T := mem_vals.2 ⟨u, hu, .inr (.inl rfl)⟩
    have m3 : u.b ∈ vals T := mem_vals.2 ⟨u, hu, .inr (.inr rfl)⟩
    exact ((h.todo u (List.mem_cons_of_mem _ hu)).touch ht (farT _ m1) (farT _ m2) (farT _ m3)).touch hg (fun s hs => by rw [List.mem_singleton.1 hs]; exact offT _ m1) (fun s hs => by rw [List.mem_singleton.1 hs]; exact offT _ m2) (fun s hs => by rw [List.mem_singleton.1 hs]; exact offT _ m3)
/-- what hold wants of an entry -/
theorem Book4.mid {base : Nat} {ty : TypeId} {w : World} {b : Value} {D T : List Ent} {t : Ent} (h : Book4 base ty w b D (t :: T)) :
    EntOwn base w t ∧ Far t.l t.w ∧ Far t.l t.b ∧ Far t.w t.b ∧ Far t.l b ∧ Far t.w b ∧ Far t.b b := by
  have hfar := h.far
  have hoff := h.off
  rw [vals_cons] at hfar hoff
  rw [List.pairwise_cons, List.pairwise_cons, List.pairwise_cons] at hfar
  obtain ⟨f1, f2, f3, f4⟩ := hfar
  exact ⟨h.todo t (by simp), f1 _ (by simp), f1 _ (by simp), f2 _ (by simp), hoff _ (by simp), hoff _ (by simp), hoff _ (by simp)⟩
end Go.Proofs.YtefbogmgcihndaaDoor
