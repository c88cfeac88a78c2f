/- What text's Words computes, and the memory that it keeps meanwhile. The quoted form of bytes: plain laws. Plain laws: a line put together of blanks, words and quoted forms is read as just these. -/
import Derived.Test.YtemanjahkohcpaaGreatDoorJn15
namespace Go.Proofs.YtemanjahkohcpaaGreatDoor
open Go.RowKit WP
/-- a word of a line: its text, whether it was quoted, its column -/
abbrev W := ByteArray × Bool × Nat
def ww (l : List W) : List Value := l.flatMap fun x => [.string x.1, .bool x.2.1, .int .i64 (x.2.2 : Int)]
theorem ww_append (a b : List W) : ww (a ++ b) = ww a ++ ww b := by simp [ww]
/-- the place of the first blank, from a place on -/
def skipB (l : List UInt8) : Nat → Nat → Nat
  | 0, i => i
  | f + 1, i => if i < l.length ∧ blankI (bAt l i) = false then skipB l f (i + 1) else i
theorem skipB_bd (l : List UInt8) : ∀ f i, i ≤ l.length → i ≤ skipB l f i ∧ skipB l f i ≤ l.length
  | 0, i, h => ⟨Nat.le_refl _, h⟩
  | f + 1, i, h => by
    unfold skipB
    split
    · have := skipB_bd l f (i + 1) (by omega)
      omega
    · omega
theorem skipB_gt (l : List UInt8) (f i : Nat) (h : i < l.length) (hb : blankI (bAt l i) = false) : i < skipB l (f + 1) i := by
  unfold skipB
  rw [if_pos ⟨h, hb⟩]
  have := skipB_bd l f (i + 1) (by omega)
  omega
theorem qA_bd (l : List UInt8) : ∀ (f i : Nat) (acc b : List UInt8) (n : Nat), qA l f i acc = .inl (b, n) → i < n ∧ n ≤ l.length
  | 0, i, acc, b, n, h => by simp [qA] at h
  | f + 1, i, acc, b, n, h => by
    unfold qA at h
    split at h
    · simp at h
    · split at h
      · simp only [Sum.inl.injEq, Prod.mk.injEq] at h; omega
      · split at h
        · have := qA_bd l f _ _ _ _ h; omega
        · split at h
          · simp at h
          · split at h
            · have := qA_bd l f _ _ _ _ h; omega
            · simp at h
theorem qA_no (l : List UInt8) : ∀ (f i : Nat) (acc : List UInt8) (k : Nat), i ≤ l.length → qA l f i acc = .inr k → k ≤ l.length
  | 0, i, acc, k, hi, h => by simp only [qA, Sum.inr.injEq] at h; omega
  | f + 1, i, acc, k, hi, h => by
    unfold qA at h
    split at h
    · simp only [Sum.inr.injEq] at h; omega
    · split at h
      · simp at h
      · split at h
        · exact qA_no l f _ _ _ (by omega) h
        · split at h
          · simp only [Sum.inr.injEq] at h; omega
          · split at h
            · rename_i h5
              have := escF_long _ h5
              rw [List.length_drop] at this
              exact qA_no l f _ _ _ (by omega) h
            · simp only [Sum.inr.injEq] at h; omega
/-- the words of a line from a place on, behind those that are there; or the column at which it is refused -/
def wA (s : ByteArray) : Nat → Nat → List W → (List W) ⊕ Nat
  | 0, _, acc => .inl acc
  | f + 1, i, acc =>
    if s.size ≤ i then .inl acc
    else if blankI (bAt s.data.toList i) = true then wA s f (i + 1) acc
    else if bAt s.data.toList i = 35 then .inl acc
    else if bAt s.data.toList i = 34 then
      match qA s.data.toList (s.size + 1) (i + 1) [] with
      | .inr k => .inr (k + 1)
      | .inl (b, n) => if n < s.size ∧ blankI (bAt s.data.toList n) = false then .inr (n + 1) else wA s f n (acc ++ [(⟨b.toArray⟩, true, i + 1)])
    else wA s f (skipB s.data.toList s.size i) (acc ++ [(s.extract i (skipB s.data.toList s.size i), false, i + 1)])
def wordsF (s : ByteArray) : (List W) ⊕ Nat := wA s (s.size + 1) 0 []
/-- the three results' places, and the words so far -/
structure Wst (B : Nat) (w0 w' : World) (v : Value) (acc : List W) : Prop where
  b0 : w'.heap[B]? = some (.cells #[v] 49 (0, 0))
  b1 : w'.heap[B + 1]? = some (.cells #[.int .i64 0] 3 (0, 0))
  b2 : w'.heap[B + 1 + 1]? = some (.cells #[.int .i64 0] 31 (0, 0))
  own : w'.ownsRow (B + 3) 76 3 v acc.length (ww acc)
  below : Below B w0 w'
theorem lt_of_block {w : World} {k : Nat} {o : Obj} (h : w.heap[k]? = some o) : k < w.heap.size := by
  rcases Nat.lt_or_ge k w.heap.size with h' | h'
  · exact h'
  · rw [Array.getElem?_eq_none h'] at h; exact absurd h (by simp)
namespace Wst
variable {B : Nat} {w0 w' w2 : World} {v : Value} {acc : List W}
theorem size (h : Wst B w0 w' v acc) : B + 3 ≤ w'.heap.size := by have := lt_of_block h.b2; omega
theorem c0 (h : Wst B w0 w' v acc) : w'.cell? ⟨B, 0, none⟩ = some v := cell_of_row _ _ _ _ _ _ h.b0
theorem c1 (h : Wst B w0 w' v acc) : w'.cell? ⟨B + 1, 0, none⟩ = some (.int .i64 0) := cell_of_row _ _ _ _ _ _ h.b1
theorem c2 (h : Wst B w0 w' v acc) : w'.cell? ⟨B + 1 + 1, 0, none⟩ = some (.int .i64 0) := cell_of_row _ _ _ _ _ _ h.b2
theorem f0 (h : Wst B w0 w' v acc) : w'.frozen? ⟨B, 0, none⟩ = false := frozen_of_row _ _ _ _ _ h.b0
theorem f1 (h : Wst B w0 w' v acc) : w'.frozen? ⟨B + 1, 0, none⟩ = false := frozen_of_row _ _ _ _ _ h.b1
theorem f2 (h : Wst B w0 w' v acc) : w'.frozen? ⟨B + 1 + 1, 0, none⟩ = false := frozen_of_row _ _ _ _ _ h.b2
theorem drew (h : Wst B w0 w' v acc) : Wst B w0 w'.drew v acc := ⟨h.b0, h.b1, h.b2, h.own, h.below.drew⟩
theorem later (h : Wst B w0 w' v acc) (hb : Below w'.heap.size w' w2) : Wst B w0 w2 v acc :=
  ⟨(hb.block _ (lt_of_block h.b0)).trans h.b0, (hb.block _ (lt_of_block h.b1)).trans h.b1, (hb.block _ (lt_of_block h.b2)).trans h.b2,
    h.own.kept (row := none) ⟨hb.os, hb.tape, hb.output, hb.size, fun k hk _ => hb.block k hk⟩ (by
      rcases h.own.2 with ⟨hv, _⟩ | ⟨g, cap, cur, hv, _⟩
      · exact .inl (by rw [hv]; rfl)
      · exact .inr (by rw [hv]; simp [Value.ownBlock])), h.below.trans (hb.mono (by have := h.size; omega))⟩
/-- a word more, not yet stored -/
theorem mid (h : Wst B w0 w' v acc) {o : Obj} {w3 : World} (hg : (w'.alloc o).drew.grownBy w3 v.ownBlock) : w3.cell? ⟨B, 0, none⟩ = some v ∧ w3.frozen? ⟨B, 0, none⟩ = false := by
  have hs := h.size
  have hk : w3.heap[B]? = w'.heap[B]? :=
    (hg.block B (by simp; omega) (fun e => by have := (h.own.lt B e.symm).1; omega)).trans (heap_alloc_old _ _ (by omega))
  exact ⟨cell_of_row _ _ _ _ _ _ (hk.trans h.b0), frozen_of_row _ _ _ _ _ (hk.trans h.b0)⟩
/-- a word more, stored -/
theorem more (h : Wst B w0 w' v acc) (o : Obj) (x : W) {g cap : Nat} {w3 : World} (hg : (w'.alloc o).drew.grownBy w3 v.ownBlock)
    (ho : w3.ownsRow (B + 3) 76 3 (.slice (some ⟨g, 0, none⟩) (acc.length + 1) cap) (acc.length + 1) (ww (acc ++ [x]))) :
    Wst B w0 (w3.setCell ⟨B, 0, none⟩ (.slice (some ⟨g, 0, none⟩) (acc.length + 1) cap)) (.slice (some ⟨g, 0, none⟩) (acc.length + 1) cap) (acc ++ [x]) := by
  have hs := h.size
  have hgs := hg.size
  have hsz : ((w'.alloc o).drew).heap.size = w'.heap.size + 1 := by simp
  have hv : ∀ k, v.ownBlock = some k → B + 3 ≤ k := fun k hk => (h.own.lt k hk).1
  have hk : ∀ k, k < B + 3 → w3.heap[k]? = w'.heap[k]? := fun k hk =>
    (hg.block k (by omega) (fun e => by have := hv k e.symm; omega)).trans (heap_alloc_old _ _ (by omega))
  have hg0 : B + 3 ≤ g := (ho.lt g rfl).1
  refine ⟨?_, ?_, ?_, ?_, ?_⟩
  · have := heap_setCell_same w3 B 0 #[v] 49 (.slice (some ⟨g, 0, none⟩) (acc.length + 1) cap) ((hk B (by omega)).trans h.b0)
    rw [this]; rfl
  · rw [heap_setCell_other _ _ _ _ (by simp)]; exact (hk _ (by omega)).trans h.b1
  · rw [heap_setCell_other _ _ _ _ (by simp; omega)]; exact (hk _ (by omega)).trans h.b2
  · rw [show (acc ++ [x]).length = acc.length + 1 by simp]
    exact ownsRow_setCell_other ho (by simp [Value.ownBlock]; omega) _
  · refine Below.setCell (h.below.trans ⟨hg.os, hg.tape, hg.output, by omega, fun k hk' => hk k (by omega)⟩) (by simp) _
theorem form (h : Wst B w0 w' v acc) : ∃ ao ca, v = .slice ao acc.length ca := by
  rcases h.own.2 with ⟨hv, hn⟩ | ⟨g, cap, cur, hv, _⟩
  · exact ⟨none, 0, by rw [hv, hn]⟩
  · exact ⟨_, _, hv⟩
theorem keep0 (h : Wst B w0 w' v acc) : Wst B w0 (w'.setCell ⟨B, 0, none⟩ v) v acc := by
  refine ⟨?_, ?_, ?_, ownsRow_setCell_below h.own (by simp) _, Below.setCell h.below (by simp) _⟩
  · rw [heap_setCell_same w' B 0 _ _ v h.b0]; rfl
  · rw [heap_setCell_other _ _ _ _ (by simp)]; exact h.b1
  · rw [heap_setCell_other _ _ _ _ (by simp; omega)]; exact h.b2
theorem keep1 (h : Wst B w0 w' v acc) : Wst B w0 (w'.setCell ⟨B + 1, 0, none⟩ (.int .i64 0)) v acc := by
  refine ⟨?_, ?_, ?_, ownsRow_setCell_below h.own (by simp) _, Below.setCell h.below (by simp) _⟩
  · rw [heap_setCell_other _ _ _ _ (by simp)]; exact h.b0
  · rw [heap_setCell_same w' (B + 1) 0 _ _ _ h.b1]; rfl
  · rw [heap_setCell_other _ _ _ _ (by simp)]; exact h.b2
theorem keep2 (h : Wst B w0 w' v acc) : Wst B w0 (w'.setCell ⟨B + 1 + 1, 0, none⟩ (.int .i64 0)) v acc := by
  refine ⟨?_, ?_, ?_, ownsRow_setCell_below h.own (by simp) _, Below.setCell h.below (by simp; omega) _⟩
  · rw [heap_setCell_other _ _ _ _ (by simp; omega)]; exact h.b0
  · rw [heap_setCell_other _ _ _ _ (by simp)]; exact h.b1
  · rw [heap_setCell_same w' (B + 1 + 1) 0 _ _ _ h.b2]; rfl
theorem fail (h : Wst B w0 w' v acc) (x : Int) (w3 : World) (hw : ((w'.setCell ⟨B, 0, none⟩ (.slice none 0 0)).setCell ⟨B + 1, 0, none⟩ (.int .i64 x)).setCell ⟨B + 1 + 1, 0, none⟩ (.int .i64 40) = w3) :
    w3.cell? ⟨B, 0, none⟩ = some (.slice none 0 0) ∧ w3.cell? ⟨B + 1, 0, none⟩ = some (.int .i64 x) ∧ w3.cell? ⟨B + 1 + 1, 0, none⟩ = some (.int .i64 40) ∧ Below B w0 w3 := by
  subst hw
  have h1 : (w'.setCell ⟨B, 0, none⟩ (.slice none 0 0)).heap[B + 1]? = _ := (heap_setCell_other _ _ _ _ (by simp)).trans h.b1
  have h2 : ((w'.setCell ⟨B, 0, none⟩ (.slice none 0 0)).setCell ⟨B + 1, 0, none⟩ (.int .i64 x)).heap[B + 1 + 1]? = _ := (heap_setCell_other _ _ _ _ (by simp)).trans ((heap_setCell_other _ _ _ _ (by simp; omega)).trans h.b2)
  refine ⟨?_, ?_, ?_, Below.setCell (Below.setCell (Below.setCell h.below (by simp) _) (by simp) _) (by simp; omega) _⟩
  · refine cell_of_row _ _ _ #[.slice none 0 0] 49 (0, 0) ?_
    rw [heap_setCell_other _ _ _ _ (by simp; omega), heap_setCell_other _ _ _ _ (by simp), heap_setCell_same w' B 0 _ _ _ h.b0]; rfl
  · refine cell_of_row _ _ _ #[.int .i64 x] 3 (0, 0) ?_
    rw [heap_setCell_other _ _ _ _ (by simp), heap_setCell_same _ (B + 1) 0 _ _ _ h1]; rfl
  · refine cell_of_row _ _ _ #[.int .i64 40] 31 (0, 0) ?_
    rw [heap_setCell_same _ (B + 1 + 1) 0 _ _ _ h2]; rfl
end Wst
/-- what Words answers -/
def WordsRes (R : (List W) ⊕ Nat) (B : Nat) (e : Ending) (w' : World) : Prop :=
  match R with
  | .inl acc => ∃ v, e = .returned (.tuple #[v, .int .i64 0, .int .i64 0]) ∧ w'.ownsRow (B + 3) 76 3 v acc.length (ww acc)
  | .inr c => e = .returned (.tuple #[.slice none 0 0, .int .i64 (c : Int), .int .i64 40])
theorem infoW : (Tryz.prog.info? 76).map (fun i => (i.zero.map (fun z => z.cells.size), i.size, i.bytes)) = some (some 3, 3, 32) := by kernel_rfl
theorem infoW_parts : ∃ i z, Tryz.prog.info? 76 = some i ∧ i.zero = some z ∧ i.size = 3 ∧ i.bytes = 32 ∧ z.cells.size = 3 := by
  have h := infoW
  cases hi : Tryz.prog.info? 76 with
  | none => rw [hi] at h; exact absurd h (by simp)
  | some i =>
    rw [hi] at h
    simp only [Option.map_some, Option.some.injEq, Prod.mk.injEq] at h
    obtain ⟨h1, h2, h3⟩ := h
    cases hz : i.zero with
    | none => rw [hz] at h1; exact absurd h1 (by simp)
    | some z => rw [hz] at h1; simp only [Option.map_some, Option.some.injEq] at h1; exact ⟨i, z, rfl, hz, h2, h3, h1⟩
end Go.Proofs.YtemanjahkohcpaaGreatDoor

namespace Go.Proofs.YtemanjahkohcpaaGreatDoor
open Go.RowKit WP
def dgB (d : Nat) : UInt8 := if d < 10 then UInt8.ofNat (48 + d) else UInt8.ofNat (87 + d)
/-- a byte in a quoted form -/
def qb (c : UInt8) : List UInt8 := if plainI (c.toNat : Int) = true then [c] else [92, 120, dgB (c.toNat / 16), dgB (c.toNat % 16)]
def quoteL (b : List UInt8) : List UInt8 := 34 :: (b.flatMap qb ++ [34])
theorem length_qb (c : UInt8) : (qb c).length ≤ 4 := by unfold qb; split <;> simp
theorem length_qbs : ∀ b : List UInt8, (b.flatMap qb).length ≤ 4 * b.length
  | [] => by simp
  | c :: b => by
    have := length_qbs b
    have := length_qb c
    simp only [List.flatMap_cons, List.length_append, List.length_cons]; omega
def qpre (b : List UInt8) (k : Nat) : List UInt8 := 34 :: (b.take k).flatMap qb
theorem qpre_len (b : List UInt8) (k : Nat) : (qpre b k).length ≤ 4 * k + 1 := by
  have := length_qbs (b.take k)
  have h2 : (b.take k).length ≤ k := by rw [List.length_take]; omega
  simp only [qpre, List.length_cons]; omega
theorem qpre_succ (b : List UInt8) (k : Nat) (h : k < b.length) : qpre b (k + 1) = qpre b k ++ qb (b.getD k 0) := by
  unfold qpre
  rw [List.take_succ_eq_append_getElem h, List.flatMap_append]
  simp [h]
theorem qpre_all (b : List UInt8) : qpre b b.length ++ [34] = quoteL b := by
  unfold qpre quoteL
  rw [List.take_length]; rfl
end Go.Proofs.YtemanjahkohcpaaGreatDoor

namespace Go.Proofs.YtemanjahkohcpaaGreatDoor
open Go.RowKit WP
theorem bAt_at {l : List UInt8} {k : Nat} {c : UInt8} {r : List UInt8} (h : l.drop k = c :: r) : k < l.length ∧ l.getD k 0 = c ∧ bAt l k = (c.toNat : Int) := by
  have h1 : k < l.length := by
    rcases Nat.lt_or_ge k l.length with h' | h'
    · exact h'
    · rw [List.drop_eq_nil_of_le h'] at h; exact absurd h (by simp)
  have h2 : l.getD k 0 = c := by
    rw [List.drop_eq_getElem_cons h1] at h
    simp only [List.cons.injEq] at h
    simp [h1, h.1]
  exact ⟨h1, h2, by unfold bAt; rw [h2]⟩
theorem drop_by {l : List UInt8} {k : Nat} (a : List UInt8) {r : List UInt8} (h : l.drop k = a ++ r) : l.drop (k + a.length) = r := by
  rw [← List.drop_drop, h, List.drop_left]
theorem drop_one {l : List UInt8} {k : Nat} {c : UInt8} {r : List UInt8} (h : l.drop k = c :: r) : l.drop (k + 1) = r := by
  rw [← List.drop_drop, h]; rfl
theorem bAt_drop (l : List UInt8) (k j : Nat) : bAt (l.drop k) j = bAt l (k + j) := by
  unfold bAt; simp [List.getD]
theorem hv_dg : ∀ d : Fin 16, hv ((dgB d.val).toNat : Int) = (d.val : Int) := by decide
theorem hv_dgB (d : Nat) (h : d < 16) : hv ((dgB d).toNat : Int) = (d : Int) := hv_dg ⟨d, h⟩
theorem escF_at {m r : List UInt8} (c : UInt8) (h : m = 92 :: 120 :: dgB (c.toNat / 16) :: dgB (c.toNat % 16) :: r) : escF m = ((c.toNat : Int), !plainI (c.toNat : Int)) := by
  have hc : c.toNat < 256 := c.toNat_lt
  have h1 : bAt m 1 = 120 := by rw [h]; rfl
  have h2 : bAt m 2 = ((dgB (c.toNat / 16)).toNat : Int) := by rw [h]; rfl
  have h3 : bAt m 3 = ((dgB (c.toNat % 16)).toNat : Int) := by rw [h]; rfl
  have h4 : ¬ (m.length < 4 ∨ bAt m 1 ≠ 120) := by rw [h1, h]; simp
  unfold escF
  rw [if_neg h4, h2, h3, hv_dgB _ (by omega), hv_dgB _ (by omega), if_neg (by omega)]
  have e : ((c.toNat / 16 : Nat) : Int) * 16 + ((c.toNat % 16 : Nat) : Int) = (c.toNat : Int) := by omega
  rw [e]
theorem plainI_34 : plainI 34 = false := rfl
theorem plainI_92 : plainI 92 = false := rfl
/-- a quoted form that is there is read as its bytes -/
theorem qA_at (l r : List UInt8) : ∀ (b : List UInt8) (f k : Nat) (acc : List UInt8), l.drop k = b.flatMap qb ++ 34 :: r → l.length + 1 ≤ f + k → qA l f k acc = .inl (acc ++ b, k + (b.flatMap qb).length + 1)
  | [], f, k, acc, h, hf => by
    simp only [List.flatMap_nil, List.nil_append] at h
    obtain ⟨h1, h2, h3⟩ := bAt_at h
    obtain ⟨f, rfl⟩ : ∃ g, f = g + 1 := ⟨f - 1, by omega⟩
    unfold qA
    have h3 : bAt l k = 34 := h3
    rw [if_neg (by omega), h3, if_pos rfl]
    simp
  | c :: b, f, k, acc, h, hf => by
    simp only [List.flatMap_cons, List.append_assoc] at h
    by_cases hp : plainI (c.toNat : Int) = true
    · have hq : qb c = [c] := by unfold qb; rw [if_pos hp]
      rw [hq] at h
      obtain ⟨h1, h2, h3⟩ := bAt_at h
      obtain ⟨f, rfl⟩ : ∃ g, f = g + 1 := ⟨f - 1, by omega⟩
      have h34 : (c.toNat : Int) ≠ 34 := by intro e; rw [e] at hp; exact absurd hp (by decide)
      unfold qA
      rw [if_neg (by omega), h3, if_neg h34, if_pos hp, h2, qA_at l r b f (k + 1) _ (drop_one h) (by omega)]
      simp only [List.append_assoc, List.singleton_append, List.flatMap_cons, hq, List.length_cons, Sum.inl.injEq, Prod.mk.injEq, true_and]
      omega
    · have hq : qb c = [92, 120, dgB (c.toNat / 16), dgB (c.toNat % 16)] := by unfold qb; rw [if_neg hp]
      rw [hq] at h
      obtain ⟨h1, h2, h3⟩ := bAt_at h
      have h3 : bAt l k = 92 := h3
      obtain ⟨f, rfl⟩ : ∃ g, f = g + 1 := ⟨f - 1, by omega⟩
      have he := escF_at c h
      unfold qA
      rw [if_neg (by omega), h3, if_neg (by decide), if_neg (by decide), if_neg (by simp), he]
      have hpf : plainI (c.toNat : Int) = false := by simpa using hp
      simp only [hpf, Bool.not_false, if_true]
      have h' : l.drop k = [92, 120, dgB (c.toNat / 16), dgB (c.toNat % 16)] ++ (b.flatMap qb ++ 34 :: r) := h
      have hd := drop_by _ h'
      have hlen : k + 4 ≤ l.length := by
        have := congrArg List.length h'
        rw [List.length_drop] at this
        simp at this; omega
      rw [qA_at l r b f (k + 4) _ hd (by omega)]
      have ec : UInt8.ofNat (Int.toNat (c.toNat : Int)) = c := by simp
      rw [ec]
      simp only [List.append_assoc, List.singleton_append, List.flatMap_cons, hq, List.length_append, List.length_cons, List.length_nil, Sum.inl.injEq, Prod.mk.injEq, true_and]
      omega
theorem skipB_at (l : List UInt8) (c : UInt8) (r : List UInt8) (hc : blankI (c.toNat : Int) = true) : ∀ (b : List UInt8) (F k : Nat), (∀ x ∈ b, blankI ((x.toNat : Nat) : Int) = false) → l.drop k = b ++ c :: r → b.length ≤ F → skipB l F k = k + b.length
  | [], F, k, _, h, _ => by
    cases F with
    | zero => rfl
    | succ F =>
      obtain ⟨h1, h2, h3⟩ := bAt_at (by simpa using h)
      unfold skipB
      rw [if_neg (by rw [h3, hc]; simp)]; rfl
  | x :: b, F, k, hb, h, hF => by
    obtain ⟨F, rfl⟩ : ∃ g, F = g + 1 := ⟨F - 1, by simp at hF; omega⟩
    obtain ⟨h1, h2, h3⟩ := bAt_at h
    unfold skipB
    rw [if_pos ⟨h1, by rw [h3]; exact hb x (by simp)⟩, skipB_at l c r hc b F (k + 1) (fun y hy => hb y (by simp [hy])) (drop_one h) (by simpa using hF)]
    simp; omega
theorem extract_at {s : ByteArray} {k : Nat} {b r : List UInt8} (h : s.data.toList.drop k = b ++ r) : s.extract k (k + b.length) = ⟨b.toArray⟩ := by
  apply ByteArray.ext
  apply Array.ext'
  rw [ByteArray.data_extract, Array.toList_extract]
  simp only [List.extract_eq_take_drop, h]
  simp
def allBlank (g : List UInt8) : Prop := ∀ x ∈ g, blankI ((x.toNat : Nat) : Int) = true
theorem wA_gap (s : ByteArray) : ∀ (g r : List UInt8) (f k : Nat) (acc : List W), allBlank g → s.data.toList.drop k = g ++ r → s.size + 1 ≤ f + k → ∃ f', s.size + 1 ≤ f' + (k + g.length) ∧ wA s f k acc = wA s f' (k + g.length) acc
  | [], r, f, k, acc, _, _, hf => ⟨f, hf, rfl⟩
  | x :: g, r, f, k, acc, hg, h, hf => by
    obtain ⟨h1, h2, h3⟩ := bAt_at h
    rw [size_list] at h1
    obtain ⟨f, rfl⟩ : ∃ g, f = g + 1 := ⟨f - 1, by omega⟩
    obtain ⟨f', i1, i2⟩ := wA_gap s g r f (k + 1) acc (fun y hy => hg y (by simp [hy])) (drop_one h) (by omega)
    have el : k + 1 + g.length = k + (x :: g).length := by simp; omega
    rw [el] at i1 i2
    refine ⟨f', i1, ?_⟩
    rw [← i2]
    conv => lhs; unfold wA
    rw [if_neg (by omega), h3, if_pos (hg x (by simp))]
/-- may these bytes stand as a word that is not quoted? -/
def plainWd (b : List UInt8) : Bool := decide (b ≠ [] ∧ b.head? ≠ some 34 ∧ b.head? ≠ some 35) && b.all fun x => !blankI ((x.toNat : Nat) : Int)
def formL (q : Bool) (b : List UInt8) : List UInt8 := if q then quoteL b else b
theorem wA_form (s : ByteArray) (q : Bool) (b : List UInt8) (c : UInt8) (r : List UInt8) (hc : blankI ((c.toNat : Nat) : Int) = true) (hp : q = true ∨ plainWd b = true) (f k : Nat) (acc : List W)
    (h : s.data.toList.drop k = formL q b ++ c :: r) (hf : s.size + 1 ≤ f + k) : ∃ f', s.size + 1 ≤ f' + (k + (formL q b).length) ∧ wA s f k acc = wA s f' (k + (formL q b).length) (acc ++ [(⟨b.toArray⟩, q, k + 1)]) := by
  have hsz := size_list s
  have hlen : k + (formL q b).length < s.size := by
    have := congrArg List.length h
    rw [List.length_drop, hsz] at this
    simp at this; omega
  have hd := drop_by _ h
  cases q with
  | true =>
    have h' : s.data.toList.drop k = 34 :: (b.flatMap qb ++ 34 :: (c :: r)) := by rw [h]; simp [formL, quoteL]
    obtain ⟨h1, h2, h3⟩ := bAt_at h'
    have h3 : bAt s.data.toList k = 34 := h3
    obtain ⟨f, rfl⟩ : ∃ g, f = g + 1 := ⟨f - 1, by omega⟩
    have hq := qA_at s.data.toList (c :: r) b (s.size + 1) (k + 1) [] (drop_one h') (by omega)
    have e : k + 1 + (b.flatMap qb).length + 1 = k + (formL true b).length := by simp [formL, quoteL]; omega
    rw [e, List.nil_append] at hq
    obtain ⟨_, _, h4⟩ := bAt_at hd
    have hge : 2 ≤ (formL true b).length := by simp [formL, quoteL]
    refine ⟨f, by omega, ?_⟩
    conv => lhs; unfold wA
    rw [if_neg (by omega), h3, if_neg (by decide), if_neg (by decide), if_pos rfl, hq]
    simp only
    rw [if_neg (by rw [h4, hc]; simp)]
  | false =>
    have hp := hp.resolve_left (by simp)
    unfold plainWd at hp
    simp only [Bool.and_eq_true, decide_eq_true_eq, List.all_eq_true, Bool.not_eq_true'] at hp
    obtain ⟨⟨p1, p2, p3⟩, p4⟩ := hp
    have h : s.data.toList.drop k = b ++ c :: r := h
    have ef : formL false b = b := rfl
    rw [ef] at hlen hd ⊢
    have hsk := skipB_at s.data.toList c r hc b s.size k p4 h (by omega)
    have hex := extract_at h
    cases b with
    | nil => exact absurd rfl p1
    | cons x b =>
      obtain ⟨h1, h2, h3⟩ := bAt_at h
      rw [hsz] at h1
      obtain ⟨f, rfl⟩ : ∃ g, f = g + 1 := ⟨f - 1, by omega⟩
      have hx := p4 x (by simp)
      have n34 : ((x.toNat : Nat) : Int) ≠ 34 := by
        intro e; apply p2; simp; exact UInt8.toNat_inj.1 (by show x.toNat = 34; omega)
      have n35 : ((x.toNat : Nat) : Int) ≠ 35 := by
        intro e; apply p3; simp; exact UInt8.toNat_inj.1 (by show x.toNat = 35; omega)
      refine ⟨f, by simp; omega, ?_⟩
      conv => lhs; unfold wA
      rw [if_neg (by omega), h3, if_neg (by rw [hx]; simp), if_neg n35, if_neg n34, hsk, hex]
/-- a piece of a line: quoted or not, its bytes, how many blanks ahead, a tab ahead of these or none -/
structure Pc where
  q : Bool
  b : List UInt8
  g : Nat
  t : Bool
def Pc.keep (p : Pc) : Bool := p.q || plainWd p.b
def Pc.gap (p : Pc) : List UInt8 := (if p.t then [9] else []) ++ List.replicate p.g 32
def stepP (st : List UInt8 × List W) (p : Pc) : List UInt8 × List W :=
  if p.keep = true then (st.1 ++ p.gap ++ formL p.q p.b, st.2 ++ [(⟨p.b.toArray⟩, p.q, (st.1 ++ p.gap).length + 1)]) else st
theorem gap_blank (p : Pc) : allBlank p.gap := by
  intro x hx
  unfold Pc.gap at hx
  rcases List.mem_append.1 hx with h | h
  · split at h
    · simp only [List.mem_cons, List.not_mem_nil, or_false] at h; subst h; decide
    · simp at h
  · rw [(List.mem_replicate.1 h).2]; decide
def startsBlank (l : List UInt8) : Prop := ∃ c r, l = c :: r ∧ blankI ((c.toNat : Nat) : Int) = true
theorem gap_starts (p : Pc) (h : 1 ≤ p.g) (r : List UInt8) : startsBlank (p.gap ++ r) := by
  have hb := gap_blank p
  unfold Pc.gap at hb ⊢
  obtain ⟨n, hn⟩ : ∃ n, p.g = n + 1 := ⟨p.g - 1, by omega⟩
  rw [hn] at hb ⊢
  split
  · exact ⟨9, _, rfl, by decide⟩
  · exact ⟨32, _, rfl, by decide⟩
theorem fold_pre : ∀ (ps : List Pc) (st : List UInt8 × List W), (∀ p ∈ ps, 1 ≤ p.g) → ∃ X, (ps.foldl stepP st).1 = st.1 ++ X ∧ ∀ t, startsBlank t → startsBlank (X ++ t)
  | [], st, _ => ⟨[], by simp, fun _ h => h⟩
  | p :: ps, st, hg => by
    obtain ⟨X, h1, h2⟩ := fold_pre ps (stepP st p) (fun x hx => hg x (by simp [hx]))
    rw [List.foldl_cons, h1]
    unfold stepP
    by_cases hk : p.keep = true
    · rw [if_pos hk]
      refine ⟨p.gap ++ (formL p.q p.b ++ X), by simp, fun t _ => ?_⟩
      rw [List.append_assoc]
      exact gap_starts p (hg p (by simp)) _
    · rw [if_neg hk]; exact ⟨X, rfl, h2⟩
theorem wA_run (s : ByteArray) (t : List UInt8) (ht : startsBlank t) : ∀ (ps : List Pc) (st : List UInt8 × List W) (f : Nat), (∀ p ∈ ps, 1 ≤ p.g) → s.data.toList = (ps.foldl stepP st).1 ++ t → s.size + 1 ≤ f + st.1.length →
    ∃ f', s.size + 1 ≤ f' + (ps.foldl stepP st).1.length ∧ wA s f st.1.length st.2 = wA s f' (ps.foldl stepP st).1.length (ps.foldl stepP st).2
  | [], st, f, _, _, hf => ⟨f, hf, rfl⟩
  | p :: ps, st, f, hg, hs, hf => by
    rw [List.foldl_cons] at hs ⊢
    have hg' : ∀ x ∈ ps, 1 ≤ x.g := fun x hx => hg x (by simp [hx])
    obtain ⟨X, h1, h2⟩ := fold_pre ps (stepP st p) hg'
    by_cases hk : p.keep = true
    · have es : stepP st p = (st.1 ++ p.gap ++ formL p.q p.b, st.2 ++ [(⟨p.b.toArray⟩, p.q, (st.1 ++ p.gap).length + 1)]) := by unfold stepP; rw [if_pos hk]
      obtain ⟨c, r, e1, e2⟩ := h2 t ht
      have hall : s.data.toList = st.1 ++ (p.gap ++ (formL p.q p.b ++ (c :: r))) := by
        rw [hs, h1, es, List.append_assoc _ X t, e1]; simp
      have d1 : s.data.toList.drop st.1.length = p.gap ++ (formL p.q p.b ++ (c :: r)) := by rw [hall, List.drop_left]
      obtain ⟨f1, i1, j1⟩ := wA_gap s p.gap _ f st.1.length st.2 (gap_blank p) d1 hf
      have d2 := drop_by _ d1
      obtain ⟨f2, i2, j2⟩ := wA_form s p.q p.b c r e2 (by unfold Pc.keep at hk; simpa using hk) f1 _ st.2 d2 i1
      have el : st.1.length + p.gap.length + (formL p.q p.b).length = (stepP st p).1.length := by rw [es]; simp; omega
      have ec : st.1.length + p.gap.length = (st.1 ++ p.gap).length := by simp
      have e2' : st.2 ++ [(⟨p.b.toArray⟩, p.q, st.1.length + p.gap.length + 1)] = (stepP st p).2 := by rw [es, ec]
      rw [el, e2'] at j2
      rw [el] at i2
      obtain ⟨f3, i3, j3⟩ := wA_run s t ht ps (stepP st p) f2 hg' hs i2
      exact ⟨f3, i3, by rw [j1, j2, j3]⟩
    · have es : stepP st p = st := by unfold stepP; rw [if_neg hk]
      rw [es] at hs ⊢
      exact wA_run s t ht ps st f hg' hs hf
/-- a whole line, a comment behind it -/
theorem words_comment (s : ByteArray) (ps : List Pc) (c : List UInt8) (hg : ∀ p ∈ ps, 1 ≤ p.g) (hs : s.data.toList = (ps.foldl stepP ([], [])).1 ++ ([32, 9, 35] ++ c)) : wordsF s = .inl (ps.foldl stepP ([], [])).2 := by
  have hsz := size_list s
  obtain ⟨f, i1, j1⟩ := wA_run s _ ⟨32, _, rfl, by decide⟩ ps ([], []) (s.size + 1) hg hs (by simp)
  unfold wordsF
  have e0 : wA s (s.size + 1) 0 [] = wA s (s.size + 1) ([] : List UInt8).length [] := rfl
  rw [e0]
  refine j1.trans ?_
  have d1 : s.data.toList.drop (ps.foldl stepP ([], [])).1.length = [32, 9] ++ (35 :: c) := by rw [hs, List.drop_left]; rfl
  obtain ⟨f1, i2, j2⟩ := wA_gap s [32, 9] _ f _ (ps.foldl stepP ([], [])).2 (by intro x hx; simp only [List.mem_cons, List.not_mem_nil, or_false] at hx; rcases hx with rfl | rfl <;> decide) d1 i1
  rw [j2]
  have d2 := drop_by _ d1
  obtain ⟨h1, h2, h3⟩ := bAt_at d2
  rw [hsz] at h1
  obtain ⟨f1, rfl⟩ : ∃ g, f1 = g + 1 := ⟨f1 - 1, by omega⟩
  have h3 : bAt s.data.toList ((ps.foldl stepP ([], [])).1.length + [(32 : UInt8), 9].length) = 35 := h3
  unfold wA
  rw [if_neg (by omega), h3, if_neg (by decide), if_pos rfl]
/-- a quoted form and no blank behind it -/
theorem words_glued (s : ByteArray) (ps : List Pc) (c : List UInt8) (hg : ∀ p ∈ ps, 1 ≤ p.g) (hs : s.data.toList = (ps.foldl stepP ([], [])).1 ++ ([32] ++ (quoteL c ++ [120]))) :
    wordsF s = .inr ((ps.foldl stepP ([], [])).1.length + 2 + (quoteL c).length) := by
  have hsz := size_list s
  obtain ⟨f, i1, j1⟩ := wA_run s _ ⟨32, _, rfl, by decide⟩ ps ([], []) (s.size + 1) hg hs (by simp)
  unfold wordsF
  have e0 : wA s (s.size + 1) 0 [] = wA s (s.size + 1) ([] : List UInt8).length [] := rfl
  rw [e0]
  refine j1.trans ?_
  have d1 : s.data.toList.drop (ps.foldl stepP ([], [])).1.length = [32] ++ (quoteL c ++ [120]) := by rw [hs, List.drop_left]
  obtain ⟨f1, i2, j2⟩ := wA_gap s [32] _ f _ (ps.foldl stepP ([], [])).2 (by intro x hx; simp only [List.mem_cons, List.not_mem_nil, or_false] at hx; rcases hx with rfl; decide) d1 i1
  rw [j2]
  have d2 := drop_by _ d1
  have d2' : s.data.toList.drop ((ps.foldl stepP ([], [])).1.length + [(32 : UInt8)].length) = 34 :: (c.flatMap qb ++ 34 :: [120]) := by rw [d2]; simp [quoteL]
  have d3 := drop_by _ d2
  obtain ⟨h1, h2, h3⟩ := bAt_at d2'
  rw [hsz] at h1
  obtain ⟨g1, g2, g3⟩ := bAt_at d3
  rw [hsz] at g1
  obtain ⟨f1, rfl⟩ : ∃ g, f1 = g + 1 := ⟨f1 - 1, by omega⟩
  have h3 : bAt s.data.toList ((ps.foldl stepP ([], [])).1.length + [(32 : UInt8)].length) = 34 := h3
  have hq := qA_at s.data.toList [120] c (s.size + 1) _ [] (drop_one d2') (by omega)
  have e : (ps.foldl stepP ([], [])).1.length + [(32 : UInt8)].length + 1 + (c.flatMap qb).length + 1 = (ps.foldl stepP ([], [])).1.length + [(32 : UInt8)].length + (quoteL c).length := by simp [quoteL]; omega
  rw [e, List.nil_append] at hq
  unfold wA
  rw [if_neg (by omega), h3, if_neg (by decide), if_neg (by decide), if_pos rfl, hq]
  simp only
  rw [if_pos ⟨g1, by rw [g3]; decide⟩]
  simp
  omega
end Go.Proofs.YtemanjahkohcpaaGreatDoor
