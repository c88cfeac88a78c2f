/- Pieces of a line that came in; the listed table of powers of ten. -/
import Derived.Test.YtefbogmgcihndaaDoorOpenB
import Derived.Test.YtefbogmgcihndaaDoorTWWk
import Derived.Deep.Fields
import Derived.Deep.Slices
import Derived.LaidMore
import Derived.Lib.LaidU8
namespace Go.Proofs.YtefbogmgcihndaaDoor
open Go.ChangeShapes Go.WideShapes Go.ChangeAt Go.RowKit Go.Joins Go.Deep
set_option maxRecDepth 100000
theorem cellsB : Tryd.prog.cellsOf 5 = 1 := by kernel_rfl
theorem cellsP : Tryd.prog.cellsOf 27 = 4 := by kernel_rfl
theorem add_at (b off i j : Nat) : ((⟨b, off, none⟩ : Addr).add i).add j = ⟨b, off + i + j, none⟩ := by
  rw [Deep.add_add]; unfold Addr.add; split <;> simp_all; omega
theorem gPow : Tryd.prog.globalNamed "internal/strconv.uint64pow10" = some 0 := by kernel_rfl
theorem tPow : (Tryd.prog.globals[0]?).map (·.type) = some 136 := by kernel_rfl
theorem cellsU64 : Tryd.prog.cellsOf 74 = 1 := by kernel_rfl
theorem cellsT20 : Tryd.prog.cellsOf 136 = 20 := by kernel_rfl
theorem pow10_of {W : World} (h : Lib.VarReads Tryd.prog W "internal/strconv.uint64pow10" Rows.laid_internal_strconv_uint64pow10) : Pow10 W := by
  obtain ⟨g, t, cs, fuel, p, hg, ht, hv, hd⟩ := h
  obtain rfl := Option.some.inj (gPow.symm.trans hg)
  obtain rfl := Option.some.inj (tPow.symm.trans ht)
  have hc := Lib.cells_of_tab (zs := Lib.pow10Tab) Tryd.underlying136 Tryd.underlying74 cellsU64 cellsT20 hd
  unfold Pow10 Lib.TabIs
  rw [hv, ← hc]
/-- what one piece holds -/
structure PieceIn (w : World) (blk at_ : Nat) (v : Value) (p : Pc) (z : Int) : Prop where
  c0 : w.cell? ⟨blk, at_, none⟩ = some (.bool p.q)
  c1 : w.cell? ⟨blk, at_ + 1, none⟩ = some v
  c2 : w.cell? ⟨blk, at_ + 2, none⟩ = some (.int .i64 z)
  c3 : w.cell? ⟨blk, at_ + 3, none⟩ = some (.bool p.t)
  rd : Rd w v (vb p.b)
  gap : p.g = gapN z
theorem bulkAll_range {H : Type} (D : Nat → DataW H) (P : Nat → Pc) : ∀ n, (∀ i, i < n → (P i).b.length + 4 ≤ Rows.uptoBulk (D i)) → sumB P n ≤ Rows.uptoBulkAll ((List.range n).map D)
  | 0, _ => Nat.zero_le _
  | n + 1, h => by
    have ih := bulkAll_range D P n (fun i hi => h i (by omega))
    have h1 := h n (by omega)
    have e : ∀ (a b : List (DataW H)), Rows.uptoBulkAll (a ++ b) = Rows.uptoBulkAll a + Rows.uptoBulkAll b := by
      intro a b
      induction a with
      | nil => simp [Rows.uptoBulkAll]
      | cons x a ih => simp only [List.cons_append, Rows.uptoBulkAll, ih]; omega
    rw [List.range_succ, List.map_append, e]
    simp only [List.map_cons, List.map_nil, Rows.uptoBulkAll, sumB]
    omega
theorem open_piece {H : Type} {enc : TypeId × Value → H} {w : World} {base : Nat} {spare : Nat → Bool} {held : Bool} {fuel : Nat} {cs : List Value} {x : DataW H × List MemPlace} {blk at_ : Nat}
    (h : DataW.trod enc Tryd.prog w base spare held fuel 27 cs = some x) (hc : ∀ j, j < 4 → w.cell? ⟨blk, at_ + j, none⟩ = cs[j]?) :
    ∃ (v : Value) (p : Pc) (z : Int), PieceIn w blk at_ v p z ∧ p.b.length + 4 ≤ Rows.uptoBulk x.1 := by
  obtain ⟨hlen, n, Y, hx, hf⟩ := trod_fields Tryd.underlying27 (fun i f hi => by
    match i, hi with
    | 0, hi => cases hi; exact ⟨rfl, by kernel_rfl⟩
    | 1, hi => cases hi; exact ⟨rfl, by kernel_rfl⟩
    | 2, hi => cases hi; exact ⟨rfl, by kernel_rfl⟩
    | 3, hi => cases hi; exact ⟨rfl, by kernel_rfl⟩
    | i + 4, hi => exact absurd hi (by simp)) (by kernel_rfl) h
  have hlen : cs.length = 4 := hlen
  have hcell : ∀ j, j < 4 → w.cell? ⟨blk, at_ + j, none⟩ = some (cs.getD j undef) := by
    intro j hj
    rw [hc j hj, List.getElem?_eq_getElem (by omega)]
    simp [List.getD, List.getElem?_eq_getElem (show j < cs.length by omega)]
  obtain ⟨q, e0, _⟩ := DataW.trod_bool Tryd.underlying4 (hf 0 _ rfl)
  obtain ⟨b, hb, lb⟩ := trod_bytes Tryd.underlying24 Tryd.underlying5 cellsB (hf 1 _ rfl)
  obtain ⟨z, e2, _, _⟩ := DataW.trod_int (k := .i64) Tryd.underlying3 (hf 2 _ rfl)
  obtain ⟨t, e3, _⟩ := DataW.trod_bool Tryd.underlying4 (hf 3 _ rfl)
  simp only [List.cons.injEq, and_true] at e0 e2 e3
  refine ⟨cs.getD 1 undef, ⟨q, b, gapN z, t⟩, z, ⟨?_, hcell 1 (by omega), ?_, ?_, hb, rfl⟩, ?_⟩
  · rw [← e0]; exact hcell 0 (by omega)
  · rw [← e2]; exact hcell 2 (by omega)
  · rw [← e3]; exact hcell 3 (by omega)
  · rw [hx]
    have b0 := bulk_one (Y 0).1
    have b2 := bulk_one (Y 2).1
    have b3 := bulk_one (Y 3).1
    show b.length + 4 ≤ Rows.uptoBulk (DataW.agg [(Y 0).1, (Y 1).1, (Y 2).1, (Y 3).1])
    simp only [Rows.uptoBulk, Rows.uptoBulkAll]
    show b.length + 4 ≤ _
    omega
theorem open_pieces {H : Type} {enc : TypeId × Value → H} {w : World} {base : Nat} {spare : Nat → Bool} {held : Bool} {r : Reach} {b0 : Nat} {v : Value} {d : DataW H} {p : List MemPlace}
    (hv : Value.okWide Tryd.prog w r b0 22 v) (h : DataW.Trod enc Tryd.prog w base spare held 22 v d p) (hk : Rows.uptoBulk d ≤ 1048576) :
    ∃ ao n cap V P G, v = .slice ao n cap ∧ n ≤ cap ∧ cap ≤ 9223372036854775807 ∧ (n = 0 ∨ ∃ blk off, ao = some ⟨blk, off, none⟩ ∧ PsAt w blk off n V P G) := by
  obtain ⟨ao, len, cap, rfl⟩ := okWide_slice Tryd.underlying22 hv
  obtain ⟨fuel, hf⟩ := h
  rcases open_slice Tryd.underlying22 hf with ⟨hcs, _⟩ | ⟨a, l, c, m, n, D, Pl, hcs, _, hl, hm, hmm, hx, hel⟩
  · simp [Value.cells] at hcs
    obtain ⟨rfl, rfl, rfl⟩ := hcs
    exact ⟨none, 0, 0, fun _ => undef, fun _ => ⟨false, [], 0, false⟩, fun _ => 0, rfl, Nat.le_refl _, by decide, .inl rfl⟩
  · simp [Value.cells] at hcs
    obtain ⟨rfl, rfl, rfl⟩ := hcs
    simp only [Prod.mk.injEq] at hx
    obtain ⟨rfl, _⟩ := hx
    by_cases h0 : len = 0
    · exact ⟨some a, len, cap, fun _ => undef, fun _ => ⟨false, [], 0, false⟩, fun _ => 0, rfl, hl, hm, .inl h0⟩
    have hlm : len ≤ m := by rw [hmm]; split <;> omega
    rw [cellsP] at hel
    obtain ⟨b, off, spot⟩ := a
    have hsp : spot = none := by
      obtain ⟨cs', h1, h2⟩ := hel 0 (by omega)
      obtain ⟨_, hlen, hcell⟩ := World.cells?_some h1
      have h3 := hcell 0 (by omega)
      rw [List.getElem?_eq_getElem (by omega)] at h3
      simpa [Addr.add] using World.cell?_spot h3
    subst hsp
    have key : ∀ i, ∃ x : Value × Pc × Int, i < len → PieceIn w b (off + i * 4) x.1 x.2.1 x.2.2 ∧ x.2.1.b.length + 4 ≤ Rows.uptoBulk (D i) := by
      intro i
      by_cases hi : i < len
      · obtain ⟨cs', h1, h2⟩ := hel i (by omega)
        obtain ⟨_, hlen', hcell⟩ := World.cells?_some h1
        obtain ⟨v, p, z, h3, h4⟩ := open_piece (blk := b) (at_ := off + i * 4) h2 (fun j hj => by rw [← hcell j hj, add_at])
        exact ⟨(v, p, z), fun _ => ⟨h3, h4⟩⟩
      · exact ⟨(undef, ⟨false, [], 0, false⟩, 0), fun h => absurd h hi⟩
    obtain ⟨f, hf'⟩ := Classical.axiomOfChoice key
    refine ⟨some ⟨b, off, none⟩, len, cap, fun k => (f k).1, fun k => (f k).2.1, fun k => (f k).2.2, rfl, hl, hm, .inr ⟨b, off, rfl, ?_⟩⟩
    refine ⟨World.block_lt_of_cell? w _ (hf' 0 (by omega)).1.c0, fun i hi => (hf' i hi).1.c0, fun i hi => (hf' i hi).1.c1, fun i hi => (hf' i hi).1.c2, fun i hi => (hf' i hi).1.c3, fun i hi => (hf' i hi).1.rd, fun i hi => (hf' i hi).1.gap, ?_⟩
    have hs := bulkAll_range D (fun k => (f k).2.1) len (fun i hi => (hf' i hi).2)
    simp only [Rows.uptoBulk] at hk
    have hk' : Rows.uptoBulkAll ((List.range len).map D) ≤ 1048576 := by omega
    omega
end Go.Proofs.YtefbogmgcihndaaDoor
