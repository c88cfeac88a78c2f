/- Pieces that came in. -/
import Derived.Test.YtiknookfnameiaaGreatDoorJn22
import Derived.Test.YtiknookfnameiaaGreatDoorMLdJn
import Derived.Deep.Fields
import Derived.Deep.Slices
namespace Go.Proofs.YtiknookfnameiaaGreatDoor
open Go.ChangeShapes Go.WideShapes Go.ChangeAt Go.RowKit Go.Joins Go.Deep
set_option linter.unusedVariables false
set_option maxRecDepth 100000
theorem cellsPc : Tryz.prog.cellsOf 52 = 5 := by kernel_rfl
theorem wf_i64 {x : Int} (h : (Lit.int .i64 x).wf = true) : i64B x := wf_i64_bd h
theorem open_pc {H : Type} {enc : TypeId × Value → H} {w : World} {base : Nat} {spare : Nat → Bool} {held : Bool} {fuel : Nat} {cs : List Value} {x : DataW H × List MemPlace} {blk at_ : Nat}
    (h : DataW.trod enc Tryz.prog w base spare held fuel 52 cs = some x) (hc : ∀ j, j < 5 → w.cell? ⟨blk, at_ + j, none⟩ = cs[j]?) :
    ∃ p : Piece, PieceOk p ∧ ∀ j u, (pcC p)[j]? = some u → w.cell? ⟨blk, at_ + j, none⟩ = some u := by
  obtain ⟨hlen, n, Y, hx, hf⟩ := trod_fields Tryz.underlying52 (fun i f hi => by
    match i, hi with
    | 0, hi => cases hi; exact ⟨rfl, by kernel_rfl⟩
    | 1, hi => cases hi; exact ⟨rfl, by kernel_rfl⟩
    | 2, hi => cases hi; exact ⟨rfl, by kernel_rfl⟩
    | 3, hi => cases hi; exact ⟨rfl, by kernel_rfl⟩
    | 4, hi => cases hi; exact ⟨rfl, by kernel_rfl⟩
    | i + 5, hi => exact absurd hi (by simp)) (by kernel_rfl) h
  have hlen : cs.length = 5 := hlen
  have hcell : ∀ j, j < 5 → w.cell? ⟨blk, at_ + j, none⟩ = some (cs.getD j undef) := by
    intro j hj
    rw [hc j hj, List.getElem?_eq_getElem (by omega)]
    simp [List.getD, List.getElem?_eq_getElem (show j < cs.length by omega)]
  obtain ⟨k, e0, _, w0'⟩ := DataW.trod_int (k := .i64) Tryz.underlying3 (hf 0 _ rfl)
  obtain ⟨a, e1, _, w1'⟩ := DataW.trod_int (k := .i64) Tryz.underlying3 (hf 1 _ rfl)
  obtain ⟨c, e2, _, w2'⟩ := DataW.trod_int (k := .i64) Tryz.underlying3 (hf 2 _ rfl)
  obtain ⟨t, e3, _, w3'⟩ := DataW.trod_int (k := .i64) Tryz.underlying3 (hf 3 _ rfl)
  obtain ⟨u, e4, _, w4'⟩ := DataW.trod_int (k := .u32) Tryz.underlying22 (hf 4 _ rfl)
  simp only [List.cons.injEq, and_true] at e0 e1 e2 e3 e4
  obtain ⟨u0, u1⟩ := wf_u32_bd w4'
  obtain ⟨un, rfl⟩ := Int.eq_ofNat_of_zero_le u0
  refine ⟨⟨k, a, c, t, un⟩, ⟨wf_i64 w0', wf_i64 w1', wf_i64 w2', wf_i64 w3', by show un < _; omega⟩, ?_⟩
  intro j v hj
  have hj5 : j < 5 := by have := (Array.getElem?_eq_some_iff.1 hj).1; simpa [pcC] using this
  rw [hcell j hj5, ← hj]
  match j, hj5 with
  | 0, _ => exact congrArg some e0
  | 1, _ => exact congrArg some e1
  | 2, _ => exact congrArg some e2
  | 3, _ => exact congrArg some e3
  | 4, _ => exact congrArg some e4
theorem open_pcs {H : Type} {enc : TypeId × Value → H} {w : World} {base : Nat} {spare : Nat → Bool} {held : Bool} {r : Reach} {b0 : Nat} {v : Value} {d : DataW H} {p : List MemPlace}
    (hv : Value.okWide Tryz.prog w r b0 47 v) (h : DataW.Trod enc Tryz.prog w base spare held 47 v d p) :
    ∃ (ao : Option Addr) (n cap : Nat) (D : Nat → Piece), v = .slice ao n cap ∧ n ≤ cap ∧ cap ≤ 9223372036854775807 ∧ PcsAt w ao n D ∧ ∀ i, i < n → PieceOk (D i) := by
  obtain ⟨ao, len, cap, rfl⟩ := okWide_slice Tryz.underlying47 hv
  obtain ⟨fuel, hf⟩ := h
  have d0 : Piece := ⟨0, 0, 0, 0, 0⟩
  rcases open_slice Tryz.underlying47 hf with ⟨hcs, _⟩ | ⟨a, l, c, m, n, D, Pl, hcs, _, hl, hm, hmm, hx, hel⟩
  · simp [Value.cells] at hcs
    obtain ⟨rfl, rfl, rfl⟩ := hcs
    exact ⟨none, 0, 0, fun _ => d0, rfl, Nat.le_refl _, by decide, fun i hi => absurd hi (by omega), fun i hi => absurd hi (by omega)⟩
  · simp [Value.cells] at hcs
    obtain ⟨rfl, rfl, rfl⟩ := hcs
    simp only [Prod.mk.injEq] at hx
    obtain ⟨rfl, _⟩ := hx
    by_cases h0 : len = 0
    · exact ⟨some a, len, cap, fun _ => d0, rfl, hl, hm, fun i hi => absurd hi (by omega), fun i hi => absurd hi (by omega)⟩
    have hlm : len ≤ m := by rw [hmm]; split <;> omega
    rw [cellsPc] at hel
    obtain ⟨b, off, spot⟩ := a
    have hsp : spot = none := by
      obtain ⟨cs', h1, h2⟩ := hel 0 (by omega)
      obtain ⟨_, hlen, hcell⟩ := World.cells?_some h1
      have h3 := hcell 0 (by omega)
      rw [List.getElem?_eq_getElem (by omega)] at h3
      simpa [Addr.add] using World.cell?_spot h3
    subst hsp
    have key : ∀ i, ∃ x : Piece, i < len → PieceOk x ∧ ∀ j u, (pcC x)[j]? = some u → w.cell? ⟨b, off + i * 5 + j, none⟩ = some u := by
      intro i
      by_cases hi : i < len
      · obtain ⟨cs', h1, h2⟩ := hel i (by omega)
        obtain ⟨_, hlen', hcell⟩ := World.cells?_some h1
        obtain ⟨x, hx⟩ := open_pc (blk := b) (at_ := off + i * 5) h2 (fun j hj => by rw [← hcell j hj, add_at])
        exact ⟨x, fun _ => hx⟩
      · exact ⟨d0, fun h => absurd h hi⟩
    obtain ⟨f, hf'⟩ := Classical.axiomOfChoice key
    refine ⟨some ⟨b, off, none⟩, len, cap, f, rfl, hl, hm, fun i hi => ⟨b, off, rfl, ?_, (hf' i hi).2⟩, fun i hi => (hf' i hi).1⟩
    exact World.block_lt_of_cell? w _ ((hf' i hi).2 0 _ rfl)
end Go.Proofs.YtiknookfnameiaaGreatDoor
