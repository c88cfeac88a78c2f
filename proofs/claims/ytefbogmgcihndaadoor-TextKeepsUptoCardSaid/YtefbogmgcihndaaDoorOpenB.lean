/- Arguments opened from their reading alone (no shape handed in): slices of integers; structs of one-cell fields; a slice of them. -/
import Derived.Test.YtefbogmgcihndaaDoorOpen
import Derived.Deep.Fields
namespace Go.Proofs.YtefbogmgcihndaaDoor
open Go.ChangeShapes Go.WideShapes Go.ChangeAt Go.RowKit Go.Joins Go.Deep
section
variable {H : Type} {enc : TypeId × Value → H} {P : Program} {w : World} {base : Nat} {spare : Nat → Bool} {held : Bool}
theorem trod_int_slice {fuel : Nat} {t e : TypeId} {k : IntKind} {v : Value} {x : DataW H × List MemPlace}
    (ht : P.underlying t = some (.slice e)) (he : P.underlying e = some (.int k)) (hc : P.cellsOf e = 1)
    (hf : DataW.trod enc P w base spare held fuel t [v] = some x) :
    ∃ xs : List Int, Rd w v (xs.map (Value.int k)) ∧ (∀ x ∈ xs, (Lit.int k x).wf = true) ∧ xs.length ≤ Rows.uptoBulk x.1 := by
  rcases open_ints ht he hc hf with ⟨hcs, hx⟩ | ⟨a, l, c, zs, hcs, _, hl, hm, hz, hx, hcell, hwz⟩
  · simp only [List.cons.injEq, and_true] at hcs
    subst hcs
    exact ⟨[], ⟨none, 0, rfl, Nat.le_refl _, by decide, .inl rfl⟩, by simp, by simp⟩
  · simp only [List.cons.injEq, and_true] at hcs
    subst hcs
    subst hx
    have hlz : l ≤ zs.length := by rw [hz]; split <;> omega
    have hlen : (zs.take l).length = l := by rw [List.length_take]; omega
    refine ⟨zs.take l, ?_, fun x hx => hwz x (List.mem_of_mem_take hx), ?_⟩
    · refine ⟨some a, c, by rw [List.length_map, hlen], by rw [List.length_map, hlen]; exact hl, hm, ?_⟩
      by_cases h0 : l = 0
      · left; subst h0; simp
      · right
        have h1 := hcell 0 (by omega)
        have hadd0 : a.add 0 = a := by simp [Addr.add]
        rw [hadd0] at h1
        obtain ⟨b, off, spot⟩ := a
        cases spot with
        | some sp => exfalso; revert h1; simp only [World.cell?]; split <;> simp
        | none =>
          refine ⟨b, off, rfl, fun j u hu => ?_⟩
          have hj : j < l := by
            have := (List.getElem?_eq_some_iff.1 hu).1
            rw [List.length_map, hlen] at this; exact this
          have h2 := hcell j (by omega)
          have hadd : (⟨b, off, none⟩ : Addr).add j = ⟨b, off + j, none⟩ := by unfold Addr.add; split <;> simp_all
          rw [hadd] at h2
          rw [h2, ← hu, List.getElem?_map, List.getElem?_take, if_pos hj, List.getElem?_eq_getElem (by omega)]
          simp [List.getD, show j < zs.length by omega]
    · simp only [Rows.uptoBulk]
      have := bulk_len (lits (H := H) k (zs.take l))
      have e : (lits (H := H) k (zs.take l)).length = l := by simp [lits]; omega
      rw [hlen]; omega
theorem trod_words {fuel : Nat} {t e : TypeId} {v : Value} {x : DataW H × List MemPlace}
    (ht : P.underlying t = some (.slice e)) (he : P.underlying e = some (.int .u32)) (hc : P.cellsOf e = 1)
    (hf : DataW.trod enc P w base spare held fuel t [v] = some x) : ∃ l : List UInt32, Rd w v (vw l) ∧ l.length ≤ Rows.uptoBulk x.1 := by
  obtain ⟨xs, h1, h2, h3⟩ := trod_int_slice ht he hc hf
  refine ⟨xs.map ofI, ?_, by simpa using h3⟩
  have e : vw (xs.map ofI) = xs.map (Value.int .u32) := by
    unfold vw
    rw [List.map_map]
    refine List.map_congr_left fun x hx => ?_
    have := wf_u32_bd (h2 x hx)
    simp only [Function.comp]
    rw [ofI_val x this.1 this.2]
  rw [e]; exact h1
theorem trod_bytes {fuel : Nat} {t e : TypeId} {v : Value} {x : DataW H × List MemPlace}
    (ht : P.underlying t = some (.slice e)) (he : P.underlying e = some (.int .u8)) (hc : P.cellsOf e = 1)
    (hf : DataW.trod enc P w base spare held fuel t [v] = some x) : ∃ l : List UInt8, Rd w v (vb l) ∧ l.length ≤ Rows.uptoBulk x.1 := by
  obtain ⟨xs, h1, h2, h3⟩ := trod_int_slice ht he hc hf
  refine ⟨xs.map ofB, ?_, by simpa using h3⟩
  have e : vb (xs.map ofB) = xs.map (Value.int .u8) := by
    unfold vb
    rw [List.map_map]
    refine List.map_congr_left fun x hx => ?_
    have := wf_u8_bd (h2 x hx)
    simp only [Function.comp]
    rw [ofB_val x this.1 this.2]
  rw [e]; exact h1
theorem bulk_mem {x : DataW H} {l : List (DataW H)} (h : x ∈ l) : Rows.uptoBulk x ≤ Rows.uptoBulkAll l := by
  induction l with
  | nil => cases h
  | cons y r ih =>
    simp only [Rows.uptoBulkAll]
    rcases List.mem_cons.1 h with rfl | h
    · omega
    · have := ih h; omega
/-- a struct whose fields are one cell each, at its cells -/
theorem trod_fields {ts : TypeId} {fs : Array Field} {fuel : Nat} {cs : List Value} {x : DataW H × List MemPlace} (hs : P.underlying ts = some (.struct fs))
    (hone : ∀ (i : Nat) (f : Field), fs[i]? = some f → f.offset = i ∧ P.cellsOf f.type = 1) (hC : P.cellsOf ts = fs.size) (h : DataW.trod enc P w base spare held fuel ts cs = some x) :
    cs.length = fs.size ∧ ∃ (n : Nat) (Y : Nat → DataW H × List MemPlace), x.1 = .agg ((List.range fs.size).map fun i => (Y i).1) ∧
      ∀ (i : Nat) (f : Field), fs[i]? = some f → DataW.trod enc P w base spare held n f.type [cs.getD i undef] = some (Y i) := by
  obtain ⟨xs, n, _, rfl, hl, hxl, hf⟩ := DataW.trod_struct hs h
  rw [hC] at hl
  refine ⟨hl, n, fun i => xs.getD i (.nil, []), ?_, fun i f hi => ?_⟩
  · show DataW.agg _ = _
    rw [map_by_index xs (.nil, []) (·.1), hxl]
  · have hlt : i < fs.size := (Array.getElem?_eq_some_iff.1 hi).1
    obtain ⟨ho, hc1⟩ := hone i f hi
    have g := hf i f hi
    rw [ho, hc1] at g
    rw [take1_drop cs i undef (by omega), List.getElem?_eq_getElem (by omega)] at g
    rw [g]
    simp [List.getD, List.getElem?_eq_getElem (show i < xs.length by omega)]
end
end Go.Proofs.YtefbogmgcihndaaDoor
