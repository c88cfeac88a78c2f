/- A table of words that came in. -/
import Derived.Test.YtefbogmgcihndaaDoorTOpen
import Derived.Test.YtefbogmgcihndaaDoorTCWk
namespace Go.Proofs.YtefbogmgcihndaaDoor
open Go.ChangeShapes Go.WideShapes Go.ChangeAt Go.RowKit Go.Joins Go.Deep
set_option maxRecDepth 100000
section
variable {H : Type} {enc : TypeId × Value → H} {P : Program} {w : World} {base : Nat} {spare : Nat → Bool} {held : Bool}
theorem trod_int_slice1 {fuel : Nat} {t e : TypeId} {k : IntKind} {v : Value} {x : DataW H × List MemPlace}
    (ht : P.underlying t = some (.slice e)) (he : P.underlying e = some (.int k)) (hc : P.cellsOf e = 1)
    (hf : DataW.trod enc P w base spare held fuel t [v] = some x) :
    ∃ xs : List Int, Rd w v (xs.map (Value.int k)) ∧ (∀ x ∈ xs, (Lit.int k x).wf = true) ∧ xs.length + 1 ≤ Rows.uptoBulk x.1 := by
  rcases open_ints ht he hc hf with ⟨hcs, hx⟩ | ⟨a, l, c, zs, hcs, _, hl, hm, hz, hx, hcell, hwz⟩
  · simp only [List.cons.injEq, and_true] at hcs
    subst hcs
    exact ⟨[], ⟨none, 0, rfl, Nat.le_refl _, by decide, .inl rfl⟩, by simp, by have := bulk_one x.1; simpa using this⟩
  · simp only [List.cons.injEq, and_true] at hcs
    subst hcs
    subst hx
    have hlz : l ≤ zs.length := by rw [hz]; split <;> omega
    have hlen : (zs.take l).length = l := by rw [List.length_take]; omega
    refine ⟨zs.take l, ?_, fun x hx => hwz x (List.mem_of_mem_take hx), ?_⟩
    · refine ⟨some a, c, by rw [List.length_map, hlen], by rw [List.length_map, hlen]; exact hl, hm, ?_⟩
      by_cases h0 : l = 0
      · left; subst h0; simp
      · right
        have h1 := hcell 0 (by omega)
        have hadd0 : a.add 0 = a := by simp [Addr.add]
        rw [hadd0] at h1
        obtain ⟨b, off, spot⟩ := a
        cases spot with
        | some sp => exfalso; revert h1; simp only [World.cell?]; split <;> simp
        | none =>
          refine ⟨b, off, rfl, fun j u hu => ?_⟩
          have hj : j < l := by
            have := (List.getElem?_eq_some_iff.1 hu).1
            rw [List.length_map, hlen] at this; exact this
          have h2 := hcell j (by omega)
          have hadd : (⟨b, off, none⟩ : Addr).add j = ⟨b, off + j, none⟩ := by unfold Addr.add; split <;> simp_all
          rw [hadd] at h2
          rw [h2, ← hu, List.getElem?_map, List.getElem?_take, if_pos hj, List.getElem?_eq_getElem (by omega)]
          simp [List.getD, show j < zs.length by omega]
    · simp only [Rows.uptoBulk]
      have := bulk_len (lits (H := H) k (zs.take l))
      have e : (lits (H := H) k (zs.take l)).length = l := by simp [lits]; omega
      rw [hlen]; omega
theorem trod_words1 {fuel : Nat} {t e : TypeId} {v : Value} {x : DataW H × List MemPlace}
    (ht : P.underlying t = some (.slice e)) (he : P.underlying e = some (.int .u32)) (hc : P.cellsOf e = 1)
    (hf : DataW.trod enc P w base spare held fuel t [v] = some x) : ∃ l : List UInt32, Rd w v (vw l) ∧ l.length + 1 ≤ Rows.uptoBulk x.1 := by
  obtain ⟨xs, h1, h2, h3⟩ := trod_int_slice1 ht he hc hf
  refine ⟨xs.map ofI, ?_, by simpa using h3⟩
  have e : vw (xs.map ofI) = xs.map (Value.int .u32) := by
    unfold vw
    rw [List.map_map]
    refine List.map_congr_left fun x hx => ?_
    have := wf_u32_bd (h2 x hx)
    simp only [Function.comp]
    rw [ofI_val x this.1 this.2]
  rw [e]; exact h1
end
theorem cellsU : Tryd.prog.cellsOf 42 = 1 := by kernel_rfl
theorem cellsL : Tryd.prog.cellsOf 40 = 1 := by kernel_rfl
theorem bulkAll_rows {H : Type} (D : Nat → DataW H) (R : Nat → List UInt32) : ∀ n, (∀ i, i < n → (R i).length + 1 ≤ Rows.uptoBulk (D i)) → ((List.range n).map fun i => (R i).length).sum + n ≤ Rows.uptoBulkAll ((List.range n).map D)
  | 0, _ => Nat.zero_le _
  | n + 1, h => by
    have ih := bulkAll_rows D R n (fun i hi => h i (by omega))
    have h1 := h n (by omega)
    have e : ∀ (a b : List (DataW H)), Rows.uptoBulkAll (a ++ b) = Rows.uptoBulkAll a + Rows.uptoBulkAll b := by
      intro a b
      induction a with
      | nil => simp [Rows.uptoBulkAll]
      | cons x a ih => simp only [List.cons_append, Rows.uptoBulkAll, ih]; omega
    rw [List.range_succ, List.map_append, List.map_append, e, List.sum_append]
    simp only [List.map_cons, List.map_nil, Rows.uptoBulkAll, List.sum_cons, List.sum_nil]
    omega
theorem open_table {H : Type} {enc : TypeId × Value → H} {w : World} {base : Nat} {spare : Nat → Bool} {held : Bool} {r : Reach} {b0 : Nat} {v : Value} {d : DataW H} {p : List MemPlace}
    (hv : Value.okWide Tryd.prog w r b0 36 v) (h : DataW.Trod enc Tryd.prog w base spare held 36 v d p) (hk : Rows.uptoBulk d ≤ 1048576) :
    ∃ ao n cap V R, v = .slice ao n cap ∧ n ≤ cap ∧ cap ≤ 9223372036854775807 ∧ TabAt w ao n V R := by
  obtain ⟨ao, len, cap, rfl⟩ := okWide_slice Tryd.underlying36 hv
  obtain ⟨fuel, hf⟩ := h
  have nil : ∀ ao : Option Addr, TabAt w ao 0 (fun _ => undef) (fun _ => []) := fun ao => ⟨fun i h => absurd h (by omega), fun i h => absurd h (by omega), by simp⟩
  rcases open_slice Tryd.underlying36 hf with ⟨hcs, _⟩ | ⟨a, l, c, m, n, D, Pl, hcs, _, hl, hm, hmm, hx, hel⟩
  · simp [Value.cells] at hcs
    obtain ⟨rfl, rfl, rfl⟩ := hcs
    exact ⟨none, 0, 0, _, _, rfl, Nat.le_refl _, by decide, nil _⟩
  · simp [Value.cells] at hcs
    obtain ⟨rfl, rfl, rfl⟩ := hcs
    simp only [Prod.mk.injEq] at hx
    obtain ⟨rfl, _⟩ := hx
    by_cases h0 : len = 0
    · subst h0
      exact ⟨some a, 0, cap, _, _, rfl, hl, hm, nil _⟩
    have hlm : len ≤ m := by rw [hmm]; split <;> omega
    rw [cellsL] at hel
    obtain ⟨b, off, spot⟩ := a
    have hsp : spot = none := by
      obtain ⟨cs', h1, h2⟩ := hel 0 (by omega)
      obtain ⟨_, hlen, hcell⟩ := World.cells?_some h1
      have h3 := hcell 0 (by omega)
      rw [List.getElem?_eq_getElem (by omega)] at h3
      simpa [Addr.add] using World.cell?_spot h3
    subst hsp
    have key : ∀ i, ∃ x : Value × List UInt32, i < len → w.cell? ⟨b, off + i, none⟩ = some x.1 ∧ Rd w x.1 (vw x.2) ∧ x.2.length + 1 ≤ Rows.uptoBulk (D i) := by
      intro i
      by_cases hi : i < len
      · obtain ⟨cs', h1, h2⟩ := hel i (by omega)
        obtain ⟨_, hlen', hcell⟩ := World.cells?_some h1
        match cs', hlen' with
        | [x], _ =>
          obtain ⟨l, h3, h4⟩ := trod_words1 Tryd.underlying40 Tryd.underlying42 cellsU h2
          have h5 := hcell 0 (by omega)
          rw [add_at] at h5
          exact ⟨(x, l), fun _ => ⟨by simpa using h5, h3, h4⟩⟩
      · exact ⟨(undef, []), fun h => absurd h hi⟩
    obtain ⟨f, hf'⟩ := Classical.axiomOfChoice key
    refine ⟨some ⟨b, off, none⟩, len, cap, fun k => (f k).1, fun k => (f k).2, rfl, hl, hm, fun i hi => ⟨b, off, rfl, (hf' i hi).1⟩, fun i hi => (hf' i hi).2.1, ?_⟩
    have hs := bulkAll_rows D (fun k => (f k).2) len (fun i hi => (hf' i hi).2.2)
    simp only [Rows.uptoBulk] at hk
    have hk' : Rows.uptoBulkAll ((List.range len).map D) ≤ 1048576 := by omega
    omega
end Go.Proofs.YtefbogmgcihndaaDoor
