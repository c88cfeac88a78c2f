/- A script of calls that came in. -/
import Derived.Test.YtefbogmgcihndaaDoorTOpG
import Derived.Test.YtefbogmgcihndaaDoorTOpD
import Derived.Test.YtefbogmgcihndaaDoorTRcl
namespace Go.Proofs.YtefbogmgcihndaaDoor
open Go.ChangeShapes Go.WideShapes Go.ChangeAt Go.RowKit Go.Joins Go.Deep
set_option maxRecDepth 100000
section
variable {H : Type} {enc : TypeId × Value → H} {P : Program} {w : World} {base : Nat} {spare : Nat → Bool} {held : Bool}
theorem bulkAll_app (a b : List (DataW H)) : Rows.uptoBulkAll (a ++ b) = Rows.uptoBulkAll a + Rows.uptoBulkAll b := by
  induction a with
  | nil => simp [Rows.uptoBulkAll]
  | cons x a ih => simp only [List.cons_append, Rows.uptoBulkAll, ih]; omega
theorem bulkAll_sum (D : Nat → DataW H) (f : Nat → Nat) : ∀ n, (∀ i, i < n → f i ≤ Rows.uptoBulk (D i)) → ((List.range n).map f).sum ≤ Rows.uptoBulkAll ((List.range n).map D)
  | 0, _ => Nat.zero_le _
  | n + 1, h => by
    have ih := bulkAll_sum D f n (fun i hi => h i (by omega))
    have h1 := h n (by omega)
    rw [List.range_succ, List.map_append, List.map_append, bulkAll_app, List.sum_append]
    simp only [List.map_cons, List.map_nil, Rows.uptoBulkAll, List.sum_cons, List.sum_nil]
    omega
/-- a slice of one-cell elements, each read by itself -/
theorem open_row {fuel : Nat} {t e : TypeId} {v : Value} {x : DataW H × List MemPlace}
    (ht : P.underlying t = some (.slice e)) (hc : P.cellsOf e = 1) (hf : DataW.trod enc P w base spare held fuel t [v] = some x) :
    ∃ (n m : Nat) (V : Nat → Value) (D : Nat → DataW H × List MemPlace), Rd w v ((List.range n).map V) ∧ (∀ i, i < n → DataW.trod enc P w base spare held m e [V i] = some (D i)) ∧
      Rows.uptoBulkAll ((List.range n).map fun i => (D i).1) + 1 ≤ Rows.uptoBulk x.1 := by
  rcases DataW.trod_slice ht hf with ⟨hcs, hx⟩ | ⟨a, len, cap, elems, rest, m, _, hcs, hx, _, hl, hm, hel, hcell, _, _⟩
  · simp only [List.cons.injEq, and_true] at hcs
    subst hcs
    exact ⟨0, 0, fun _ => undef, fun _ => (.nil, []), rd_nil w, fun i hi => absurd hi (by omega), by have := bulk_one x.1; simpa [Rows.uptoBulkAll] using this⟩
  · simp only [List.cons.injEq, and_true] at hcs
    subst hcs
    subst hx
    rw [hc] at hcell
    have key0 : ∀ i, ∃ u : Value, i < len → w.cell? (a.add i) = some u ∧ DataW.trod enc P w base spare held m e [u] = some (elems.getD i (.nil, [])) := by
      intro i
      by_cases hi : i < len
      · have h1 := hcell i hi
        rw [List.getElem?_eq_getElem (by omega)] at h1
        cases hcl : w.cells? base (a.add (i * 1)) 1 with
        | none => rw [hcl] at h1; simp at h1
        | some cs =>
          rw [hcl] at h1
          obtain ⟨_, hlen, hce⟩ := World.cells?_some hcl
          match cs, hlen with
          | [u], _ =>
            refine ⟨u, fun _ => ⟨?_, ?_⟩⟩
            · have := hce 0 (by omega)
              rw [Deep.add_add] at this
              simpa using this
            · rw [List.getD_eq_getElem?_getD, List.getElem?_eq_getElem (by omega)]
              simpa using h1
      · exact ⟨undef, fun h => absurd h hi⟩
    obtain ⟨V, hV⟩ := Classical.axiomOfChoice key0
    refine ⟨len, m, V, fun i => elems.getD i (.nil, []), ⟨some a, cap, by simp, by simpa using hl, hm, ?_⟩, fun i hi => (hV i hi).2, ?_⟩
    · by_cases h0 : len = 0
      · left; subst h0; rfl
      · right
        have h1 := (hV 0 (by omega)).1
        have hadd0 : a.add 0 = a := by simp [Addr.add]
        rw [hadd0] at h1
        obtain ⟨b, off, spot⟩ := a
        cases spot with
        | some sp => exfalso; revert h1; simp only [World.cell?]; split <;> simp
        | none =>
          refine ⟨b, off, rfl, fun j u hu => ?_⟩
          have hj : j < len := by
            have := (List.getElem?_eq_some_iff.1 hu).1
            simpa using this
          have h2 := (hV j hj).1
          have hadd : (⟨b, off, none⟩ : Addr).add j = ⟨b, off + j, none⟩ := by unfold Addr.add; split <;> simp_all
          rw [hadd] at h2
          rw [h2, ← hu, List.getElem?_map, List.getElem?_range hj]; rfl
    · simp only [Rows.uptoBulk]
      have e : elems.map (·.1) = (List.range len).map fun i => (elems.getD i (.nil, [])).1 := by rw [map_by_index elems (.nil, []) (·.1), hel]
      rw [← e]; omega
theorem trod_strs {fuel : Nat} {t e : TypeId} {v : Value} {x : DataW H × List MemPlace}
    (ht : P.underlying t = some (.slice e)) (he : P.underlying e = some .string) (hc : P.cellsOf e = 1) (hf : DataW.trod enc P w base spare held fuel t [v] = some x) :
    ∃ l : List ByteArray, Rd w v (vs l) ∧ l.length + 1 ≤ Rows.uptoBulk x.1 ∧ ∀ j, (nthB l j).size + 1 ≤ Rows.uptoBulk x.1 := by
  obtain ⟨n, m, V, D, hr, hD, hb⟩ := open_row ht hc hf
  have key : ∀ i, ∃ s : ByteArray, i < n → V i = .string s ∧ s.size + 1 = Rows.uptoBulk (D i).1 := by
    intro i
    by_cases hi : i < n
    · obtain ⟨s, h1, h2, _⟩ := DataW.trod_string he (hD i hi)
      exact ⟨s, fun _ => ⟨by simpa using h1, by rw [h2]; exact (bulk_string s).symm⟩⟩
    · exact ⟨⟨#[]⟩, fun h => absurd h hi⟩
  obtain ⟨f, hf'⟩ := Classical.axiomOfChoice key
  have hsum := bulkAll_sum (fun i => (D i).1) (fun i => (f i).size + 1) n (fun i hi => Nat.le_of_eq (hf' i hi).2)
  have hge : ∀ k, k ≤ n → k ≤ ((List.range k).map fun i => (f i).size + 1).sum := by
    intro k
    induction k with
    | zero => intro _; exact Nat.zero_le _
    | succ k ih => intro h; have := ih (by omega); rw [List.range_succ, List.map_append, List.sum_append]; simp; omega
  refine ⟨(List.range n).map f, ?_, ?_, ?_⟩
  · have e : vs ((List.range n).map f) = (List.range n).map V := by
      unfold vs; rw [List.map_map]
      exact List.map_congr_left fun i hi => ((hf' i (List.mem_range.1 hi)).1).symm
    rw [e]; exact hr
  · have := hge n (Nat.le_refl _); simp; omega
  · intro j
    by_cases hj : j < n
    · have e : nthB ((List.range n).map f) j = f j := by unfold nthB; rw [List.getD_eq_getElem?_getD, List.getElem?_map, List.getElem?_range hj]; rfl
      have h1 := (hf' j hj).2
      have h2 := bulk_mem (x := (D j).1) (l := (List.range n).map fun i => (D i).1) (List.mem_map.2 ⟨j, List.mem_range.2 hj, rfl⟩)
      rw [e]; omega
    · rw [nthB_none _ _ (by simpa using hj)]
      have := bulk_one x.1
      show 0 + 1 ≤ _; omega
theorem trod_grid {fuel : Nat} {t e s : TypeId} {v : Value} {x : DataW H × List MemPlace}
    (ht : P.underlying t = some (.slice e)) (hc : P.cellsOf e = 1) (he : P.underlying e = some (.slice s)) (hs : P.underlying s = some .string) (hsc : P.cellsOf s = 1) (hf : DataW.trod enc P w base spare held fuel t [v] = some x) :
    ∃ (n : Nat) (V : Nat → Value) (C : Nat → List ByteArray), Grid w v V C n ∧ n + 1 ≤ Rows.uptoBulk x.1 ∧ ((List.range n).map fun i => (C i).length).sum + 1 ≤ Rows.uptoBulk x.1 ∧ ∀ i, i < n → (C i).length + 1 ≤ Rows.uptoBulk x.1 ∧ ∀ j, (nthB (C i) j).size + 1 ≤ Rows.uptoBulk x.1 := by
  obtain ⟨n, m, V, D, hr, hD, hb⟩ := open_row ht hc hf
  have key : ∀ i, ∃ l : List ByteArray, i < n → Rd w (V i) (vs l) ∧ l.length + 1 ≤ Rows.uptoBulk (D i).1 ∧ ∀ j, (nthB l j).size + 1 ≤ Rows.uptoBulk (D i).1 := by
    intro i
    by_cases hi : i < n
    · obtain ⟨l, h1, h2, h3⟩ := trod_strs he hs hsc (hD i hi)
      exact ⟨l, fun _ => ⟨h1, h2, h3⟩⟩
    · exact ⟨[], fun h => absurd h hi⟩
  obtain ⟨C, hC⟩ := Classical.axiomOfChoice key
  have hs1 := bulkAll_sum (fun i => (D i).1) (fun i => (C i).length) n (fun i hi => by have := (hC i hi).2.1; omega)
  have hs2 := bulkAll_sum (fun i => (D i).1) (fun _ => 1) n (fun i _ => bulk_one _)
  have hn : ∀ k : Nat, ((List.range k).map fun _ => 1).sum = k := by
    intro k
    induction k with
    | zero => rfl
    | succ k ih => rw [List.range_succ, List.map_append, List.sum_append, ih]; rfl
  replace hn := hn n
  refine ⟨n, V, C, ⟨hr, fun i hi => (hC i hi).1⟩, by omega, by omega, fun i hi => ?_⟩
  have h2 := bulk_mem (x := (D i).1) (l := (List.range n).map fun i => (D i).1) (List.mem_map.2 ⟨i, List.mem_range.2 hi, rfl⟩)
  refine ⟨by have := (hC i hi).2.1; omega, fun j => by have := (hC i hi).2.2 j; omega⟩
end
theorem cellsOp : Tryd.prog.cellsOf 54 = 7 := by kernel_rfl
theorem cellsSt : Tryd.prog.cellsOf 9 = 1 := by kernel_rfl
theorem cellsSs : Tryd.prog.cellsOf 39 = 1 := by kernel_rfl
theorem open_op {H : Type} {enc : TypeId × Value → H} {w : World} {base : Nat} {spare : Nat → Bool} {held : Bool} {fuel : Nat} {cs : List Value} {x : DataW H × List MemPlace} {blk at_ : Nat}
    (h : DataW.trod enc Tryd.prog w base spare held fuel 54 cs = some x) (hc : ∀ j, j < 7 → w.cell? ⟨blk, at_ + j, none⟩ = cs[j]?) (hk : Rows.uptoBulk x.1 ≤ 1048576) :
    ∃ d : OpD, OpAt w blk at_ d := by
  obtain ⟨hlen, n, Y, hx, hf⟩ := trod_fields Tryd.underlying54 (fun i f hi => by
    match i, hi with
    | 0, hi => cases hi; exact ⟨rfl, by kernel_rfl⟩
    | 1, hi => cases hi; exact ⟨rfl, by kernel_rfl⟩
    | 2, hi => cases hi; exact ⟨rfl, by kernel_rfl⟩
    | 3, hi => cases hi; exact ⟨rfl, by kernel_rfl⟩
    | 4, hi => cases hi; exact ⟨rfl, by kernel_rfl⟩
    | 5, hi => cases hi; exact ⟨rfl, by kernel_rfl⟩
    | 6, hi => cases hi; exact ⟨rfl, by kernel_rfl⟩
    | i + 7, hi => exact absurd hi (by simp)) (by kernel_rfl) h
  have hlen : cs.length = 7 := hlen
  have hcell : ∀ j, j < 7 → w.cell? ⟨blk, at_ + j, none⟩ = some (cs.getD j undef) := by
    intro j hj
    rw [hc j hj, List.getElem?_eq_getElem (by omega)]
    simp [List.getD, List.getElem?_eq_getElem (show j < cs.length by omega)]
  have hbk : ∀ j, j < 7 → Rows.uptoBulk (Y j).1 ≤ 1048576 := by
    intro j hj
    rw [hx] at hk
    simp only [Rows.uptoBulk] at hk
    have := bulk_mem (x := (Y j).1) (l := (List.range 7).map fun i => (Y i).1) (List.mem_map.2 ⟨j, List.mem_range.2 hj, rfl⟩)
    have hk2 : Rows.uptoBulkAll ((List.range 7).map fun i => (Y i).1) ≤ 1048576 := by
      refine Nat.le_trans ?_ hk
      show Rows.uptoBulkAll ((List.range 7).map fun i => (Y i).1) ≤ _
      simp [List.range, List.range.loop]
    omega
  obtain ⟨k, e0, _, _⟩ := DataW.trod_int (k := .i64) Tryd.underlying3 (hf 0 _ rfl)
  obtain ⟨S, e1, x1, _⟩ := DataW.trod_string Tryd.underlying9 (hf 1 _ rfl)
  obtain ⟨pad, e2, _, _⟩ := DataW.trod_int (k := .i64) Tryd.underlying3 (hf 2 _ rfl)
  obtain ⟨B, hB, lB⟩ := trod_bytes Tryd.underlying24 Tryd.underlying5 cellsB (hf 3 _ rfl)
  obtain ⟨u, e4, _, w4⟩ := DataW.trod_int (k := .u32) Tryd.underlying42 (hf 4 _ rfl)
  obtain ⟨z, e5, _, w5⟩ := DataW.trod_int (k := .i32) Tryd.underlying21 (hf 5 _ rfl)
  obtain ⟨m, V, C, hG, g1, g2, g3⟩ := trod_grid Tryd.underlying37 cellsSs Tryd.underlying39 Tryd.underlying9 cellsSt (hf 6 _ rfl)
  simp only [List.cons.injEq, and_true] at e0 e1 e2 e4 e5
  have b1 := hbk 1 (by omega)
  have b3 := hbk 3 (by omega)
  have b6 := hbk 6 (by omega)
  rw [x1, bulk_string] at b1
  obtain ⟨u0, u1⟩ := wf_u32_bd w4
  obtain ⟨z0, z1⟩ := wf_i32_bd w5
  obtain ⟨un, rfl⟩ := Int.eq_ofNat_of_zero_le u0
  refine ⟨⟨k, S, pad, cs.getD 3 undef, B, un, z, cs.getD 6 undef, V, C, m⟩, ?_, ?_, ?_, hcell 3 (by omega), ?_, ?_, hcell 6 (by omega), ?_⟩
  · rw [← e0]; exact hcell 0 (by omega)
  · rw [← e1]; exact hcell 1 (by omega)
  · rw [← e2]; exact hcell 2 (by omega)
  · rw [← e4]; exact hcell 4 (by omega)
  · rw [← e5]; exact hcell 5 (by omega)
  · exact ⟨by show S.size ≤ _; omega, hB, by show B.length ≤ _; omega, by show un < _; omega, z0, z1, hG, by show m ≤ _; omega, by show ((List.range m).map fun i => (C i).length).sum ≤ 1048576; omega, fun i hi => ⟨by have := (g3 i hi).1; show (C i).length ≤ _; omega, fun j => by have := (g3 i hi).2 j; show (nthB (C i) j).size ≤ _; omega⟩⟩
theorem open_ops {H : Type} {enc : TypeId × Value → H} {w : World} {base : Nat} {spare : Nat → Bool} {held : Bool} {r : Reach} {b0 : Nat} {v : Value} {d : DataW H} {p : List MemPlace}
    (hv : Value.okWide Tryd.prog w r b0 47 v) (h : DataW.Trod enc Tryd.prog w base spare held 47 v d p) (hk : Rows.uptoBulk d ≤ 1048576) :
    ∃ (ao : Option Addr) (n cap : Nat) (D : Nat → OpD), v = .slice ao n cap ∧ n ≤ cap ∧ cap ≤ 9223372036854775807 ∧ ∀ i, i < n → ∃ blk off, ao = some ⟨blk, off, none⟩ ∧ OpAt w blk (off + i * 7) (D i) := by
  obtain ⟨ao, len, cap, rfl⟩ := okWide_slice Tryd.underlying47 hv
  obtain ⟨fuel, hf⟩ := h
  have d0 : OpD := ⟨0, ⟨#[]⟩, 0, undef, [], 0, 0, undef, fun _ => undef, fun _ => [], 0⟩
  rcases open_slice Tryd.underlying47 hf with ⟨hcs, _⟩ | ⟨a, l, c, m, n, D, Pl, hcs, _, hl, hm, hmm, hx, hel⟩
  · simp [Value.cells] at hcs
    obtain ⟨rfl, rfl, rfl⟩ := hcs
    exact ⟨none, 0, 0, fun _ => d0, rfl, Nat.le_refl _, by decide, fun i hi => absurd hi (by omega)⟩
  · simp [Value.cells] at hcs
    obtain ⟨rfl, rfl, rfl⟩ := hcs
    simp only [Prod.mk.injEq] at hx
    obtain ⟨rfl, _⟩ := hx
    by_cases h0 : len = 0
    · exact ⟨some a, len, cap, fun _ => d0, rfl, hl, hm, fun i hi => absurd hi (by omega)⟩
    have hlm : len ≤ m := by rw [hmm]; split <;> omega
    rw [cellsOp] at hel
    obtain ⟨b, off, spot⟩ := a
    have hsp : spot = none := by
      obtain ⟨cs', h1, h2⟩ := hel 0 (by omega)
      obtain ⟨_, hlen, hcell⟩ := World.cells?_some h1
      have h3 := hcell 0 (by omega)
      rw [List.getElem?_eq_getElem (by omega)] at h3
      simpa [Addr.add] using World.cell?_spot h3
    subst hsp
    simp only [Rows.uptoBulk] at hk
    have key : ∀ i, ∃ x : OpD, i < len → OpAt w b (off + i * 7) x := by
      intro i
      by_cases hi : i < len
      · obtain ⟨cs', h1, h2⟩ := hel i (by omega)
        obtain ⟨_, hlen', hcell⟩ := World.cells?_some h1
        have hbm := bulk_mem (x := D i) (l := (List.range len).map D) (List.mem_map.2 ⟨i, List.mem_range.2 hi, rfl⟩)
        obtain ⟨x, hx⟩ := open_op (blk := b) (at_ := off + i * 7) h2 (fun j hj => by rw [← hcell j hj, add_at]) (by show Rows.uptoBulk (D i) ≤ _; omega)
        exact ⟨x, fun _ => hx⟩
      · exact ⟨d0, fun h => absurd h hi⟩
    obtain ⟨f, hf'⟩ := Classical.axiomOfChoice key
    exact ⟨some ⟨b, off, none⟩, len, cap, f, rfl, hl, hm, fun i hi => ⟨b, off, rfl, hf' i hi⟩⟩
end Go.Proofs.YtefbogmgcihndaaDoor
