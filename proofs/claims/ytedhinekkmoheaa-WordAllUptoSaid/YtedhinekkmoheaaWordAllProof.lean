/- For every script of calls, of bulk at most 1048576, WordAll returns true, and what was in memory stays. -/
import Derived.Test.YtedhinekkmoheaaOpenB
import Derived.Test.YtedhinekkmoheaaLawG
namespace Go.Proofs.Ytedhinekkmoheaa.wordAll
open Go.ChangeShapes Go.WideShapes Go.ChangeAt Go.RowKit Go.Joins Go.Deep
set_option linter.unusedVariables false
theorem cellsU : Try.prog.cellsOf 22 = 1 := by kernel_rfl
theorem cellsB : Try.prog.cellsOf 5 = 1 := by kernel_rfl
theorem cellsOp : Try.prog.cellsOf 67 = 11 := by kernel_rfl

theorem add_at (b off i j : Nat) : ((⟨b, off, none⟩ : Addr).add i).add j = ⟨b, off + i + j, none⟩ := by
  rw [Deep.add_add]; unfold Addr.add; split <;> simp_all; omega
/-- one call's cells, read -/
theorem open_op {H : Type} {enc : TypeId × Value → H} {w : World} {base : Nat} {spare : Nat → Bool} {held : Bool} {fuel blk at_ : Nat} {cs : List Value} {x : DataW H × List MemPlace}
    (h : DataW.trod enc Try.prog w base spare held fuel 67 cs = some x) (hc : ∀ j, j < 11 → w.cell? ⟨blk, at_ + j, none⟩ = cs[j]?) (hk : Rows.uptoBulk x.1 ≤ 1048576) : OpAt w blk at_ := by
  obtain ⟨hlen, n, Y, hx, hf⟩ := trod_fields Try.underlying67 (hone_of (by kernel_rfl)) (by kernel_rfl) h
  have hlen : cs.length = 11 := hlen
  have hY : ∀ i, i < 11 → Rows.uptoBulk (Y i).1 ≤ 1048576 := by
    intro i hi
    have h1 : (Y i).1 ∈ (List.range 11).map fun i => (Y i).1 := List.mem_map.2 ⟨i, List.mem_range.2 hi, rfl⟩
    have h2 := bulk_mem h1
    rw [hx] at hk
    simp only [Rows.uptoBulk] at hk
    have h3 : Rows.uptoBulkAll ((List.range 11).map fun i => (Y i).1) + 1 ≤ 1048576 := hk
    omega
  have hcell : ∀ j, j < 11 → w.cell? ⟨blk, at_ + j, none⟩ = some (cs.getD j undef) := by
    intro j hj
    rw [hc j hj, List.getElem?_eq_getElem (by omega)]
    simp [List.getD, List.getElem?_eq_getElem (show j < cs.length by omega)]
  obtain ⟨K, e0, _, w0⟩ := DataW.trod_int (k := .i64) Try.underlying3 (hf 0 _ rfl)
  obtain ⟨A, e1, _, w1⟩ := DataW.trod_int (k := .u32) Try.underlying22 (hf 1 _ rfl)
  obtain ⟨B, e2, _, w2⟩ := DataW.trod_int (k := .u32) Try.underlying22 (hf 2 _ rfl)
  obtain ⟨C, e3, _, w3⟩ := DataW.trod_int (k := .u32) Try.underlying22 (hf 3 _ rfl)
  obtain ⟨D, e4, _, w4⟩ := DataW.trod_int (k := .u32) Try.underlying22 (hf 4 _ rfl)
  obtain ⟨N, e5, _, w5⟩ := DataW.trod_int (k := .i64) Try.underlying3 (hf 5 _ rfl)
  obtain ⟨M, e6, _, w6⟩ := DataW.trod_int (k := .i64) Try.underlying3 (hf 6 _ rfl)
  obtain ⟨l, hl, ll⟩ := trod_words Try.underlying39 Try.underlying22 cellsU (hf 7 _ rfl)
  obtain ⟨p, hp, _⟩ := trod_words Try.underlying39 Try.underlying22 cellsU (hf 8 _ rfl)
  obtain ⟨b, hb, _⟩ := trod_bytes Try.underlying48 Try.underlying5 cellsB (hf 9 _ rfl)
  obtain ⟨s, e10, _, hs⟩ := DataW.trod_string Try.underlying9 (hf 10 _ rfl)
  simp only [List.cons.injEq, and_true] at e0 e1 e2 e3 e4 e5 e6 e10
  have lb := hY 7 (by omega)
  obtain ⟨a1, a2⟩ := wf_u32_bd w1
  obtain ⟨b1, b2⟩ := wf_u32_bd w2
  obtain ⟨c1, c2⟩ := wf_u32_bd w3
  obtain ⟨d1, d2⟩ := wf_u32_bd w4
  obtain ⟨n1, n2⟩ := wf_i64_bd w5
  obtain ⟨m1, m2⟩ := wf_i64_bd w6
  obtain ⟨k1, k2⟩ := wf_i64_bd w0
  refine ⟨K, A, B, C, D, N, M, cs.getD 7 undef, cs.getD 8 undef, cs.getD 9 undef, l, p, b, s, ⟨a1, a2, b1, b2, c1, c2, d1, d2, n1, n2, m1, m2, hl, hp, hb, by omega, hs⟩, k1, k2, ?_, ?_, ?_, ?_, ?_, ?_, ?_, hcell 7 (by omega), hcell 8 (by omega), hcell 9 (by omega), ?_⟩
  · rw [← e0]; exact hcell 0 (by omega)
  · rw [← e1]; exact hcell 1 (by omega)
  · rw [← e2]; exact hcell 2 (by omega)
  · rw [← e3]; exact hcell 3 (by omega)
  · rw [← e4]; exact hcell 4 (by omega)
  · rw [← e5]; exact hcell 5 (by omega)
  · rw [← e6]; exact hcell 6 (by omega)
  · rw [← e10]; exact hcell 10 (by omega)
theorem open_script {H : Type} {enc : TypeId × Value → H} {w : World} {base : Nat} {spare : Nat → Bool} {held : Bool} {r : Reach} {b0 : Nat} {v : Value} {d : DataW H} {p : List MemPlace}
    (hv : Value.okWide Try.prog w r b0 64 v) (h : DataW.Trod enc Try.prog w base spare held 64 v d p) (hk : Rows.uptoBulk d ≤ 1048576) :
    ∃ ao n cap, v = .slice ao n cap ∧ n ≤ cap ∧ cap ≤ 9223372036854775807 ∧ (n = 0 ∨ ∃ blk off, ao = some ⟨blk, off, none⟩ ∧ blk < w.heap.size ∧ ∀ i, i < n → OpAt w blk (off + i * 11)) := by
  obtain ⟨ao, len, cap, rfl⟩ := okWide_slice Try.underlying64 hv
  obtain ⟨fuel, hf⟩ := h
  rcases open_slice Try.underlying64 hf with ⟨hcs, _⟩ | ⟨a, l, c, m, n, D, Pl, hcs, _, hl, hm, hmm, hx, hel⟩
  · simp [Value.cells] at hcs
    obtain ⟨rfl, rfl, rfl⟩ := hcs
    exact ⟨none, 0, 0, rfl, Nat.le_refl _, by decide, .inl rfl⟩
  · simp [Value.cells] at hcs
    obtain ⟨rfl, rfl, rfl⟩ := hcs
    simp only [Prod.mk.injEq] at hx
    obtain ⟨rfl, _⟩ := hx
    refine ⟨some a, len, cap, rfl, hl, hm, ?_⟩
    by_cases h0 : len = 0
    · exact .inl h0
    right
    have hlm : len ≤ m := by rw [hmm]; split <;> omega
    rw [cellsOp] at hel
    obtain ⟨b, off, spot⟩ := a
    have hsp : spot = none := by
      obtain ⟨cs', h1, h2⟩ := hel 0 (by omega)
      obtain ⟨_, hlen, hcell⟩ := World.cells?_some h1
      have h3 := hcell 0 (by omega)
      rw [List.getElem?_eq_getElem (by omega)] at h3
      simpa [Addr.add] using World.cell?_spot h3
    subst hsp
    have key : ∀ i, i < len → OpAt w b (off + i * 11) := by
      intro i hi
      obtain ⟨cs', h1, h2⟩ := hel i (by omega)
      obtain ⟨_, hlen, hcell⟩ := World.cells?_some h1
      refine open_op h2 (fun j hj => ?_) ?_
      · rw [← hcell j hj, add_at]
      · have h3 : D i ∈ (List.range len).map D := List.mem_map.2 ⟨i, List.mem_range.2 hi, rfl⟩
        have h4 := bulk_mem h3
        simp only [Rows.uptoBulk] at hk
        show Rows.uptoBulk (D i) ≤ 1048576
        omega
    obtain ⟨K, A, B, C, D', N, M, vL, vP, vB, l, p', b', s, h0', k1, k2, c0, _⟩ := key 0 (by omega)
    exact ⟨b, off, rfl, World.block_lt_of_cell? w _ c0, key⟩

theorem contract (H : Type) (enc : TypeId × Value → H) (W : World) (base : Nat) (args : Array Value) (ds gs : List (DataW H)) (before : List MemPlace)
    (hval : ∀ (j : Nat) t v, Try.f7.params[j]? = some t → args[j]? = some v → Value.okWide Try.prog W .any base t v)
    (hW : DataW.Whole enc Try.prog Try.f7.params.toList Rows.wordAllSpec.vars false W args.toList ds gs before) (hk : Rows.uptoSmall H (ds ++ gs) = true) :
    Calls Try.prog 7 args W fun e W' => ∃ v, e = .returned v ∧ Rows.wordAllSpec.post enc Try.prog Try.f7 false true false false W args v W' := by
  have hW' := hW
  obtain ⟨p, q, hA0, hV, rfl, hfz, hnd⟩ := hW
  have hA : DataW.TrodAll enc Try.prog W 0 (fun _ => true) true Try.f7.params.toList args.toList ds p := hA0
  rw [Try.params7] at hA hval
  obtain ⟨v0, vs0, d0, ds0, p0, q0, hargs, rfl, rfl, h0, r0⟩ := trodAll_cons hA
  obtain ⟨rfl, rfl, rfl⟩ := trodAll_nil r0
  obtain rfl : args = #[v0] := by cases args; simp_all
  obtain ⟨rfl, rfl⟩ := trodVars_none hV
  have k0 := h0
  have lt0 : ∀ x ∈ p0, x.block < W.heap.size := by obtain ⟨m, hm⟩ := k0; exact DataW.trod_lt m _ _ _ hm
  have hbound := bulk_bound hk
  simp only [List.append_nil, Rows.uptoBulkAll] at hbound
  obtain ⟨ao, n, cap, rfl, n1, n2, n3⟩ := open_script (hval 0 64 v0 rfl rfl) h0 (by omega)
  clear hA0
  refine (all_walk ao n cap W n1 n2 n3).mono fun e W' ⟨he, bel⟩ => ?_
  subst he
  exact ⟨_, rfl, _, _, _, [], _, [], hW', trodAll_mk1 (shut_bool Try.underlying4 _), (trodAll_cons_mk (Below.trod laidOut (by kernel_rfl) (of_decide_eq_true (by kernel_rfl)) k0 bel lt0) trodAll_mk0), rfl, bel.frame _, fun h => by cases h⟩

set_option maxRecDepth 100000 in
theorem lifted (os : Os) (started : os.Started) (H : Type) (enc : TypeId × Value → H) (F : Stop.Interp) :
    ReturnsInHanded {} Try.checked os 7 .any ((Rows.OpenSpec.upto Rows.wordAllSpec).pre6 enc Try.prog Try.f7 Rows.wordAllUptoRow.domain false) (((Rows.OpenSpec.upto Rows.wordAllSpec).at F).post enc Try.prog Try.f7 false true false false) := by
  refine returnsInHanded_of_cond (C := Try.checked) (s := Rows.OpenSpec.upto Rows.wordAllSpec) (k := Rows.uptoSmall) rfl own started (by kernel_rfl) Try.func7
    (OpenSpec.witness (enc := enc) (C := Try.checked) (s := Rows.OpenSpec.upto Rows.wordAllSpec) (k := Rows.uptoSmall) rfl false ⟨#[], #[.slice none 0 0], []⟩ 8 (by kernel_rfl) (by kernel_rfl) (by kernel_rfl)
      (x := ([.nil], [], [])) (by kernel_rfl) rfl (by kernel_rfl)) ?_
  intro W base args ds gs before hval hW _ hk _
  exact contract H enc W base args ds gs before hval hW hk

theorem proved : Rows.WordAllUptoSaid :=
  OpenClaim.holds_of_cond 7 Try.f7 rfl rfl rfl rfl rfl rfl rfl ⟨rfl, rfl, rfl, rfl, rfl⟩ rfl rfl rfl rfl rfl (by kernel_rfl) Try.func7 (by kernel_rfl)
    (of_decide_eq_true (by kernel_rfl)) (by unfold Func.isWrapper; first | (rw [if_pos (by decide +kernel)]; kernel_rfl) | (rw [if_neg (by decide +kernel)]; exact ⟨rfl, rfl⟩))
    (fun os started H enc _ F => lifted os started H enc F)
#print axioms proved
end Go.Proofs.Ytedhinekkmoheaa.wordAll
