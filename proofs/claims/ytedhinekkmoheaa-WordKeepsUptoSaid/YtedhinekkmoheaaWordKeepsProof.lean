/- For every list of lists of words, of bulk at most 1048576, WordKeeps returns true, and what was in memory stays. -/
import Derived.Test.YtedhinekkmoheaaOpenB
import Derived.Test.YtedhinekkmoheaaKeepF
namespace Go.Proofs.Ytedhinekkmoheaa.wordKeeps
open Go.ChangeShapes Go.WideShapes Go.ChangeAt Go.RowKit Go.Joins Go.Deep
set_option linter.unusedVariables false
theorem cellsU : Try.prog.cellsOf 22 = 1 := by kernel_rfl
theorem add_at (b off i j : Nat) : ((⟨b, off, none⟩ : Addr).add i).add j = ⟨b, off + i + j, none⟩ := by
  rw [Deep.add_add]; unfold Addr.add; split <;> simp_all; omega
theorem cellsL : Try.prog.cellsOf 39 = 1 := by kernel_rfl
theorem open_lists {H : Type} {enc : TypeId × Value → H} {w : World} {base : Nat} {spare : Nat → Bool} {held : Bool} {r : Reach} {b0 : Nat} {v : Value} {d : DataW H} {p : List MemPlace}
    (hv : Value.okWide Try.prog w r b0 43 v) (h : DataW.Trod enc Try.prog w base spare held 43 v d p) (hk : Rows.uptoBulk d ≤ 1048576) :
    ∃ ao n cap A Ls, v = .slice ao n cap ∧ n ≤ cap ∧ cap ≤ 9223372036854775807 ∧ n ≤ 1048576 ∧ Lists w ao n A Ls := by
  obtain ⟨ao, len, cap, rfl⟩ := okWide_slice Try.underlying43 hv
  obtain ⟨fuel, hf⟩ := h
  rcases open_slice Try.underlying43 hf with ⟨hcs, _⟩ | ⟨a, l, c, m, n, D, Pl, hcs, _, hl, hm, hmm, hx, hel⟩
  · simp [Value.cells] at hcs
    obtain ⟨rfl, rfl, rfl⟩ := hcs
    exact ⟨none, 0, 0, fun _ => undef, fun _ => [], rfl, Nat.le_refl _, by decide, by decide, .inl rfl⟩
  · simp [Value.cells] at hcs
    obtain ⟨rfl, rfl, rfl⟩ := hcs
    simp only [Prod.mk.injEq] at hx
    obtain ⟨rfl, _⟩ := hx
    have hlen : len ≤ 1048576 := by
      have := bulk_len ((List.range len).map D)
      simp only [Rows.uptoBulk] at hk
      rw [List.length_map, List.length_range] at this
      omega
    by_cases h0 : len = 0
    · exact ⟨some a, len, cap, fun _ => undef, fun _ => [], rfl, hl, hm, hlen, .inl h0⟩
    have hlm : len ≤ m := by rw [hmm]; split <;> omega
    rw [cellsL] at hel
    obtain ⟨b, off, spot⟩ := a
    have hsp : spot = none := by
      obtain ⟨cs', h1, h2⟩ := hel 0 (by omega)
      obtain ⟨_, hlen, hcell⟩ := World.cells?_some h1
      have h3 := hcell 0 (by omega)
      rw [List.getElem?_eq_getElem (by omega)] at h3
      simpa [Addr.add] using World.cell?_spot h3
    subst hsp
    have key : ∀ i, ∃ vl : Value × List UInt32, i < len → w.cell? ⟨b, off + i, none⟩ = some vl.1 ∧ Rd w vl.1 (vw vl.2) := by
      intro i
      by_cases hi : i < len
      · obtain ⟨cs', h1, h2⟩ := hel i (by omega)
        obtain ⟨_, hlen', hcell⟩ := World.cells?_some h1
        obtain ⟨y, rfl⟩ := List.length_eq_one_iff.1 hlen'
        obtain ⟨l', hl', _⟩ := trod_words Try.underlying39 Try.underlying22 cellsU h2
        have h3 := hcell 0 (by omega)
        rw [add_at, Nat.mul_one, Nat.add_zero] at h3
        exact ⟨(y, l'), fun _ => ⟨h3, hl'⟩⟩
      · exact ⟨(undef, []), fun h => absurd h hi⟩
    obtain ⟨f, hf'⟩ := Classical.axiomOfChoice key
    exact ⟨some ⟨b, off, none⟩, len, cap, fun k => (f k).1, fun k => (f k).2, rfl, hl, hm, hlen, .inr ⟨b, off, rfl, World.block_lt_of_cell? w _ (hf' 0 (by omega)).1, fun k hk => hf' k hk⟩⟩
theorem contract (H : Type) (enc : TypeId × Value → H) (W : World) (base : Nat) (args : Array Value) (ds gs : List (DataW H)) (before : List MemPlace)
    (hval : ∀ (j : Nat) t v, Try.f5.params[j]? = some t → args[j]? = some v → Value.okWide Try.prog W .any base t v)
    (hW : DataW.Whole enc Try.prog Try.f5.params.toList Rows.wordKeepsSpec.vars false W args.toList ds gs before) (hk : Rows.uptoSmall H (ds ++ gs) = true) :
    Calls Try.prog 5 args W fun e W' => ∃ v, e = .returned v ∧ Rows.wordKeepsSpec.post enc Try.prog Try.f5 false true false false W args v W' := by
  have hW' := hW
  obtain ⟨p, q, hA0, hV, rfl, hfz, hnd⟩ := hW
  have hA : DataW.TrodAll enc Try.prog W 0 (fun _ => true) true Try.f5.params.toList args.toList ds p := hA0
  rw [Try.params5] at hA hval
  obtain ⟨v0, vs0, d0, ds0, p0, q0, hargs, rfl, rfl, h0, r0⟩ := trodAll_cons hA
  obtain ⟨rfl, rfl, rfl⟩ := trodAll_nil r0
  obtain rfl : args = #[v0] := by cases args; simp_all
  obtain ⟨rfl, rfl⟩ := trodVars_none hV
  have k0 := h0
  have lt0 : ∀ x ∈ p0, x.block < W.heap.size := by obtain ⟨m, hm⟩ := k0; exact DataW.trod_lt m _ _ _ hm
  have hbound := bulk_bound hk
  simp only [List.append_nil, Rows.uptoBulkAll] at hbound
  obtain ⟨ao, n, cap, A, Ls, rfl, n1, n2, n3, n4⟩ := open_lists (hval 0 43 v0 rfl rfl) h0 (by omega)
  clear hA0
  refine (keeps_walk ao n cap A Ls W n1 n2 n3 n4).mono fun e W' ⟨he, bel⟩ => ?_
  subst he
  exact ⟨_, rfl, _, _, _, [], _, [], hW', trodAll_mk1 (shut_bool Try.underlying4 _), (trodAll_cons_mk (Below.trod laidOut (by kernel_rfl) (of_decide_eq_true (by kernel_rfl)) k0 bel lt0) trodAll_mk0), rfl, bel.frame _, fun h => by cases h⟩

set_option maxRecDepth 100000 in
theorem lifted (os : Os) (started : os.Started) (H : Type) (enc : TypeId × Value → H) (F : Stop.Interp) :
    ReturnsInHanded {} Try.checked os 5 .any ((Rows.OpenSpec.upto Rows.wordKeepsSpec).pre6 enc Try.prog Try.f5 Rows.wordKeepsUptoRow.domain false) (((Rows.OpenSpec.upto Rows.wordKeepsSpec).at F).post enc Try.prog Try.f5 false true false false) := by
  refine returnsInHanded_of_cond (C := Try.checked) (s := Rows.OpenSpec.upto Rows.wordKeepsSpec) (k := Rows.uptoSmall) rfl own started (by kernel_rfl) Try.func5
    (OpenSpec.witness (enc := enc) (C := Try.checked) (s := Rows.OpenSpec.upto Rows.wordKeepsSpec) (k := Rows.uptoSmall) rfl false ⟨#[], #[.slice none 0 0], []⟩ 8 (by kernel_rfl) (by kernel_rfl) (by kernel_rfl)
      (x := ([.nil], [], [])) (by kernel_rfl) rfl (by kernel_rfl)) ?_
  intro W base args ds gs before hval hW _ hk _
  exact contract H enc W base args ds gs before hval hW hk

theorem proved : Rows.WordKeepsUptoSaid :=
  OpenClaim.holds_of_cond 5 Try.f5 rfl rfl rfl rfl rfl rfl rfl ⟨rfl, rfl, rfl, rfl, rfl⟩ rfl rfl rfl rfl rfl (by kernel_rfl) Try.func5 (by kernel_rfl)
    (of_decide_eq_true (by kernel_rfl)) (by unfold Func.isWrapper; first | (rw [if_pos (by decide +kernel)]; kernel_rfl) | (rw [if_neg (by decide +kernel)]; exact ⟨rfl, rfl⟩))
    (fun os started H enc _ F => lifted os started H enc F)
#print axioms proved
end Go.Proofs.Ytedhinekkmoheaa.wordKeeps
