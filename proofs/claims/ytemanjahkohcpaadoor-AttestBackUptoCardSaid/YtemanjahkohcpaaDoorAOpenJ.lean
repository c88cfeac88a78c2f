/- Policies, quotes, claims that came in. -/
import Derived.Test.YtemanjahkohcpaaDoorAOpen
import Derived.Test.YtemanjahkohcpaaDoorADec
import Derived.Deep.Fields
import Derived.Deep.Slices
namespace Go.Proofs.YtemanjahkohcpaaDoor
open Go.ChangeShapes Go.WideShapes Go.ChangeAt Go.RowKit Go.Joins Go.Deep
section
variable {H : Type} {enc : TypeId × Value → H} {w : World} {base : Nat} {spare : Nat → Bool} {held : Bool}
theorem trod_part {P : Program} {t : TypeId} {fs : Array Field} {fuel : Nat} {cs : List Value} {x : DataW H × List MemPlace} (ht : P.underlying t = some (.struct fs)) (h : DataW.trod enc P w base spare held fuel t cs = some x) :
    cs.length = P.cellsOf t ∧ ∀ (i : Nat) (f : Field), fs[i]? = some f → ∃ n z, DataW.trod enc P w base spare held n f.type ((cs.drop f.offset).take (P.cellsOf f.type)) = some z := by
  obtain ⟨xs, n, _, _, hl, hxl, hf⟩ := DataW.trod_struct ht h
  refine ⟨hl, fun i f hi => ?_⟩
  have hlt : i < fs.size := (Array.getElem?_eq_some_iff.1 hi).1
  have := hf i f hi
  rw [List.getElem?_eq_getElem (by omega)] at this
  exact ⟨n, _, this⟩
theorem split_next {cs A B : List Value} {a b : Nat} (h1 : cs.take a = A) (h2 : (cs.drop a).take b = B) : cs.take (a + b) = A ++ B := by
  rw [List.take_add, h1, h2]
theorem c4 : Tryd.prog.cellsOf 4 = 1 := by kernel_rfl
theorem c9 : Tryd.prog.cellsOf 9 = 1 := by kernel_rfl
theorem c42 : Tryd.prog.cellsOf 42 = 10 := by kernel_rfl
theorem c38 : Tryd.prog.cellsOf 38 = 24 := by kernel_rfl
theorem c40 : Tryd.prog.cellsOf 40 = 42 := by kernel_rfl
theorem c36 : Tryd.prog.cellsOf 36 = 2 := by kernel_rfl
theorem c34 : Tryd.prog.cellsOf 34 = 1 := by kernel_rfl
theorem words8 {fuel : Nat} {cs : List Value} {z : DataW H × List MemPlace} (hf : DataW.trod enc Tryd.prog w base spare held fuel 23 cs = some z) : ∃ l : List UInt32, l.length = 8 ∧ cs = vw l := by
  have hl : cs.length = 8 := by
    obtain ⟨_, _, _, _, h1, _, _⟩ := DataW.trod_array Tryd.underlying23 hf
    rw [h1]; exact cellsE
  obtain ⟨xs, h1, h2, h3⟩ := ints_list (k := .u32) Tryd.underlying23 Tryd.underlying22 cellsU hl hf
  exact ⟨xs.map ofI, by rw [List.length_map, h1], by rw [h2, ofI_words xs h3]⟩
theorem rule_cells {fuel : Nat} {cs : List Value} {z : DataW H × List MemPlace} (hf : DataW.trod enc Tryd.prog w base spare held fuel 42 cs = some z) : ∃ r : RuleD, r.me.length = 8 ∧ cs = ruleC r := by
  obtain ⟨hl, hp⟩ := trod_part Tryd.underlying42 hf
  rw [c42] at hl
  obtain ⟨_, _, p0⟩ : ∃ n z, DataW.trod enc Tryd.prog w base spare held n 4 ((cs.drop 0).take (Tryd.prog.cellsOf 4)) = some z := hp 0 _ rfl
  obtain ⟨_, _, p1⟩ : ∃ n z, DataW.trod enc Tryd.prog w base spare held n 9 ((cs.drop 1).take (Tryd.prog.cellsOf 9)) = some z := hp 1 _ rfl
  obtain ⟨_, _, p2⟩ : ∃ n z, DataW.trod enc Tryd.prog w base spare held n 23 ((cs.drop 2).take (Tryd.prog.cellsOf 23)) = some z := hp 2 _ rfl
  rw [c4] at p0
  rw [c9] at p1
  rw [cellsE] at p2
  obtain ⟨b, e0, _⟩ := DataW.trod_bool Tryd.underlying4 p0
  obtain ⟨s, e1, _⟩ := DataW.trod_string Tryd.underlying9 p1
  obtain ⟨l, h8, e2⟩ := words8 p2
  refine ⟨⟨b, s, l⟩, h8, ?_⟩
  have t1 := split_next (a := 1) (b := 1) (by simpa using e0) e1
  have t2 := split_next t1 e2
  rw [List.take_of_length_le (by omega)] at t2
  rw [t2]; rfl
theorem quote_cells {fuel : Nat} {cs : List Value} {z : DataW H × List MemPlace} (hf : DataW.trod enc Tryd.prog w base spare held fuel 38 cs = some z) :
    ∃ me da tg : List UInt32, me.length = 8 ∧ da.length = 8 ∧ tg.length = 8 ∧ cs = vw me ++ vw da ++ vw tg := by
  obtain ⟨hl, hp⟩ := trod_part Tryd.underlying38 hf
  rw [c38] at hl
  obtain ⟨_, _, p0⟩ : ∃ n z, DataW.trod enc Tryd.prog w base spare held n 23 ((cs.drop 0).take (Tryd.prog.cellsOf 23)) = some z := hp 0 _ rfl
  obtain ⟨_, _, p1⟩ : ∃ n z, DataW.trod enc Tryd.prog w base spare held n 23 ((cs.drop 8).take (Tryd.prog.cellsOf 23)) = some z := hp 1 _ rfl
  obtain ⟨_, _, p2⟩ : ∃ n z, DataW.trod enc Tryd.prog w base spare held n 23 ((cs.drop 16).take (Tryd.prog.cellsOf 23)) = some z := hp 2 _ rfl
  rw [cellsE] at p0 p1 p2
  obtain ⟨me, h0, e0⟩ := words8 p0
  obtain ⟨da, h1, e1⟩ := words8 p1
  obtain ⟨tg, h2, e2⟩ := words8 p2
  refine ⟨me, da, tg, h0, h1, h2, ?_⟩
  have t1 := split_next (a := 8) (b := 8) (by simpa using e0) e1
  have t2 := split_next t1 e2
  rw [List.take_of_length_le (by omega)] at t2
  exact t2
theorem claim_cells {fuel : Nat} {cs : List Value} {z : DataW H × List MemPlace} (hf : DataW.trod enc Tryd.prog w base spare held fuel 40 cs = some z) :
    ∃ (sd nc me da tg : List UInt32) (right same : Bool), sd.length = 8 ∧ nc.length = 8 ∧ me.length = 8 ∧ da.length = 8 ∧ tg.length = 8 ∧ cs = vw sd ++ vw nc ++ (vw me ++ vw da ++ vw tg) ++ [Value.bool right, Value.bool same] := by
  obtain ⟨hl, hp⟩ := trod_part Tryd.underlying40 hf
  rw [c40] at hl
  obtain ⟨_, _, p0⟩ : ∃ n z, DataW.trod enc Tryd.prog w base spare held n 23 ((cs.drop 0).take (Tryd.prog.cellsOf 23)) = some z := hp 0 _ rfl
  obtain ⟨_, _, p1⟩ : ∃ n z, DataW.trod enc Tryd.prog w base spare held n 23 ((cs.drop 8).take (Tryd.prog.cellsOf 23)) = some z := hp 1 _ rfl
  obtain ⟨_, _, p2⟩ : ∃ n z, DataW.trod enc Tryd.prog w base spare held n 38 ((cs.drop 16).take (Tryd.prog.cellsOf 38)) = some z := hp 2 _ rfl
  obtain ⟨_, _, p3⟩ : ∃ n z, DataW.trod enc Tryd.prog w base spare held n 4 ((cs.drop 40).take (Tryd.prog.cellsOf 4)) = some z := hp 3 _ rfl
  obtain ⟨_, _, p4⟩ : ∃ n z, DataW.trod enc Tryd.prog w base spare held n 4 ((cs.drop 41).take (Tryd.prog.cellsOf 4)) = some z := hp 4 _ rfl
  rw [cellsE] at p0 p1
  rw [c38] at p2
  rw [c4] at p3 p4
  obtain ⟨sd, h0, e0⟩ := words8 p0
  obtain ⟨nc, h1, e1⟩ := words8 p1
  obtain ⟨me, da, tg, h2, h3, h4, e2⟩ := quote_cells p2
  obtain ⟨r, e3, _⟩ := DataW.trod_bool Tryd.underlying4 p3
  obtain ⟨s, e4, _⟩ := DataW.trod_bool Tryd.underlying4 p4
  refine ⟨sd, nc, me, da, tg, r, s, h0, h1, h2, h3, h4, ?_⟩
  have t1 := split_next (a := 8) (b := 8) (by simpa using e0) e1
  have t2 := split_next t1 e2
  have t3 := split_next t2 e3
  have t4 := split_next t3 e4
  rw [List.take_of_length_le (by omega)] at t4
  rw [t4]; simp
theorem rules_slice {fuel : Nat} {v : Value} {z : DataW H × List MemPlace} (hf : DataW.trod enc Tryd.prog w base spare held fuel 34 [v] = some z) : ∃ rs : List RuleD, Rules w v rs := by
  rcases open_slice Tryd.underlying34 hf with ⟨hcs, _⟩ | ⟨a, len, cap, m, n, D, Pl, hcs, _, hl, hm, hmm, hx, hel⟩
  · simp at hcs
    exact ⟨[], none, 0, by simpa using hcs, Nat.le_refl _, by decide, by simp, .inl rfl⟩
  · simp at hcs
    subst hcs
    have hlm : len ≤ m := by rw [hmm]; split <;> omega
    rw [c42] at hel
    by_cases h0 : len = 0
    · subst h0; exact ⟨[], some a, cap, rfl, hl, hm, by simp, .inl rfl⟩
    obtain ⟨b, off, spot⟩ := a
    have hsp : spot = none := by
      obtain ⟨cs', h1, h2⟩ := hel 0 (by omega)
      obtain ⟨_, hlen, hcell⟩ := World.cells?_some h1
      have h3 := hcell 0 (by omega)
      rw [List.getElem?_eq_getElem (by omega)] at h3
      simpa [Addr.add] using World.cell?_spot h3
    subst hsp
    have hadd : ∀ o j : Nat, (⟨b, o, none⟩ : Addr).add j = ⟨b, o + j, none⟩ := fun o j => by unfold Addr.add; split <;> simp_all
    have key : ∀ i, ∃ r : RuleD, r.me.length = 8 ∧ (i < len → w.rangeAt b (off + i * 10) (ruleC r)) := by
      intro i
      by_cases hi : i < len
      · obtain ⟨cs', h1, h2⟩ := hel i (by omega)
        obtain ⟨_, hlen', hcell⟩ := World.cells?_some h1
        obtain ⟨r, h8, rfl⟩ := rule_cells h2
        refine ⟨r, h8, fun _ => fun j u hu => ?_⟩
        have hj : j < (ruleC r).length := (List.getElem?_eq_some_iff.1 hu).1
        have h3 := hcell j (by omega)
        rw [hadd, hadd] at h3
        rw [h3]; exact hu
      · exact ⟨⟨false, ⟨#[]⟩, List.replicate 8 0⟩, by simp, fun h => absurd h hi⟩
    obtain ⟨f, hf'⟩ := Classical.axiomOfChoice key
    refine ⟨(List.range len).map f, some ⟨b, off, none⟩, cap, by simp, by simpa using hl, hm, ?_, .inr ⟨b, off, rfl, ?_, ?_⟩⟩
    · intro r hr
      obtain ⟨i, _, rfl⟩ := List.mem_map.1 hr
      exact (hf' i).1
    · have := (hf' 0).2 (by omega) 0 _ rfl
      exact World.block_lt_of_cell? w _ this
    · intro i r hi
      have hil : i < len := by
        have := (List.getElem?_eq_some_iff.1 hi).1
        simpa using this
      rw [List.getElem?_map, List.getElem?_range hil] at hi
      simp at hi
      subst hi
      exact (hf' i).2 hil
set_option maxRecDepth 100000 in
theorem open_policy {r : Reach} {b0 : Nat} {v : Value} {d : DataW H} {p : List MemPlace} (hv : Value.okWide Tryd.prog w r b0 36 v) (h : DataW.Trod enc Tryd.prog w base spare held 36 v d p) :
    ∃ (rv : Value) (rs : List RuleD) (other : Bool), v = .agg #[rv, .bool other] ∧ Rules w rv rs := by
  simp only [Value.okWide, Tryd.underlying36] at hv
  obtain ⟨cs, rfl, hsz, _⟩ := hv
  obtain ⟨fuel, hf⟩ := h
  simp only [Value.cells] at hf
  obtain ⟨hl, hp⟩ := trod_part Tryd.underlying36 hf
  rw [c36] at hl
  obtain ⟨_, _, p0⟩ : ∃ n z, DataW.trod enc Tryd.prog w base spare held n 34 ((cs.toList.drop 0).take (Tryd.prog.cellsOf 34)) = some z := hp 0 _ rfl
  obtain ⟨_, _, p1⟩ : ∃ n z, DataW.trod enc Tryd.prog w base spare held n 4 ((cs.toList.drop 1).take (Tryd.prog.cellsOf 4)) = some z := hp 1 _ rfl
  rw [c34] at p0
  rw [c4] at p1
  obtain ⟨b, e1, _⟩ := DataW.trod_bool Tryd.underlying4 p1
  obtain ⟨l, hcs⟩ : ∃ l, cs = List.toArray l := ⟨cs.toList, rfl⟩
  subst hcs
  match l, hl with
  | [x, y], _ =>
    simp at p0 e1
    obtain ⟨rs, hr⟩ := rules_slice p0
    exact ⟨x, rs, b, by rw [e1], hr⟩
set_option maxRecDepth 100000 in
theorem open_claim {r : Reach} {b0 : Nat} {v : Value} {d : DataW H} {p : List MemPlace} (hv : Value.okWide Tryd.prog w r b0 40 v) (h : DataW.Trod enc Tryd.prog w base spare held 40 v d p) :
    ∃ (sd nc me da tg : List UInt32) (right same : Bool), sd.length = 8 ∧ nc.length = 8 ∧ me.length = 8 ∧ da.length = 8 ∧ tg.length = 8 ∧ v = .agg (vw sd ++ vw nc ++ (vw me ++ vw da ++ vw tg) ++ [Value.bool right, Value.bool same]).toArray := by
  simp only [Value.okWide, Tryd.underlying40] at hv
  obtain ⟨cs, rfl, hsz, _⟩ := hv
  obtain ⟨fuel, hf⟩ := h
  simp only [Value.cells] at hf
  obtain ⟨sd, nc, me, da, tg, r, s, h0, h1, h2, h3, h4, e⟩ := claim_cells hf
  exact ⟨sd, nc, me, da, tg, r, s, h0, h1, h2, h3, h4, by rw [← e]⟩
end
end Go.Proofs.YtemanjahkohcpaaDoor
