/- Policies, quotes, claims that came in. The library's strings.Split at this program's numbers, with the shape of its variables. (Printed by wip/sh/layplain.py, laymark.py.) -/
import Derived.Test.YtemanjahkohcpaaDoorJn47
import Derived.Test.YtemanjahkohcpaaDoorADec
import Derived.Deep.Fields
import Derived.Deep.Slices
import Derived.Test.YtemanjahkohcpaaDoorProg
import Derived.Shelf.LaysM
namespace Go.Proofs.YtemanjahkohcpaaDoor
open Go.ChangeShapes Go.WideShapes Go.ChangeAt Go.RowKit Go.Joins Go.Deep
section
variable {H : Type} {enc : TypeId × Value → H} {w : World} {base : Nat} {spare : Nat → Bool} {held : Bool}
theorem trod_part {P : Program} {t : TypeId} {fs : Array Field} {fuel : Nat} {cs : List Value} {x : DataW H × List MemPlace} (ht : P.underlying t = some (.struct fs)) (h : DataW.trod enc P w base spare held fuel t cs = some x) :
    cs.length = P.cellsOf t ∧ ∀ (i : Nat) (f : Field), fs[i]? = some f → ∃ n z, DataW.trod enc P w base spare held n f.type ((cs.drop f.offset).take (P.cellsOf f.type)) = some z := by
  obtain ⟨xs, n, _, _, hl, hxl, hf⟩ := DataW.trod_struct ht h
  refine ⟨hl, fun i f hi => ?_⟩
  have hlt : i < fs.size := (Array.getElem?_eq_some_iff.1 hi).1
  have := hf i f hi
  rw [List.getElem?_eq_getElem (by omega)] at this
  exact ⟨n, _, this⟩
theorem split_next {cs A B : List Value} {a b : Nat} (h1 : cs.take a = A) (h2 : (cs.drop a).take b = B) : cs.take (a + b) = A ++ B := by
  rw [List.take_add, h1, h2]
theorem c4 : Tryd.prog.cellsOf 4 = 1 := by kernel_rfl
theorem c9 : Tryd.prog.cellsOf 9 = 1 := by kernel_rfl
theorem c42 : Tryd.prog.cellsOf 42 = 10 := by kernel_rfl
theorem c38 : Tryd.prog.cellsOf 38 = 24 := by kernel_rfl
theorem c40 : Tryd.prog.cellsOf 40 = 42 := by kernel_rfl
theorem c36 : Tryd.prog.cellsOf 36 = 2 := by kernel_rfl
theorem c34 : Tryd.prog.cellsOf 34 = 1 := by kernel_rfl
theorem words8 {fuel : Nat} {cs : List Value} {z : DataW H × List MemPlace} (hf : DataW.trod enc Tryd.prog w base spare held fuel 23 cs = some z) : ∃ l : List UInt32, l.length = 8 ∧ cs = vw l := by
  have hl : cs.length = 8 := by
    obtain ⟨_, _, _, _, h1, _, _⟩ := DataW.trod_array Tryd.underlying23 hf
    rw [h1]; exact cellsE
  obtain ⟨xs, h1, h2, h3⟩ := ints_list (k := .u32) Tryd.underlying23 Tryd.underlying22 cellsU hl hf
  exact ⟨xs.map ofI, by rw [List.length_map, h1], by rw [h2, ofI_words xs h3]⟩
theorem rule_cells {fuel : Nat} {cs : List Value} {z : DataW H × List MemPlace} (hf : DataW.trod enc Tryd.prog w base spare held fuel 42 cs = some z) : ∃ r : RuleD, r.me.length = 8 ∧ cs = ruleC r := by
  obtain ⟨hl, hp⟩ := trod_part Tryd.underlying42 hf
  rw [c42] at hl
  obtain ⟨_, _, p0⟩ : ∃ n z, DataW.trod enc Tryd.prog w base spare held n 4 ((cs.drop 0).take (Tryd.prog.cellsOf 4)) = some z := hp 0 _ rfl
  obtain ⟨_, _, p1⟩ : ∃ n z, DataW.trod enc Tryd.prog w base spare held n 9 ((cs.drop 1).take (Tryd.prog.cellsOf 9)) = some z := hp 1 _ rfl
  obtain ⟨_, _, p2⟩ : ∃ n z, DataW.trod enc Tryd.prog w base spare held n 23 ((cs.drop 2).take (Tryd.prog.cellsOf 23)) = some z := hp 2 _ rfl
  rw [c4] at p0
  rw [c9] at p1
  rw [cellsE] at p2
  obtain ⟨b, e0, _⟩ := DataW.trod_bool Tryd.underlying4 p0
  obtain ⟨s, e1, _⟩ := DataW.trod_string Tryd.underlying9 p1
  obtain ⟨l, h8, e2⟩ := words8 p2
  refine ⟨⟨b, s, l⟩, h8, ?_⟩
  have t1 := split_next (a := 1) (b := 1) (by simpa using e0) e1
  have t2 := split_next t1 e2
  rw [List.take_of_length_le (by omega)] at t2
  rw [t2]; rfl
theorem quote_cells {fuel : Nat} {cs : List Value} {z : DataW H × List MemPlace} (hf : DataW.trod enc Tryd.prog w base spare held fuel 38 cs = some z) :
    ∃ me da tg : List UInt32, me.length = 8 ∧ da.length = 8 ∧ tg.length = 8 ∧ cs = vw me ++ vw da ++ vw tg := by
  obtain ⟨hl, hp⟩ := trod_part Tryd.underlying38 hf
  rw [c38] at hl
  obtain ⟨_, _, p0⟩ : ∃ n z, DataW.trod enc Tryd.prog w base spare held n 23 ((cs.drop 0).take (Tryd.prog.cellsOf 23)) = some z := hp 0 _ rfl
  obtain ⟨_, _, p1⟩ : ∃ n z, DataW.trod enc Tryd.prog w base spare held n 23 ((cs.drop 8).take (Tryd.prog.cellsOf 23)) = some z := hp 1 _ rfl
  obtain ⟨_, _, p2⟩ : ∃ n z, DataW.trod enc Tryd.prog w base spare held n 23 ((cs.drop 16).take (Tryd.prog.cellsOf 23)) = some z := hp 2 _ rfl
  rw [cellsE] at p0 p1 p2
  obtain ⟨me, h0, e0⟩ := words8 p0
  obtain ⟨da, h1, e1⟩ := words8 p1
  obtain ⟨tg, h2, e2⟩ := words8 p2
  refine ⟨me, da, tg, h0, h1, h2, ?_⟩
  have t1 := split_next (a := 8) (b := 8) (by simpa using e0) e1
  have t2 := split_next t1 e2
  rw [List.take_of_length_le (by omega)] at t2
  exact t2
theorem claim_cells {fuel : Nat} {cs : List Value} {z : DataW H × List MemPlace} (hf : DataW.trod enc Tryd.prog w base spare held fuel 40 cs = some z) :
    ∃ (sd nc me da tg : List UInt32) (right same : Bool), sd.length = 8 ∧ nc.length = 8 ∧ me.length = 8 ∧ da.length = 8 ∧ tg.length = 8 ∧ cs = vw sd ++ vw nc ++ (vw me ++ vw da ++ vw tg) ++ [Value.bool right, Value.bool same] := by
  obtain ⟨hl, hp⟩ := trod_part Tryd.underlying40 hf
  rw [c40] at hl
  obtain ⟨_, _, p0⟩ : ∃ n z, DataW.trod enc Tryd.prog w base spare held n 23 ((cs.drop 0).take (Tryd.prog.cellsOf 23)) = some z := hp 0 _ rfl
  obtain ⟨_, _, p1⟩ : ∃ n z, DataW.trod enc Tryd.prog w base spare held n 23 ((cs.drop 8).take (Tryd.prog.cellsOf 23)) = some z := hp 1 _ rfl
  obtain ⟨_, _, p2⟩ : ∃ n z, DataW.trod enc Tryd.prog w base spare held n 38 ((cs.drop 16).take (Tryd.prog.cellsOf 38)) = some z := hp 2 _ rfl
  obtain ⟨_, _, p3⟩ : ∃ n z, DataW.trod enc Tryd.prog w base spare held n 4 ((cs.drop 40).take (Tryd.prog.cellsOf 4)) = some z := hp 3 _ rfl
  obtain ⟨_, _, p4⟩ : ∃ n z, DataW.trod enc Tryd.prog w base spare held n 4 ((cs.drop 41).take (Tryd.prog.cellsOf 4)) = some z := hp 4 _ rfl
  rw [cellsE] at p0 p1
  rw [c38] at p2
  rw [c4] at p3 p4
  obtain ⟨sd, h0, e0⟩ := words8 p0
  obtain ⟨nc, h1, e1⟩ := words8 p1
  obtain ⟨me, da, tg, h2, h3, h4, e2⟩ := quote_cells p2
  obtain ⟨r, e3, _⟩ := DataW.trod_bool Tryd.underlying4 p3
  obtain ⟨s, e4, _⟩ := DataW.trod_bool Tryd.underlying4 p4
  refine ⟨sd, nc, me, da, tg, r, s, h0, h1, h2, h3, h4, ?_⟩
  have t1 := split_next (a := 8) (b := 8) (by simpa using e0) e1
  have t2 := split_next t1 e2
  have t3 := split_next t2 e3
  have t4 := split_next t3 e4
  rw [List.take_of_length_le (by omega)] at t4
  rw [t4]; simp
theorem rules_slice {fuel : Nat} {v : Value} {z : DataW H × List MemPlace} (hf : DataW.trod enc Tryd.prog w base spare held fuel 34 [v] = some z) : ∃ rs : List RuleD, Rules w v rs := by
  rcases open_slice Tryd.underlying34 hf with ⟨hcs, _⟩ | ⟨a, len, cap, m, n, D, Pl, hcs, _, hl, hm, hmm, hx, hel⟩
  · simp at hcs
    exact ⟨[], none, 0, by simpa using hcs, Nat.le_refl _, by decide, by simp, .inl rfl⟩
  · simp at hcs
    subst hcs
    have hlm : len ≤ m := by rw [hmm]; split <;> omega
    rw [c42] at hel
    by_cases h0 : len = 0
    · subst h0; exact ⟨[], some a, cap, rfl, hl, hm, by simp, .inl rfl⟩
    obtain ⟨b, off, spot⟩ := a
    have hsp : spot = none := by
      obtain ⟨cs', h1, h2⟩ := hel 0 (by omega)
      obtain ⟨_, hlen, hcell⟩ := World.cells?_some h1
      have h3 := hcell 0 (by omega)
      rw [List.getElem?_eq_getElem (by omega)] at h3
      simpa [Addr.add] using World.cell?_spot h3
    subst hsp
    have hadd : ∀ o j : Nat, (⟨b, o, none⟩ : Addr).add j = ⟨b, o + j, none⟩ := fun o j => by unfold Addr.add; split <;> simp_all
    have key : ∀ i, ∃ r : RuleD, r.me.length = 8 ∧ (i < len → w.rangeAt b (off + i * 10) (ruleC r)) := by
      intro i
      by_cases hi : i < len
      · obtain ⟨cs', h1, h2⟩ := hel i (by omega)
        obtain ⟨_, hlen', hcell⟩ := World.cells?_some h1
        obtain ⟨r, h8, rfl⟩ := rule_cells h2
        refine ⟨r, h8, fun _ => fun j u hu => ?_⟩
        have hj : j < (ruleC r).length := (List.getElem?_eq_some_iff.1 hu).1
        have h3 := hcell j (by omega)
        rw [hadd, hadd] at h3
        rw [h3]; exact hu
      · exact ⟨⟨false, ⟨#[]⟩, List.replicate 8 0⟩, by simp, fun h => absurd h hi⟩
    obtain ⟨f, hf'⟩ := Classical.axiomOfChoice key
    refine ⟨(List.range len).map f, some ⟨b, off, none⟩, cap, by simp, by simpa using hl, hm, ?_, .inr ⟨b, off, rfl, ?_, ?_⟩⟩
    · intro r hr
      obtain ⟨i, _, rfl⟩ := List.mem_map.1 hr
      exact (hf' i).1
    · have := (hf' 0).2 (by omega) 0 _ rfl
      exact World.block_lt_of_cell? w _ this
    · intro i r hi
      have hil : i < len := by
        have := (List.getElem?_eq_some_iff.1 hi).1
        simpa using this
      rw [List.getElem?_map, List.getElem?_range hil] at hi
      simp at hi
      subst hi
      exact (hf' i).2 hil
set_option maxRecDepth 100000 in
theorem open_policy {r : Reach} {b0 : Nat} {v : Value} {d : DataW H} {p : List MemPlace} (hv : Value.okWide Tryd.prog w r b0 36 v) (h : DataW.Trod enc Tryd.prog w base spare held 36 v d p) :
    ∃ (rv : Value) (rs : List RuleD) (other : Bool), v = .agg #[rv, .bool other] ∧ Rules w rv rs := by
  simp only [Value.okWide, Tryd.underlying36] at hv
  obtain ⟨cs, rfl, hsz, _⟩ := hv
  obtain ⟨fuel, hf⟩ := h
  simp only [Value.cells] at hf
  obtain ⟨hl, hp⟩ := trod_part Tryd.underlying36 hf
  rw [c36] at hl
  obtain ⟨_, _, p0⟩ : ∃ n z, DataW.trod enc Tryd.prog w base spare held n 34 ((cs.toList.drop 0).take (Tryd.prog.cellsOf 34)) = some z := hp 0 _ rfl
  obtain ⟨_, _, p1⟩ : ∃ n z, DataW.trod enc Tryd.prog w base spare held n 4 ((cs.toList.drop 1).take (Tryd.prog.cellsOf 4)) = some z := hp 1 _ rfl
  rw [c34] at p0
  rw [c4] at p1
  obtain ⟨b, e1, _⟩ := DataW.trod_bool Tryd.underlying4 p1
  obtain ⟨l, hcs⟩ : ∃ l, cs = List.toArray l := ⟨cs.toList, rfl⟩
  subst hcs
  match l, hl with
  | [x, y], _ =>
    simp at p0 e1
    obtain ⟨rs, hr⟩ := rules_slice p0
    exact ⟨x, rs, b, by rw [e1], hr⟩
set_option maxRecDepth 100000 in
theorem open_claim {r : Reach} {b0 : Nat} {v : Value} {d : DataW H} {p : List MemPlace} (hv : Value.okWide Tryd.prog w r b0 40 v) (h : DataW.Trod enc Tryd.prog w base spare held 40 v d p) :
    ∃ (sd nc me da tg : List UInt32) (right same : Bool), sd.length = 8 ∧ nc.length = 8 ∧ me.length = 8 ∧ da.length = 8 ∧ tg.length = 8 ∧ v = .agg (vw sd ++ vw nc ++ (vw me ++ vw da ++ vw tg) ++ [Value.bool right, Value.bool same]).toArray := by
  simp only [Value.okWide, Tryd.underlying40] at hv
  obtain ⟨cs, rfl, hsz, _⟩ := hv
  obtain ⟨fuel, hf⟩ := h
  simp only [Value.cells] at hf
  obtain ⟨sd, nc, me, da, tg, r, s, h0, h1, h2, h3, h4, e⟩ := claim_cells hf
  exact ⟨sd, nc, me, da, tg, r, s, h0, h1, h2, h3, h4, by rw [← e]⟩
end
end Go.Proofs.YtemanjahkohcpaaDoor

namespace Go.Proofs
open Go.Shelf
def YtemanjahkohcpaaDoor.laysSplitM_ren : Go.Shelf.Ren := ⟨fun | 146 => 38 | 221 => 61 | 268 => 80 | 138 => 81 | 143 => 82 | 195 => 95 | 197 => 96 | 218 => 97 | 219 => 83 | 260 => 108 | 217 => 98 | 225 => 99 | 224 => 100 | 267 => 101 | 266 => 109 | 314 => 110 | n => n, fun | 9 => 9 | 31 => 80 | 3 => 3 | 4 => 4 | 0 => 0 | 105 => 160 | 21 => 21 | 5 => 5 | 46 => 32 | 119 => 179 | 139 => 182 | 138 => 181 | 146 => 176 | 51 => 22 | n => n, fun | 1 => 4 | 3 => 6 | 4 => 7 | n => n⟩
theorem YtemanjahkohcpaaDoor.laysSplitM : Go.Proofs.LaysM.n146 Tryd.prog YtemanjahkohcpaaDoor.laysSplitM_ren := {
  mixed := by kernel_rfl
  f138 := Tryd.func81.trans (congrArg some (by kernel_rfl))
  f143 := Tryd.func82.trans (congrArg some (by kernel_rfl))
  f146 := Tryd.func38.trans (congrArg some (by kernel_rfl))
  f195 := Tryd.func95.trans (congrArg some (by kernel_rfl))
  f197 := Tryd.func96.trans (congrArg some (by kernel_rfl))
  f217 := Tryd.func98.trans (congrArg some (by kernel_rfl))
  f218 := Tryd.func97.trans (congrArg some (by kernel_rfl))
  f219 := Tryd.func83.trans (congrArg some (by kernel_rfl))
  f221 := Tryd.func61.trans (congrArg some (by kernel_rfl))
  f224 := Tryd.func100.trans (congrArg some (by kernel_rfl))
  f225 := Tryd.func99.trans (congrArg some (by kernel_rfl))
  f260 := Tryd.func108.trans (congrArg some (by kernel_rfl))
  f266 := Tryd.func109.trans (congrArg some (by kernel_rfl))
  f267 := Tryd.func101.trans (congrArg some (by kernel_rfl))
  f268 := Tryd.func80.trans (congrArg some (by kernel_rfl))
  f314 := Tryd.func110.trans (congrArg some (by kernel_rfl))
  t0 := Tryd.underlying0
  a0 := Tryd.isAgg0
  z0 := Tryd.sizeOf0
  v0 := Tryd.zeroValue0
  t3 := Tryd.underlying3
  a3 := Tryd.isAgg3
  z3 := Tryd.sizeOf3
  v3 := Tryd.zeroValue3
  t4 := Tryd.underlying4
  a4 := Tryd.isAgg4
  z4 := Tryd.sizeOf4
  v4 := Tryd.zeroValue4
  t5 := Tryd.underlying5
  a5 := Tryd.isAgg5
  z5 := Tryd.sizeOf5
  v5 := Tryd.zeroValue5
  t9 := Tryd.underlying9
  a9 := Tryd.isAgg9
  z9 := Tryd.sizeOf9
  v9 := Tryd.zeroValue9
  t21 := Tryd.underlying21
  a21 := Tryd.isAgg21
  z21 := Tryd.sizeOf21
  v21 := Tryd.zeroValue21
  t31 := Tryd.underlying80
  a31 := Tryd.isAgg80
  z31 := Tryd.sizeOf80
  v31 := Tryd.zeroValue80
  t46 := Tryd.underlying32
  a46 := Tryd.isAgg32
  z46 := Tryd.sizeOf32
  v46 := Tryd.zeroValue32
  t51 := Tryd.underlying22
  a51 := Tryd.isAgg22
  z51 := Tryd.sizeOf22
  v51 := Tryd.zeroValue22
  t105 := Tryd.underlying160
  a105 := Tryd.isAgg160
  z105 := Tryd.sizeOf160
  v105 := Tryd.zeroValue160
  t119 := Tryd.underlying179
  a119 := Tryd.isAgg179
  z119 := Tryd.sizeOf179
  t138 := Tryd.underlying181
  a138 := Tryd.isAgg181
  z138 := Tryd.sizeOf181
  v138 := Tryd.zeroValue181
  t139 := Tryd.underlying182
  a139 := Tryd.isAgg182
  z139 := Tryd.sizeOf182
  v139 := Tryd.zeroValue182
  t146 := Tryd.underlying176
  a146 := Tryd.isAgg176
  z146 := Tryd.sizeOf176
  v146 := Tryd.zeroValue176
  g1 := by kernel_rfl
  g3 := by kernel_rfl
  g4 := by kernel_rfl
  i0 := by kernel_rfl
  i3 := by kernel_rfl
  i4 := by kernel_rfl
  i5 := by kernel_rfl
  i9 := by kernel_rfl
  i21 := by kernel_rfl
  i31 := by kernel_rfl
  i46 := by kernel_rfl
  i51 := by kernel_rfl
  i105 := by kernel_rfl
  i138 := by kernel_rfl
  i139 := by kernel_rfl
  i146 := by kernel_rfl
  m1 := by kernel_rfl
  s1_3 := fun w h => Go.Proofs.cell_of_shapedOpen_int (zero := #[.int .i64 0]) (t := 3) h (of_decide_eq_true (by kernel_rfl)) (by kernel_rfl) rfl (by kernel_rfl) (by kernel_rfl) Tryd.underlying3
  m3 := by kernel_rfl
  m4 := by kernel_rfl }
end Go.Proofs
