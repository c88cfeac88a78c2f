/- Policies, quotes, claims that came in. The library's strings.Split at this program's numbers, with the shape of its variables. (Printed by wip/sh/layplain.py, laymark.py.) -/
import Derived.Test.YtemanjahkohcpaaGreatDoorJn47
import Derived.Test.YtemanjahkohcpaaGreatDoorJn09
import Derived.Deep.Fields
import Derived.Deep.Slices
import Derived.Test.YtemanjahkohcpaaGreatDoorProg
import Derived.Shelf.LaysM
namespace Go.Proofs.YtemanjahkohcpaaGreatDoor
open Go.ChangeShapes Go.WideShapes Go.ChangeAt Go.RowKit Go.Joins Go.Deep
section
variable {H : Type} {enc : TypeId × Value → H} {w : World} {base : Nat} {spare : Nat → Bool} {held : Bool}
theorem trod_part {P : Program} {t : TypeId} {fs : Array Field} {fuel : Nat} {cs : List Value} {x : DataW H × List MemPlace} (ht : P.underlying t = some (.struct fs)) (h : DataW.trod enc P w base spare held fuel t cs = some x) :
    cs.length = P.cellsOf t ∧ ∀ (i : Nat) (f : Field), fs[i]? = some f → ∃ n z, DataW.trod enc P w base spare held n f.type ((cs.drop f.offset).take (P.cellsOf f.type)) = some z := by
  obtain ⟨xs, n, _, _, hl, hxl, hf⟩ := DataW.trod_struct ht h
  refine ⟨hl, fun i f hi => ?_⟩
  have hlt : i < fs.size := (Array.getElem?_eq_some_iff.1 hi).1
  have := hf i f hi
  rw [List.getElem?_eq_getElem (by omega)] at this
  exact ⟨n, _, this⟩
theorem split_next {cs A B : List Value} {a b : Nat} (h1 : cs.take a = A) (h2 : (cs.drop a).take b = B) : cs.take (a + b) = A ++ B := by
  rw [List.take_add, h1, h2]
theorem c4 : Tryz.prog.cellsOf 4 = 1 := by kernel_rfl
theorem c9 : Tryz.prog.cellsOf 9 = 1 := by kernel_rfl
theorem c42 : Tryz.prog.cellsOf 67 = 10 := by kernel_rfl
theorem c38 : Tryz.prog.cellsOf 28 = 24 := by kernel_rfl
theorem c40 : Tryz.prog.cellsOf 30 = 42 := by kernel_rfl
theorem c36 : Tryz.prog.cellsOf 24 = 2 := by kernel_rfl
theorem c34 : Tryz.prog.cellsOf 22 = 1 := by kernel_rfl
theorem words8 {fuel : Nat} {cs : List Value} {z : DataW H × List MemPlace} (hf : DataW.trod enc Tryz.prog w base spare held fuel 26 cs = some z) : ∃ l : List UInt32, l.length = 8 ∧ cs = vw l := by
  have hl : cs.length = 8 := by
    obtain ⟨_, _, _, _, h1, _, _⟩ := DataW.trod_array Tryz.underlying26 hf
    rw [h1]; exact cellsE
  obtain ⟨xs, h1, h2, h3⟩ := ints_list (k := .u32) Tryz.underlying26 Tryz.underlying25 cellsU hl hf
  exact ⟨xs.map ofI, by rw [List.length_map, h1], by rw [h2, ofI_words xs h3]⟩
theorem rule_cells {fuel : Nat} {cs : List Value} {z : DataW H × List MemPlace} (hf : DataW.trod enc Tryz.prog w base spare held fuel 67 cs = some z) : ∃ r : RuleD, r.me.length = 8 ∧ cs = ruleC r := by
  obtain ⟨hl, hp⟩ := trod_part Tryz.underlying67 hf
  rw [c42] at hl
  obtain ⟨_, _, p0⟩ : ∃ n z, DataW.trod enc Tryz.prog w base spare held n 4 ((cs.drop 0).take (Tryz.prog.cellsOf 4)) = some z := hp 0 _ rfl
  obtain ⟨_, _, p1⟩ : ∃ n z, DataW.trod enc Tryz.prog w base spare held n 9 ((cs.drop 1).take (Tryz.prog.cellsOf 9)) = some z := hp 1 _ rfl
  obtain ⟨_, _, p2⟩ : ∃ n z, DataW.trod enc Tryz.prog w base spare held n 26 ((cs.drop 2).take (Tryz.prog.cellsOf 26)) = some z := hp 2 _ rfl
  rw [c4] at p0
  rw [c9] at p1
  rw [cellsE] at p2
  obtain ⟨b, e0, _⟩ := DataW.trod_bool Tryz.underlying4 p0
  obtain ⟨s, e1, _⟩ := DataW.trod_string Tryz.underlying9 p1
  obtain ⟨l, h8, e2⟩ := words8 p2
  refine ⟨⟨b, s, l⟩, h8, ?_⟩
  have t1 := split_next (a := 1) (b := 1) (by simpa using e0) e1
  have t2 := split_next t1 e2
  rw [List.take_of_length_le (by omega)] at t2
  rw [t2]; rfl
theorem quote_cells {fuel : Nat} {cs : List Value} {z : DataW H × List MemPlace} (hf : DataW.trod enc Tryz.prog w base spare held fuel 28 cs = some z) :
    ∃ me da tg : List UInt32, me.length = 8 ∧ da.length = 8 ∧ tg.length = 8 ∧ cs = vw me ++ vw da ++ vw tg := by
  obtain ⟨hl, hp⟩ := trod_part Tryz.underlying28 hf
  rw [c38] at hl
  obtain ⟨_, _, p0⟩ : ∃ n z, DataW.trod enc Tryz.prog w base spare held n 26 ((cs.drop 0).take (Tryz.prog.cellsOf 26)) = some z := hp 0 _ rfl
  obtain ⟨_, _, p1⟩ : ∃ n z, DataW.trod enc Tryz.prog w base spare held n 26 ((cs.drop 8).take (Tryz.prog.cellsOf 26)) = some z := hp 1 _ rfl
  obtain ⟨_, _, p2⟩ : ∃ n z, DataW.trod enc Tryz.prog w base spare held n 26 ((cs.drop 16).take (Tryz.prog.cellsOf 26)) = some z := hp 2 _ rfl
  rw [cellsE] at p0 p1 p2
  obtain ⟨me, h0, e0⟩ := words8 p0
  obtain ⟨da, h1, e1⟩ := words8 p1
  obtain ⟨tg, h2, e2⟩ := words8 p2
  refine ⟨me, da, tg, h0, h1, h2, ?_⟩
  have t1 := split_next (a := 8) (b := 8) (by simpa using e0) e1
  have t2 := split_next t1 e2
  rw [List.take_of_length_le (by omega)] at t2
  exact t2
theorem claim_cells {fuel : Nat} {cs : List Value} {z : DataW H × List MemPlace} (hf : DataW.trod enc Tryz.prog w base spare held fuel 30 cs = some z) :
    ∃ (sd nc me da tg : List UInt32) (right same : Bool), sd.length = 8 ∧ nc.length = 8 ∧ me.length = 8 ∧ da.length = 8 ∧ tg.length = 8 ∧ cs = vw sd ++ vw nc ++ (vw me ++ vw da ++ vw tg) ++ [Value.bool right, Value.bool same] := by
  obtain ⟨hl, hp⟩ := trod_part Tryz.underlying30 hf
  rw [c40] at hl
  obtain ⟨_, _, p0⟩ : ∃ n z, DataW.trod enc Tryz.prog w base spare held n 26 ((cs.drop 0).take (Tryz.prog.cellsOf 26)) = some z := hp 0 _ rfl
  obtain ⟨_, _, p1⟩ : ∃ n z, DataW.trod enc Tryz.prog w base spare held n 26 ((cs.drop 8).take (Tryz.prog.cellsOf 26)) = some z := hp 1 _ rfl
  obtain ⟨_, _, p2⟩ : ∃ n z, DataW.trod enc Tryz.prog w base spare held n 28 ((cs.drop 16).take (Tryz.prog.cellsOf 28)) = some z := hp 2 _ rfl
  obtain ⟨_, _, p3⟩ : ∃ n z, DataW.trod enc Tryz.prog w base spare held n 4 ((cs.drop 40).take (Tryz.prog.cellsOf 4)) = some z := hp 3 _ rfl
  obtain ⟨_, _, p4⟩ : ∃ n z, DataW.trod enc Tryz.prog w base spare held n 4 ((cs.drop 41).take (Tryz.prog.cellsOf 4)) = some z := hp 4 _ rfl
  rw [cellsE] at p0 p1
  rw [c38] at p2
  rw [c4] at p3 p4
  obtain ⟨sd, h0, e0⟩ := words8 p0
  obtain ⟨nc, h1, e1⟩ := words8 p1
  obtain ⟨me, da, tg, h2, h3, h4, e2⟩ := quote_cells p2
  obtain ⟨r, e3, _⟩ := DataW.trod_bool Tryz.underlying4 p3
  obtain ⟨s, e4, _⟩ := DataW.trod_bool Tryz.underlying4 p4
  refine ⟨sd, nc, me, da, tg, r, s, h0, h1, h2, h3, h4, ?_⟩
  have t1 := split_next (a := 8) (b := 8) (by simpa using e0) e1
  have t2 := split_next t1 e2
  have t3 := split_next t2 e3
  have t4 := split_next t3 e4
  rw [List.take_of_length_le (by omega)] at t4
  rw [t4]; simp
theorem rules_slice {fuel : Nat} {v : Value} {z : DataW H × List MemPlace} (hf : DataW.trod enc Tryz.prog w base spare held fuel 22 [v] = some z) : ∃ rs : List RuleD, Rules w v rs := by
  rcases open_slice Tryz.underlying22 hf with ⟨hcs, _⟩ | ⟨a, len, cap, m, n, D, Pl, hcs, _, hl, hm, hmm, hx, hel⟩
  · simp at hcs
    exact ⟨[], none, 0, by simpa using hcs, Nat.le_refl _, by decide, by simp, .inl rfl⟩
  · simp at hcs
    subst hcs
    have hlm : len ≤ m := by rw [hmm]; split <;> omega
    rw [c42] at hel
    by_cases h0 : len = 0
    · subst h0; exact ⟨[], some a, cap, rfl, hl, hm, by simp, .inl rfl⟩
    obtain ⟨b, off, spot⟩ := a
    have hsp : spot = none := by
      obtain ⟨cs', h1, h2⟩ := hel 0 (by omega)
      obtain ⟨_, hlen, hcell⟩ := World.cells?_some h1
      have h3 := hcell 0 (by omega)
      rw [List.getElem?_eq_getElem (by omega)] at h3
      simpa [Addr.add] using World.cell?_spot h3
    subst hsp
    have hadd : ∀ o j : Nat, (⟨b, o, none⟩ : Addr).add j = ⟨b, o + j, none⟩ := fun o j => by unfold Addr.add; split <;> simp_all
    have key : ∀ i, ∃ r : RuleD, r.me.length = 8 ∧ (i < len → w.rangeAt b (off + i * 10) (ruleC r)) := by
      intro i
      by_cases hi : i < len
      · obtain ⟨cs', h1, h2⟩ := hel i (by omega)
        obtain ⟨_, hlen', hcell⟩ := World.cells?_some h1
        obtain ⟨r, h8, rfl⟩ := rule_cells h2
        refine ⟨r, h8, fun _ => fun j u hu => ?_⟩
        have hj : j < (ruleC r).length := (List.getElem?_eq_some_iff.1 hu).1
        have h3 := hcell j (by omega)
        rw [hadd, hadd] at h3
        rw [h3]; exact hu
      · exact ⟨⟨false, ⟨#[]⟩, List.replicate 8 0⟩, by simp, fun h => absurd h hi⟩
    obtain ⟨f, hf'⟩ := Classical.axiomOfChoice key
    refine ⟨(List.range len).map f, some ⟨b, off, none⟩, cap, by simp, by simpa using hl, hm, ?_, .inr ⟨b, off, rfl, ?_, ?_⟩⟩
    · intro r hr
      obtain ⟨i, _, rfl⟩ := List.mem_map.1 hr
      exact (hf' i).1
    · have := (hf' 0).2 (by omega) 0 _ rfl
      exact World.block_lt_of_cell? w _ this
    · intro i r hi
      have hil : i < len := by
        have := (List.getElem?_eq_some_iff.1 hi).1
        simpa using this
      rw [List.getElem?_map, List.getElem?_range hil] at hi
      simp at hi
      subst hi
      exact (hf' i).2 hil
set_option maxRecDepth 100000 in
theorem open_policy {r : Reach} {b0 : Nat} {v : Value} {d : DataW H} {p : List MemPlace} (hv : Value.okWide Tryz.prog w r b0 24 v) (h : DataW.Trod enc Tryz.prog w base spare held 24 v d p) :
    ∃ (rv : Value) (rs : List RuleD) (other : Bool), v = .agg #[rv, .bool other] ∧ Rules w rv rs := by
  simp only [Value.okWide, Tryz.underlying24] at hv
  obtain ⟨cs, rfl, hsz, _⟩ := hv
  obtain ⟨fuel, hf⟩ := h
  simp only [Value.cells] at hf
  obtain ⟨hl, hp⟩ := trod_part Tryz.underlying24 hf
  rw [c36] at hl
  obtain ⟨_, _, p0⟩ : ∃ n z, DataW.trod enc Tryz.prog w base spare held n 22 ((cs.toList.drop 0).take (Tryz.prog.cellsOf 22)) = some z := hp 0 _ rfl
  obtain ⟨_, _, p1⟩ : ∃ n z, DataW.trod enc Tryz.prog w base spare held n 4 ((cs.toList.drop 1).take (Tryz.prog.cellsOf 4)) = some z := hp 1 _ rfl
  rw [c34] at p0
  rw [c4] at p1
  obtain ⟨b, e1, _⟩ := DataW.trod_bool Tryz.underlying4 p1
  obtain ⟨l, hcs⟩ : ∃ l, cs = List.toArray l := ⟨cs.toList, rfl⟩
  subst hcs
  match l, hl with
  | [x, y], _ =>
    simp at p0 e1
    obtain ⟨rs, hr⟩ := rules_slice p0
    exact ⟨x, rs, b, by rw [e1], hr⟩
set_option maxRecDepth 100000 in
theorem open_claim {r : Reach} {b0 : Nat} {v : Value} {d : DataW H} {p : List MemPlace} (hv : Value.okWide Tryz.prog w r b0 30 v) (h : DataW.Trod enc Tryz.prog w base spare held 30 v d p) :
    ∃ (sd nc me da tg : List UInt32) (right same : Bool), sd.length = 8 ∧ nc.length = 8 ∧ me.length = 8 ∧ da.length = 8 ∧ tg.length = 8 ∧ v = .agg (vw sd ++ vw nc ++ (vw me ++ vw da ++ vw tg) ++ [Value.bool right, Value.bool same]).toArray := by
  simp only [Value.okWide, Tryz.underlying30] at hv
  obtain ⟨cs, rfl, hsz, _⟩ := hv
  obtain ⟨fuel, hf⟩ := h
  simp only [Value.cells] at hf
  obtain ⟨sd, nc, me, da, tg, r, s, h0, h1, h2, h3, h4, e⟩ := claim_cells hf
  exact ⟨sd, nc, me, da, tg, r, s, h0, h1, h2, h3, h4, by rw [← e]⟩
end
end Go.Proofs.YtemanjahkohcpaaGreatDoor

namespace Go.Proofs
open Go.Shelf
def YtemanjahkohcpaaGreatDoor.laysSplitM_ren : Go.Shelf.Ren := ⟨fun | 146 => 23 | 221 => 46 | 268 => 64 | 138 => 65 | 143 => 66 | 195 => 80 | 197 => 81 | 218 => 82 | 219 => 83 | 260 => 92 | 217 => 84 | 225 => 93 | 224 => 94 | 267 => 95 | 266 => 96 | 314 => 105 | n => n, fun | 9 => 9 | 31 => 46 | 3 => 3 | 4 => 4 | 0 => 0 | 105 => 160 | 21 => 21 | 5 => 5 | 46 => 133 | 119 => 181 | 139 => 184 | 138 => 183 | 146 => 185 | 51 => 25 | n => n, fun | 1 => 3 | 3 => 4 | 4 => 5 | n => n⟩
theorem YtemanjahkohcpaaGreatDoor.laysSplitM : Go.Proofs.LaysM.n146 Tryz.prog YtemanjahkohcpaaGreatDoor.laysSplitM_ren := {
  mixed := by kernel_rfl
  f138 := Tryz.func65.trans (congrArg some (by kernel_rfl))
  f143 := Tryz.func66.trans (congrArg some (by kernel_rfl))
  f146 := Tryz.func23.trans (congrArg some (by kernel_rfl))
  f195 := Tryz.func80.trans (congrArg some (by kernel_rfl))
  f197 := Tryz.func81.trans (congrArg some (by kernel_rfl))
  f217 := Tryz.func84.trans (congrArg some (by kernel_rfl))
  f218 := Tryz.func82.trans (congrArg some (by kernel_rfl))
  f219 := Tryz.func83.trans (congrArg some (by kernel_rfl))
  f221 := Tryz.func46.trans (congrArg some (by kernel_rfl))
  f224 := Tryz.func94.trans (congrArg some (by kernel_rfl))
  f225 := Tryz.func93.trans (congrArg some (by kernel_rfl))
  f260 := Tryz.func92.trans (congrArg some (by kernel_rfl))
  f266 := Tryz.func96.trans (congrArg some (by kernel_rfl))
  f267 := Tryz.func95.trans (congrArg some (by kernel_rfl))
  f268 := Tryz.func64.trans (congrArg some (by kernel_rfl))
  f314 := Tryz.func105.trans (congrArg some (by kernel_rfl))
  t0 := Tryz.underlying0
  a0 := Tryz.isAgg0
  z0 := Tryz.sizeOf0
  v0 := Tryz.zeroValue0
  t3 := Tryz.underlying3
  a3 := Tryz.isAgg3
  z3 := Tryz.sizeOf3
  v3 := Tryz.zeroValue3
  t4 := Tryz.underlying4
  a4 := Tryz.isAgg4
  z4 := Tryz.sizeOf4
  v4 := Tryz.zeroValue4
  t5 := Tryz.underlying5
  a5 := Tryz.isAgg5
  z5 := Tryz.sizeOf5
  v5 := Tryz.zeroValue5
  t9 := Tryz.underlying9
  a9 := Tryz.isAgg9
  z9 := Tryz.sizeOf9
  v9 := Tryz.zeroValue9
  t21 := Tryz.underlying21
  a21 := Tryz.isAgg21
  z21 := Tryz.sizeOf21
  v21 := Tryz.zeroValue21
  t31 := Tryz.underlying46
  a31 := Tryz.isAgg46
  z31 := Tryz.sizeOf46
  v31 := Tryz.zeroValue46
  t46 := Tryz.underlying133
  a46 := Tryz.isAgg133
  z46 := Tryz.sizeOf133
  v46 := Tryz.zeroValue133
  t51 := Tryz.underlying25
  a51 := Tryz.isAgg25
  z51 := Tryz.sizeOf25
  v51 := Tryz.zeroValue25
  t105 := Tryz.underlying160
  a105 := Tryz.isAgg160
  z105 := Tryz.sizeOf160
  v105 := Tryz.zeroValue160
  t119 := Tryz.underlying181
  a119 := Tryz.isAgg181
  z119 := Tryz.sizeOf181
  t138 := Tryz.underlying183
  a138 := Tryz.isAgg183
  z138 := Tryz.sizeOf183
  v138 := Tryz.zeroValue183
  t139 := Tryz.underlying184
  a139 := Tryz.isAgg184
  z139 := Tryz.sizeOf184
  v139 := Tryz.zeroValue184
  t146 := Tryz.underlying185
  a146 := Tryz.isAgg185
  z146 := Tryz.sizeOf185
  v146 := Tryz.zeroValue185
  g1 := by kernel_rfl
  g3 := by kernel_rfl
  g4 := by kernel_rfl
  i0 := by kernel_rfl
  i3 := by kernel_rfl
  i4 := by kernel_rfl
  i5 := by kernel_rfl
  i9 := by kernel_rfl
  i21 := by kernel_rfl
  i31 := by kernel_rfl
  i46 := by kernel_rfl
  i51 := by kernel_rfl
  i105 := by kernel_rfl
  i138 := by kernel_rfl
  i139 := by kernel_rfl
  i146 := by kernel_rfl
  m1 := by kernel_rfl
  s1_3 := fun w h => Go.Proofs.cell_of_shapedOpen_int (zero := #[.int .i64 0]) (t := 3) h (of_decide_eq_true (by kernel_rfl)) (by kernel_rfl) rfl (by kernel_rfl) (by kernel_rfl) Tryz.underlying3
  m3 := by kernel_rfl
  m4 := by kernel_rfl }
end Go.Proofs
