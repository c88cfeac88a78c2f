/- The library's strings.Split at this program's numbers. (Printed by wip/sh/layplain.py, laymark.py.) strings.Split by the library's contract; plain laws of a text cut at its ends. The library's strings.Cut and Builder.String at this program's numbers. (Printed by wip/sh/layplain.py, laymark.py.) The library's contracts, laid at this seat's program: strings.Cut, (*strings.Builder).WriteString, String. The contracts of attest's hex, lines and Format. The contract of attest's Format. -/
import Derived.Test.YtemanjahkohcpaaGreatDoorProg
import Derived.Shelf.Strings.Split
import Derived.Test.YtemanjahkohcpaaGreatDoorBase
import Derived.Ground.NamesProg
import Derived.WalkKit
import Derived.Shelf.Strings.Cut
import Derived.Shelf.Strings.Builder1
import Derived.Test.YtemanjahkohcpaaGreatDoorBWordJn
import Derived.Lib.AppendStr
namespace Go.Proofs
open Go.Shelf
def YtemanjahkohcpaaGreatDoor.laysSplit_ren : Go.Shelf.Ren := ⟨fun | 146 => 23 | 221 => 46 | 268 => 64 | 138 => 65 | 143 => 66 | 195 => 80 | 197 => 81 | 218 => 82 | 219 => 83 | 260 => 92 | 217 => 84 | 225 => 93 | 224 => 94 | 267 => 95 | 266 => 96 | 314 => 105 | n => n, fun | 9 => 9 | 31 => 46 | 3 => 3 | 4 => 4 | 0 => 0 | 105 => 160 | 21 => 21 | 5 => 5 | 46 => 133 | 119 => 181 | 139 => 184 | 138 => 183 | 146 => 185 | 51 => 25 | n => n, fun | 1 => 3 | 3 => 4 | 4 => 5 | n => n⟩
theorem YtemanjahkohcpaaGreatDoor.laysSplit : Go.Proofs.Lays.n146 Tryz.prog YtemanjahkohcpaaGreatDoor.laysSplit_ren := {
  mixed := by kernel_rfl
  f138 := Tryz.func65.trans (congrArg some (by kernel_rfl))
  f143 := Tryz.func66.trans (congrArg some (by kernel_rfl))
  f146 := Tryz.func23.trans (congrArg some (by kernel_rfl))
  f195 := Tryz.func80.trans (congrArg some (by kernel_rfl))
  f197 := Tryz.func81.trans (congrArg some (by kernel_rfl))
  f217 := Tryz.func84.trans (congrArg some (by kernel_rfl))
  f218 := Tryz.func82.trans (congrArg some (by kernel_rfl))
  f219 := Tryz.func83.trans (congrArg some (by kernel_rfl))
  f221 := Tryz.func46.trans (congrArg some (by kernel_rfl))
  f224 := Tryz.func94.trans (congrArg some (by kernel_rfl))
  f225 := Tryz.func93.trans (congrArg some (by kernel_rfl))
  f260 := Tryz.func92.trans (congrArg some (by kernel_rfl))
  f266 := Tryz.func96.trans (congrArg some (by kernel_rfl))
  f267 := Tryz.func95.trans (congrArg some (by kernel_rfl))
  f268 := Tryz.func64.trans (congrArg some (by kernel_rfl))
  f314 := Tryz.func105.trans (congrArg some (by kernel_rfl))
  t0 := Tryz.underlying0
  a0 := Tryz.isAgg0
  z0 := Tryz.sizeOf0
  v0 := Tryz.zeroValue0
  t3 := Tryz.underlying3
  a3 := Tryz.isAgg3
  z3 := Tryz.sizeOf3
  v3 := Tryz.zeroValue3
  t4 := Tryz.underlying4
  a4 := Tryz.isAgg4
  z4 := Tryz.sizeOf4
  v4 := Tryz.zeroValue4
  t5 := Tryz.underlying5
  a5 := Tryz.isAgg5
  z5 := Tryz.sizeOf5
  v5 := Tryz.zeroValue5
  t9 := Tryz.underlying9
  a9 := Tryz.isAgg9
  z9 := Tryz.sizeOf9
  v9 := Tryz.zeroValue9
  t21 := Tryz.underlying21
  a21 := Tryz.isAgg21
  z21 := Tryz.sizeOf21
  v21 := Tryz.zeroValue21
  t31 := Tryz.underlying46
  a31 := Tryz.isAgg46
  z31 := Tryz.sizeOf46
  v31 := Tryz.zeroValue46
  t46 := Tryz.underlying133
  a46 := Tryz.isAgg133
  z46 := Tryz.sizeOf133
  v46 := Tryz.zeroValue133
  t51 := Tryz.underlying25
  a51 := Tryz.isAgg25
  z51 := Tryz.sizeOf25
  v51 := Tryz.zeroValue25
  t105 := Tryz.underlying160
  a105 := Tryz.isAgg160
  z105 := Tryz.sizeOf160
  v105 := Tryz.zeroValue160
  t119 := Tryz.underlying181
  a119 := Tryz.isAgg181
  z119 := Tryz.sizeOf181
  t138 := Tryz.underlying183
  a138 := Tryz.isAgg183
  z138 := Tryz.sizeOf183
  v138 := Tryz.zeroValue183
  t139 := Tryz.underlying184
  a139 := Tryz.isAgg184
  z139 := Tryz.sizeOf184
  v139 := Tryz.zeroValue184
  t146 := Tryz.underlying185
  a146 := Tryz.isAgg185
  z146 := Tryz.sizeOf185
  v146 := Tryz.zeroValue185
  g1 := by kernel_rfl
  g3 := by kernel_rfl
  g4 := by kernel_rfl }
end Go.Proofs

namespace Go.Proofs
open Go.RowKit Go.Shelf
namespace YtemanjahkohcpaaGreatDoor
open Go
set_option maxRecDepth 100000
abbrev MaxL (w : World) (m : Int) : Prop := w.cell? ⟨3, 0, none⟩ = some (.int .i64 m)
theorem split_any (s sep : ByteArray) (m : Int) (w : World) (hs : s.size < 4294967281) (hm : MaxL w m) (h1 : 1 ≤ sep.size) :
    Calls Tryz.prog 23 #[.string s, .string sep] w fun e w' =>
      e = .returned (.slice (some ⟨w.heap.size, 0, none⟩) (Lib.countB s sep + 1) (Lib.countB s sep + 1)) ∧ w' = w.alloc (.cells ((Lib.splitB sep 0 (Lib.countB s sep) s).map Value.string).toArray 9) :=
  Any.strings_Split laysSplit (by kernel_rfl) s sep m w hs hm h1
theorem index_at (c : UInt8) (r : List UInt8) : ∀ a : List UInt8, c ∉ a → Lib.index (a ++ c :: r) [c] = (a.length : Int)
  | [], _ => by rw [Lib.index_one]; simp [Lib.indexByte]
  | b :: a, h => by
    simp only [List.mem_cons, not_or] at h
    have ih := index_at c r a h.2
    rw [Lib.index_one] at ih ⊢
    have hb : (b == c) = false := by simp; exact fun e => h.1 e.symm
    simp only [List.cons_append, Lib.indexByte, hb, ih]
    have h1 : ((a.length : Int) == -1) = false := by simp
    simp [h1]
theorem index_none (c : UInt8) : ∀ a : List UInt8, c ∉ a → Lib.index a [c] = -1
  | [], _ => by rw [Lib.index_one]; rfl
  | b :: a, h => by
    simp only [List.mem_cons, not_or] at h
    have ih := index_none c a h.2
    rw [Lib.index_one] at ih ⊢
    have hb : (b == c) = false := by simp; exact fun e => h.1 e.symm
    simp [Lib.indexByte, hb, ih]
theorem splitK_at (c : UInt8) (k : Nat) (a r : List UInt8) (h : c ∉ a) : Lib.splitK [c] 0 (k + 1) (a ++ c :: r) = a :: Lib.splitK [c] 0 k r := by
  have hi := index_at c r a h
  have h1 : (((a.length : Nat) : Int) == -1) = false := by simp
  have e : Lib.splitK [c] 0 (k + 1) (a ++ c :: r) = if Lib.index (a ++ c :: r) [c] == -1 then [a ++ c :: r] else (a ++ c :: r).take ((Lib.index (a ++ c :: r) [c]).toNat + 0) :: Lib.splitK [c] 0 k ((a ++ c :: r).drop ((Lib.index (a ++ c :: r) [c]).toNat + [c].length)) := rfl
  rw [e, hi, h1]
  simp only [Bool.false_eq_true, if_false, Int.toNat_natCast, Nat.add_zero, List.length_singleton]
  rw [List.take_left, show a.length + 1 = (a ++ [c]).length by simp, show a ++ c :: r = (a ++ [c]) ++ r by simp, List.drop_left]
def linesOf (s : ByteArray) : List ByteArray := Lib.splitB ⟨#[10]⟩ 0 (Lib.countB s ⟨#[10]⟩) s
theorem linesOf_len (s : ByteArray) : (linesOf s).length = Lib.countB s ⟨#[10]⟩ + 1 := Lib.splitB_all ⟨#[10]⟩ (by decide) 0 _ s rfl
end YtemanjahkohcpaaGreatDoor
end Go.Proofs

namespace Go.Proofs
open Go.Shelf
def YtemanjahkohcpaaGreatDoor.laysStr_ren : Go.Shelf.Ren := ⟨fun | 169 => 74 | n => n, fun | 70 => 149 | 9 => 9 | 0 => 0 | 72 => 151 | 37 => 72 | 127 => 163 | 3 => 3 | 5 => 5 | n => n, fun | n => n⟩
theorem YtemanjahkohcpaaGreatDoor.laysStr : Go.Proofs.Lays.n169 Tryz.prog YtemanjahkohcpaaGreatDoor.laysStr_ren := {
  mixed := by kernel_rfl
  f169 := Tryz.func74.trans (congrArg some (by kernel_rfl))
  t0 := Tryz.underlying0
  a0 := Tryz.isAgg0
  z0 := Tryz.sizeOf0
  v0 := Tryz.zeroValue0
  t3 := Tryz.underlying3
  a3 := Tryz.isAgg3
  z3 := Tryz.sizeOf3
  v3 := Tryz.zeroValue3
  t9 := Tryz.underlying9
  a9 := Tryz.isAgg9
  z9 := Tryz.sizeOf9
  v9 := Tryz.zeroValue9
  t37 := Tryz.underlying72
  a37 := Tryz.isAgg72
  z37 := Tryz.sizeOf72
  v37 := Tryz.zeroValue72
  t70 := Tryz.underlying149
  a70 := Tryz.isAgg149
  z70 := Tryz.sizeOf149
  v70 := Tryz.zeroValue149
  t72 := Tryz.underlying151
  a72 := Tryz.isAgg151
  z72 := Tryz.sizeOf151
  v72 := Tryz.zeroValue151
  t127 := Tryz.underlying163
  a127 := Tryz.isAgg163
  z127 := Tryz.sizeOf163
  v127 := Tryz.zeroValue163 }
end Go.Proofs

namespace Go.Proofs
open Go.RowKit Go.Shelf
namespace YtemanjahkohcpaaGreatDoor
open Go WP
set_option maxRecDepth 100000
theorem extraStr : Builder.Extra Tryz.prog laysStr_ren := {
  sizeBuilder := by kernel_rfl
  liesBuilder := by kernel_rfl
  t5 := Tryz.underlying5
  a5 := Tryz.isAgg5
  z5 := Tryz.sizeOf5
  v5 := Tryz.zeroValue5
  infoByte := by kernel_rfl
  cellsByte := by kernel_rfl
  sizeByte := by kernel_rfl
  neB5 := by decide }
theorem infoB : (Tryz.prog.info? 151).map (·.size) = some 2 := by kernel_rfl
theorem liesB : liesAt Tryz.prog Tryz.prog.depth 151 (2 / Tryz.prog.cellsOf 151) 0 151 1 = true := by kernel_rfl
set_option maxHeartbeats 1000000 in
set_option maxRecDepth 100000 in
theorem copied_used (b : Nat) (w : World) (h0 : w.cell? ⟨b, 0, none⟩ = some (.pointer (some ⟨b, 0, none⟩))) :
    Calls Tryz.prog 87 #[.pointer (some ⟨b, 0, none⟩)] w fun e w' => e = .returned (.tuple #[]) ∧ w' = w := by
  obtain ⟨j, hj, _⟩ := Option.map_eq_some_iff.1 infoB
  go_enter Tryz.func87, Tryz.ntmps87
  go_wp2
  rw [Lib.run_neq_ptr_same w _ Tryz.underlying149 hj]
  go_wp2
  go_end0
  exact ⟨rfl, rfl⟩
set_option maxHeartbeats 1000000 in
set_option maxRecDepth 100000 in
theorem copied_fresh (b : Nat) (w : World) (h0 : w.cell? ⟨b, 0, none⟩ = some (.pointer none)) (hsh : w.shape? b = some (151, 2)) (hfz : w.frozen? ⟨b, 0, none⟩ = false) :
    Calls Tryz.prog 87 #[.pointer (some ⟨b, 0, none⟩)] w fun e w' => e = .returned (.tuple #[]) ∧ w' = w.setCell ⟨b, 0, none⟩ (.pointer (some ⟨b, 0, none⟩)) := by
  obtain ⟨j, hj, hjs⟩ := Option.map_eq_some_iff.1 infoB
  go_enter Tryz.func87, Tryz.ntmps87
  go_wp2
  rw [Lib.run_to_unsafe w ⟨b, 0, none⟩ Tryz.underlying149 Tryz.underlying167 hj (by rw [hjs]; decide) hsh (Nat.zero_lt_succ 1)]
  simp only [Result.andThen]
  rw [Oper.upon_value]
  go_wp2
  rw [run_callFunc_extern Tryz.func97 (by kernel_rfl) (by kernel_rfl) (by kernel_rfl) (e := Extern.AbiNoEscape.same) (by kernel_rfl)]
  rw [Lib.run_noEscape]
  simp only [Result.andThen]
  rw [Oper.upon_value]
  go_wp2
  rw [Lib.run_from_unsafe w ⟨b, 0, none⟩ Tryz.underlying167 Tryz.underlying149 hj hsh liesB]
  simp only [Result.andThen]
  rw [Oper.upon_value]
  go_wp2
  go_end0
  exact ⟨rfl, rfl⟩
theorem copied_any (B b : Nat) (bs : List Value) (w : World) (h : Lib.IsBuilder 151 5 B b bs w) :
    Calls Tryz.prog 87 #[.pointer (some ⟨b, 0, none⟩)] w fun e w' => e = .returned (.tuple #[]) ∧ (Lib.BuilderAt 151 5 B b (.pointer (some ⟨b, 0, none⟩)) bs w' ∧ Below B w w') := by
  rcases h with h | h
  · refine (copied_fresh b w h.cell0 h.shape h.frozen0).mono ?_
    rintro e w' ⟨rfl, rfl⟩
    exact ⟨rfl, h.used _, (Below.refl B w).setCell (p := ⟨b, 0, none⟩) h.1 _⟩
  · refine (copied_used b w h.cell0).mono ?_
    rintro e w' ⟨rfl, rfl⟩
    exact ⟨rfl, h, Below.refl B _⟩
set_option maxHeartbeats 1000000 in
set_option maxRecDepth 100000 in
theorem ws_any (B b : Nat) (bs : List Value) (s : ByteArray) (w : World) (h : Lib.IsBuilder 151 5 B b bs w) (hlen : bs.length + s.size ≤ 140737488355328) (hBw : B ≤ w.heap.size) :
    Calls Tryz.prog 73 #[.pointer (some ⟨b, 0, none⟩), .string s] w fun e w' => e = .returned (.tuple #[.int .i64 s.size, .nilIface]) ∧ (Lib.BuilderAt 151 5 B b (.pointer (some ⟨b, 0, none⟩)) (bs ++ Lib.strCells s) w' ∧ Below B w w') := by
  obtain ⟨i0, hi, hz0, hz1, hz2⟩ := info_parts info5
  go_enter Tryz.func73, Tryz.ntmps73
  go_wp2_with fail
  refine (copied_any B b bs _ h).mono ?_
  rintro e w1 ⟨rfl, h1, hb1⟩
  obtain ⟨hB, v, hbk, hown, hne⟩ := h1
  have c0 : w1.cell? ⟨b, 0, none⟩ = some (.pointer (some ⟨b, 0, none⟩)) := by rw [Lib.cell_of_heap hbk]; rfl
  have c1 : w1.cell? ⟨b, 1, none⟩ = some v := by rw [Lib.cell_of_heap hbk]; rfl
  go_wp2_with (at_builtin; refine Lib.wpList_append_own_string _ rfl _ _ 72 9 rfl B 5 i0 Tryz.underlying72 Tryz.underlying9 hi hz0 hz1 hz2 _ _ _ rfl hown s rfl ?c3 ?c4 ?c5 ?_)
  case c3 => unfold maxLen; omega
  case c4 => omega
  case c5 => have := hb1.size; omega
  intro v' w2 hown' hgrow _
  have hlt : b < w1.heap.size := (Array.getElem?_eq_some_iff.1 hbk).1
  have hb2 : w2.heap[b]? = some (.cells #[.pointer (some ⟨b, 0, none⟩), v] 151 (0, 0)) := by
    rw [hgrow.block b hlt (fun e => hne e.symm)]
    exact hbk
  have d0 : w2.cell? ⟨b, 0, none⟩ = some (.pointer (some ⟨b, 0, none⟩)) := by rw [Lib.cell_of_heap hb2]; rfl
  have d1 : w2.cell? ⟨b, 1, none⟩ = some v := by rw [Lib.cell_of_heap hb2]; rfl
  have f1 : w2.frozen? ⟨b, 1, none⟩ = false := Lib.frozen_of_heap hb2 1
  obtain ⟨ao, n', cap, rfl⟩ : ∃ ao n' cap, v' = .slice ao n' cap := by
    rcases hown'.2 with ⟨hv, _⟩ | ⟨g, cap, cur, hv, _⟩
    · exact ⟨_, _, _, hv⟩
    · exact ⟨_, _, _, hv⟩
  go_wp2
  go_ret2
  refine ⟨rfl, ?_, ?_⟩
  · exact Lib.BuilderAt.put (T := 151) (e := 5) hB hb2 (bs' := bs ++ Lib.strCells s) (by simpa [Lib.strCells_length] using hown') (by decide)
  · exact (hb1.grown hgrow (by have := hb1.size; omega) (fun k hk => (hown.lt k hk).1)).setCell (p := ⟨b, 1, none⟩) hB _
theorem str_any (B b : Nat) (l : List UInt8) (w : World) (h : Lib.IsBuilder 151 5 B b (Lib.byteCells l) w) (hBw : B ≤ w.heap.size) :
    Calls Tryz.prog 74 #[.pointer (some ⟨b, 0, none⟩)] w fun e w' => e = .returned (.string ⟨l.toArray⟩) ∧ Below B w w' :=
  Any.Builder_String_any laysStr extraStr B b l w h hBw
end YtemanjahkohcpaaGreatDoor
end Go.Proofs

namespace Go.Proofs.YtemanjahkohcpaaGreatDoor
open Go.RowKit WP
/-- texts, one behind the other, each with its end -/
def linesL (ls : List ByteArray) : List UInt8 := ls.flatMap fun s => strL s ++ [10]
theorem linesL_take (ls : List ByteArray) (k : Nat) (h : k < ls.length) : linesL (ls.take (k + 1)) = linesL (ls.take k) ++ (strL ls[k] ++ [10]) := by
  unfold linesL; rw [List.take_succ_eq_append_getElem h, List.flatMap_append]; simp
theorem hexf_any (l : List UInt32) (w : World) (h8 : l.length = 8) :
    Calls Tryz.prog 56 #[.agg (vw l).toArray] w fun e w' => e = .returned (.string ⟨(hexAllL l).toArray⟩) ∧ Below w.heap.size w w' := by
  obtain ⟨w1, hw1⟩ : ∃ w1, w.alloc (.cells (vw l).toArray 26) = w1 := ⟨_, rfl⟩
  have aL : Arr w1 w.heap.size 26 l := by rw [← hw1]; exact Arr.new w _ l
  have hb1 : Below w.heap.size w w1 := by rw [← hw1]; exact (Below.refl _ _).alloc (Nat.le_refl _) _
  have rL : Rd w1 (.slice (some ⟨w.heap.size, 0, none⟩) 8 8) (vw l) := by
    have := aL.rd 8 (by omega) (by simp [maxLen])
    rwa [h8] at this
  replace rL := Lib.hid rL; replace hb1 := Lib.hid hb1
  clear aL
  go_enter Tryz.func56, Tryz.ntmps56
  go_upto_region 1 with fail
  try (change Code.wp _ _ _ _ (w.alloc (.cells (vw l).toArray 26)); rw [hw1])
  clear hw1
  go_wp2_with fail
  refine (hexall_any _ l _ rL.out (by omega)).mono ?_
  rintro e w2 ⟨rfl, b2⟩
  have hb2 := Lib.hid (hb1.out.trans (b2.mono hb1.out.size))
  clear b2 rL hb1
  go_wp2_with fail
  go_ret
  exact ⟨rfl, hb2.out⟩
set_option maxRecDepth 100000 in
set_option maxHeartbeats 2000000 in
theorem lines_any (v : Value) (ls : List ByteArray) (w : World) (hv : Rd w v (ls.map Value.string)) (hlen : (linesL ls).length ≤ 1073741824) :
    Calls Tryz.prog 57 #[v] w fun e w' => e = .returned (.string ⟨(linesL ls).toArray⟩) ∧ Below w.heap.size w w' := by
  obtain ⟨ao, cap, rfl, n1, n2, hcs⟩ := hv
  rw [List.length_map] at n1 ⊢
  obtain ⟨n, hn⟩ : ∃ n, ls.length = n := ⟨_, rfl⟩
  rw [hn] at n1 ⊢
  have hB0 := Lib.fresh_isBuilder 151 5 w
  obtain ⟨w1, hw1⟩ : ∃ w1, w.alloc (.cells #[.pointer none, .slice none 0 0] 151) = w1 := ⟨_, rfl⟩
  rw [hw1] at hB0
  have hb1 : Below w.heap.size w w1 := by rw [← hw1]; exact (Below.refl _ _).alloc (Nat.le_refl _) _
  have hlt : w.heap.size < w1.heap.size := by rw [← hw1]; simp
  have n63 : (n : Int) ≤ 9223372036854775807 := by simp only [maxLen] at n2; omega
  replace hn := Lib.hid hn; replace hcs := Lib.hid hcs; replace hB0 := Lib.hid hB0; replace hb1 := Lib.hid hb1; replace hlen := Lib.hid hlen
  go_enter Tryz.func57, Tryz.ntmps57
  go_upto_region 2 with fail
  try (change Code.wp _ _ _ _ (w.alloc (.cells #[.pointer none, .slice none 0 0] 151)); rw [hw1])
  clear hw1
  go_wp2_with fail
  go_loopw [5, 8] (fun _ i wr => ∃ k : Nat, k ≤ n ∧ i = .int .i64 (k : Int) ∧ Lib.IsBuilder 151 5 w.heap.size w.heap.size (vb (linesL (ls.take k))) wr ∧ Below w.heap.size w wr ∧ w.heap.size < wr.heap.size) (fun _ i _ => n - (intOf i).toNat)
  case atStart => exact ⟨0, by omega, rfl, hB0.out, hb1.out, hlt⟩
  case round =>
    obtain ⟨wo, rfl⟩ : ∃ wo, wo = wr := ⟨wr, rfl⟩
    obtain ⟨k, hk, rfl, hB, hb, hsz⟩ := hrel
    by_cases hlt2 : k < n
    · have hkl : k < ls.length := by rw [hn.out]; exact hlt2
      obtain ⟨s, hs⟩ : ∃ s, ls[k] = s := ⟨_, rfl⟩
      have htk := linesL_take ls k hkl
      rw [hs] at htk
      obtain ⟨b, off, rfl, hc⟩ := hcs.out.resolve_left (by intro h; have := congrArg List.length h; rw [List.length_map] at this; simp at this; rw [this] at hkl; simp at hkl)
      have hcell : wo.cell? ⟨b, off + k, none⟩ = some (.string s) := by
        have h1 := hc k (.string s) (by rw [List.getElem?_map, List.getElem?_eq_getElem hkl, hs]; rfl)
        rw [hb.cell (p := ⟨b, off + k, none⟩) (World.block_lt_of_cell? w _ h1)]; exact h1
      have hle : (linesL (ls.take (k + 1))).length ≤ (linesL ls).length := by
        have e : linesL ls = linesL (ls.take (k + 1)) ++ linesL (ls.drop (k + 1)) := by unfold linesL; rw [← List.flatMap_append, List.take_append_drop]
        rw [e, List.length_append]; omega
      have hl0 := hlen.out
      have hlk : (vb (linesL (ls.take k))).length + (s ++ ⟨#[10]⟩ : ByteArray).size ≤ 140737488355328 := by
        rw [htk, List.length_append, List.length_append] at hle
        have e1 : (s ++ ⟨#[10]⟩ : ByteArray).size = s.size + 1 := by rw [ByteArray.size_append]; rfl
        have e2 := strL_length s
        rw [length_vb, e1]
        simp only [List.length_cons, List.length_nil] at hle
        omega
      have hcat : vb (linesL (ls.take k)) ++ Lib.strCells (s ++ ⟨#[10]⟩) = vb (linesL (ls.take (k + 1))) := by
        rw [htk, vb_append]
        refine congrArg (fun z => vb (linesL (ls.take k)) ++ z) ?_
        show vb (strL (s ++ ⟨#[10]⟩)) = _
        refine congrArg vb ?_
        unfold strL; simp
      have hs63 : ¬ 9223372036854775807 < s.size + 1 := by
        have e1 : (s ++ ⟨#[10]⟩ : ByteArray).size = s.size + 1 := by rw [ByteArray.size_append]; rfl
        rw [e1] at hlk; omega
      have i1 : (0 : Int) ≤ (k : Int) := by omega
      have i2 : (k : Int) < (n : Int) := by omega
      clear hc hkl hs htk hle hl0
      replace hB := Lib.hid hB; replace hb := Lib.hid hb; replace hlk := Lib.hid hlk; replace hcat := Lib.hid hcat
      go_wp2_with fail
      refine (ws_any w.heap.size w.heap.size _ _ _ hB.out hlk.out (by omega)).mono ?_
      rintro e w3 ⟨rfl, hB3, b3⟩
      rw [hcat.out] at hB3
      have hb3 := hb.out.trans b3
      have hs3 := b3.size
      clear b3 hs63
      replace hB3 := Lib.hid hB3; replace hb3 := Lib.hid hb3
      go_wp2_with fail
      go_roundw
      case rel => exact ⟨k + 1, by omega, by go_num, .inr hB3.out, hb3.out, by omega⟩
      case measure => simp [intOf]; omega
    · obtain rfl : k = n := by omega
      have htk : ls.take k = ls := by rw [← hn.out]; exact List.take_length
      rw [htk] at hB
      replace hB := Lib.hid hB; replace hb := Lib.hid hb
      clear htk
      go_wp2_with fail
      refine (str_any w.heap.size w.heap.size _ _ hB.out (by omega)).mono ?_
      rintro e w3 ⟨rfl, b3⟩
      have hb3 := Lib.hid (hb.out.trans b3)
      clear b3
      go_wp2_with fail
      go_ret
      exact ⟨rfl, hb3.out⟩
end Go.Proofs.YtemanjahkohcpaaGreatDoor

namespace Go.Proofs.YtemanjahkohcpaaGreatDoor
open Go.RowKit WP
set_option maxRecDepth 100000
/-- the four lines of a quote -/
def fmtT (sm sd st : ByteArray) : List ByteArray := [⟨#[113, 117, 111, 116, 101, 32, 49]⟩, (⟨#[109, 101, 97, 115, 117, 114, 101, 109, 101, 110, 116, 32]⟩ : ByteArray) ++ sm, (⟨#[100, 97, 116, 97, 32]⟩ : ByteArray) ++ sd, (⟨#[116, 97, 103, 32]⟩ : ByteArray) ++ st]
def hexT (l : List UInt32) : ByteArray := ⟨(hexAllL l).toArray⟩
/-- the text of a quote -/
def fmtL (me da tg : List UInt32) : List UInt8 := linesL (fmtT (hexT me) (hexT da) (hexT tg))
theorem hexT_size (l : List UInt32) (h : l.length = 8) : (hexT l).size = 64 := by
  unfold hexT; rw [size_mk, length_hexAllL, h]
theorem rangeCell {w : World} {g : Nat} (o : Nat) (l : List UInt32) (i : Nat) (h : w.rangeAt g o (vw l)) (hl : l.length = 8) (hi : i < 8) : w.cell? ⟨g, o + i, none⟩ = some (.int .u32 (wAt l i)) :=
  h i _ (vw_get l i (by omega))
theorem linesL_len (ls : List ByteArray) : (linesL ls).length = (ls.map fun s => s.size + 1).sum := by
  induction ls with
  | nil => rfl
  | cons s ls ih =>
    have e : linesL (s :: ls) = (strL s ++ [10]) ++ linesL ls := by simp [linesL]
    rw [e, List.length_append, ih, List.length_append, strL_length]; simp
theorem fmtT_len (sm sd st : ByteArray) (h1 : sm.size = 64) (h2 : sd.size = 64) (h3 : st.size = 64) : (linesL (fmtT sm sd st)).length = 224 := by
  rw [linesL_len]; simp only [fmtT, List.map_cons, List.map_nil, List.sum_cons, List.sum_nil, ByteArray.size_append, h1, h2, h3]; rfl
end Go.Proofs.YtemanjahkohcpaaGreatDoor
