/- The library's strings.Split at this program's numbers. (Printed by wip/sh/layplain.py, laymark.py.) strings.Split by the library's contract; plain laws of a text cut at its ends. A text cut at its ends: the plain law, and the contract of text's Lines. -/
import Derived.Test.YtiknookfnameiaaGreatDoorProg
import Derived.Shelf.Strings.Split
import Derived.Test.YtiknookfnameiaaGreatDoorJn00
import Derived.Ground.NamesProg
import Derived.WalkKit
import Derived.Test.YtiknookfnameiaaGreatDoorJn05
namespace Go.Proofs
open Go.Shelf
def YtiknookfnameiaaGreatDoor.laysSplit_ren : Go.Shelf.Ren := ⟨fun | 146 => 57 | 221 => 79 | 268 => 106 | 138 => 107 | 143 => 108 | 195 => 133 | 197 => 134 | 218 => 135 | 219 => 136 | 260 => 151 | 217 => 137 | 225 => 152 | 224 => 153 | 267 => 154 | 266 => 155 | 314 => 168 | n => n, fun | 9 => 9 | 31 => 99 | 3 => 3 | 4 => 4 | 0 => 0 | 105 => 242 | 21 => 21 | 5 => 5 | 46 => 93 | 119 => 268 | 139 => 271 | 138 => 270 | 146 => 272 | 51 => 22 | n => n, fun | 1 => 6 | 3 => 10 | 4 => 11 | n => n⟩
theorem YtiknookfnameiaaGreatDoor.laysSplit : Go.Proofs.Lays.n146 Tryz.prog YtiknookfnameiaaGreatDoor.laysSplit_ren := {
  mixed := by kernel_rfl
  f138 := Tryz.func107.trans (congrArg some (by kernel_rfl))
  f143 := Tryz.func108.trans (congrArg some (by kernel_rfl))
  f146 := Tryz.func57.trans (congrArg some (by kernel_rfl))
  f195 := Tryz.func133.trans (congrArg some (by kernel_rfl))
  f197 := Tryz.func134.trans (congrArg some (by kernel_rfl))
  f217 := Tryz.func137.trans (congrArg some (by kernel_rfl))
  f218 := Tryz.func135.trans (congrArg some (by kernel_rfl))
  f219 := Tryz.func136.trans (congrArg some (by kernel_rfl))
  f221 := Tryz.func79.trans (congrArg some (by kernel_rfl))
  f224 := Tryz.func153.trans (congrArg some (by kernel_rfl))
  f225 := Tryz.func152.trans (congrArg some (by kernel_rfl))
  f260 := Tryz.func151.trans (congrArg some (by kernel_rfl))
  f266 := Tryz.func155.trans (congrArg some (by kernel_rfl))
  f267 := Tryz.func154.trans (congrArg some (by kernel_rfl))
  f268 := Tryz.func106.trans (congrArg some (by kernel_rfl))
  f314 := Tryz.func168.trans (congrArg some (by kernel_rfl))
  t0 := Tryz.underlying0
  a0 := Tryz.isAgg0
  z0 := Tryz.sizeOf0
  v0 := Tryz.zeroValue0
  t3 := Tryz.underlying3
  a3 := Tryz.isAgg3
  z3 := Tryz.sizeOf3
  v3 := Tryz.zeroValue3
  t4 := Tryz.underlying4
  a4 := Tryz.isAgg4
  z4 := Tryz.sizeOf4
  v4 := Tryz.zeroValue4
  t5 := Tryz.underlying5
  a5 := Tryz.isAgg5
  z5 := Tryz.sizeOf5
  v5 := Tryz.zeroValue5
  t9 := Tryz.underlying9
  a9 := Tryz.isAgg9
  z9 := Tryz.sizeOf9
  v9 := Tryz.zeroValue9
  t21 := Tryz.underlying21
  a21 := Tryz.isAgg21
  z21 := Tryz.sizeOf21
  v21 := Tryz.zeroValue21
  t31 := Tryz.underlying99
  a31 := Tryz.isAgg99
  z31 := Tryz.sizeOf99
  v31 := Tryz.zeroValue99
  t46 := Tryz.underlying93
  a46 := Tryz.isAgg93
  z46 := Tryz.sizeOf93
  v46 := Tryz.zeroValue93
  t51 := Tryz.underlying22
  a51 := Tryz.isAgg22
  z51 := Tryz.sizeOf22
  v51 := Tryz.zeroValue22
  t105 := Tryz.underlying242
  a105 := Tryz.isAgg242
  z105 := Tryz.sizeOf242
  v105 := Tryz.zeroValue242
  t119 := Tryz.underlying268
  a119 := Tryz.isAgg268
  z119 := Tryz.sizeOf268
  t138 := Tryz.underlying270
  a138 := Tryz.isAgg270
  z138 := Tryz.sizeOf270
  v138 := Tryz.zeroValue270
  t139 := Tryz.underlying271
  a139 := Tryz.isAgg271
  z139 := Tryz.sizeOf271
  v139 := Tryz.zeroValue271
  t146 := Tryz.underlying272
  a146 := Tryz.isAgg272
  z146 := Tryz.sizeOf272
  v146 := Tryz.zeroValue272
  g1 := by kernel_rfl
  g3 := by kernel_rfl
  g4 := by kernel_rfl }
end Go.Proofs

namespace Go.Proofs
open Go.RowKit Go.Shelf
namespace YtiknookfnameiaaGreatDoor
open Go
set_option maxRecDepth 100000
abbrev MaxL (w : World) (m : Int) : Prop := w.cell? ⟨6, 0, none⟩ = some (.int .i64 m)
theorem split_any (s sep : ByteArray) (m : Int) (w : World) (hs : s.size < 4294967281) (hm : MaxL w m) (h1 : 1 ≤ sep.size) :
    Calls Tryz.prog 57 #[.string s, .string sep] w fun e w' =>
      e = .returned (.slice (some ⟨w.heap.size, 0, none⟩) (Lib.countB s sep + 1) (Lib.countB s sep + 1)) ∧ w' = w.alloc (.cells ((Lib.splitB sep 0 (Lib.countB s sep) s).map Value.string).toArray 9) :=
  Any.strings_Split laysSplit (by kernel_rfl) s sep m w hs hm h1
theorem index_at (c : UInt8) (r : List UInt8) : ∀ a : List UInt8, c ∉ a → Lib.index (a ++ c :: r) [c] = (a.length : Int)
  | [], _ => by rw [Lib.index_one]; simp [Lib.indexByte]
  | b :: a, h => by
    simp only [List.mem_cons, not_or] at h
    have ih := index_at c r a h.2
    rw [Lib.index_one] at ih ⊢
    have hb : (b == c) = false := by simp; exact fun e => h.1 e.symm
    simp only [List.cons_append, Lib.indexByte, hb, ih]
    have h1 : ((a.length : Int) == -1) = false := by simp
    simp [h1]
theorem splitK_at (c : UInt8) (k : Nat) (a r : List UInt8) (h : c ∉ a) : Lib.splitK [c] 0 (k + 1) (a ++ c :: r) = a :: Lib.splitK [c] 0 k r := by
  have hi := index_at c r a h
  have h1 : (((a.length : Nat) : Int) == -1) = false := by simp
  have e : Lib.splitK [c] 0 (k + 1) (a ++ c :: r) = if Lib.index (a ++ c :: r) [c] == -1 then [a ++ c :: r] else (a ++ c :: r).take ((Lib.index (a ++ c :: r) [c]).toNat + 0) :: Lib.splitK [c] 0 k ((a ++ c :: r).drop ((Lib.index (a ++ c :: r) [c]).toNat + [c].length)) := rfl
  rw [e, hi, h1]
  simp only [Bool.false_eq_true, if_false, Int.toNat_natCast, Nat.add_zero, List.length_singleton]
  rw [List.take_left, show a.length + 1 = (a ++ [c]).length by simp, show a ++ c :: r = (a ++ [c]) ++ r by simp, List.drop_left]
def linesOf (s : ByteArray) : List ByteArray := Lib.splitB ⟨#[10]⟩ 0 (Lib.countB s ⟨#[10]⟩) s
theorem linesOf_len (s : ByteArray) : (linesOf s).length = Lib.countB s ⟨#[10]⟩ + 1 := Lib.splitB_all ⟨#[10]⟩ (by decide) 0 _ s rfl
end YtiknookfnameiaaGreatDoor
end Go.Proofs

namespace Go.Proofs.YtiknookfnameiaaGreatDoor
open Go.RowKit WP
/-- the pieces of a text, behind what is begun -/
def splitA : List UInt8 → List UInt8 → List (List UInt8)
  | c, [] => [c]
  | c, x :: l => if x = 10 then c :: splitA [] l else splitA (c ++ [x]) l
/-- its lines: the last piece is none if it is empty -/
def linesA : List UInt8 → List UInt8 → List (List UInt8)
  | c, [] => if c = [] then [] else [c]
  | c, x :: l => if x = 10 then c :: linesA [] l else linesA (c ++ [x]) l
theorem splitA_pure (a : List UInt8) : ∀ c, (10 : UInt8) ∉ a → splitA c a = [c ++ a] := by
  induction a with
  | nil => intro c _; simp [splitA]
  | cons x a ih =>
    intro c h
    simp only [List.mem_cons, not_or] at h
    rw [splitA, if_neg (fun e => h.1 e.symm), ih _ h.2]; simp
theorem splitA_at (r a : List UInt8) : ∀ c, (10 : UInt8) ∉ a → splitA c (a ++ 10 :: r) = (c ++ a) :: splitA [] r := by
  induction a with
  | nil => intro c _; simp [splitA]
  | cons x a ih =>
    intro c h
    simp only [List.mem_cons, not_or] at h
    rw [List.cons_append, splitA, if_neg (fun e => h.1 e.symm), ih _ h.2]; simp
theorem first_end : ∀ l : List UInt8, (10 : UInt8) ∈ l → ∃ a r, l = a ++ 10 :: r ∧ (10 : UInt8) ∉ a
  | [], h => by simp at h
  | x :: l, h => by
    by_cases hx : x = 10
    · exact ⟨[], l, by rw [hx]; rfl, by simp⟩
    · obtain ⟨a, r, e, ha⟩ := first_end l (by simpa [Ne.symm hx] using h)
      exact ⟨x :: a, r, by rw [e]; rfl, by simp only [List.mem_cons, not_or]; exact ⟨fun e => hx e.symm, ha⟩⟩
theorem splitK_A : ∀ (k : Nat) (l : List UInt8), l.length ≤ k → Lib.splitK [10] 0 (l.count 10) l = splitA [] l
  | k, l, hk => by
    by_cases h : (10 : UInt8) ∈ l
    · obtain ⟨a, r, e, ha⟩ := first_end l h
      subst e
      have hc : (a ++ 10 :: r).count 10 = r.count 10 + 1 := by
        rw [List.count_append, List.count_cons_self, List.count_eq_zero_of_not_mem ha]; omega
      cases k with
      | zero => simp at hk
      | succ k =>
        rw [hc, splitK_at 10 _ _ _ ha, splitA_at _ _ _ ha, splitK_A k r (by simp at hk; omega)]; rfl
    · rw [List.count_eq_zero_of_not_mem h, splitA_pure _ _ h]; rfl
theorem splitA_ne (l : List UInt8) : ∀ c, splitA c l ≠ [] := by
  induction l with
  | nil => intro c; simp [splitA]
  | cons x l ih =>
    intro c
    unfold splitA
    split
    · simp
    · exact ih _
theorem linesA_split (l : List UInt8) : ∀ c, linesA c l = if (splitA c l).getLastD [] = [] then (splitA c l).dropLast else splitA c l := by
  induction l with
  | nil => intro c; simp [linesA, splitA]
  | cons x l ih =>
    intro c
    unfold linesA splitA
    by_cases hx : x = 10
    · rw [if_pos hx, if_pos hx, ih []]
      have hne := splitA_ne l []
      obtain ⟨y, t, e⟩ := List.exists_cons_of_ne_nil hne
      rw [e]
      simp only [List.getLastD_cons, List.dropLast_cons_cons]
      split <;> rfl
    · rw [if_neg hx, if_neg hx, ih]
def bas (L : List (List UInt8)) : List ByteArray := L.map fun b => ⟨b.toArray⟩
/-- the lines of a text -/
def linesF (s : ByteArray) : List ByteArray := bas (linesA [] s.data.toList)
theorem bas_of {P : List ByteArray} {L : List (List UInt8)} (h : P.map (fun s => s.data.toList) = L) : P = bas L := by
  subst h; unfold bas; rw [List.map_map]
  conv => lhs; rw [← List.map_id P]
  exact List.map_congr_left fun s _ => by simp
theorem linesOf_bas (s : ByteArray) : linesOf s = bas (splitA [] s.data.toList) := by
  refine bas_of ?_
  have := Lib.splitB_data ⟨#[10]⟩ 0 (Lib.countB s ⟨#[10]⟩) s
  have e : (linesOf s).map (fun s => s.data.toList) = Lib.splitK [10] 0 (Lib.countB s ⟨#[10]⟩) s.data.toList := this
  have hc : Lib.countB s ⟨#[10]⟩ = s.data.toList.count 10 := by
    show Lib.count s.data.toList [10] = _
    rw [Lib.count_one]
  rw [e, hc, splitK_A _ _ (Nat.le_refl _)]
theorem linesF_eq (s : ByteArray) (n : Nat) (hn : (linesOf s).length = n + 1) (x : ByteArray) (hx : (linesOf s)[n]? = some x) :
    linesF s = if x.data.toList = [] then (linesOf s).take n else linesOf s := by
  unfold linesF
  rw [linesA_split]
  have hb := linesOf_bas s
  rw [hb] at hn hx
  rw [hb]
  generalize splitA [] s.data.toList = L at *
  have hl : L.length = n + 1 := by simpa [bas] using hn
  have hy : ∃ y, L[n]? = some y ∧ x.data.toList = y := by
    unfold bas at hx; rw [List.getElem?_map] at hx
    cases hq : L[n]? with
    | none => rw [hq] at hx; cases hx
    | some y => rw [hq] at hx; simp at hx; exact ⟨y, rfl, by rw [← hx]⟩
  obtain ⟨y, hy, e⟩ := hy
  have hg : L.getLastD [] = y := by
    rw [List.getLastD_eq_getLast?, List.getLast?_eq_getElem?, hl]; simp [hy]
  rw [hg, e]
  split
  · unfold bas; rw [← List.map_take, List.dropLast_eq_take, hl]; rfl
  · rfl
theorem infoStr : (Tryz.prog.info? 9).map (fun i => (i.zero, i.size, i.bytes)) = some (some (.string ⟨#[]⟩), 1, 16) := by kernel_rfl
theorem tlines_no (s : ByteArray) (w : World) (hs : 65536 < s.size) (h63 : s.size ≤ 9223372036854775807) :
    Calls Tryz.prog 37 #[.string s] w fun e w' => e = .returned (.tuple #[.slice none 0 0, .int .i64 2]) ∧ w' = w := by
  go_enter Tryz.func37, Tryz.ntmps37
  go_wp2_with fail
  go_ret2
  exact ⟨rfl, rfl⟩
set_option maxRecDepth 100000 in
theorem tlines_any (s : ByteArray) (m : Int) (w : World) (hm : MaxL w m) (hs : s.size ≤ 65536) :
    Calls Tryz.prog 37 #[.string s] w fun e w' => ∃ v, e = .returned (.tuple #[v, .int .i64 0]) ∧
      w'.ownsRow w.heap.size 9 1 v (linesF s).length ((linesF s).map Value.string) ∧ Below w.heap.size w w' := by
  obtain ⟨i0, hi, hz0, hz1, hz2⟩ := info_parts infoStr
  have hlen := linesOf_len s
  have hcl : Lib.countB s ⟨#[10]⟩ ≤ s.size := Lib.countB_le ⟨#[10]⟩ (by decide) _ s (Nat.le_refl _)
  have hsp := split_any s ⟨#[10]⟩ m w (by omega) hm (by decide)
  obtain ⟨n, hn⟩ : ∃ n, Lib.countB s ⟨#[10]⟩ = n := ⟨_, rfl⟩
  rw [show Lib.splitB ⟨#[10]⟩ 0 (Lib.countB s ⟨#[10]⟩) s = linesOf s from rfl, hn] at hsp
  rw [hn] at hlen hcl
  obtain ⟨x, hx⟩ : ∃ x, (linesOf s)[n]? = some x := ⟨_, List.getElem?_eq_getElem (by omega)⟩
  have hF := linesF_eq s n hlen x hx
  obtain ⟨F, hFF⟩ : ∃ F, linesF s = F := ⟨_, rfl⟩
  rw [hFF] at hF ⊢
  obtain ⟨P, hP⟩ : ∃ P, linesOf s = P := ⟨_, rfl⟩
  rw [hP] at hlen hx hF hsp
  have hc : (w.alloc (.cells (P.map Value.string).toArray 9)).cell? ⟨w.heap.size, n, none⟩ = some (.string x) := by
    have hg : (w.alloc (.cells (P.map Value.string).toArray 9)).heap[w.heap.size]? = _ := heap_alloc_new w _
    simp only [World.cell?, hg]
    simp [hx]
  have hnews : ∀ j u, (P.map Value.string)[j]? = some u → (w.alloc (.cells (P.map Value.string).toArray 9)).cell? ((⟨w.heap.size, 0, none⟩ : Addr).add j) = some u := cells_new w _ _ _
  have hb1 : Below w.heap.size w (w.alloc (.cells (P.map Value.string).toArray 9)) := (Below.refl _ _).alloc (Nat.le_refl _) _
  have hsz1 : (w.alloc (.cells (P.map Value.string).toArray 9)).heap.size = w.heap.size + 1 := by simp
  have hone : ∀ u ∈ P.map Value.string, u.oneCell' = true := by
    intro u hu; obtain ⟨_, _, rfl⟩ := List.mem_map.1 hu; rfl
  have hlp : (P.map Value.string).length = n + 1 := by rw [List.length_map, hlen]
  generalize hw1 : w.alloc (.cells (P.map Value.string).toArray 9) = w1 at *
  clear hw1 hP hFF hn hm
  replace hlen := Lib.hid hlen; replace hx := Lib.hid hx; replace hnews := Lib.hid hnews; replace hb1 := Lib.hid hb1; replace hone := Lib.hid hone; replace hlp := Lib.hid hlp; replace hsp := Lib.hid hsp; replace hsz1 := Lib.hid hsz1
  by_cases h0 : x.data.toList = []
  · rw [if_pos h0] at hF
    have hx0 : x = ⟨#[]⟩ := by
      obtain ⟨d⟩ := x; simp at h0; rw [h0]
    subst hx0
    replace hF := Lib.hid hF
    clear h0
    go_enter Tryz.func37, Tryz.ntmps37
    go_wp2_with fail
    refine hsp.out.mono ?_
    rintro e w2 ⟨rfl, rfl⟩
    go_wp2_with (at_builtin; refine wpList_append_onto' _ rfl _ _ 99 rfl w.heap.size 9 i0 (.string ⟨#[]⟩) 1 16 Tryz.underlying99 hi hz0 hz1 hz2 rfl (by decide) _ 0 [] rfl (World.ownsRow_nil _ _ _ _) ⟨w.heap.size, 0, none⟩ n (n + 1) ((P.map Value.string).take n) rfl ?c1 ?c2 ?c3 ?c4 ?c5 ?c6 ?_)
    case c1 => have h1 := hlp.out; simp at h1; simp; omega
    case c2 => intro j u hu; rw [List.getElem?_take] at hu; split at hu; (first | exact hnews.out j u hu | cases hu); all_goals cases hu
    case c3 => intro u hu; exact hone.out u (by first | exact hu | exact List.mem_of_mem_take hu)
    case c4 => simp only [maxLen]; omega
    case c5 => omega
    case c6 => have := hsz1.out; omega
    intro v' w3 ho3 hO3
    have hb3 : Below w.heap.size w w3 := hb1.out.grown hO3.1 (by have := hsz1.out; omega) (fun k hk => by cases hk)
    replace ho3 : w3.ownsRow w.heap.size 9 1 v' F.length (F.map Value.string) := by
      have e1 : F.map Value.string = (P.map Value.string).take n := by rw [hF.out]; simp [List.map_take]
      have e2 : F.length = n := by have h1 := hlen.out; rw [hF.out]; simp; try omega
      rw [e1, e2]; exact ho3
    clear hO3
    replace ho3 := Lib.hid ho3; replace hb3 := Lib.hid hb3
    go_wp2_with fail
    go_ret2
    exact ⟨v', rfl, ho3.out, hb3.out⟩
  · rw [if_neg h0] at hF
    have hx1 : (x.toList == ([] : List UInt8)) = false := by
      rw [ByteArray.toList_eq]; simpa using h0
    replace hF := Lib.hid hF
    go_enter Tryz.func37, Tryz.ntmps37
    go_wp2_with fail
    refine hsp.out.mono ?_
    rintro e w2 ⟨rfl, rfl⟩
    go_wp2_with (at_builtin; refine wpList_append_onto' _ rfl _ _ 99 rfl w.heap.size 9 i0 (.string ⟨#[]⟩) 1 16 Tryz.underlying99 hi hz0 hz1 hz2 rfl (by decide) _ 0 [] rfl (World.ownsRow_nil _ _ _ _) ⟨w.heap.size, 0, none⟩ (n + 1) (n + 1) (P.map Value.string) rfl ?c1 ?c2 ?c3 ?c4 ?c5 ?c6 ?_)
    case c1 => have h1 := hlp.out; simp at h1; simp; omega
    case c2 => exact hnews.out
    case c3 => intro u hu; exact hone.out u (by first | exact hu | exact List.mem_of_mem_take hu)
    case c4 => simp only [maxLen]; omega
    case c5 => omega
    case c6 => have := hsz1.out; omega
    intro v' w3 ho3 hO3
    have hb3 : Below w.heap.size w w3 := hb1.out.grown hO3.1 (by have := hsz1.out; omega) (fun k hk => by cases hk)
    replace ho3 : w3.ownsRow w.heap.size 9 1 v' F.length (F.map Value.string) := by
      have e1 : F.map Value.string = P.map Value.string := by rw [hF.out]
      have e2 : F.length = n + 1 := by rw [hF.out]; exact hlen.out
      rw [e1, e2]; exact ho3
    clear hO3
    replace ho3 := Lib.hid ho3; replace hb3 := Lib.hid hb3
    go_wp2_with fail
    go_ret2
    exact ⟨v', rfl, ho3.out, hb3.out⟩
end Go.Proofs.YtiknookfnameiaaGreatDoor
