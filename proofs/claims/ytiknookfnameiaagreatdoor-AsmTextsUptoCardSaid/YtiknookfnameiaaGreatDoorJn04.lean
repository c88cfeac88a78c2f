/- Contracts of text's plain and blank. The library's strings.IndexByte at this program's numbers. (Printed by wip/sh/layplain.py, laymark.py.) The contract of text's escaped. The contract of text's quoted. The two contracts of the function that text's Words defers: where Words panics with a place, where it returns. -/
import Derived.Test.YtiknookfnameiaaGreatDoorProg
import Derived.Test.YtiknookfnameiaaGreatDoorJn00
import Derived.Deep.DeepCutAuto
import Derived.Deep.CutBlock
import Derived.Deep.RegionHeld3
import Derived.StillTailTactics
import Derived.BigQuiet
import Derived.Shelf.Small.Strs
import Derived.Lib.Hide
import Derived.Ground.NamesProg
import Derived.WalkKit
import Derived.Deep.AppendLies
import Derived.Defers
import Derived.Recover
namespace Go.Proofs.YtiknookfnameiaaGreatDoor
open Go.RowKit WP
/-- may the byte stand in a quoted form as it is? -/
def plainI (x : Int) : Bool := decide (32 ≤ x ∧ x ≤ 126 ∧ x ≠ 34 ∧ x ≠ 92)
def blankI (x : Int) : Bool := decide (x = 32 ∨ x = 9)
theorem plain_any (x : Int) (w : World) : Calls Tryz.prog 80 #[.int .u8 x] w fun e w' => e = .returned (.bool (plainI x)) ∧ w' = w := by
 by_cases h1 : 32 ≤ x
 ·have d1 : decide (x ≥ 32) = true := decide_eq_true h1
  by_cases h2 : x ≤ 126
  ·have d2 : decide (x ≤ 126) = true := decide_eq_true h2
   by_cases h3 : x = 34
   ·subst h3
    have hp : plainI 34 = false := rfl
    rw [hp]
    go_enter Tryz.func80, Tryz.ntmps80
    go_wp2_with fail
    go_ret
    exact ⟨rfl, rfl⟩
   ·have d3 : (x != 34) = true := by simp [h3]
    by_cases h4 : x = 92
    ·subst h4
     have hp : plainI 92 = false := rfl
     rw [hp]
     go_enter Tryz.func80, Tryz.ntmps80
     go_wp2_with fail
     go_ret
     exact ⟨rfl, rfl⟩
    ·have d4 : (x != 92) = true := by simp [h4]
     have hp : plainI x = true := decide_eq_true ⟨h1, h2, h3, h4⟩
     rw [hp]
     clear hp h1 h2 h3 h4
     go_enter Tryz.func80, Tryz.ntmps80
     go_wp2_with fail
     go_ret
     exact ⟨rfl, rfl⟩
  ·have d2 : decide (x ≤ 126) = false := decide_eq_false h2
   have hp : plainI x = false := decide_eq_false (fun h => h2 h.2.1)
   rw [hp]
   clear hp h1 h2
   go_enter Tryz.func80, Tryz.ntmps80
   go_wp2_with fail
   go_ret
   exact ⟨rfl, rfl⟩
 ·have d1 : decide (x ≥ 32) = false := decide_eq_false h1
  have hp : plainI x = false := decide_eq_false (fun h => h1 h.1)
  rw [hp]
  clear hp h1
  go_enter Tryz.func80, Tryz.ntmps80
  go_wp2_with fail
  go_ret
  exact ⟨rfl, rfl⟩
theorem blank_any (x : Int) (w : World) : Calls Tryz.prog 59 #[.int .u8 x] w fun e w' => e = .returned (.bool (blankI x)) ∧ w' = w := by
 by_cases h1 : x = 32
 ·subst h1
  go_enter Tryz.func59, Tryz.ntmps59
  go_wp2_with fail
  go_ret
  exact ⟨rfl, rfl⟩
 ·have d1 : (x == 32) = false := by simp [h1]
  by_cases h2 : x = 9
  ·subst h2
   go_enter Tryz.func59, Tryz.ntmps59
   go_wp2_with fail
   go_ret
   exact ⟨rfl, rfl⟩
  ·have d2 : (x == 9) = false := by simp [h2]
   have hp : blankI x = false := decide_eq_false (fun h => h.elim h1 h2)
   rw [hp]
   clear hp h1 h2
   go_enter Tryz.func59, Tryz.ntmps59
   go_wp2_with fail
   go_ret
   exact ⟨rfl, rfl⟩
end Go.Proofs.YtiknookfnameiaaGreatDoor

namespace Go.Proofs
open Go.Shelf
def YtiknookfnameiaaGreatDoor.laysIB_ren : Go.Shelf.Ren := ⟨fun | 137 => 109 | 217 => 137 | 266 => 155 | n => n, fun | 9 => 9 | 5 => 5 | 3 => 3 | n => n, fun | n => n⟩
theorem YtiknookfnameiaaGreatDoor.laysIB : Go.Proofs.Lays.n137 Tryz.prog YtiknookfnameiaaGreatDoor.laysIB_ren := {
 mixed := by kernel_rfl
 f137 := Tryz.func109.trans (congrArg some (by kernel_rfl))
 f217 := Tryz.func137.trans (congrArg some (by kernel_rfl))
 f266 := Tryz.func155.trans (congrArg some (by kernel_rfl))
 t3 := Tryz.underlying3
 a3 := Tryz.isAgg3
 z3 := Tryz.sizeOf3
 v3 := Tryz.zeroValue3
 t5 := Tryz.underlying5
 a5 := Tryz.isAgg5
 z5 := Tryz.sizeOf5
 v5 := Tryz.zeroValue5
 t9 := Tryz.underlying9
 a9 := Tryz.isAgg9
 z9 := Tryz.sizeOf9
 v9 := Tryz.zeroValue9 }
end Go.Proofs

namespace Go.Proofs
open Go.RowKit Go.Shelf
namespace YtiknookfnameiaaGreatDoor
open WP
def digB : ByteArray := ⟨#[48, 49, 50, 51, 52, 53, 54, 55, 56, 57, 97, 98, 99, 100, 101, 102]⟩
/-- a digit's worth, -1: none -/
def hv (x : Int) : Int := Lib.indexByte digB.data.toList x.toNat.toUInt8
theorem hv_ge (x : Int) : -1 ≤ hv x := Lib.indexByte_ge _ _
theorem ib_any (x : Int) (w : World) : Calls Tryz.prog 109 #[.string ⟨#[48, 49, 50, 51, 52, 53, 54, 55, 56, 57, 97, 98, 99, 100, 101, 102]⟩, .int .u8 x] w fun e w' => e = .returned (.int .i64 (hv x)) ∧ w' = w :=
 Any.strings_IndexByte laysIB _ x w
theorem indexByte_lt (c : UInt8) : ∀ l : List UInt8, Lib.indexByte l c < l.length
 | [] => by simp [Lib.indexByte]
 | b :: l => by
  have ih := indexByte_lt c l
  simp only [Lib.indexByte, List.length_cons]
  split
  ·omega
  ·split
   ·omega
   ·omega
theorem hv_lt (x : Int) : hv x < 16 := indexByte_lt _ _
/-- the byte that a text's first four bytes tell, and whether they tell one -/
def escF (l : List UInt8) : Int × Bool :=
 if l.length < 4 ∨ bAt l 1 ≠ 120 then (0, false)
 else if hv (bAt l 2) < 0 ∨ hv (bAt l 3) < 0 then (0, false)
 else (hv (bAt l 2) * 16 + hv (bAt l 3), !plainI (hv (bAt l 2) * 16 + hv (bAt l 3)))
theorem or_hexF : ∀ a b : Fin 16, bits BinOp.or IntKind.i64 ((a.val : Int) * 16) (b.val : Int) = (a.val : Int) * 16 + (b.val : Int) := by decide
theorem or_hex (a b : Int) (ha : 0 ≤ a) (ha' : a < 16) (hb : 0 ≤ b) (hb' : b < 16) : bits BinOp.or IntKind.i64 (a * 16) b = a * 16 + b := by
 have := or_hexF ⟨a.toNat, by omega⟩ ⟨b.toNat, by omega⟩
 simp only [Int.toNat_of_nonneg ha, Int.toNat_of_nonneg hb] at this
 exact this
theorem bAt_get (s : ByteArray) (k : Nat) (h : k < s.size) : (s[k].toNat : Int) = bAt s.data.toList k := by
 unfold bAt
 rw [List.getD_eq_getElem?_getD, Array.getElem?_toList]
 have : s.data[k]? = some s[k] := by
  rw [Array.getElem?_eq_getElem (show k < s.data.size from h)]; rfl
 rw [this]; rfl
theorem size_list (s : ByteArray) : s.data.toList.length = s.size := by rw [Array.length_toList]; rfl
set_option maxRecDepth 100000 in
set_option maxHeartbeats 1000000 in
theorem escaped_any (s : ByteArray) (w : World) (hs : s.size ≤ 9223372036854775807) :
  Calls Tryz.prog 81 #[.string s] w fun e w' => e = .returned (.tuple #[.int .u8 (escF s.data.toList).1, .bool (escF s.data.toList).2]) ∧ ∃ n, w' = w.drewN n := by
 have hl := size_list s
 by_cases h4 : s.size < 4
 ·have d1 : decide ((s.size : Int) < 4) = true := decide_eq_true (by omega)
  have hF : escF s.data.toList = (0, false) := by unfold escF; rw [if_pos (.inl (by omega))]
  rw [hF]
  clear hF hl
  go_enter Tryz.func81, Tryz.ntmps81
  go_wp2_with fail
  go_ret2
  exact ⟨rfl, 0, rfl⟩
 ·have d1 : decide ((s.size : Int) < 4) = false := decide_eq_false (by omega)
  have i1 : (1 : Int) < (s.size : Int) := by omega
  have i2 : (2 : Int) < (s.size : Int) := by omega
  have i3 : (3 : Int) < (s.size : Int) := by omega
  have j1 : 1 < s.size := by omega
  have j2 : 2 < s.size := by omega
  have j3 : 3 < s.size := by omega
  have e1 := bAt_get s 1 j1
  have e2 := bAt_get s 2 j2
  have e3 := bAt_get s 3 j3
  by_cases hx : bAt s.data.toList 1 = 120
  ·have d2 : (((s[1].toNat : Nat) : Int) != 120) = false := by rw [e1]; simp [hx]
   obtain ⟨x2, hx2⟩ : ∃ x, bAt s.data.toList 2 = x := ⟨_, rfl⟩
   obtain ⟨x3, hx3⟩ : ∃ x, bAt s.data.toList 3 = x := ⟨_, rfl⟩
   rw [hx2] at e2
   rw [hx3] at e3
   have hb2 := bAt_bd s.data.toList 2
   have hb3 := bAt_bd s.data.toList 3
   rw [hx2] at hb2
   rw [hx3] at hb3
   obtain ⟨v2, hv2⟩ : ∃ v, hv x2 = v := ⟨_, rfl⟩
   obtain ⟨v3, hv3⟩ : ∃ v, hv x3 = v := ⟨_, rfl⟩
   have g2 := hv_ge x2
   have g3 := hv_ge x3
   have l2 := hv_lt x2
   have l3 := hv_lt x3
   rw [hv2] at g2 l2
   rw [hv3] at g3 l3
   have hF : escF s.data.toList = if v2 < 0 ∨ v3 < 0 then (0, false) else (v2 * 16 + v3, !plainI (v2 * 16 + v3)) := by
    unfold escF; rw [if_neg (by rw [hl]; simp only [hx]; omega), hx2, hx3, hv2, hv3]
   replace hF := Lib.hid hF; replace hx2 := Lib.hid hx2; replace hx3 := Lib.hid hx3; replace hl := Lib.hid hl
   clear e1 hx
   go_enter Tryz.func81, Tryz.ntmps81
   go_upto_region 3 with fail
   by_cases n2 : v2 < 0
   ·have d3 : decide (v2 < 0) = true := decide_eq_true n2
    have hG : (if v2 < 0 ∨ v3 < 0 then ((0 : Int), false) else (v2 * 16 + v3, !plainI (v2 * 16 + v3))) = (0, false) := if_pos (.inl n2)
    replace hG := Lib.hid hG
    go_region_held3 (fun w' => True) (first | trivial) (first | (go_at_call 109; refine (ib_any _ _).mono ?_; rintro e w' ⟨rfl, rfl⟩))
    all_goals go_wp2_with fail
    all_goals go_ret2
    all_goals exact ⟨by rw [hF.out, hG.out]; (first | rfl | (simp only [hor, hmo]; rfl)), _, rfl⟩
   ·have d3 : decide (v2 < 0) = false := decide_eq_false n2
    by_cases n3 : v3 < 0
    ·have d4 : decide (v3 < 0) = true := decide_eq_true n3
     have hG : (if v2 < 0 ∨ v3 < 0 then ((0 : Int), false) else (v2 * 16 + v3, !plainI (v2 * 16 + v3))) = (0, false) := if_pos (.inr n3)
     replace hG := Lib.hid hG
     go_region_held3 (fun w' => True) (first | trivial) (first | (go_at_call 109; refine (ib_any _ _).mono ?_; rintro e w' ⟨rfl, rfl⟩))
     all_goals go_wp2_with fail
     all_goals go_ret2
     all_goals exact ⟨by rw [hF.out, hG.out]; (first | rfl | (simp only [hor, hmo]; rfl)), _, rfl⟩
    ·have d4 : decide (v3 < 0) = false := decide_eq_false n3
     have hG : (if v2 < 0 ∨ v3 < 0 then ((0 : Int), false) else (v2 * 16 + v3, !plainI (v2 * 16 + v3))) = (v2 * 16 + v3, !plainI (v2 * 16 + v3)) := if_neg (by omega)
     replace hG := Lib.hid hG
     have hor : bits BinOp.or IntKind.i64 (v2 * 16) v3 = v2 * 16 + v3 := or_hex v2 v3 (by omega) l2 (by omega) l3
     have hmo : (v2 * 16 + v3) % 256 = v2 * 16 + v3 := by omega
     go_region_held3 (fun w' => True) (first | trivial) (first | (go_at_call 109; refine (ib_any _ _).mono ?_; rintro e w' ⟨rfl, rfl⟩))
     all_goals (go_wp2_with (go_at_call 80; refine (plain_any _ _).mono ?_; rintro e w' ⟨rfl, rfl⟩))
     all_goals go_ret2
     all_goals exact ⟨by rw [hF.out, hG.out]; (first | rfl | (simp only [hor, hmo]; rfl)), _, rfl⟩
  ·have d2 : (((s[1].toNat : Nat) : Int) != 120) = true := by rw [e1]; simp [hx]
   have hF : escF s.data.toList = (0, false) := by unfold escF; rw [if_pos (.inr hx)]
   rw [hF]
   clear hF hl e1 e2 e3 hx
   go_enter Tryz.func81, Tryz.ntmps81
   go_wp2_with fail
   go_ret2
   exact ⟨rfl, 0, rfl⟩
end YtiknookfnameiaaGreatDoor
end Go.Proofs

namespace Go.Proofs.YtiknookfnameiaaGreatDoor
open Go.RowKit WP
theorem infoBr : (Tryz.prog.info? 5).map (fun i => (i.zero, i.size, i.bytes)) = some (some (.int .u8 0), 1, 1) := by kernel_rfl
/-- the quoted form that goes on at a place: its bytes and the place behind it, or the place where it breaks -/
def qA (l : List UInt8) : Nat → Nat → List UInt8 → (List UInt8 × Nat) ⊕ Nat
 | 0, i, _ => .inr i
 | f + 1, i, acc =>
  if l.length ≤ i then .inr l.length
  else if bAt l i = 34 then .inl (acc, i + 1)
  else if plainI (bAt l i) = true then qA l f (i + 1) (acc ++ [l.getD i 0])
  else if bAt l i ≠ 92 then .inr i
  else if (escF (l.drop i)).2 = true then qA l f (i + 4) (acc ++ [UInt8.ofNat (escF (l.drop i)).1.toNat])
  else .inr i
theorem drop_data (s : ByteArray) (k : Nat) : (s.extract k s.size).data.toList = s.data.toList.drop k := by
 rw [ByteArray.data_extract, Array.toList_extract]
 simp only [List.extract_eq_take_drop]
 rw [List.take_of_length_le]
 simp
theorem escF_bd (l : List UInt8) : 0 ≤ (escF l).1 ∧ (escF l).1 ≤ 255 := by
 unfold escF
 split
 ·decide
 ·split
  ·decide
  ·have := hv_lt (bAt l 2)
   have := hv_lt (bAt l 3)
   simp only; omega
theorem escF_long (l : List UInt8) (h : (escF l).2 = true) : 4 ≤ l.length := by
 unfold escF at h
 split at h
 ·exact absurd h (by decide)
 ·omega
theorem ofI8_val (x : Int) (h1 : 0 ≤ x) (h2 : x ≤ 255) : (((UInt8.ofNat x.toNat).toNat : Nat) : Int) = x := by
 simp; omega
/-- what quoted answers -/
def QuoRes (R : (List UInt8 × Nat) ⊕ Nat) (B : Nat) (e : Ending) (w' : World) : Prop :=
 match R with
 | .inl (b, n) => ∃ v, e = .returned (.tuple #[v, .int .i64 n]) ∧ w'.ownsRow B 5 1 v b.length (vb b)
 | .inr k => e = .panicked [{ v := .iface 147 (.int .i64 k), recovered := false }]
set_option maxRecDepth 100000 in
set_option maxHeartbeats 1000000 in
theorem quoted_any (s : ByteArray) (at' : Nat) (w : World) (hs : s.size ≤ 140737488355328) (ha : at' < s.size) :
  Calls Tryz.prog 60 #[.string s, .int .i64 at'] w fun e w' => Below w.heap.size w w' ∧
   QuoRes (qA s.data.toList (s.size + 1) (at' + 1) []) w.heap.size e w' := by
 obtain ⟨i0, hi, hz0, hz1, hz2⟩ := info_parts infoBr
 obtain ⟨R, hR⟩ : ∃ R, qA s.data.toList (s.size + 1) (at' + 1) [] = R := ⟨_, rfl⟩
 rw [hR]
 have hl := Lib.hid (size_list s)
 have hR := Lib.hid hR
 go_enter Tryz.func60, Tryz.ntmps60
 go_wp2_with fail
 go_loopw [6, 7] (fun v i wr => ∃ (k f : Nat) (acc : List UInt8), k ≤ s.size ∧ s.size + 1 ≤ f + k ∧ acc.length ≤ k ∧ i = .int .i64 k ∧ wr.ownsRow w.heap.size 5 1 v acc.length (vb acc) ∧ Below w.heap.size w wr ∧ qA s.data.toList f k acc = R) (fun _ i _ => s.size - (intOf i).toNat)
 case atStart => exact ⟨at' + 1, s.size + 1, [], by omega, by omega, by simp, rfl, World.ownsRow_nil _ _ _ _, Below.refl _ _, hR.out⟩
 case round =>
  obtain ⟨k, f, acc, hk, hf, hac, rfl, ho, hb, hq⟩ := hrel
  obtain ⟨f, rfl⟩ : ∃ g, f = g + 1 := ⟨f - 1, by omega⟩
  by_cases hlt : k < s.size
  ·have d1 : decide ((k : Int) ≥ (s.size : Int)) = false := decide_eq_false (by omega)
   have eb := bAt_get s k hlt
   have ho' := Lib.hid ho
   have hb' := Lib.hid hb
   have hq : (if bAt s.data.toList k = 34 then .inl (acc, k + 1)
    else if plainI (bAt s.data.toList k) = true then qA s.data.toList f (k + 1) (acc ++ [s.data.toList.getD k 0])
    else if bAt s.data.toList k ≠ 92 then .inr k
    else if (escF (s.data.toList.drop k)).2 = true then qA s.data.toList f (k + 4) (acc ++ [UInt8.ofNat (escF (s.data.toList.drop k)).1.toNat])
    else .inr k) = R := by rw [← hq]; conv => rhs; unfold qA; rw [if_neg (by rw [hl.out]; omega)]
   obtain ⟨c, hc⟩ : ∃ c, bAt s.data.toList k = c := ⟨_, rfl⟩
   have hcb := bAt_bd s.data.toList k
   rw [hc] at hcb eb
   simp only [hc] at hq
   by_cases h34 : c = 34
   ·subst h34
    rw [if_pos rfl] at hq
    subst hq
    clear hq hc hcb ho hb
    go_wp2_with fail
    go_ret2
    exact ⟨hb'.out, _, rfl, ho'.out⟩
   ·have d3 : (c == 34) = false := by simp [h34]
    rw [if_neg h34] at hq
    by_cases hp : plainI c = true
    ·rw [if_pos hp] at hq
     have hv : vb (acc ++ [s.data.toList.getD k 0]) = vb acc ++ [.int .u8 c] := by rw [vb_append, ← hc]; rfl
     have hq := Lib.hid hq; have hv := Lib.hid hv; have hc := Lib.hid hc
     have hs1 := hb'.out.size
     clear hcb ho hb
     go_wp2_with (first | (go_at_call 80; refine (plain_any _ _).mono ?_; rintro e w2 ⟨rfl, hw⟩; rw [hw, hp]; clear hw w2) | (at_builtin; refine wpList_append_onto' _ rfl _ _ 101 rfl w.heap.size 5 i0 (.int .u8 0) 1 1 Tryz.underlying101 hi hz0 hz1 hz2 rfl (by decide) _ _ _ rfl (ho'.out.alloc _) ⟨wr.heap.size, 0, none⟩ 1 1 [.int .u8 c] rfl rfl ?c1 ?c2 ?c3 ?c4 ?c5 ?_))
     case c1 => exact cell_one_new _ _ _
     case c2 => simp [Value.oneCell']
     case c3 => simp only [maxLen]; omega
     case c4 => omega
     case c5 => simp; omega
     intro v1 w1 ho1 hO1
     have hfin : w1.ownsRow w.heap.size 5 1 v1 (acc ++ [s.data.toList.getD k 0]).length (vb (acc ++ [s.data.toList.getD k 0])) := by
      rw [hv.out]; simpa using ho1
     have hb2 : Below w.heap.size w w1 := hb'.out.trans ((Below.alloc (Below.refl _ _) hs1 _).trans (hO1.below (by simp; omega) (fun g hg => (ho'.out.lt g hg).1)))
     clear ho1 hO1 ho' hb'
     have hfin := Lib.hid hfin; have hb2 := Lib.hid hb2
     go_wp2_with fail
     go_roundw
     case rel => exact ⟨k + 1, f, _, by omega, by omega, by simp; omega, by go_num, hfin.out, hb2.out, hq.out⟩
     case measure => simp [intOf]; omega
    ·rw [if_neg hp] at hq
     replace hp : plainI c = false := by simpa using hp
     by_cases h92 : c = 92
     ·subst h92
      rw [if_neg (by simp)] at hq
      obtain ⟨x, y, hxy⟩ : ∃ x y, escF (s.data.toList.drop k) = (x, y) := ⟨_, _, rfl⟩
      have hbd := escF_bd (s.data.toList.drop k)
      have hlg := escF_long (s.data.toList.drop k)
      have hE : escF (s.extract k s.size).data.toList = (x, y) := by rw [drop_data, hxy]
      rw [hxy] at hbd hlg hq
      simp only at hbd hlg hq
      have hE := Lib.hid hE
      have hz : (s.extract k s.size).size ≤ 9223372036854775807 := by simp; omega
      have hE2 : (s.extract k s.size).size = s.size - k := by simp
      clear ho hb hcb
      cases y with
      | true =>
       rw [if_pos rfl] at hq
       have hlg := hlg rfl
       rw [List.length_drop, hl.out] at hlg
       have hv : vb (acc ++ [UInt8.ofNat x.toNat]) = vb acc ++ [.int .u8 x] := by rw [vb_append]; congr 1; simp only [vb, List.map_cons, List.map_nil]; rw [ofI8_val x hbd.1 hbd.2]
       have hq := Lib.hid hq; have hv := Lib.hid hv; have hc := Lib.hid hc
       go_upto_region 6 with (first | (go_at_call 80; refine (plain_any _ _).mono ?_; rintro e w2 ⟨rfl, hw⟩; rw [hw, hp]; clear hw w2) | (go_at_call 81; refine (escaped_any _ _ hz).mono ?_; rintro e w2 ⟨rfl, n, hw⟩; rw [hE.out, hw]; clear hw w2))
       obtain ⟨wq, hwq⟩ : ∃ wq, wr.drewN n = wq := ⟨_, rfl⟩
       have ho2 : wq.ownsRow w.heap.size 5 1 u6 acc.length (vb acc) := by rw [← hwq]; exact ho'.out
       have hb2 : Below w.heap.size w wq := by rw [← hwq]; exact below_drewN hb'.out _
       clear ho' hb'
       have ho' := Lib.hid ho2; have hb' := Lib.hid hb2
       clear ho2 hb2
       have hs1 := hb'.out.size
       rw [hwq]
       clear hwq
       go_wp2_with (at_builtin; refine wpList_append_onto' _ rfl _ _ 101 rfl w.heap.size 5 i0 (.int .u8 0) 1 1 Tryz.underlying101 hi hz0 hz1 hz2 rfl (by decide) _ _ _ rfl (ho'.out.alloc _) ⟨wq.heap.size, 0, none⟩ 1 1 [.int .u8 x] rfl rfl ?c1 ?c2 ?c3 ?c4 ?c5 ?_)
       case c1 => exact cell_one_new _ _ _
       case c2 => simp [Value.oneCell']
       case c3 => simp only [maxLen]; omega
       case c4 => omega
       case c5 => simp; omega
       intro v1 w1 ho1 hO1
       have hfin : w1.ownsRow w.heap.size 5 1 v1 (acc ++ [UInt8.ofNat x.toNat]).length (vb (acc ++ [UInt8.ofNat x.toNat])) := by
        rw [hv.out]; simpa using ho1
       have hb2 : Below w.heap.size w w1 := hb'.out.trans ((Below.alloc (Below.refl _ _) hs1 _).trans (hO1.below (by simp; omega) (fun g hg => (ho'.out.lt g hg).1)))
       clear ho1 hO1 ho' hb'
       have hfin := Lib.hid hfin; have hb2 := Lib.hid hb2
       go_wp2_with fail
       go_roundw
       case rel => exact ⟨k + 4, f, _, by omega, by omega, by simp; omega, by go_num, hfin.out, hb2.out, hq.out⟩
       case measure => simp [intOf]; omega
      | false =>
       rw [if_neg (by decide)] at hq
       subst hq
       go_wp2_with (first | (go_at_call 80; refine (plain_any _ _).mono ?_; rintro e w2 ⟨rfl, hw⟩; rw [hw, hp]; clear hw w2) | (go_at_call 81; refine (escaped_any _ _ hz).mono ?_; rintro e w2 ⟨rfl, n, hw⟩; rw [hE.out, hw]; clear hw w2))
       exact ⟨rfl, below_drewN hb'.out _, rfl⟩
     ·have d4 : (c != 92) = true := by simp [h92]
      rw [if_pos h92] at hq
      subst hq
      clear ho hb hcb
      go_wp2_with (go_at_call 80; refine (plain_any _ _).mono ?_; rintro e w2 ⟨rfl, hw⟩; rw [hw, hp]; clear hw w2)
      exact ⟨rfl, hb'.out, rfl⟩
  ·obtain rfl : k = s.size := by omega
   have d1 : decide ((s.size : Int) ≥ (s.size : Int)) = true := decide_eq_true (by omega)
   have hR' : R = .inr s.size := by rw [← hq]; unfold qA; rw [if_pos (by rw [hl.out]; omega), hl.out]
   clear hq
   go_wp2_with fail
   exact ⟨rfl, hb, by rw [hR']; rfl⟩
end Go.Proofs.YtiknookfnameiaaGreatDoor

namespace Go.Proofs.YtiknookfnameiaaGreatDoor
open Go.RowKit WP
theorem assert_broken (v : Value) (t : TypeId) (w : World) : (Instr.typeAssert (.iface 147 v) t 147 true).run Tryz.prog w = .ok (.tuple #[v, .bool true]) w := by kernel_rfl
set_option maxRecDepth 100000 in
theorem catch_idle (p0 p1 p2 : Addr) (w : World) :
  CallsD Tryz.prog 58 #[.pointer (some p0), .pointer (some p1), .pointer (some p2)] .returning w fun e u' w' => e = .returned (.tuple #[]) ∧ u' = .returning ∧ w' = w := by
 refine callsD_of_wpS Tryz.func58 rfl fun c₀ cs hu => ?_
 apply wpS_seq
 apply wpS_region
 simp [wpOpsS, go_sem, recoverD, hu, Tryz.ntmps58, Exit.thenS]
 refine wpS_of_wp ?_
 go_wp2
 cases c₀
 simp_all [bodyPostS, results, Tryz.results58]
set_option maxRecDepth 100000 in
theorem catch_broken (b : Nat) (i : Int) (x0 x1 x2 : Value) (older : List PanicEntry) (w : World)
  (h0 : w.cell? ⟨b, 0, none⟩ = some x0) (h1 : w.cell? ⟨b + 1, 0, none⟩ = some x1) (h2 : w.cell? ⟨b + 1 + 1, 0, none⟩ = some x2)
  (f0 : w.frozen? ⟨b, 0, none⟩ = false) (f1 : w.frozen? ⟨b + 1, 0, none⟩ = false) (f2 : w.frozen? ⟨b + 1 + 1, 0, none⟩ = false) (hi : 0 ≤ i) (hi' : i ≤ 9223372036854775806) :
  CallsD Tryz.prog 58 #[.pointer (some ⟨b, 0, none⟩), .pointer (some ⟨b + 1, 0, none⟩), .pointer (some ⟨b + 1 + 1, 0, none⟩)] (.panicking ({ v := .iface 147 (.int .i64 i), recovered := false } :: older)) w fun e u' w' => e = .returned (.tuple #[]) ∧ u' = .panicking ({ v := .iface 147 (.int .i64 i), recovered := true } :: older) ∧ w' = ((w.setCell ⟨b, 0, none⟩ (.slice none 0 0)).setCell ⟨b + 1, 0, none⟩ (.int .i64 (i + 1))).setCell ⟨b + 1 + 1, 0, none⟩ (.int .i64 40) := by
 refine callsD_of_wpS Tryz.func58 rfl fun c₀ cs hu => ?_
 apply wpS_seq
 apply wpS_region
 simp [wpOpsS, go_sem, recoverD, hu, Tryz.ntmps58, Exit.thenS]
 refine wpS_of_wp ?_
 have hta := assert_broken (.int .i64 i)
 change Code.wp _ _ _ { tmps := #[(.pointer (some ⟨b, 0, none⟩)), (.pointer (some ⟨b + 1, 0, none⟩)), (.pointer (some ⟨b + 1 + 1, 0, none⟩)), undef, undef, undef, .iface 147 (.int .i64 i), undef, undef, undef, undef, undef, undef, undef], defers := [] } w
 go_wp2
 all_goals refine ⟨rfl, _, rfl, .tuple #[], ?_, rfl, rfl, rfl⟩
 all_goals simp [results, Tryz.results58]
end Go.Proofs.YtiknookfnameiaaGreatDoor
