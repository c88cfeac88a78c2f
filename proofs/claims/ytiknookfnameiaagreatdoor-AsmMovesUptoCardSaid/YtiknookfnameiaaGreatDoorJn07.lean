/- Contracts of text's plain and blank. The library's strings.IndexByte at this program's numbers. (Printed by wip/sh/layplain.py, laymark.py.) The contract of text's escaped. -/
import Derived.Test.YtiknookfnameiaaGreatDoorProg
import Derived.Test.YtiknookfnameiaaGreatDoorBase
import Derived.Test.YtiknookfnameiaaGreatDoorWordP
import Derived.Deep.DeepCutAuto
import Derived.Deep.CutBlock
import Derived.Deep.RegionHeld3
import Derived.StillTailTactics
import Derived.BigQuiet
import Derived.Shelf.Small.Strs
import Derived.Lib.Hide
import Derived.Ground.NamesProg
import Derived.WalkKit
namespace Go.Proofs.YtiknookfnameiaaGreatDoor
open Go.RowKit WP
/-- may the byte stand in a quoted form as it is? -/
def plainI (x : Int) : Bool := decide (32 ≤ x ∧ x ≤ 126 ∧ x ≠ 34 ∧ x ≠ 92)
def blankI (x : Int) : Bool := decide (x = 32 ∨ x = 9)
theorem plain_any (x : Int) (w : World) : Calls Tryz.prog 80 #[.int .u8 x] w fun e w' => e = .returned (.bool (plainI x)) ∧ w' = w := by
  by_cases h1 : 32 ≤ x
  · have d1 : decide (x ≥ 32) = true := decide_eq_true h1
    by_cases h2 : x ≤ 126
    · have d2 : decide (x ≤ 126) = true := decide_eq_true h2
      by_cases h3 : x = 34
      · subst h3
        have hp : plainI 34 = false := rfl
        rw [hp]
        go_enter Tryz.func80, Tryz.ntmps80
        go_wp2_with fail
        go_ret
        exact ⟨rfl, rfl⟩
      · have d3 : (x != 34) = true := by simp [h3]
        by_cases h4 : x = 92
        · subst h4
          have hp : plainI 92 = false := rfl
          rw [hp]
          go_enter Tryz.func80, Tryz.ntmps80
          go_wp2_with fail
          go_ret
          exact ⟨rfl, rfl⟩
        · have d4 : (x != 92) = true := by simp [h4]
          have hp : plainI x = true := decide_eq_true ⟨h1, h2, h3, h4⟩
          rw [hp]
          clear hp h1 h2 h3 h4
          go_enter Tryz.func80, Tryz.ntmps80
          go_wp2_with fail
          go_ret
          exact ⟨rfl, rfl⟩
    · have d2 : decide (x ≤ 126) = false := decide_eq_false h2
      have hp : plainI x = false := decide_eq_false (fun h => h2 h.2.1)
      rw [hp]
      clear hp h1 h2
      go_enter Tryz.func80, Tryz.ntmps80
      go_wp2_with fail
      go_ret
      exact ⟨rfl, rfl⟩
  · have d1 : decide (x ≥ 32) = false := decide_eq_false h1
    have hp : plainI x = false := decide_eq_false (fun h => h1 h.1)
    rw [hp]
    clear hp h1
    go_enter Tryz.func80, Tryz.ntmps80
    go_wp2_with fail
    go_ret
    exact ⟨rfl, rfl⟩
theorem blank_any (x : Int) (w : World) : Calls Tryz.prog 59 #[.int .u8 x] w fun e w' => e = .returned (.bool (blankI x)) ∧ w' = w := by
  by_cases h1 : x = 32
  · subst h1
    go_enter Tryz.func59, Tryz.ntmps59
    go_wp2_with fail
    go_ret
    exact ⟨rfl, rfl⟩
  · have d1 : (x == 32) = false := by simp [h1]
    by_cases h2 : x = 9
    · subst h2
      go_enter Tryz.func59, Tryz.ntmps59
      go_wp2_with fail
      go_ret
      exact ⟨rfl, rfl⟩
    · have d2 : (x == 9) = false := by simp [h2]
      have hp : blankI x = false := decide_eq_false (fun h => h.elim h1 h2)
      rw [hp]
      clear hp h1 h2
      go_enter Tryz.func59, Tryz.ntmps59
      go_wp2_with fail
      go_ret
      exact ⟨rfl, rfl⟩
end Go.Proofs.YtiknookfnameiaaGreatDoor

namespace Go.Proofs
open Go.Shelf
def YtiknookfnameiaaGreatDoor.laysIB_ren : Go.Shelf.Ren := ⟨fun | 137 => 109 | 217 => 137 | 266 => 155 | n => n, fun | 9 => 9 | 5 => 5 | 3 => 3 | n => n, fun | n => n⟩
theorem YtiknookfnameiaaGreatDoor.laysIB : Go.Proofs.Lays.n137 Tryz.prog YtiknookfnameiaaGreatDoor.laysIB_ren := {
  mixed := by kernel_rfl
  f137 := Tryz.func109.trans (congrArg some (by kernel_rfl))
  f217 := Tryz.func137.trans (congrArg some (by kernel_rfl))
  f266 := Tryz.func155.trans (congrArg some (by kernel_rfl))
  t3 := Tryz.underlying3
  a3 := Tryz.isAgg3
  z3 := Tryz.sizeOf3
  v3 := Tryz.zeroValue3
  t5 := Tryz.underlying5
  a5 := Tryz.isAgg5
  z5 := Tryz.sizeOf5
  v5 := Tryz.zeroValue5
  t9 := Tryz.underlying9
  a9 := Tryz.isAgg9
  z9 := Tryz.sizeOf9
  v9 := Tryz.zeroValue9 }
end Go.Proofs

namespace Go.Proofs
open Go.RowKit Go.Shelf
namespace YtiknookfnameiaaGreatDoor
open WP
def digB : ByteArray := ⟨#[48, 49, 50, 51, 52, 53, 54, 55, 56, 57, 97, 98, 99, 100, 101, 102]⟩
/-- a digit's worth, -1: none -/
def hv (x : Int) : Int := Lib.indexByte digB.data.toList x.toNat.toUInt8
theorem hv_ge (x : Int) : -1 ≤ hv x := Lib.indexByte_ge _ _
theorem ib_any (x : Int) (w : World) : Calls Tryz.prog 109 #[.string ⟨#[48, 49, 50, 51, 52, 53, 54, 55, 56, 57, 97, 98, 99, 100, 101, 102]⟩, .int .u8 x] w fun e w' => e = .returned (.int .i64 (hv x)) ∧ w' = w :=
  Any.strings_IndexByte laysIB _ x w
theorem indexByte_lt (c : UInt8) : ∀ l : List UInt8, Lib.indexByte l c < l.length
  | [] => by simp [Lib.indexByte]
  | b :: l => by
    have ih := indexByte_lt c l
    simp only [Lib.indexByte, List.length_cons]
    split
    · omega
    · split
      · omega
      · omega
theorem hv_lt (x : Int) : hv x < 16 := indexByte_lt _ _
/-- the byte that a text's first four bytes tell, and whether they tell one -/
def escF (l : List UInt8) : Int × Bool :=
  if l.length < 4 ∨ bAt l 1 ≠ 120 then (0, false)
  else if hv (bAt l 2) < 0 ∨ hv (bAt l 3) < 0 then (0, false)
  else (hv (bAt l 2) * 16 + hv (bAt l 3), !plainI (hv (bAt l 2) * 16 + hv (bAt l 3)))
theorem or_hexF : ∀ a b : Fin 16, bits BinOp.or IntKind.i64 ((a.val : Int) * 16) (b.val : Int) = (a.val : Int) * 16 + (b.val : Int) := by decide
theorem or_hex (a b : Int) (ha : 0 ≤ a) (ha' : a < 16) (hb : 0 ≤ b) (hb' : b < 16) : bits BinOp.or IntKind.i64 (a * 16) b = a * 16 + b := by
  have := or_hexF ⟨a.toNat, by omega⟩ ⟨b.toNat, by omega⟩
  simp only [Int.toNat_of_nonneg ha, Int.toNat_of_nonneg hb] at this
  exact this
theorem bAt_get (s : ByteArray) (k : Nat) (h : k < s.size) : (s[k].toNat : Int) = bAt s.data.toList k := by
  unfold bAt
  rw [List.getD_eq_getElem?_getD, Array.getElem?_toList]
  have : s.data[k]? = some s[k] := by
    rw [Array.getElem?_eq_getElem (show k < s.data.size from h)]; rfl
  rw [this]; rfl
theorem size_list (s : ByteArray) : s.data.toList.length = s.size := by rw [Array.length_toList]; rfl
set_option maxRecDepth 100000 in
set_option maxHeartbeats 1000000 in
theorem escaped_any (s : ByteArray) (w : World) (hs : s.size ≤ 9223372036854775807) :
    Calls Tryz.prog 81 #[.string s] w fun e w' => e = .returned (.tuple #[.int .u8 (escF s.data.toList).1, .bool (escF s.data.toList).2]) ∧ ∃ n, w' = w.drewN n := by
  have hl := size_list s
  by_cases h4 : s.size < 4
  · have d1 : decide ((s.size : Int) < 4) = true := decide_eq_true (by omega)
    have hF : escF s.data.toList = (0, false) := by unfold escF; rw [if_pos (.inl (by omega))]
    rw [hF]
    clear hF hl
    go_enter Tryz.func81, Tryz.ntmps81
    go_wp2_with fail
    go_ret2
    exact ⟨rfl, 0, rfl⟩
  · have d1 : decide ((s.size : Int) < 4) = false := decide_eq_false (by omega)
    have i1 : (1 : Int) < (s.size : Int) := by omega
    have i2 : (2 : Int) < (s.size : Int) := by omega
    have i3 : (3 : Int) < (s.size : Int) := by omega
    have j1 : 1 < s.size := by omega
    have j2 : 2 < s.size := by omega
    have j3 : 3 < s.size := by omega
    have e1 := bAt_get s 1 j1
    have e2 := bAt_get s 2 j2
    have e3 := bAt_get s 3 j3
    by_cases hx : bAt s.data.toList 1 = 120
    · have d2 : (((s[1].toNat : Nat) : Int) != 120) = false := by rw [e1]; simp [hx]
      obtain ⟨x2, hx2⟩ : ∃ x, bAt s.data.toList 2 = x := ⟨_, rfl⟩
      obtain ⟨x3, hx3⟩ : ∃ x, bAt s.data.toList 3 = x := ⟨_, rfl⟩
      rw [hx2] at e2
      rw [hx3] at e3
      have hb2 := bAt_bd s.data.toList 2
      have hb3 := bAt_bd s.data.toList 3
      rw [hx2] at hb2
      rw [hx3] at hb3
      obtain ⟨v2, hv2⟩ : ∃ v, hv x2 = v := ⟨_, rfl⟩
      obtain ⟨v3, hv3⟩ : ∃ v, hv x3 = v := ⟨_, rfl⟩
      have g2 := hv_ge x2
      have g3 := hv_ge x3
      have l2 := hv_lt x2
      have l3 := hv_lt x3
      rw [hv2] at g2 l2
      rw [hv3] at g3 l3
      have hF : escF s.data.toList = if v2 < 0 ∨ v3 < 0 then (0, false) else (v2 * 16 + v3, !plainI (v2 * 16 + v3)) := by
        unfold escF; rw [if_neg (by rw [hl]; simp only [hx]; omega), hx2, hx3, hv2, hv3]
      replace hF := Lib.hid hF; replace hx2 := Lib.hid hx2; replace hx3 := Lib.hid hx3; replace hl := Lib.hid hl
      clear e1 hx
      go_enter Tryz.func81, Tryz.ntmps81
      go_upto_region 3 with fail
      by_cases n2 : v2 < 0
      · have d3 : decide (v2 < 0) = true := decide_eq_true n2
        have hG : (if v2 < 0 ∨ v3 < 0 then ((0 : Int), false) else (v2 * 16 + v3, !plainI (v2 * 16 + v3))) = (0, false) := if_pos (.inl n2)
        replace hG := Lib.hid hG
        go_region_held3 (fun w' => True) (first | trivial) (first | (go_at_call 109; refine (ib_any _ _).mono ?_; rintro e w' ⟨rfl, rfl⟩))
        all_goals go_wp2_with fail
        all_goals go_ret2
        all_goals exact ⟨by rw [hF.out, hG.out]; (first | rfl | (simp only [hor, hmo]; rfl)), _, rfl⟩
      · have d3 : decide (v2 < 0) = false := decide_eq_false n2
        by_cases n3 : v3 < 0
        · have d4 : decide (v3 < 0) = true := decide_eq_true n3
          have hG : (if v2 < 0 ∨ v3 < 0 then ((0 : Int), false) else (v2 * 16 + v3, !plainI (v2 * 16 + v3))) = (0, false) := if_pos (.inr n3)
          replace hG := Lib.hid hG
          go_region_held3 (fun w' => True) (first | trivial) (first | (go_at_call 109; refine (ib_any _ _).mono ?_; rintro e w' ⟨rfl, rfl⟩))
          all_goals go_wp2_with fail
          all_goals go_ret2
          all_goals exact ⟨by rw [hF.out, hG.out]; (first | rfl | (simp only [hor, hmo]; rfl)), _, rfl⟩
        · have d4 : decide (v3 < 0) = false := decide_eq_false n3
          have hG : (if v2 < 0 ∨ v3 < 0 then ((0 : Int), false) else (v2 * 16 + v3, !plainI (v2 * 16 + v3))) = (v2 * 16 + v3, !plainI (v2 * 16 + v3)) := if_neg (by omega)
          replace hG := Lib.hid hG
          have hor : bits BinOp.or IntKind.i64 (v2 * 16) v3 = v2 * 16 + v3 := or_hex v2 v3 (by omega) l2 (by omega) l3
          have hmo : (v2 * 16 + v3) % 256 = v2 * 16 + v3 := by omega
          go_region_held3 (fun w' => True) (first | trivial) (first | (go_at_call 109; refine (ib_any _ _).mono ?_; rintro e w' ⟨rfl, rfl⟩))
          all_goals (go_wp2_with (go_at_call 80; refine (plain_any _ _).mono ?_; rintro e w' ⟨rfl, rfl⟩))
          all_goals go_ret2
          all_goals exact ⟨by rw [hF.out, hG.out]; (first | rfl | (simp only [hor, hmo]; rfl)), _, rfl⟩
    · have d2 : (((s[1].toNat : Nat) : Int) != 120) = true := by rw [e1]; simp [hx]
      have hF : escF s.data.toList = (0, false) := by unfold escF; rw [if_pos (.inr hx)]
      rw [hF]
      clear hF hl e1 e2 e3 hx
      go_enter Tryz.func81, Tryz.ntmps81
      go_wp2_with fail
      go_ret2
      exact ⟨rfl, 0, rfl⟩
end YtiknookfnameiaaGreatDoor
end Go.Proofs
