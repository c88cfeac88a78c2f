/- The contract of text's escaped. -/
import Derived.Test.YtefbogmgcihndaaDoorTPl
import Derived.Lib.Hide
import Derived.Ground.NamesProg
import Derived.WalkKit
import Derived.Test.YtefbogmgcihndaaDoorLayIB
import Derived.Shelf.Small.Strs
namespace Go.Proofs
open Go.RowKit Go.Shelf
namespace YtefbogmgcihndaaDoor
open WP
def digB : ByteArray := ⟨#[48, 49, 50, 51, 52, 53, 54, 55, 56, 57, 97, 98, 99, 100, 101, 102]⟩
/-- a digit's worth, -1: none -/
def hv (x : Int) : Int := Lib.indexByte digB.data.toList x.toNat.toUInt8
theorem hv_ge (x : Int) : -1 ≤ hv x := Lib.indexByte_ge _ _
theorem ib_any (x : Int) (w : World) : Calls Tryd.prog 72 #[.string ⟨#[48, 49, 50, 51, 52, 53, 54, 55, 56, 57, 97, 98, 99, 100, 101, 102]⟩, .int .u8 x] w fun e w' => e = .returned (.int .i64 (hv x)) ∧ w' = w :=
  Any.strings_IndexByte laysIB _ x w
theorem indexByte_lt (c : UInt8) : ∀ l : List UInt8, Lib.indexByte l c < l.length
  | [] => by simp [Lib.indexByte]
  | b :: l => by
    have ih := indexByte_lt c l
    simp only [Lib.indexByte, List.length_cons]
    split
    · omega
    · split
      · omega
      · omega
theorem hv_lt (x : Int) : hv x < 16 := indexByte_lt _ _
/-- the byte that a text's first four bytes tell, and whether they tell one -/
def escF (l : List UInt8) : Int × Bool :=
  if l.length < 4 ∨ bAt l 1 ≠ 120 then (0, false)
  else if hv (bAt l 2) < 0 ∨ hv (bAt l 3) < 0 then (0, false)
  else (hv (bAt l 2) * 16 + hv (bAt l 3), !plainI (hv (bAt l 2) * 16 + hv (bAt l 3)))
theorem or_hexF : ∀ a b : Fin 16, bits BinOp.or IntKind.i64 ((a.val : Int) * 16) (b.val : Int) = (a.val : Int) * 16 + (b.val : Int) := by decide
theorem or_hex (a b : Int) (ha : 0 ≤ a) (ha' : a < 16) (hb : 0 ≤ b) (hb' : b < 16) : bits BinOp.or IntKind.i64 (a * 16) b = a * 16 + b := by
  have := or_hexF ⟨a.toNat, by omega⟩ ⟨b.toNat, by omega⟩
  simp only [Int.toNat_of_nonneg ha, Int.toNat_of_nonneg hb] at this
  exact this
theorem bAt_get (s : ByteArray) (k : Nat) (h : k < s.size) : (s[k].toNat : Int) = bAt s.data.toList k := by
  unfold bAt
  rw [List.getD_eq_getElem?_getD, Array.getElem?_toList]
  have : s.data[k]? = some s[k] := by
    rw [Array.getElem?_eq_getElem (show k < s.data.size from h)]; rfl
  rw [this]; rfl
theorem size_list (s : ByteArray) : s.data.toList.length = s.size := by rw [Array.length_toList]; rfl
set_option maxRecDepth 100000 in
set_option maxHeartbeats 1000000 in
theorem escaped_any (s : ByteArray) (w : World) (hs : s.size ≤ 9223372036854775807) :
    Calls Tryd.prog 53 #[.string s] w fun e w' => e = .returned (.tuple #[.int .u8 (escF s.data.toList).1, .bool (escF s.data.toList).2]) ∧ ∃ n, w' = w.drewN n := by
  have hl := size_list s
  by_cases h4 : s.size < 4
  · have d1 : decide ((s.size : Int) < 4) = true := decide_eq_true (by omega)
    have hF : escF s.data.toList = (0, false) := by unfold escF; rw [if_pos (.inl (by omega))]
    rw [hF]
    clear hF hl
    go_enter Tryd.func53, Tryd.ntmps53
    go_wp2_with fail
    go_ret2
    exact ⟨rfl, 0, rfl⟩
  · have d1 : decide ((s.size : Int) < 4) = false := decide_eq_false (by omega)
    have i1 : (1 : Int) < (s.size : Int) := by omega
    have i2 : (2 : Int) < (s.size : Int) := by omega
    have i3 : (3 : Int) < (s.size : Int) := by omega
    have j1 : 1 < s.size := by omega
    have j2 : 2 < s.size := by omega
    have j3 : 3 < s.size := by omega
    have e1 := bAt_get s 1 j1
    have e2 := bAt_get s 2 j2
    have e3 := bAt_get s 3 j3
    by_cases hx : bAt s.data.toList 1 = 120
    · have d2 : (((s[1].toNat : Nat) : Int) != 120) = false := by rw [e1]; simp [hx]
      obtain ⟨x2, hx2⟩ : ∃ x, bAt s.data.toList 2 = x := ⟨_, rfl⟩
      obtain ⟨x3, hx3⟩ : ∃ x, bAt s.data.toList 3 = x := ⟨_, rfl⟩
      rw [hx2] at e2
      rw [hx3] at e3
      have hb2 := bAt_bd s.data.toList 2
      have hb3 := bAt_bd s.data.toList 3
      rw [hx2] at hb2
      rw [hx3] at hb3
      obtain ⟨v2, hv2⟩ : ∃ v, hv x2 = v := ⟨_, rfl⟩
      obtain ⟨v3, hv3⟩ : ∃ v, hv x3 = v := ⟨_, rfl⟩
      have g2 := hv_ge x2
      have g3 := hv_ge x3
      have l2 := hv_lt x2
      have l3 := hv_lt x3
      rw [hv2] at g2 l2
      rw [hv3] at g3 l3
      have hF : escF s.data.toList = if v2 < 0 ∨ v3 < 0 then (0, false) else (v2 * 16 + v3, !plainI (v2 * 16 + v3)) := by
        unfold escF; rw [if_neg (by rw [hl]; simp only [hx]; omega), hx2, hx3, hv2, hv3]
      replace hF := Lib.hid hF; replace hx2 := Lib.hid hx2; replace hx3 := Lib.hid hx3; replace hl := Lib.hid hl
      clear e1 hx
      go_enter Tryd.func53, Tryd.ntmps53
      go_upto_region 3 with fail
      by_cases n2 : v2 < 0
      · have d3 : decide (v2 < 0) = true := decide_eq_true n2
        have hG : (if v2 < 0 ∨ v3 < 0 then ((0 : Int), false) else (v2 * 16 + v3, !plainI (v2 * 16 + v3))) = (0, false) := if_pos (.inl n2)
        replace hG := Lib.hid hG
        go_region_held3 (fun w' => True) (first | trivial) (first | (go_at_call 72; refine (ib_any _ _).mono ?_; rintro e w' ⟨rfl, rfl⟩))
        all_goals go_wp2_with fail
        all_goals go_ret2
        all_goals exact ⟨by rw [hF.out, hG.out]; (first | rfl | (simp only [hor, hmo]; rfl)), _, rfl⟩
      · have d3 : decide (v2 < 0) = false := decide_eq_false n2
        by_cases n3 : v3 < 0
        · have d4 : decide (v3 < 0) = true := decide_eq_true n3
          have hG : (if v2 < 0 ∨ v3 < 0 then ((0 : Int), false) else (v2 * 16 + v3, !plainI (v2 * 16 + v3))) = (0, false) := if_pos (.inr n3)
          replace hG := Lib.hid hG
          go_region_held3 (fun w' => True) (first | trivial) (first | (go_at_call 72; refine (ib_any _ _).mono ?_; rintro e w' ⟨rfl, rfl⟩))
          all_goals go_wp2_with fail
          all_goals go_ret2
          all_goals exact ⟨by rw [hF.out, hG.out]; (first | rfl | (simp only [hor, hmo]; rfl)), _, rfl⟩
        · have d4 : decide (v3 < 0) = false := decide_eq_false n3
          have hG : (if v2 < 0 ∨ v3 < 0 then ((0 : Int), false) else (v2 * 16 + v3, !plainI (v2 * 16 + v3))) = (v2 * 16 + v3, !plainI (v2 * 16 + v3)) := if_neg (by omega)
          replace hG := Lib.hid hG
          have hor : bits BinOp.or IntKind.i64 (v2 * 16) v3 = v2 * 16 + v3 := or_hex v2 v3 (by omega) l2 (by omega) l3
          have hmo : (v2 * 16 + v3) % 256 = v2 * 16 + v3 := by omega
          go_region_held3 (fun w' => True) (first | trivial) (first | (go_at_call 72; refine (ib_any _ _).mono ?_; rintro e w' ⟨rfl, rfl⟩))
          all_goals (go_wp2_with (go_at_call 27; refine (plain_any _ _).mono ?_; rintro e w' ⟨rfl, rfl⟩))
          all_goals go_ret2
          all_goals exact ⟨by rw [hF.out, hG.out]; (first | rfl | (simp only [hor, hmo]; rfl)), _, rfl⟩
    · have d2 : (((s[1].toNat : Nat) : Int) != 120) = true := by rw [e1]; simp [hx]
      have hF : escF s.data.toList = (0, false) := by unfold escF; rw [if_pos (.inr hx)]
      rw [hF]
      clear hF hl e1 e2 e3 hx
      go_enter Tryd.func53, Tryd.ntmps53
      go_wp2_with fail
      go_ret2
      exact ⟨rfl, 0, rfl⟩
end YtefbogmgcihndaaDoor
end Go.Proofs
