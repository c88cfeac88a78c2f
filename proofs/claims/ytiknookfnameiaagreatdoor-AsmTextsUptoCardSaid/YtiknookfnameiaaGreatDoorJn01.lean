/- The contracts of the functions of package word that only reckon: mask, Field, SetField, Left, Right, Rotate, Extend, Arith, Add, Div, Less, Overlap. The instructions of chapter 5 as plain functions: the program's (fields in a list, laid one by one) and the document's (a sum); that both tell the same of every word. No program in sight. The contracts of the instructions' tables: is, Shape, Name, CondName. -/
import Derived.Test.YtiknookfnameiaaGreatDoorProg
import Derived.Test.YtiknookfnameiaaGreatDoorJn00
import Derived.WalkKit
import Derived.WalkSpells
import Derived.WalkLawsBesides
import Derived.Lib.Hide
namespace Go.Proofs.YtiknookfnameiaaGreatDoor
open Go.RowKit WP

def fieldI (w lo n : Int) : Int := ((fieldN w.toNat lo.toNat n.toNat : Nat) : Int)
def setI (w lo n v : Int) : Int := ((setN w.toNat lo.toNat n.toNat v.toNat : Nat) : Int)
def maskI (lo n : Int) : Int := ((maskN lo.toNat n.toNat : Nat) : Int)
def rotI (w s : Int) : Int := ((rotN w.toNat s.toNat : Nat) : Int)
def leftI (x n : Int) : Int := x * 2 ^ min n.toNat 32 % 4294967296
def rightI (x n : Int) : Int := x / 2 ^ min n.toNat 32
def arithI (x n : Int) : Int := wrap32 x / 2 ^ min n.toNat 32 % 4294967296
/-- turned to the right -/
def rotR (x n : Int) : Int := rotI x (-n % 32)
def extI (x n : Int) : Int := wrap32 (x * 2 ^ (32 - n).toNat % 4294967296) / 2 ^ (32 - n).toNat


theorem mask_calc (lo n : Int) (h1 : 1 ≤ n) (h2 : n ≤ 32) (h3 : 0 ≤ lo) (h4 : lo + n ≤ 32) :
  IntKind.u64.wrap (IntKind.u64.wrap (IntKind.u64.wrap (2 ^ n.toNat) - 1) * 2 ^ lo.toNat) % 4294967296 = maskI lo n := by
 obtain ⟨n, rfl⟩ := Int.eq_ofNat_of_zero_le (show 0 ≤ n by omega)
 obtain ⟨lo, rfl⟩ := Int.eq_ofNat_of_zero_le h3
 simp only [Int.toNat_natCast, maskI, IntKind.wrap_u64]
 have a1 : (2 : Nat) ^ n ≤ 2 ^ 32 := Nat.pow_le_pow_right (by decide) (by omega)
 have a2 : 1 ≤ (2 : Nat) ^ n := Nat.one_le_two_pow
 have a3 := maskN_lt lo n (by omega)
 unfold maskN at a3 ⊢
 have e1 : ((2 : Int) ^ n) = ((2 ^ n : Nat) : Int) := by simp
 have e2 : ((2 : Int) ^ lo) = ((2 ^ lo : Nat) : Int) := by simp
 rw [e1, e2]
 generalize (2 : Nat) ^ n = p at *
 generalize hq : (2 : Nat) ^ lo = q at *
 have e3 : ((p : Int) % 18446744073709551616 - 1) % 18446744073709551616 = ((p - 1 : Nat) : Int) := by omega
 rw [e3, ← Int.natCast_mul]
 omega

theorem maskI_bounds (lo n : Int) (h1 : 0 ≤ n) (h3 : 0 ≤ lo) (h4 : lo + n ≤ 32) : 0 ≤ maskI lo n ∧ maskI lo n ≤ 4294967295 := by
 have := maskN_lt lo.toNat n.toNat (by omega)
 unfold maskI; omega

theorem mask_yes (lo n : Int) (w : World) (h1 : 1 ≤ n) (h2 : n ≤ 32) (h3 : 0 ≤ lo) (h4 : lo + n ≤ 32) :
  Calls Tryz.prog 75 #[.int .i64 lo, .int .i64 n] w fun e w' => e = .returned (.tuple #[.int .u32 (maskI lo n), .bool true]) ∧ w = w' := by
 have hm := Lib.hid (mask_calc lo n h1 h2 h3 h4)
 go_enter Tryz.func75, Tryz.ntmps75
 go_wp2
 go_ret2
 refine ⟨?_, rfl⟩
 rw [← hm.out]
 rfl

/-- may it be a field? -/
def mayI (lo n : Int) : Prop := 1 ≤ n ∧ n ≤ 32 ∧ 0 ≤ lo ∧ lo ≤ 31 ∧ lo + n ≤ 32

theorem set_calc (x lo n v : Int) (h1 : 0 ≤ x) (h2 : x ≤ 4294967295) (v1 : 0 ≤ v) (v2 : v ≤ 4294967295) (h3 : 1 ≤ n) (h4 : 0 ≤ lo) (h5 : lo + n ≤ 32) :
  bits .or .u32 (bits .andNot .u32 x (maskI lo n)) (bits .and .u32 (v * 2 ^ lo.toNat % 4294967296) (maskI lo n)) = setI x lo n v := by
 have hb := maskI_bounds lo n (by omega) h4 h5
 rw [u32_andNot x _ h1 (by omega) hb.1 (by omega), u32_and _ _ (by omega) (by omega) hb.1 (by omega)]
 have l1 : (maskI lo n).toNat < 4294967296 := by omega
 have l2 : x.toNat < 4294967296 := by omega
 rw [u32_or_nat _ _ (Nat.lt_of_le_of_lt Nat.and_le_left l2) (Nat.lt_of_le_of_lt Nat.and_le_right l1)]
 unfold setI setN
 have e : (v * 2 ^ lo.toNat % 4294967296).toNat = v.toNat * 2 ^ lo.toNat % 4294967296 := by
  obtain ⟨v, rfl⟩ := Int.eq_ofNat_of_zero_le v1
  have e2 : ((2 : Int) ^ lo.toNat) = ((2 ^ lo.toNat : Nat) : Int) := by simp
  rw [e2, ← Int.natCast_mul, Int.toNat_natCast]; omega
 rw [e]; simp [maskI]

theorem set_yes (x lo n v : Int) (w : World) (h1 : 0 ≤ x) (h2 : x ≤ 4294967295) (v1 : 0 ≤ v) (v2 : v ≤ 4294967295) (h3 : 1 ≤ n) (h4 : 0 ≤ lo) (h5 : lo + n ≤ 32) :
  Calls Tryz.prog 49 #[.int .u32 x, .int .i64 lo, .int .i64 n, .int .u32 v] w fun e w' => e = .returned (.int .u32 (setI x lo n v)) ∧ w = w' := by
 have hm := set_calc x lo n v h1 h2 v1 v2 h3 h4 h5
 have h6 : lo ≤ 31 := by omega
 go_enter Tryz.func49, Tryz.ntmps49
 go_wp2_with (go_at_call 75; refine (mask_yes _ _ _ (by omega) (by omega) (by omega) (by omega)).mono ?_; rintro e w' ⟨rfl, rfl⟩)
 go_ret
 exact ⟨rfl, rfl⟩

theorem setI_bd (w lo n v : Int) (h1 : 0 ≤ w) (h2 : w ≤ 4294967295) (h3 : 0 ≤ n) (h4 : 0 ≤ lo) (h : lo + n ≤ 32) : 0 ≤ setI w lo n v ∧ setI w lo n v ≤ 4294967295 := by
 have := setN_lt w.toNat lo.toNat n.toNat v.toNat (by omega) (by omega)
 unfold setI; omega
end Go.Proofs.YtiknookfnameiaaGreatDoor

namespace Go.Proofs
namespace YtiknookfnameiaaGreatDoor
open WP
def shapeT : List (List UInt8) := [[], [97, 117], [97, 117], [97, 98], [97, 98, 99], [97, 98, 99], [97, 98, 99], [97, 98, 99], [97, 98, 99], [97, 98, 99], [97, 98, 99], [97, 98, 99], [97, 98, 99], [97, 98, 99], [97, 98, 115], [97, 98, 115], [97, 98, 115], [97, 98, 99], [97, 98, 99], [97, 98], [97, 115], [107, 111], [111], [97], [117]]
def nameT : List (List UInt8) := [[], [109, 111, 118, 105], [109, 111, 118, 116], [109, 111, 118], [97, 100, 100], [115, 117, 98], [109, 117, 108], [100, 105, 118], [97, 110, 100], [111, 114], [120, 111, 114], [115, 104, 108], [115, 104, 114], [115, 97, 114], [97, 100, 100, 105], [108, 100, 114], [115, 116, 114], [108, 100, 120], [115, 116, 120], [99, 109, 112], [99, 109, 112, 105], [98], [98, 108], [98, 114], [115, 118, 99]]
def condT : List (List UInt8) := [[97, 108], [101, 113], [110, 101], [108, 116], [103, 101], [108, 111], [104, 115]]
def shapeI (op : Int) : List UInt8 := shapeT.getD op.toNat []
def nameI (op : Int) : List UInt8 := nameT.getD op.toNat []
def condI (c : Int) : List UInt8 := if 0 ≤ c then condT.getD c.toNat [] else []
structure Ins where
 (op k a b c imm : Int)
deriving DecidableEq
structure Fld where
 (v lo hi at' bits : Int)
def ins0 : Ins := ⟨0, 0, 0, 0, 0, 0⟩
/-- of one letter: the program's field -/
def fld (i : Ins) (c : UInt8) : Fld :=
 if c = 97 then ⟨i.a, 0, 14, 22, 4⟩ else if c = 98 then ⟨i.b, 0, 14, 18, 4⟩ else if c = 99 then ⟨i.c, 0, 14, 14, 4⟩ else if c = 107 then ⟨i.k, 0, 6, 22, 3⟩ else if c = 117 then ⟨i.imm, 0, 65535, 0, 16⟩ else ⟨i.imm, -32768, 32767, 0, 16⟩
def rest1 (r : Ins) (c : UInt8) : Ins :=
 if c = 97 then { r with a := 0 } else if c = 98 then { r with b := 0 } else if c = 99 then { r with c := 0 } else if c = 107 then { r with k := 0 } else { r with imm := 0 }
def fieldsI (i : Ins) : List Fld := (shapeI i.op).map (fld i)
def restI (i : Ins) : Ins := (shapeI i.op).foldl rest1 { i with op := 0 }
def okFld (f : Fld) : Bool := decide (f.lo ≤ f.v ∧ f.v ≤ f.hi)
def checkI (i : Ins) : Int := if 1 ≤ i.op ∧ i.op < 25 then (if (fieldsI i).all okFld then (if restI i = ins0 then 0 else 51) else 51) else 50
def lay1 (w : Int) (f : Fld) : Int := setI w f.at' f.bits (f.v % 4294967296)
def wordI (i : Ins) : Int := (fieldsI i).foldl lay1 (i.op * 67108864 % 4294967296)
def dec1 (w : Int) (i : Ins) (c : UInt8) : Ins :=
 if c = 97 then { i with a := fieldI w 22 4 } else if c = 98 then { i with b := fieldI w 18 4 } else if c = 99 then { i with c := fieldI w 14 4 } else if c = 107 then { i with k := fieldI w 22 3 } else if c = 117 then { i with imm := fieldI w 0 16 } else { i with imm := extI w 16 }
def readI (w : Int) : Ins := (shapeI (fieldI w 26 6)).foldl (dec1 w) { ins0 with op := fieldI w 26 6 }
def goodI (w : Int) : Bool := decide (checkI (readI w) = 0) && decide (wordI (readI w) = w)
def decI (w : Int) : Ins := if goodI w then readI w else ins0
/-- the document's -/
def hasL (s : List UInt8) (c : UInt8) : Bool := s.any (· == c)
def withinI (used : Bool) (v lo hi : Int) : Bool := if used then decide (lo ≤ v ∧ v ≤ hi) else decide (v = 0)
def immOk (s : List UInt8) (v : Int) : Bool := if hasL s 117 then decide (0 ≤ v ∧ v ≤ 65535) else if hasL s 115 || hasL s 111 then decide (-32768 ≤ v ∧ v ≤ 32767) else decide (v = 0)
def rfine (i : Ins) : Bool := withinI (hasL (shapeI i.op) 97) i.a 0 14 && withinI (hasL (shapeI i.op) 98) i.b 0 14 && withinI (hasL (shapeI i.op) 99) i.c 0 14 && withinI (hasL (shapeI i.op) 107) i.k 0 6 && immOk (shapeI i.op) i.imm
def rcheckI (i : Ins) : Int := if shapeI i.op = [] then 50 else if rfine i then 0 else 51
def rwordI (i : Ins) : Int := (i.op * 67108864 + i.a * 4194304 + i.k * 4194304 + i.b * 262144 + i.c * 16384 + (if i.imm < 0 then i.imm + 65536 else i.imm)) % 4294967296
def rreadI (w : Int) : Ins :=
 let s := shapeI (w / 67108864)
 ⟨w / 67108864, if hasL s 107 then w / 4194304 % 8 else 0, if hasL s 97 then w / 4194304 % 16 else 0, if hasL s 98 then w / 262144 % 16 else 0, if hasL s 99 then w / 16384 % 16 else 0,
  if hasL s 115 || hasL s 111 then (if 32768 ≤ w % 65536 then w % 65536 - 65536 else w % 65536) else if hasL s 117 then w % 65536 else 0⟩
def rgoodI (w : Int) : Bool := decide (rcheckI (rreadI w) = 0) && decide (rwordI (rreadI w) = w)
def rdecI (w : Int) : Ins := if rgoodI w then rreadI w else ins0

theorem setN_parts (w lo n v : Nat) (hw : w < 4294967296) (h : lo + n ≤ 32) :
  setN w lo n v / 2 ^ lo % 2 ^ n = v % 2 ^ n ∧ setN w lo n v % 2 ^ lo = w % 2 ^ lo ∧ setN w lo n v / 2 ^ (lo + n) = w / 2 ^ (lo + n) := by
 have h1 := field_set w lo n v hw h
 have h2 := field_set_lo w lo n v hw h
 have h3 := field_set_hi w lo n v 32 hw h
 have h4 := setN_lt w lo n v hw h
 unfold fieldN at h1 h2 h3
 simp only [Nat.pow_zero, Nat.div_one] at h1 h2
 refine ⟨h1, h2, ?_⟩
 have e1 : setN w lo n v / 2 ^ (lo + n) < 2 ^ 32 := Nat.lt_of_le_of_lt (Nat.div_le_self _ _) h4
 have e2 : w / 2 ^ (lo + n) < 2 ^ 32 := Nat.lt_of_le_of_lt (Nat.div_le_self _ _) hw
 rwa [Nat.mod_eq_of_lt e1, Nat.mod_eq_of_lt e2] at h3
theorem set_a (w v : Int) (h0 : 0 ≤ w) (h1 : w < 4294967296) (v0 : 0 ≤ v) : setI w 22 4 v = w - w / 4194304 % 16 * 4194304 + v % 16 * 4194304 := by
 obtain ⟨w, rfl⟩ := Int.eq_ofNat_of_zero_le h0
 obtain ⟨v, rfl⟩ := Int.eq_ofNat_of_zero_le v0
 have h := setN_parts w 22 4 v (by omega) (by omega)
 have e : setI (w : Int) 22 4 (v : Int) = (setN w 22 4 v : Nat) := rfl
 rw [e]
 generalize setN w 22 4 v = x at *
 simp only [Nat.reducePow, Nat.reduceAdd] at h
 omega
theorem set_b (w v : Int) (h0 : 0 ≤ w) (h1 : w < 4294967296) (v0 : 0 ≤ v) : setI w 18 4 v = w - w / 262144 % 16 * 262144 + v % 16 * 262144 := by
 obtain ⟨w, rfl⟩ := Int.eq_ofNat_of_zero_le h0
 obtain ⟨v, rfl⟩ := Int.eq_ofNat_of_zero_le v0
 have h := setN_parts w 18 4 v (by omega) (by omega)
 have e : setI (w : Int) 18 4 (v : Int) = (setN w 18 4 v : Nat) := rfl
 rw [e]
 generalize setN w 18 4 v = x at *
 simp only [Nat.reducePow, Nat.reduceAdd] at h
 omega
theorem set_c (w v : Int) (h0 : 0 ≤ w) (h1 : w < 4294967296) (v0 : 0 ≤ v) : setI w 14 4 v = w - w / 16384 % 16 * 16384 + v % 16 * 16384 := by
 obtain ⟨w, rfl⟩ := Int.eq_ofNat_of_zero_le h0
 obtain ⟨v, rfl⟩ := Int.eq_ofNat_of_zero_le v0
 have h := setN_parts w 14 4 v (by omega) (by omega)
 have e : setI (w : Int) 14 4 (v : Int) = (setN w 14 4 v : Nat) := rfl
 rw [e]
 generalize setN w 14 4 v = x at *
 simp only [Nat.reducePow, Nat.reduceAdd] at h
 omega
theorem set_k (w v : Int) (h0 : 0 ≤ w) (h1 : w < 4294967296) (v0 : 0 ≤ v) : setI w 22 3 v = w - w / 4194304 % 8 * 4194304 + v % 8 * 4194304 := by
 obtain ⟨w, rfl⟩ := Int.eq_ofNat_of_zero_le h0
 obtain ⟨v, rfl⟩ := Int.eq_ofNat_of_zero_le v0
 have h := setN_parts w 22 3 v (by omega) (by omega)
 have e : setI (w : Int) 22 3 (v : Int) = (setN w 22 3 v : Nat) := rfl
 rw [e]
 generalize setN w 22 3 v = x at *
 simp only [Nat.reducePow, Nat.reduceAdd] at h
 omega
theorem set_i (w v : Int) (h0 : 0 ≤ w) (h1 : w < 4294967296) (v0 : 0 ≤ v) : setI w 0 16 v = w - w % 65536 + v % 65536 := by
 obtain ⟨w, rfl⟩ := Int.eq_ofNat_of_zero_le h0
 obtain ⟨v, rfl⟩ := Int.eq_ofNat_of_zero_le v0
 have h := setN_parts w 0 16 v (by omega) (by omega)
 have e : setI (w : Int) 0 16 (v : Int) = (setN w 0 16 v : Nat) := rfl
 rw [e]
 generalize setN w 0 16 v = x at *
 simp only [Nat.reducePow, Nat.reduceAdd, Nat.div_one] at h
 omega
theorem shape_cases (op : Int) (h0 : 0 ≤ op) (h1 : op < 64) : (shapeI op = [] ∧ ¬ (1 ≤ op ∧ op < 25)) ∨ ((1 ≤ op ∧ op < 25) ∧
  (shapeI op = [97, 117] ∨ shapeI op = [97, 98] ∨ shapeI op = [97, 98, 99] ∨ shapeI op = [97, 98, 115] ∨ shapeI op = [97, 115] ∨ shapeI op = [107, 111] ∨ shapeI op = [111] ∨ shapeI op = [97] ∨ shapeI op = [117])) := by
 obtain ⟨n, rfl⟩ := Int.eq_ofNat_of_zero_le h0
 have hn : n < 64 := by omega
 clear h0 h1
 revert n
 decide +kernel
theorem word_abc (op a b c : Int) (h : 1 ≤ op ∧ op < 25) (ha : 0 ≤ a ∧ a < 16) (hb : 0 ≤ b ∧ b < 16) (hc : 0 ≤ c ∧ c < 16) :
  setI (setI (setI (op * 67108864 % 4294967296) 22 4 (a % 4294967296)) 18 4 (b % 4294967296)) 14 4 (c % 4294967296) = (op * 67108864 + a * 4194304 + b * 262144 + c * 16384) % 4294967296 := by
 rw [set_a _ _ (by omega) (by omega) (by omega)]
 have e1 : op * 67108864 % 4294967296 - op * 67108864 % 4294967296 / 4194304 % 16 * 4194304 + a % 4294967296 % 16 * 4194304 = op * 67108864 + a * 4194304 := by omega
 rw [e1, set_b _ _ (by omega) (by omega) (by omega)]
 have e2 : op * 67108864 + a * 4194304 - (op * 67108864 + a * 4194304) / 262144 % 16 * 262144 + b % 4294967296 % 16 * 262144 = op * 67108864 + a * 4194304 + b * 262144 := by omega
 rw [e2, set_c _ _ (by omega) (by omega) (by omega)]
 omega
theorem word_abs (op a b v : Int) (h : 1 ≤ op ∧ op < 25) (ha : 0 ≤ a ∧ a < 16) (hb : 0 ≤ b ∧ b < 16) (hv : -32768 ≤ v ∧ v ≤ 65535) :
  setI (setI (setI (op * 67108864 % 4294967296) 22 4 (a % 4294967296)) 18 4 (b % 4294967296)) 0 16 (v % 4294967296) = (op * 67108864 + a * 4194304 + b * 262144 + (if v < 0 then v + 65536 else v)) % 4294967296 := by
 rw [set_a _ _ (by omega) (by omega) (by omega)]
 have e1 : op * 67108864 % 4294967296 - op * 67108864 % 4294967296 / 4194304 % 16 * 4194304 + a % 4294967296 % 16 * 4194304 = op * 67108864 + a * 4194304 := by omega
 rw [e1, set_b _ _ (by omega) (by omega) (by omega)]
 have e2 : op * 67108864 + a * 4194304 - (op * 67108864 + a * 4194304) / 262144 % 16 * 262144 + b % 4294967296 % 16 * 262144 = op * 67108864 + a * 4194304 + b * 262144 := by omega
 rw [e2, set_i _ _ (by omega) (by omega) (by omega)]
 split <;> omega
theorem word_ab (op a b : Int) (h : 1 ≤ op ∧ op < 25) (ha : 0 ≤ a ∧ a < 16) (hb : 0 ≤ b ∧ b < 16) :
  setI (setI (op * 67108864 % 4294967296) 22 4 (a % 4294967296)) 18 4 (b % 4294967296) = (op * 67108864 + a * 4194304 + b * 262144) % 4294967296 := by
 rw [set_a _ _ (by omega) (by omega) (by omega)]
 have e1 : op * 67108864 % 4294967296 - op * 67108864 % 4294967296 / 4194304 % 16 * 4194304 + a % 4294967296 % 16 * 4194304 = op * 67108864 + a * 4194304 := by omega
 rw [e1, set_b _ _ (by omega) (by omega) (by omega)]
 omega
theorem word_as (op a v : Int) (h : 1 ≤ op ∧ op < 25) (ha : 0 ≤ a ∧ a < 16) (hv : -32768 ≤ v ∧ v ≤ 65535) :
  setI (setI (op * 67108864 % 4294967296) 22 4 (a % 4294967296)) 0 16 (v % 4294967296) = (op * 67108864 + a * 4194304 + (if v < 0 then v + 65536 else v)) % 4294967296 := by
 rw [set_a _ _ (by omega) (by omega) (by omega)]
 have e1 : op * 67108864 % 4294967296 - op * 67108864 % 4294967296 / 4194304 % 16 * 4194304 + a % 4294967296 % 16 * 4194304 = op * 67108864 + a * 4194304 := by omega
 rw [e1, set_i _ _ (by omega) (by omega) (by omega)]
 split <;> omega
theorem word_ko (op k v : Int) (h : 1 ≤ op ∧ op < 25) (ha : 0 ≤ k ∧ k < 8) (hv : -32768 ≤ v ∧ v ≤ 65535) :
  setI (setI (op * 67108864 % 4294967296) 22 3 (k % 4294967296)) 0 16 (v % 4294967296) = (op * 67108864 + k * 4194304 + (if v < 0 then v + 65536 else v)) % 4294967296 := by
 rw [set_k _ _ (by omega) (by omega) (by omega)]
 have e1 : op * 67108864 % 4294967296 - op * 67108864 % 4294967296 / 4194304 % 8 * 4194304 + k % 4294967296 % 8 * 4194304 = op * 67108864 + k * 4194304 := by omega
 rw [e1, set_i _ _ (by omega) (by omega) (by omega)]
 split <;> omega
theorem word_a (op a : Int) (ha : 0 ≤ a ∧ a < 16) :
  setI (op * 67108864 % 4294967296) 22 4 (a % 4294967296) = (op * 67108864 + a * 4194304) % 4294967296 := by
 rw [set_a _ _ (by omega) (by omega) (by omega)]
 omega
theorem word_o (op v : Int) (hv : -32768 ≤ v ∧ v ≤ 65535) :
  setI (op * 67108864 % 4294967296) 0 16 (v % 4294967296) = (op * 67108864 + (if v < 0 then v + 65536 else v)) % 4294967296 := by
 rw [set_i _ _ (by omega) (by omega) (by omega)]
 split <;> omega
end YtiknookfnameiaaGreatDoor
end Go.Proofs

namespace Go.Proofs
namespace YtiknookfnameiaaGreatDoor
open Go.RowKit WP
/-- a table of strings, each so many cells wide -/
def StrAt (w : World) (g st off : Nat) (L : List (List UInt8)) : Prop := g < w.heap.size ∧ ∀ i, i < L.length → w.cell? ⟨g, i * st + off, none⟩ = some (.string ⟨(L.getD i []).toArray⟩)
theorem StrAt.later {w w' : World} {g st off : Nat} {L : List (List UInt8)} {B : Nat} (h : StrAt w g st off L) (hg : g < B) (hb : Below B w w') : StrAt w' g st off L :=
 ⟨Nat.lt_of_lt_of_le h.1 hb.size, fun i hi => (hb.cell (p := ⟨g, i * st + off, none⟩) hg).trans (h.2 i hi)⟩
/-- the program's two tables -/
structure Tabs (w : World) : Prop where
 names : StrAt w 2 2 0 nameT
 shapes : StrAt w 2 2 1 shapeT
 conds : StrAt w 0 1 0 condT
theorem Tabs.later {w w' : World} (h : Tabs w) (hb : Below w.heap.size w w') : Tabs w' :=
 ⟨h.names.later h.names.1 hb, h.shapes.later h.shapes.1 hb, h.conds.later h.conds.1 hb⟩
def strS (l : List UInt8) : ByteArray := ⟨l.toArray⟩
theorem is_any (op : Int) (w : World) :
  Calls Tryz.prog 74 #[.int .i64 op] w fun e w' => e = .returned (.bool (decide (1 ≤ op ∧ op < 25))) ∧ w' = w := by
 by_cases h1 : 1 ≤ op
 ·by_cases h2 : op < 25
  ·rw [decide_eq_true (⟨h1, h2⟩ : 1 ≤ op ∧ op < 25)]
   have d1 : decide (1 ≤ op) = true := decide_eq_true h1
   have d2 : decide (op < 25) = true := decide_eq_true h2
   go_enter Tryz.func74, Tryz.ntmps74
   go_wp2; go_ret; exact ⟨rfl, rfl⟩
  ·rw [decide_eq_false (fun h => h2 h.2 : ¬ (1 ≤ op ∧ op < 25))]
   have d1 : decide (1 ≤ op) = true := decide_eq_true h1
   have d2 : decide (op < 25) = false := decide_eq_false h2
   go_enter Tryz.func74, Tryz.ntmps74
   go_wp2; go_ret; exact ⟨rfl, rfl⟩
 ·rw [decide_eq_false (fun h => h1 h.1 : ¬ (1 ≤ op ∧ op < 25))]
  have d1 : decide (1 ≤ op) = false := decide_eq_false h1
  go_enter Tryz.func74, Tryz.ntmps74
  go_wp2; go_ret; exact ⟨rfl, rfl⟩
theorem off_range (op : Int) (h : ¬ (1 ≤ op ∧ op < 25)) : shapeI op = [] ∧ nameI op = [] := by
 by_cases h1 : 1 ≤ op
 ·have : 25 ≤ op.toNat := by omega
  constructor
  ·unfold shapeI; rw [List.getD_eq_getElem?_getD, List.getElem?_eq_none (by show 25 ≤ _; exact this)]; rfl
  ·unfold nameI; rw [List.getD_eq_getElem?_getD, List.getElem?_eq_none (by show 25 ≤ _; exact this)]; rfl
 ·have : op.toNat = 0 := by omega
  unfold shapeI nameI
  rw [this]; exact ⟨rfl, rfl⟩
set_option maxRecDepth 100000 in
theorem shape_any (op : Int) (w : World) (hT : Tabs w) :
  Calls Tryz.prog 51 #[.int .i64 op] w fun e w' => e = .returned (.string (strS (shapeI op))) ∧ w' = w := by
 by_cases h : 1 ≤ op ∧ op < 25
 ·obtain ⟨n, rfl⟩ := Int.eq_ofNat_of_zero_le (show 0 ≤ op by omega)
  have hc := hT.shapes.2 n (by show n < 25; omega)
  have hn : n < 25 := by omega
  have e : (⟨(shapeT.getD n []).toArray⟩ : ByteArray) = strS (shapeI n) := rfl
  rw [e] at hc
  generalize strS (shapeI n) = S at *
  have hd : decide (1 ≤ (n : Int) ∧ (n : Int) < 25) = true := decide_eq_true h
  clear h hT e
  go_enter Tryz.func51, Tryz.ntmps51
  go_wp2_with (go_at_call 74; refine (is_any _ _).mono ?_; rintro e w' ⟨rfl, rfl⟩; rw [hd])
  go_ret; exact ⟨rfl, rfl⟩
 ·have hs := (off_range op h).1
  rw [hs]
  have hd : decide (1 ≤ op ∧ op < 25) = false := decide_eq_false h
  clear h hT hs
  go_enter Tryz.func51, Tryz.ntmps51
  go_wp2_with (go_at_call 74; refine (is_any _ _).mono ?_; rintro e w' ⟨rfl, rfl⟩; rw [hd])
  go_ret; exact ⟨rfl, rfl⟩
end YtiknookfnameiaaGreatDoor
end Go.Proofs
