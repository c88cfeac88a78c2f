/- The instructions of chapter 5 as plain functions: the program's (fields in a list, laid one by one) and the document's (a sum); that both tell the same of every word. No program in sight. The contracts of the instructions' tables: is, Shape, Name, CondName. -/
import Derived.Test.YtiknookfnameiaaGreatDoorJn00
import Derived.Test.YtiknookfnameiaaGreatDoorIsaWJn
namespace Go.Proofs
namespace YtiknookfnameiaaGreatDoor
open WP
def shapeT : List (List UInt8) := [[], [97, 117], [97, 117], [97, 98], [97, 98, 99], [97, 98, 99], [97, 98, 99], [97, 98, 99], [97, 98, 99], [97, 98, 99], [97, 98, 99], [97, 98, 99], [97, 98, 99], [97, 98, 99], [97, 98, 115], [97, 98, 115], [97, 98, 115], [97, 98, 99], [97, 98, 99], [97, 98], [97, 115], [107, 111], [111], [97], [117]]
def nameT : List (List UInt8) := [[], [109, 111, 118, 105], [109, 111, 118, 116], [109, 111, 118], [97, 100, 100], [115, 117, 98], [109, 117, 108], [100, 105, 118], [97, 110, 100], [111, 114], [120, 111, 114], [115, 104, 108], [115, 104, 114], [115, 97, 114], [97, 100, 100, 105], [108, 100, 114], [115, 116, 114], [108, 100, 120], [115, 116, 120], [99, 109, 112], [99, 109, 112, 105], [98], [98, 108], [98, 114], [115, 118, 99]]
def condT : List (List UInt8) := [[97, 108], [101, 113], [110, 101], [108, 116], [103, 101], [108, 111], [104, 115]]
def shapeI (op : Int) : List UInt8 := shapeT.getD op.toNat []
def nameI (op : Int) : List UInt8 := nameT.getD op.toNat []
def condI (c : Int) : List UInt8 := if 0 ≤ c then condT.getD c.toNat [] else []
structure Ins where
  (op k a b c imm : Int)
deriving DecidableEq
structure Fld where
  (v lo hi at' bits : Int)
def ins0 : Ins := ⟨0, 0, 0, 0, 0, 0⟩
/-- of one letter: the program's field -/
def fld (i : Ins) (c : UInt8) : Fld :=
  if c = 97 then ⟨i.a, 0, 14, 22, 4⟩ else if c = 98 then ⟨i.b, 0, 14, 18, 4⟩ else if c = 99 then ⟨i.c, 0, 14, 14, 4⟩ else if c = 107 then ⟨i.k, 0, 6, 22, 3⟩ else if c = 117 then ⟨i.imm, 0, 65535, 0, 16⟩ else ⟨i.imm, -32768, 32767, 0, 16⟩
def rest1 (r : Ins) (c : UInt8) : Ins :=
  if c = 97 then { r with a := 0 } else if c = 98 then { r with b := 0 } else if c = 99 then { r with c := 0 } else if c = 107 then { r with k := 0 } else { r with imm := 0 }
def fieldsI (i : Ins) : List Fld := (shapeI i.op).map (fld i)
def restI (i : Ins) : Ins := (shapeI i.op).foldl rest1 { i with op := 0 }
def okFld (f : Fld) : Bool := decide (f.lo ≤ f.v ∧ f.v ≤ f.hi)
def checkI (i : Ins) : Int := if 1 ≤ i.op ∧ i.op < 25 then (if (fieldsI i).all okFld then (if restI i = ins0 then 0 else 51) else 51) else 50
def lay1 (w : Int) (f : Fld) : Int := setI w f.at' f.bits (f.v % 4294967296)
def wordI (i : Ins) : Int := (fieldsI i).foldl lay1 (i.op * 67108864 % 4294967296)
def dec1 (w : Int) (i : Ins) (c : UInt8) : Ins :=
  if c = 97 then { i with a := fieldI w 22 4 } else if c = 98 then { i with b := fieldI w 18 4 } else if c = 99 then { i with c := fieldI w 14 4 } else if c = 107 then { i with k := fieldI w 22 3 } else if c = 117 then { i with imm := fieldI w 0 16 } else { i with imm := extI w 16 }
def readI (w : Int) : Ins := (shapeI (fieldI w 26 6)).foldl (dec1 w) { ins0 with op := fieldI w 26 6 }
def goodI (w : Int) : Bool := decide (checkI (readI w) = 0) && decide (wordI (readI w) = w)
def decI (w : Int) : Ins := if goodI w then readI w else ins0
/-- the document's -/
def hasL (s : List UInt8) (c : UInt8) : Bool := s.any (· == c)
def withinI (used : Bool) (v lo hi : Int) : Bool := if used then decide (lo ≤ v ∧ v ≤ hi) else decide (v = 0)
def immOk (s : List UInt8) (v : Int) : Bool := if hasL s 117 then decide (0 ≤ v ∧ v ≤ 65535) else if hasL s 115 || hasL s 111 then decide (-32768 ≤ v ∧ v ≤ 32767) else decide (v = 0)
def rfine (i : Ins) : Bool := withinI (hasL (shapeI i.op) 97) i.a 0 14 && withinI (hasL (shapeI i.op) 98) i.b 0 14 && withinI (hasL (shapeI i.op) 99) i.c 0 14 && withinI (hasL (shapeI i.op) 107) i.k 0 6 && immOk (shapeI i.op) i.imm
def rcheckI (i : Ins) : Int := if shapeI i.op = [] then 50 else if rfine i then 0 else 51
def rwordI (i : Ins) : Int := (i.op * 67108864 + i.a * 4194304 + i.k * 4194304 + i.b * 262144 + i.c * 16384 + (if i.imm < 0 then i.imm + 65536 else i.imm)) % 4294967296
def rreadI (w : Int) : Ins :=
  let s := shapeI (w / 67108864)
  ⟨w / 67108864, if hasL s 107 then w / 4194304 % 8 else 0, if hasL s 97 then w / 4194304 % 16 else 0, if hasL s 98 then w / 262144 % 16 else 0, if hasL s 99 then w / 16384 % 16 else 0,
    if hasL s 115 || hasL s 111 then (if 32768 ≤ w % 65536 then w % 65536 - 65536 else w % 65536) else if hasL s 117 then w % 65536 else 0⟩
def rgoodI (w : Int) : Bool := decide (rcheckI (rreadI w) = 0) && decide (rwordI (rreadI w) = w)
def rdecI (w : Int) : Ins := if rgoodI w then rreadI w else ins0

theorem setN_parts (w lo n v : Nat) (hw : w < 4294967296) (h : lo + n ≤ 32) :
    setN w lo n v / 2 ^ lo % 2 ^ n = v % 2 ^ n ∧ setN w lo n v % 2 ^ lo = w % 2 ^ lo ∧ setN w lo n v / 2 ^ (lo + n) = w / 2 ^ (lo + n) := by
  have h1 := field_set w lo n v hw h
  have h2 := field_set_lo w lo n v hw h
  have h3 := field_set_hi w lo n v 32 hw h
  have h4 := setN_lt w lo n v hw h
  unfold fieldN at h1 h2 h3
  simp only [Nat.pow_zero, Nat.div_one] at h1 h2
  refine ⟨h1, h2, ?_⟩
  have e1 : setN w lo n v / 2 ^ (lo + n) < 2 ^ 32 := Nat.lt_of_le_of_lt (Nat.div_le_self _ _) h4
  have e2 : w / 2 ^ (lo + n) < 2 ^ 32 := Nat.lt_of_le_of_lt (Nat.div_le_self _ _) hw
  rwa [Nat.mod_eq_of_lt e1, Nat.mod_eq_of_lt e2] at h3
theorem set_a (w v : Int) (h0 : 0 ≤ w) (h1 : w < 4294967296) (v0 : 0 ≤ v) : setI w 22 4 v = w - w / 4194304 % 16 * 4194304 + v % 16 * 4194304 := by
  obtain ⟨w, rfl⟩ := Int.eq_ofNat_of_zero_le h0
  obtain ⟨v, rfl⟩ := Int.eq_ofNat_of_zero_le v0
  have h := setN_parts w 22 4 v (by omega) (by omega)
  have e : setI (w : Int) 22 4 (v : Int) = (setN w 22 4 v : Nat) := rfl
  rw [e]
  generalize setN w 22 4 v = x at *
  simp only [Nat.reducePow, Nat.reduceAdd] at h
  omega
theorem set_b (w v : Int) (h0 : 0 ≤ w) (h1 : w < 4294967296) (v0 : 0 ≤ v) : setI w 18 4 v = w - w / 262144 % 16 * 262144 + v % 16 * 262144 := by
  obtain ⟨w, rfl⟩ := Int.eq_ofNat_of_zero_le h0
  obtain ⟨v, rfl⟩ := Int.eq_ofNat_of_zero_le v0
  have h := setN_parts w 18 4 v (by omega) (by omega)
  have e : setI (w : Int) 18 4 (v : Int) = (setN w 18 4 v : Nat) := rfl
  rw [e]
  generalize setN w 18 4 v = x at *
  simp only [Nat.reducePow, Nat.reduceAdd] at h
  omega
theorem set_c (w v : Int) (h0 : 0 ≤ w) (h1 : w < 4294967296) (v0 : 0 ≤ v) : setI w 14 4 v = w - w / 16384 % 16 * 16384 + v % 16 * 16384 := by
  obtain ⟨w, rfl⟩ := Int.eq_ofNat_of_zero_le h0
  obtain ⟨v, rfl⟩ := Int.eq_ofNat_of_zero_le v0
  have h := setN_parts w 14 4 v (by omega) (by omega)
  have e : setI (w : Int) 14 4 (v : Int) = (setN w 14 4 v : Nat) := rfl
  rw [e]
  generalize setN w 14 4 v = x at *
  simp only [Nat.reducePow, Nat.reduceAdd] at h
  omega
theorem set_k (w v : Int) (h0 : 0 ≤ w) (h1 : w < 4294967296) (v0 : 0 ≤ v) : setI w 22 3 v = w - w / 4194304 % 8 * 4194304 + v % 8 * 4194304 := by
  obtain ⟨w, rfl⟩ := Int.eq_ofNat_of_zero_le h0
  obtain ⟨v, rfl⟩ := Int.eq_ofNat_of_zero_le v0
  have h := setN_parts w 22 3 v (by omega) (by omega)
  have e : setI (w : Int) 22 3 (v : Int) = (setN w 22 3 v : Nat) := rfl
  rw [e]
  generalize setN w 22 3 v = x at *
  simp only [Nat.reducePow, Nat.reduceAdd] at h
  omega
theorem set_i (w v : Int) (h0 : 0 ≤ w) (h1 : w < 4294967296) (v0 : 0 ≤ v) : setI w 0 16 v = w - w % 65536 + v % 65536 := by
  obtain ⟨w, rfl⟩ := Int.eq_ofNat_of_zero_le h0
  obtain ⟨v, rfl⟩ := Int.eq_ofNat_of_zero_le v0
  have h := setN_parts w 0 16 v (by omega) (by omega)
  have e : setI (w : Int) 0 16 (v : Int) = (setN w 0 16 v : Nat) := rfl
  rw [e]
  generalize setN w 0 16 v = x at *
  simp only [Nat.reducePow, Nat.reduceAdd, Nat.div_one] at h
  omega
theorem fld_at (w : Int) (h0 : 0 ≤ w) : fieldI w 22 4 = w / 4194304 % 16 ∧ fieldI w 18 4 = w / 262144 % 16 ∧ fieldI w 14 4 = w / 16384 % 16 ∧ fieldI w 22 3 = w / 4194304 % 8 ∧ fieldI w 0 16 = w % 65536 := by
  obtain ⟨w, rfl⟩ := Int.eq_ofNat_of_zero_le h0
  refine ⟨?_, ?_, ?_, ?_, ?_⟩ <;> (unfold fieldI fieldN; simp)
theorem fld_op (w : Int) (h0 : 0 ≤ w) (h1 : w < 4294967296) : fieldI w 26 6 = w / 67108864 := by
  obtain ⟨w, rfl⟩ := Int.eq_ofNat_of_zero_le h0
  unfold fieldI fieldN
  simp
  omega
theorem ext_16 (w : Int) (h0 : 0 ≤ w) (h1 : w < 4294967296) : extI w 16 = if 32768 ≤ w % 65536 then w % 65536 - 65536 else w % 65536 := by
  obtain ⟨b, hb, _, he, _, hx, hy, _⟩ := ext_val w 16 h0 (by omega) (by omega) (by omega)
  rw [(fld_at w h0).2.2.2.2] at he hx hy
  rw [he]
  have e1 : (2 : Int) ^ (16 : Int).toNat = 65536 := rfl
  have e2 : (2 : Int) ^ ((16 : Int) - 1).toNat = 32768 := rfl
  rw [e1]
  rw [e2] at hx hy
  rcases hb with rfl | rfl
  · have := hx rfl
    rw [if_neg (by omega)]; omega
  · have := hy rfl
    rw [if_pos (by omega)]; omega
theorem shape_cases (op : Int) (h0 : 0 ≤ op) (h1 : op < 64) : (shapeI op = [] ∧ ¬ (1 ≤ op ∧ op < 25)) ∨ ((1 ≤ op ∧ op < 25) ∧
    (shapeI op = [97, 117] ∨ shapeI op = [97, 98] ∨ shapeI op = [97, 98, 99] ∨ shapeI op = [97, 98, 115] ∨ shapeI op = [97, 115] ∨ shapeI op = [107, 111] ∨ shapeI op = [111] ∨ shapeI op = [97] ∨ shapeI op = [117])) := by
  obtain ⟨n, rfl⟩ := Int.eq_ofNat_of_zero_le h0
  have hn : n < 64 := by omega
  clear h0 h1
  revert n
  decide +kernel
theorem read_eq (w : Int) (h0 : 0 ≤ w) (h1 : w < 4294967296) : readI w = rreadI w := by
  obtain ⟨fa, fb, fc, fk, fi⟩ := fld_at w h0
  have fo := fld_op w h0 h1
  have fe := ext_16 w h0 h1
  unfold readI rreadI
  rw [fo]
  generalize hop : w / 67108864 = op
  rcases shape_cases op (by omega) (by omega) with ⟨hs, _⟩ | ⟨_, hs | hs | hs | hs | hs | hs | hs | hs | hs⟩ <;> rw [hs] <;> simp [dec1, hasL, ins0, fa, fb, fc, fk, fi, fe]
theorem word_abc (op a b c : Int) (h : 1 ≤ op ∧ op < 25) (ha : 0 ≤ a ∧ a < 16) (hb : 0 ≤ b ∧ b < 16) (hc : 0 ≤ c ∧ c < 16) :
    setI (setI (setI (op * 67108864 % 4294967296) 22 4 (a % 4294967296)) 18 4 (b % 4294967296)) 14 4 (c % 4294967296) = (op * 67108864 + a * 4194304 + b * 262144 + c * 16384) % 4294967296 := by
  rw [set_a _ _ (by omega) (by omega) (by omega)]
  have e1 : op * 67108864 % 4294967296 - op * 67108864 % 4294967296 / 4194304 % 16 * 4194304 + a % 4294967296 % 16 * 4194304 = op * 67108864 + a * 4194304 := by omega
  rw [e1, set_b _ _ (by omega) (by omega) (by omega)]
  have e2 : op * 67108864 + a * 4194304 - (op * 67108864 + a * 4194304) / 262144 % 16 * 262144 + b % 4294967296 % 16 * 262144 = op * 67108864 + a * 4194304 + b * 262144 := by omega
  rw [e2, set_c _ _ (by omega) (by omega) (by omega)]
  omega
theorem word_abs (op a b v : Int) (h : 1 ≤ op ∧ op < 25) (ha : 0 ≤ a ∧ a < 16) (hb : 0 ≤ b ∧ b < 16) (hv : -32768 ≤ v ∧ v ≤ 65535) :
    setI (setI (setI (op * 67108864 % 4294967296) 22 4 (a % 4294967296)) 18 4 (b % 4294967296)) 0 16 (v % 4294967296) = (op * 67108864 + a * 4194304 + b * 262144 + (if v < 0 then v + 65536 else v)) % 4294967296 := by
  rw [set_a _ _ (by omega) (by omega) (by omega)]
  have e1 : op * 67108864 % 4294967296 - op * 67108864 % 4294967296 / 4194304 % 16 * 4194304 + a % 4294967296 % 16 * 4194304 = op * 67108864 + a * 4194304 := by omega
  rw [e1, set_b _ _ (by omega) (by omega) (by omega)]
  have e2 : op * 67108864 + a * 4194304 - (op * 67108864 + a * 4194304) / 262144 % 16 * 262144 + b % 4294967296 % 16 * 262144 = op * 67108864 + a * 4194304 + b * 262144 := by omega
  rw [e2, set_i _ _ (by omega) (by omega) (by omega)]
  split <;> omega
theorem word_ab (op a b : Int) (h : 1 ≤ op ∧ op < 25) (ha : 0 ≤ a ∧ a < 16) (hb : 0 ≤ b ∧ b < 16) :
    setI (setI (op * 67108864 % 4294967296) 22 4 (a % 4294967296)) 18 4 (b % 4294967296) = (op * 67108864 + a * 4194304 + b * 262144) % 4294967296 := by
  rw [set_a _ _ (by omega) (by omega) (by omega)]
  have e1 : op * 67108864 % 4294967296 - op * 67108864 % 4294967296 / 4194304 % 16 * 4194304 + a % 4294967296 % 16 * 4194304 = op * 67108864 + a * 4194304 := by omega
  rw [e1, set_b _ _ (by omega) (by omega) (by omega)]
  omega
theorem word_as (op a v : Int) (h : 1 ≤ op ∧ op < 25) (ha : 0 ≤ a ∧ a < 16) (hv : -32768 ≤ v ∧ v ≤ 65535) :
    setI (setI (op * 67108864 % 4294967296) 22 4 (a % 4294967296)) 0 16 (v % 4294967296) = (op * 67108864 + a * 4194304 + (if v < 0 then v + 65536 else v)) % 4294967296 := by
  rw [set_a _ _ (by omega) (by omega) (by omega)]
  have e1 : op * 67108864 % 4294967296 - op * 67108864 % 4294967296 / 4194304 % 16 * 4194304 + a % 4294967296 % 16 * 4194304 = op * 67108864 + a * 4194304 := by omega
  rw [e1, set_i _ _ (by omega) (by omega) (by omega)]
  split <;> omega
theorem word_ko (op k v : Int) (h : 1 ≤ op ∧ op < 25) (ha : 0 ≤ k ∧ k < 8) (hv : -32768 ≤ v ∧ v ≤ 65535) :
    setI (setI (op * 67108864 % 4294967296) 22 3 (k % 4294967296)) 0 16 (v % 4294967296) = (op * 67108864 + k * 4194304 + (if v < 0 then v + 65536 else v)) % 4294967296 := by
  rw [set_k _ _ (by omega) (by omega) (by omega)]
  have e1 : op * 67108864 % 4294967296 - op * 67108864 % 4294967296 / 4194304 % 8 * 4194304 + k % 4294967296 % 8 * 4194304 = op * 67108864 + k * 4194304 := by omega
  rw [e1, set_i _ _ (by omega) (by omega) (by omega)]
  split <;> omega
theorem word_a (op a : Int) (ha : 0 ≤ a ∧ a < 16) :
    setI (op * 67108864 % 4294967296) 22 4 (a % 4294967296) = (op * 67108864 + a * 4194304) % 4294967296 := by
  rw [set_a _ _ (by omega) (by omega) (by omega)]
  omega
theorem word_o (op v : Int) (hv : -32768 ≤ v ∧ v ≤ 65535) :
    setI (op * 67108864 % 4294967296) 0 16 (v % 4294967296) = (op * 67108864 + (if v < 0 then v + 65536 else v)) % 4294967296 := by
  rw [set_i _ _ (by omega) (by omega) (by omega)]
  split <;> omega
theorem word_eq (w : Int) (hy : 1 ≤ w / 67108864 ∧ w / 67108864 < 25) : wordI (rreadI w) = rwordI (rreadI w) := by
  have hop : (rreadI w).op = w / 67108864 := rfl
  have hs := shape_cases (w / 67108864) (by omega) (by omega)
  have ba : 0 ≤ w / 4194304 % 16 ∧ w / 4194304 % 16 < 16 := by omega
  have bb : 0 ≤ w / 262144 % 16 ∧ w / 262144 % 16 < 16 := by omega
  have bc : 0 ≤ w / 16384 % 16 ∧ w / 16384 % 16 < 16 := by omega
  have bk : 0 ≤ w / 4194304 % 8 ∧ w / 4194304 % 8 < 8 := by omega
  have bu : -32768 ≤ w % 65536 ∧ w % 65536 ≤ 65535 := by omega
  have bv : -32768 ≤ (if 32768 ≤ w % 65536 then w % 65536 - 65536 else w % 65536) ∧ (if 32768 ≤ w % 65536 then w % 65536 - 65536 else w % 65536) ≤ 65535 := by split <;> omega
  unfold wordI fieldsI rwordI
  rw [hop]
  unfold rreadI
  rcases hs with ⟨_, hn⟩ | ⟨_, hs⟩
  · exact absurd hy hn
  generalize (if 32768 ≤ w % 65536 then w % 65536 - 65536 else w % 65536) = sv at *
  generalize w / 4194304 % 16 = a at *
  generalize w / 262144 % 16 = b at *
  generalize w / 16384 % 16 = c at *
  generalize w / 4194304 % 8 = k at *
  generalize w % 65536 = u at *
  generalize w / 67108864 = op at *
  clear hop
  rcases hs with hs | hs | hs | hs | hs | hs | hs | hs | hs <;> rw [hs] <;> simp [hasL, fld, lay1]
  · exact word_as op a u hy ba bu
  · exact word_ab op a b hy ba bb
  · exact word_abc op a b c hy ba bb bc
  · exact word_abs op a b sv hy ba bb bv
  · exact word_as op a sv hy ba bv
  · exact word_ko op k sv hy bk bv
  · exact word_o op sv bv
  · exact word_a op a ba
  · exact word_o op u bu
set_option maxHeartbeats 4000000 in
theorem good_eq (w : Int) (h0 : 0 ≤ w) (h1 : w < 4294967296) : goodI w = rgoodI w := by
  unfold goodI rgoodI
  rw [read_eq w h0 h1]
  have hop : (rreadI w).op = w / 67108864 := rfl
  rcases shape_cases (w / 67108864) (by omega) (by omega) with ⟨hs, hn⟩ | ⟨hy, hs⟩
  · have e1 : checkI (rreadI w) = 50 := by unfold checkI; rw [hop, if_neg hn]
    have e2 : rcheckI (rreadI w) = 50 := by unfold rcheckI; rw [hop, if_pos hs]
    rw [e1, e2]; rfl
  · rcases hs with hs | hs | hs | hs | hs | hs | hs | hs | hs
    all_goals
      have e0 : checkI (rreadI w) = rcheckI (rreadI w) := by
        unfold checkI rcheckI rfine restI fieldsI
        rw [hop, hs, if_pos hy]
        simp [rreadI, hs, hasL, fld, okFld, withinI, immOk, rest1, ins0]
        try (congr 1; simp; done)
        try omega
      rw [e0]
      by_cases hc : rcheckI (rreadI w) = 0
      · rw [word_eq w hy]
      · simp [hc]
theorem dec_eq (w : Int) (h0 : 0 ≤ w) (h1 : w < 4294967296) : decI w = rdecI w := by
  unfold decI rdecI
  rw [good_eq w h0 h1, read_eq w h0 h1]
end YtiknookfnameiaaGreatDoor
end Go.Proofs

namespace Go.Proofs
namespace YtiknookfnameiaaGreatDoor
open Go.RowKit WP
/-- a table of strings, each so many cells wide -/
def StrAt (w : World) (g st off : Nat) (L : List (List UInt8)) : Prop := g < w.heap.size ∧ ∀ i, i < L.length → w.cell? ⟨g, i * st + off, none⟩ = some (.string ⟨(L.getD i []).toArray⟩)
theorem StrAt.later {w w' : World} {g st off : Nat} {L : List (List UInt8)} {B : Nat} (h : StrAt w g st off L) (hg : g < B) (hb : Below B w w') : StrAt w' g st off L :=
  ⟨Nat.lt_of_lt_of_le h.1 hb.size, fun i hi => (hb.cell (p := ⟨g, i * st + off, none⟩) hg).trans (h.2 i hi)⟩
/-- the program's two tables -/
structure Tabs (w : World) : Prop where
  names : StrAt w 2 2 0 nameT
  shapes : StrAt w 2 2 1 shapeT
  conds : StrAt w 0 1 0 condT
theorem Tabs.later {w w' : World} (h : Tabs w) (hb : Below w.heap.size w w') : Tabs w' :=
  ⟨h.names.later h.names.1 hb, h.shapes.later h.shapes.1 hb, h.conds.later h.conds.1 hb⟩
def strS (l : List UInt8) : ByteArray := ⟨l.toArray⟩
theorem is_any (op : Int) (w : World) :
    Calls Tryz.prog 74 #[.int .i64 op] w fun e w' => e = .returned (.bool (decide (1 ≤ op ∧ op < 25))) ∧ w' = w := by
  by_cases h1 : 1 ≤ op
  · by_cases h2 : op < 25
    · rw [decide_eq_true (⟨h1, h2⟩ : 1 ≤ op ∧ op < 25)]
      have d1 : decide (1 ≤ op) = true := decide_eq_true h1
      have d2 : decide (op < 25) = true := decide_eq_true h2
      go_enter Tryz.func74, Tryz.ntmps74
      go_wp2; go_ret; exact ⟨rfl, rfl⟩
    · rw [decide_eq_false (fun h => h2 h.2 : ¬ (1 ≤ op ∧ op < 25))]
      have d1 : decide (1 ≤ op) = true := decide_eq_true h1
      have d2 : decide (op < 25) = false := decide_eq_false h2
      go_enter Tryz.func74, Tryz.ntmps74
      go_wp2; go_ret; exact ⟨rfl, rfl⟩
  · rw [decide_eq_false (fun h => h1 h.1 : ¬ (1 ≤ op ∧ op < 25))]
    have d1 : decide (1 ≤ op) = false := decide_eq_false h1
    go_enter Tryz.func74, Tryz.ntmps74
    go_wp2; go_ret; exact ⟨rfl, rfl⟩
theorem off_range (op : Int) (h : ¬ (1 ≤ op ∧ op < 25)) : shapeI op = [] ∧ nameI op = [] := by
  by_cases h1 : 1 ≤ op
  · have : 25 ≤ op.toNat := by omega
    constructor
    · unfold shapeI; rw [List.getD_eq_getElem?_getD, List.getElem?_eq_none (by show 25 ≤ _; exact this)]; rfl
    · unfold nameI; rw [List.getD_eq_getElem?_getD, List.getElem?_eq_none (by show 25 ≤ _; exact this)]; rfl
  · have : op.toNat = 0 := by omega
    unfold shapeI nameI
    rw [this]; exact ⟨rfl, rfl⟩
set_option maxRecDepth 100000 in
theorem shape_any (op : Int) (w : World) (hT : Tabs w) :
    Calls Tryz.prog 51 #[.int .i64 op] w fun e w' => e = .returned (.string (strS (shapeI op))) ∧ w' = w := by
  by_cases h : 1 ≤ op ∧ op < 25
  · obtain ⟨n, rfl⟩ := Int.eq_ofNat_of_zero_le (show 0 ≤ op by omega)
    have hc := hT.shapes.2 n (by show n < 25; omega)
    have hn : n < 25 := by omega
    have e : (⟨(shapeT.getD n []).toArray⟩ : ByteArray) = strS (shapeI n) := rfl
    rw [e] at hc
    generalize strS (shapeI n) = S at *
    have hd : decide (1 ≤ (n : Int) ∧ (n : Int) < 25) = true := decide_eq_true h
    clear h hT e
    go_enter Tryz.func51, Tryz.ntmps51
    go_wp2_with (go_at_call 74; refine (is_any _ _).mono ?_; rintro e w' ⟨rfl, rfl⟩; rw [hd])
    go_ret; exact ⟨rfl, rfl⟩
  · have hs := (off_range op h).1
    rw [hs]
    have hd : decide (1 ≤ op ∧ op < 25) = false := decide_eq_false h
    clear h hT hs
    go_enter Tryz.func51, Tryz.ntmps51
    go_wp2_with (go_at_call 74; refine (is_any _ _).mono ?_; rintro e w' ⟨rfl, rfl⟩; rw [hd])
    go_ret; exact ⟨rfl, rfl⟩
set_option maxRecDepth 100000 in
theorem name_of (op : Int) (w : World) (hT : Tabs w) :
    Calls Tryz.prog 55 #[.int .i64 op] w fun e w' => e = .returned (.string (strS (nameI op))) ∧ w' = w := by
  by_cases h : 1 ≤ op ∧ op < 25
  · obtain ⟨n, rfl⟩ := Int.eq_ofNat_of_zero_le (show 0 ≤ op by omega)
    have hc := hT.names.2 n (by show n < 25; omega)
    rw [Nat.add_zero] at hc
    have hn : n < 25 := by omega
    have e : (⟨(nameT.getD n []).toArray⟩ : ByteArray) = strS (nameI n) := rfl
    rw [e] at hc
    generalize strS (nameI n) = S at *
    have hd : decide (1 ≤ (n : Int) ∧ (n : Int) < 25) = true := decide_eq_true h
    clear h hT e
    go_enter Tryz.func55, Tryz.ntmps55
    go_wp2_with (go_at_call 74; refine (is_any _ _).mono ?_; rintro e w' ⟨rfl, rfl⟩; rw [hd])
    go_ret; exact ⟨rfl, rfl⟩
  · have hs := (off_range op h).2
    rw [hs]
    have hd : decide (1 ≤ op ∧ op < 25) = false := decide_eq_false h
    clear h hT hs
    go_enter Tryz.func55, Tryz.ntmps55
    go_wp2_with (go_at_call 74; refine (is_any _ _).mono ?_; rintro e w' ⟨rfl, rfl⟩; rw [hd])
    go_ret; exact ⟨rfl, rfl⟩
set_option maxRecDepth 100000 in
/-- of a condition that there is -/
theorem cond_of (n : Nat) (w : World) (hn : n < 7) (hT : Tabs w) :
    Calls Tryz.prog 29 #[.int .i64 n] w fun e w' => e = .returned (.string (strS (condI n))) ∧ w' = w := by
  have hc := hT.conds.2 n (by show n < 7; omega)
  rw [Nat.add_zero, Nat.mul_one] at hc
  have e : (⟨(condT.getD n []).toArray⟩ : ByteArray) = strS (condI n) := by unfold condI strS; rw [if_pos (by omega)]; rfl
  rw [e] at hc
  generalize strS (condI n) = S at *
  clear hT e
  go_enter Tryz.func29, Tryz.ntmps29
  go_wp2
  go_ret; exact ⟨rfl, rfl⟩
end YtiknookfnameiaaGreatDoor
end Go.Proofs
