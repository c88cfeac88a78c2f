/- The reference's Encode; its Decode of what is no instruction (printed by genRId.py). The contracts of the numerals: the library's Itoa, text's Minus and Hexed, the reference's ten, Tens, Hexed, Minus. The contracts of the reference's plain, parts, worth. The contract of text's Unquote. Quoted forms there and back: plain laws. The reference's tens, Number and Signed. -/
import Derived.Test.YtiknookfnameiaaGreatDoorRIcJn
import Derived.Test.YtiknookfnameiaaGreatDoorJn18
import Derived.Test.YtiknookfnameiaaGreatDoorJn01
import Derived.Test.YtiknookfnameiaaGreatDoorJn13
import Derived.Ground.NamesProg
import Derived.Lib.ItoaMem
import Derived.Lib.SlBytesConst
import Derived.ArgAppend
import Derived.Lib.SmallJoins
import Derived.Test.YtiknookfnameiaaGreatDoorJn06
import Derived.Test.YtiknookfnameiaaGreatDoorTWdsJn
namespace Go.Proofs
namespace YtiknookfnameiaaGreatDoor
open Go.RowKit WP
theorem infoRIns : (Tryz.prog.info? 128).map (·.size) = some 6 := by kernel_rfl
set_option maxRecDepth 100000 in
set_option maxHeartbeats 2000000 in
theorem rencode_any (i : Ins) (w : World) (hT : RTabs w) (ho : 0 ≤ i.op ∧ i.op < 64) (ha : 0 ≤ i.a ∧ i.a < 16) (hb : 0 ≤ i.b ∧ i.b < 16) (hc : 0 ≤ i.c ∧ i.c < 16) (hk : 0 ≤ i.k ∧ i.k < 8) (hm : -32768 ≤ i.imm ∧ i.imm ≤ 65535) :
    Calls Tryz.prog 45 #[.agg (rinsC i)] w fun e w' => Below w.heap.size w w' ∧ e = .returned (.tuple #[.int .u32 (if rcheckI i = 0 then rwordI i else 0), .int .i64 (rcheckI i)]) := by
  have hcc := fun W hW => rcheck_any i W hW
  obtain ⟨K, hK⟩ : ∃ K, rcheckI i = K := ⟨_, rfl⟩
  rw [hK]
  simp only [hK] at hcc
  obtain ⟨V, hV⟩ : ∃ V, rwordI i = V := ⟨_, rfl⟩
  rw [hV]
  unfold rwordI at hV
  obtain ⟨op, k, a, b, c, imm⟩ := i
  simp only [rinsC] at hcc ⊢
  simp only at ho ha hb hc hk hm hV
  clear hK
  by_cases hK0 : K = 0
  · rw [if_pos hK0]
    subst hK0
    by_cases hn : imm < 0
    · rw [if_pos hn] at hV
      replace hV := Lib.hid hV
      go_enter Tryz.func45, Tryz.ntmps45
      go_wp2_with (go_at_call 72; refine (hcc _ (hT.later ((Below.refl _ _).alloc (Nat.le_refl _) _))).mono ?_; rintro e w1 ⟨hb1, rfl⟩
                   have hq : w1.heap[w.heap.size]? = some (.cells #[.int .i64 op, .int .i64 k, .int .i64 a, .int .i64 b, .int .i64 c, .int .i64 imm] 128 (0, 0)) := (hb1.block _ (by simp)).trans (heap_alloc_new _ _)
                   have e0 : w1.cell? ⟨w.heap.size, 0, none⟩ = some (.int .i64 op) := cell_of_row _ _ 0 _ _ _ hq
                   have e1 : w1.cell? ⟨w.heap.size, 1, none⟩ = some (.int .i64 k) := cell_of_row _ _ 1 _ _ _ hq
                   have e2 : w1.cell? ⟨w.heap.size, 2, none⟩ = some (.int .i64 a) := cell_of_row _ _ 2 _ _ _ hq
                   have e3 : w1.cell? ⟨w.heap.size, 3, none⟩ = some (.int .i64 b) := cell_of_row _ _ 3 _ _ _ hq
                   have e4 : w1.cell? ⟨w.heap.size, 4, none⟩ = some (.int .i64 c) := cell_of_row _ _ 4 _ _ _ hq
                   have e5 : w1.cell? ⟨w.heap.size, 5, none⟩ = some (.int .i64 imm) := cell_of_row _ _ 5 _ _ _ hq
                   have hbf : Below w.heap.size w w1 := ((Below.refl _ _).alloc (Nat.le_refl _) _).trans (hb1.mono (by simp))
                   clear hq hb1; replace hbf := Lib.hid hbf)
      refine bodyPost_ret (v := .tuple #[.int .u32 V, .int .i64 0]) (by rw [← hV.out]; simp [results, Tryz.results45, go_sem]) rfl ⟨hbf.out, rfl⟩
    · rw [if_neg hn] at hV
      replace hV := Lib.hid hV
      go_enter Tryz.func45, Tryz.ntmps45
      go_wp2_with (go_at_call 72; refine (hcc _ (hT.later ((Below.refl _ _).alloc (Nat.le_refl _) _))).mono ?_; rintro e w1 ⟨hb1, rfl⟩
                   have hq : w1.heap[w.heap.size]? = some (.cells #[.int .i64 op, .int .i64 k, .int .i64 a, .int .i64 b, .int .i64 c, .int .i64 imm] 128 (0, 0)) := (hb1.block _ (by simp)).trans (heap_alloc_new _ _)
                   have e0 : w1.cell? ⟨w.heap.size, 0, none⟩ = some (.int .i64 op) := cell_of_row _ _ 0 _ _ _ hq
                   have e1 : w1.cell? ⟨w.heap.size, 1, none⟩ = some (.int .i64 k) := cell_of_row _ _ 1 _ _ _ hq
                   have e2 : w1.cell? ⟨w.heap.size, 2, none⟩ = some (.int .i64 a) := cell_of_row _ _ 2 _ _ _ hq
                   have e3 : w1.cell? ⟨w.heap.size, 3, none⟩ = some (.int .i64 b) := cell_of_row _ _ 3 _ _ _ hq
                   have e4 : w1.cell? ⟨w.heap.size, 4, none⟩ = some (.int .i64 c) := cell_of_row _ _ 4 _ _ _ hq
                   have e5 : w1.cell? ⟨w.heap.size, 5, none⟩ = some (.int .i64 imm) := cell_of_row _ _ 5 _ _ _ hq
                   have hbf : Below w.heap.size w w1 := ((Below.refl _ _).alloc (Nat.le_refl _) _).trans (hb1.mono (by simp))
                   clear hq hb1; replace hbf := Lib.hid hbf)
      refine bodyPost_ret (v := .tuple #[.int .u32 V, .int .i64 0]) (by rw [← hV.out]; simp [results, Tryz.results45, go_sem]) rfl ⟨hbf.out, rfl⟩
  · rw [if_neg hK0]
    have dK : (K == 0) = false := by simpa using hK0
    clear hV
    go_enter Tryz.func45, Tryz.ntmps45
    go_wp2_with (go_at_call 72; refine (hcc _ (hT.later ((Below.refl _ _).alloc (Nat.le_refl _) _))).mono ?_; rintro e w1 ⟨hb1, rfl⟩)
    exact bodyPost_ret (v := .tuple #[.int .u32 0, .int .i64 K]) (by simp [results, Tryz.results45, go_sem]) rfl ⟨((Below.refl _ _).alloc (Nat.le_refl _) _).trans (hb1.mono (by simp)), rfl⟩
end YtiknookfnameiaaGreatDoor
end Go.Proofs

namespace Go.Proofs
open Go.RowKit Go.Shelf Go.Sort
namespace YtiknookfnameiaaGreatDoor
open WP
theorem retS {a b : ByteArray} (h : a = b) : Ending.returned (.string a) = .returned (.string b) := by rw [h]
abbrev Pow10P (w : World) : Prop := Lib.TabIs Tryz.prog w "internal/strconv.uint64pow10" .u64 Lib.pow10Tab
def hexTP (w : Int) : ByteArray := strS ([48, 120] ++ hx8P w.toNat)
/-- one digit of the reference's table -/
theorem dig_piece (D : Nat) (hD : D < 16) : (ByteArray.extract ⟨#[48, 49, 50, 51, 52, 53, 54, 55, 56, 57, 97, 98, 99, 100, 101, 102]⟩ D (D + 1)) = ⟨#[dg16 D]⟩ := by
 have : D = 0 ∨ D = 1 ∨ D = 2 ∨ D = 3 ∨ D = 4 ∨ D = 5 ∨ D = 6 ∨ D = 7 ∨ D = 8 ∨ D = 9 ∨ D = 10 ∨ D = 11 ∨ D = 12 ∨ D = 13 ∨ D = 14 ∨ D = 15 := by omega
 rcases this with rfl | rfl | rfl | rfl | rfl | rfl | rfl | rfl | rfl | rfl | rfl | rfl | rfl | rfl | rfl | rfl <;> rfl
theorem strS_cons (c : UInt8) (L : List UInt8) : (⟨#[c]⟩ : ByteArray) ++ strS L = strS (c :: L) := by
 apply ByteArray.ext; simp [strS]
theorem strS_size (a : List UInt8) : (strS a).size = a.length := by simp [strS, ByteArray.size]
set_option maxRecDepth 100000 in
set_option maxHeartbeats 1000000 in
theorem rten_any (u : Nat) (w : World) (hu : u < 4294967296) :
  Calls Tryz.prog 167 #[.int .i64 u] w fun e w' => e = .returned (.string (strS (Lib.decDigits u))) ∧ w' = w := by
 have h0 := tenInv_start u
 have hl0 := (decP_len u hu).2
 have e0 := dig_piece (u % 10) (by omega)
 have m0 : ((u : Int) % 10).toNat = u % 10 := by omega
 have m1 : ((u : Int) % 10 + 1).toNat = u % 10 + 1 := by omega
 replace h0 := Lib.hid h0
 go_enter Tryz.func167, Tryz.ntmps167
 go_wp2
 go_loop [3, 0] (fun s n => ∃ (m : Nat) (L : List UInt8), m < 4294967296 ∧ n = .int .i64 m ∧ s = .string (strS L) ∧ tenInv u m L) (fun _ n => (intOf n).toNat)
 case atStart => exact ⟨u / 10, [dg16 (u % 10)], by omega, by go_num, rfl, h0.out⟩
 case round =>
  obtain ⟨m, L, hm, rfl, rfl, hI⟩ := hrel
  have hL := tenInv_len hI
  have hsz : (strS L).size ≤ 10 := by rw [strS_size]; omega
  clear e0 m0 m1 h0
  by_cases hp : 0 < m
  ·have h2 := tenInv_step hI (by omega)
   have hcat := strS_cons (dg16 (m % 10)) L
   have e1 := dig_piece (m % 10) (by omega)
   have n0 : ((m : Int) % 10).toNat = m % 10 := by omega
   have n1 : ((m : Int) % 10 + 1).toNat = m % 10 + 1 := by omega
   replace h2 := Lib.hid h2; replace hI := Lib.hid hI; replace hcat := Lib.hid hcat
   go_wp2
   go_round
   case rel => exact ⟨m / 10, dg16 (m % 10) :: L, by omega, by go_num, by rw [← hcat.out], h2.out⟩
   case measure => simp [intOf]; omega
  ·obtain rfl : m = 0 := by omega
   have hE := Lib.hid (tenInv_end hI)
   clear hI
   go_wp2_with fail
   go_ret
   exact ⟨retS (congrArg strS hE.out), rfl⟩
set_option maxRecDepth 100000 in
theorem rtens_any (u : Nat) (w : World) (hu : u < 4294967296) :
  Calls Tryz.prog 146 #[.int .u32 u] w fun e w' => e = .returned (.string (strS (Lib.decDigits u))) ∧ w' = w := by
 have hc := fun W => rten_any u W hu
 generalize strS (Lib.decDigits u) = S at *
 go_enter Tryz.func146, Tryz.ntmps146
 go_wp2_with (go_at_call 167; refine (hc _).mono ?_; rintro e w' ⟨rfl, rfl⟩)
 go_ret
 exact ⟨rfl, rfl⟩
end YtiknookfnameiaaGreatDoor
end Go.Proofs

namespace Go.Proofs.YtiknookfnameiaaGreatDoor
open Go.RowKit WP
theorem rplain_any (x : Int) (w : World) : Calls Tryz.prog 122 #[.int .u8 x] w fun e w' => e = .returned (.bool (plainI x)) ∧ w' = w := by
 by_cases h1 : 32 ≤ x
 ·have d1 : decide (x ≥ 32) = true := decide_eq_true h1
  by_cases h2 : x ≤ 126
  ·have d2 : decide (x ≤ 126) = true := decide_eq_true h2
   by_cases h3 : x = 34
   ·subst h3
    have hp : plainI 34 = false := rfl
    rw [hp]
    go_enter Tryz.func122, Tryz.ntmps122
    go_wp2_with fail
    go_ret
    exact ⟨rfl, rfl⟩
   ·have d3 : (x != 34) = true := by simp [h3]
    by_cases h4 : x = 92
    ·subst h4
     have hp : plainI 92 = false := rfl
     rw [hp]
     go_enter Tryz.func122, Tryz.ntmps122
     go_wp2_with fail
     go_ret
     exact ⟨rfl, rfl⟩
    ·have d4 : (x != 92) = true := by simp [h4]
     have hp : plainI x = true := decide_eq_true ⟨h1, h2, h3, h4⟩
     rw [hp]
     clear hp h1 h2 h3 h4
     go_enter Tryz.func122, Tryz.ntmps122
     go_wp2_with fail
     go_ret
     exact ⟨rfl, rfl⟩
  ·have d2 : decide (x ≤ 126) = false := decide_eq_false h2
   have hp : plainI x = false := decide_eq_false (fun h => h2 h.2.1)
   rw [hp]
   clear hp h1 h2
   go_enter Tryz.func122, Tryz.ntmps122
   go_wp2_with fail
   go_ret
   exact ⟨rfl, rfl⟩
 ·have d1 : decide (x ≥ 32) = false := decide_eq_false h1
  have hp : plainI x = false := decide_eq_false (fun h => h1 h.1)
  rw [hp]
  clear hp h1
  go_enter Tryz.func122, Tryz.ntmps122
  go_wp2_with fail
  go_ret
  exact ⟨rfl, rfl⟩
theorem rparts_any (x : Int) (w : World) : Calls Tryz.prog 93 #[.int .u8 x] w fun e w' => e = .returned (.bool (blankI x)) ∧ w' = w := by
 by_cases h1 : x = 32
 ·subst h1
  go_enter Tryz.func93, Tryz.ntmps93
  go_wp2_with fail
  go_ret
  exact ⟨rfl, rfl⟩
 ·have d1 : (x == 32) = false := by simp [h1]
  by_cases h2 : x = 9
  ·subst h2
   go_enter Tryz.func93, Tryz.ntmps93
   go_wp2_with fail
   go_ret
   exact ⟨rfl, rfl⟩
  ·have d2 : (x == 9) = false := by simp [h2]
   have hp : blankI x = false := decide_eq_false (fun h => h.elim h1 h2)
   rw [hp]
   clear hp h1 h2
   go_enter Tryz.func93, Tryz.ntmps93
   go_wp2_with fail
   go_ret
   exact ⟨rfl, rfl⟩
set_option maxRecDepth 100000
theorem index_dg64 (D : Nat) (hD : D < 16) (W : World) :
  (Instr.index 9 (.string ⟨#[48, 49, 50, 51, 52, 53, 54, 55, 56, 57, 97, 98, 99, 100, 101, 102]⟩) (.int .i64 (D : Int))).run Tryz.prog W = .ok (.int .u8 ((dgB D).toNat : Int)) W := by
 have : D = 0 ∨ D = 1 ∨ D = 2 ∨ D = 3 ∨ D = 4 ∨ D = 5 ∨ D = 6 ∨ D = 7 ∨ D = 8 ∨ D = 9 ∨ D = 10 ∨ D = 11 ∨ D = 12 ∨ D = 13 ∨ D = 14 ∨ D = 15 := by omega
 rcases this with rfl | rfl | rfl | rfl | rfl | rfl | rfl | rfl | rfl | rfl | rfl | rfl | rfl | rfl | rfl | rfl <;> rfl
theorem indexByte_no (c : UInt8) : ∀ l : List UInt8, (∀ x ∈ l, x ≠ c) → Lib.indexByte l c = -1
 | [], _ => rfl
 | b :: l, h => by
  have ih := indexByte_no c l (fun x hx => h x (by simp [hx]))
  have hb : (b == c) = false := by simp; exact h b (by simp)
  simp only [Lib.indexByte, hb, ih]; rfl
theorem hv_no (c : Nat) (hc : c < 256) (h : ∀ j, j < 16 → (dgB j).toNat ≠ c) : hv (c : Int) = -1 := by
 unfold hv
 refine indexByte_no _ _ ?_
 intro x hx e
 have hu : ((c : Int).toNat.toUInt8).toNat = c := by simp; omega
 have hj : ∃ j, j < 16 ∧ dgB j = x := by
  simp only [digB, List.mem_cons, List.not_mem_nil, or_false] at hx
  rcases hx with rfl | rfl | rfl | rfl | rfl | rfl | rfl | rfl | rfl | rfl | rfl | rfl | rfl | rfl | rfl | rfl
  ·exact ⟨0, by decide, rfl⟩
  ·exact ⟨1, by decide, rfl⟩
  ·exact ⟨2, by decide, rfl⟩
  ·exact ⟨3, by decide, rfl⟩
  ·exact ⟨4, by decide, rfl⟩
  ·exact ⟨5, by decide, rfl⟩
  ·exact ⟨6, by decide, rfl⟩
  ·exact ⟨7, by decide, rfl⟩
  ·exact ⟨8, by decide, rfl⟩
  ·exact ⟨9, by decide, rfl⟩
  ·exact ⟨10, by decide, rfl⟩
  ·exact ⟨11, by decide, rfl⟩
  ·exact ⟨12, by decide, rfl⟩
  ·exact ⟨13, by decide, rfl⟩
  ·exact ⟨14, by decide, rfl⟩
  ·exact ⟨15, by decide, rfl⟩
 obtain ⟨j, hj, rfl⟩ := hj
 exact h j hj (by rw [e, hu])
theorem rworth_any (c : Int) (w : World) (h1 : 0 ≤ c) (h2 : c ≤ 255) :
  Calls Tryz.prog 123 #[.int .u8 c] w fun e w' => e = .returned (.int .i64 (hv c)) ∧ w' = w := by
 obtain ⟨c, rfl⟩ := Int.eq_ofNat_of_zero_le h1
 go_enter Tryz.func123, Tryz.ntmps123
 go_wp2
 go_loop [3] (fun i => ∃ k : Nat, k ≤ 16 ∧ i = .int .i64 k ∧ ∀ j, j < k → (dgB j).toNat ≠ c) (fun i => 16 - (intOf i).toNat)
 case atStart => exact ⟨0, by omega, rfl, by intro j h; omega⟩
 case round =>
  obtain ⟨k, hk, rfl, hall⟩ := hrel
  have hall := Lib.hid hall
  by_cases hlt : k < 16
  ·have hix := index_dg64 k hlt
   by_cases hq : (dgB k).toNat = c
   ·have e1 : hv (c : Int) = k := by rw [← hq]; exact hv_dgB k hlt
    have hq2 : ((((dgB k).toNat : Nat) : Int) == (c : Int)) = true := by simp [hq]
    replace e1 := Lib.hid e1
    clear hq
    go_wp2
    go_ret
    exact ⟨ret1 e1.out.symm, rfl⟩
   ·have hq2 : ((((dgB k).toNat : Nat) : Int) == (c : Int)) = false := by rw [beq_eq_false_iff_ne]; omega
    replace hq := Lib.hid hq
    go_wp2
    go_round
    case rel =>
     refine ⟨k + 1, by omega, by go_num, ?_⟩
     intro j hj
     by_cases h : j = k
     ·rw [h]; exact hq.out
     ·exact hall.out j (by omega)
    case measure => simp [intOf]; omega
  ·obtain rfl : k = 16 := by omega
   have e1 := Lib.hid (hv_no c (by omega) hall.out)
   go_wp2
   go_ret
   exact ⟨ret1 e1.out.symm, rfl⟩
end Go.Proofs.YtiknookfnameiaaGreatDoor

namespace Go.Proofs.YtiknookfnameiaaGreatDoor
open Go.RowKit WP
def unqF (l : List UInt8) : Option (List UInt8) :=
 if l.head? = some 34 then (match qA l (l.length + 1) 1 [] with
  | .inl (b, n) => if n = l.length then some b else none
  | .inr _ => none) else none
def UnqRes (R : Option (List UInt8)) (B : Nat) (e : Ending) (w' : World) : Prop :=
 match R with
 | some b => ∃ v, e = .returned (.tuple #[v, .int .i64 0]) ∧ w'.ownsRow B 5 1 v b.length (vb b)
 | none => e = .returned (.tuple #[.slice none 0 0, .int .i64 40])
/-- the two result cells of Unquote -/
structure Ust (C : Nat) (w0 w : World) (v : Value) (x : Int) : Prop where
 b0 : w.heap[C]? = some (.cells #[v] 101 (0, 0))
 b1 : w.heap[C + 1]? = some (.cells #[.int .i64 x] 25 (0, 0))
 below : Below C w0 w
namespace Ust
variable {C : Nat} {w0 w w2 : World} {v : Value} {x : Int}
theorem size (h : Ust C w0 w v x) : C + 2 ≤ w.heap.size := by have := lt_of_block h.b1; omega
theorem c0 (h : Ust C w0 w v x) : w.cell? ⟨C, 0, none⟩ = some v := cell_of_row _ _ _ _ _ _ h.b0
theorem c1 (h : Ust C w0 w v x) : w.cell? ⟨C + 1, 0, none⟩ = some (.int .i64 x) := cell_of_row _ _ _ _ _ _ h.b1
theorem f0 (h : Ust C w0 w v x) : w.frozen? ⟨C, 0, none⟩ = false := frozen_of_row _ _ _ _ _ h.b0
theorem f1 (h : Ust C w0 w v x) : w.frozen? ⟨C + 1, 0, none⟩ = false := frozen_of_row _ _ _ _ _ h.b1
theorem later (h : Ust C w0 w v x) (hb : Below w.heap.size w w2) : Ust C w0 w2 v x :=
 ⟨(hb.block _ (lt_of_block h.b0)).trans h.b0, (hb.block _ (lt_of_block h.b1)).trans h.b1, h.below.trans (hb.mono (by have := h.size; omega))⟩
theorem set1 (h : Ust C w0 w v x) (y : Int) : Ust C w0 (w.setCell ⟨C + 1, 0, none⟩ (.int .i64 y)) v y :=
 ⟨(heap_setCell_other w ⟨C + 1, 0, none⟩ C _ (by simp)).trans h.b0, heap_setCell_same w (C + 1) 0 _ _ _ h.b1, h.below.setCell (by show C ≤ C + 1; omega) _⟩
theorem new (w : World) (v : Value) (x : Int) : Ust w.heap.size w ((w.alloc (Obj.cells #[v] 101)).alloc (Obj.cells #[Value.int IntKind.i64 x] 25)) v x := by
 refine ⟨?_, ?_, ?_⟩
 ·rw [heap_alloc_old _ _ (by simp)]; exact heap_alloc_new _ _
 ·have := heap_alloc_new (w.alloc (Obj.cells #[v] 101)) (Obj.cells #[Value.int IntKind.i64 x] 25)
  simpa using this
 ·exact Below.alloc (Below.alloc (Below.refl _ _) (Nat.le_refl _) _) (by simp) _
end Ust
end Go.Proofs.YtiknookfnameiaaGreatDoor

namespace Go.Proofs.YtiknookfnameiaaGreatDoor
open WP
end Go.Proofs.YtiknookfnameiaaGreatDoor

namespace Go.Proofs.YtiknookfnameiaaGreatDoor
open Go.RowKit WP
/-- digits up to k, as the reference walks them -/
theorem valFrom_snoc (a : Nat) (l : List UInt8) (c : UInt8) : valFrom a (l ++ [c]) = valFrom a l * 10 + (c.toNat - 48) := by rw [valFrom_app]; rfl
theorem take_snoc (l : List UInt8) (k : Nat) (h : k < l.length) : l.take (k + 1) = l.take k ++ [l.getD k 0] := by
 rw [List.take_add_one, List.getElem?_eq_getElem h, List.getD_eq_getElem?_getD, List.getElem?_eq_getElem h]; rfl
theorem valFrom_lt (l : List UInt8) (h : l.all isDg = true) : ∀ a, valFrom a l < (a + 1) * 10 ^ l.length := by
 induction l with
 | nil => intro a; simp [valFrom]
 | cons c l ih =>
  intro a
  rw [List.all_cons, Bool.and_eq_true] at h
  have hc : 48 ≤ c.toNat ∧ c.toNat ≤ 57 := of_decide_eq_true h.1
  have h1 := ih h.2 (a * 10 + (c.toNat - 48))
  show valFrom (a * 10 + (c.toNat - 48)) l < _
  rw [List.length_cons, Nat.pow_succ]
  refine Nat.lt_of_lt_of_le h1 ?_
  rw [Nat.mul_comm (10 ^ l.length) 10, ← Nat.mul_assoc]
  exact Nat.mul_le_mul_right _ (by omega)
theorem nDigits_le (k : Nat) : ∀ u, u < 10 ^ (k + 1) → Lib.nDigits u ≤ k + 1 := by
 induction k with
 | zero => intro u h; rw [Lib.nDigits_small (by simpa using h)]; omega
 | succ k ih =>
  intro u h
  by_cases h1 : u < 10
  ·rw [Lib.nDigits_small h1]; omega
  ·rw [Lib.nDigits_big h1]
   have := ih (u / 10) (by rw [Nat.div_lt_iff_lt_mul (by decide)]; rwa [Nat.pow_succ] at h)
   omega
theorem ten_le (l : List UInt8) (h : tensB l = true) (hv : valFrom 0 l < 10000000000) : l.length ≤ 10 := by
 have hd := dec_back _ l rfl h
 have := Lib.decDigits_length (valFrom 0 l)
 rw [hd] at this
 rw [this]
 exact nDigits_le 9 _ hv
/-- what the reference's tens answers -/
def tenF (most : Int) (l : List UInt8) : Int := if tensB l = true ∧ (valFrom 0 l : Int) ≤ most then (valFrom 0 l : Int) else -1
theorem tenF_no (most : Int) (l : List UInt8) (h : tensB l = false) : tenF most l = -1 := by unfold tenF; rw [if_neg (by rw [h]; simp)]
theorem str_empty (s : ByteArray) (b : Bool) (h : decide (s.size = 0) = b) : s.toList.isEmpty = b := by
 rw [ByteArray.toList_eq]
 have := size_list s
 cases hl : s.data.toList with
 | nil => rw [hl] at this; rw [← h, decide_eq_true (by simpa using this.symm)]; rfl
 | cons c r => rw [hl] at this; rw [← h, decide_eq_false (by simp at this; omega)]; rfl
theorem isDg_iff (c : UInt8) : isDg c = decide (48 ≤ (c.toNat : Int) ∧ (c.toNat : Int) ≤ 57) := by
 unfold isDg
 by_cases h : 48 ≤ c.toNat ∧ c.toNat ≤ 57
 ·rw [decide_eq_true h, decide_eq_true (by omega)]
 ·rw [decide_eq_false h, decide_eq_false (by omega)]
/-- the first k bytes are digits, and x is their number -/
def DgAt (l : List UInt8) (k : Nat) (x : Int) : Prop := (l.take k).all isDg = true ∧ x = (valFrom 0 (l.take k) : Int)
theorem dgAt_zero (l : List UInt8) : DgAt l 0 0 := ⟨rfl, rfl⟩
theorem dgAt_bound {l : List UInt8} {k : Nat} {x : Int} (h : DgAt l k x) (hk : k ≤ 10) : 0 ≤ x ∧ x < 10000000000 := by
 have h1 := valFrom_lt _ h.1 0
 have h2 : (l.take k).length ≤ 10 := by rw [List.length_take]; omega
 have h3 : (10 : Nat) ^ (l.take k).length ≤ 10 ^ 10 := Nat.pow_le_pow_right (by decide) h2
 have h4 : (10 : Nat) ^ 10 = 10000000000 := rfl
 have h5 := h.2
 omega
theorem bAt_getD (l : List UInt8) (k : Nat) : bAt l k = (((l.getD k 0).toNat : Nat) : Int) := rfl
theorem dgAt_step {l : List UInt8} {k : Nat} {x : Int} (h : DgAt l k x) (hk : k < l.length) (h1 : 48 ≤ bAt l k) (h2 : bAt l k ≤ 57) : DgAt l (k + 1) (10 * x + (bAt l k - 48)) := by
 unfold DgAt
 rw [take_snoc l k hk, List.all_append, h.1, valFrom_snoc, h.2]
 rw [bAt_getD] at h1 h2 ⊢
 refine ⟨?_, by omega⟩
 simp only [List.all_cons, List.all_nil, Bool.and_true, Bool.true_and]
 rw [isDg_iff]
 exact decide_eq_true ⟨h1, h2⟩
theorem dg_bad {l : List UInt8} {k : Nat} (hk : k < l.length) (h : bAt l k < 48 ∨ 57 < bAt l k) : l.all isDg = false := by
 rw [List.all_eq_false]
 refine ⟨l[k], List.getElem_mem hk, ?_⟩
 have e : bAt l k = ((l[k].toNat : Nat) : Int) := by unfold bAt; rw [List.getD_eq_getElem?_getD, List.getElem?_eq_getElem hk]; rfl
 rw [e] at h
 rw [isDg_iff, decide_eq_false (by omega)]
 simp
theorem dgAt_end {l : List UInt8} {x : Int} (h : DgAt l l.length x) : l.all isDg = true ∧ x = (valFrom 0 l : Int) := by
 have := h
 unfold DgAt at this
 rwa [List.take_length] at this
set_option maxRecDepth 100000 in
set_option maxHeartbeats 1600000 in
theorem rtensF_any (s : ByteArray) (most : Int) (w : World) (hs : s.size ≤ 140737488355328) (hm0 : 0 ≤ most) (hm1 : most < 10000000000) :
  Calls Tryz.prog 147 #[.string s, .int .i64 most] w fun e w' => e = .returned (.int .i64 (tenF most s.data.toList)) ∧ w' = w := by
 have hl := size_list s
 obtain ⟨R, hR⟩ : ∃ R, tenF most s.data.toList = R := ⟨_, rfl⟩
 rw [hR]
 by_cases h0 : s.size = 0
 ·have he := str_empty s true (decide_eq_true h0)
  have hRn : R = -1 := by
   rw [← hR]; refine tenF_no _ _ ?_
   cases hd : s.data.toList with
   | nil => rfl
   | cons c r => rw [hd] at hl; simp at hl; omega
  subst hRn
  clear hR hl
  go_enter Tryz.func147, Tryz.ntmps147
  go_wp2_with fail
  go_ret
  exact ⟨rfl, rfl⟩
 ·have he := str_empty s false (decide_eq_false h0)
  by_cases h10 : s.size ≤ 10
  ·have d1 : decide ((s.size : Int) > 10) = false := decide_eq_false (by omega)
   have hp : 0 < s.size := by omega
   have b0 := bAt_get s 0 hp
   have hpi : (0 : Int) < (s.size : Int) := by omega
   have hdf : tensB s.data.toList = (!(decide (1 < s.size) && (bAt s.data.toList 0 == 48)) && s.data.toList.all isDg) := by
    unfold tensB
    have e1 : s.data.toList.isEmpty = false := by rw [← ByteArray.toList_eq]; exact he
    have e2 : (s.data.toList.getD 0 0 == (48 : UInt8)) = (bAt s.data.toList 0 == 48) := by
     unfold bAt
     by_cases h : s.data.toList.getD 0 0 = 48
     ·rw [h]; rfl
     ·rw [beq_eq_false_iff_ne.2 h]
      symm
      rw [beq_eq_false_iff_ne]
      intro hh
      exact h (UInt8.toNat.inj (by show _ = 48; omega))
    rw [e1, e2, hl]; rfl
   by_cases hz : 1 < s.size ∧ bAt s.data.toList 0 = 48
   ·have hRn : R = -1 := by
     rw [← hR]; refine tenF_no _ _ ?_
     rw [hdf, decide_eq_true hz.1, hz.2]; rfl
    have d2 : decide ((s.size : Int) > 1) = true := decide_eq_true (by omega)
    rw [hz.2] at b0
    subst hRn
    clear hR hl hdf
    go_enter Tryz.func147, Tryz.ntmps147
    go_wp2_with fail
    go_ret
    exact ⟨rfl, rfl⟩
   ·have hdf2 : tensB s.data.toList = s.data.toList.all isDg := by
     rw [hdf]
     have : (decide (1 < s.size) && (bAt s.data.toList 0 == 48)) = false := by
      by_cases h1 : 1 < s.size
      ·rw [decide_eq_true h1, Bool.true_and, beq_eq_false_iff_ne]; exact fun h => hz ⟨h1, h⟩
      ·rw [decide_eq_false h1]; rfl
     rw [this]; rfl
    clear hdf
    obtain ⟨c0, hc0⟩ : ∃ c, bAt s.data.toList 0 = c := ⟨_, rfl⟩
    rw [hc0] at b0 hz
    clear hc0
    replace hl := Lib.hid hl; replace hdf2 := Lib.hid hdf2; replace hR := Lib.hid hR; replace hz := Lib.hid hz
    go_enter Tryz.func147, Tryz.ntmps147
    go_upto_region 1 with fail
    go_cut [23] from 7 to 23 (fun r wx => r = .bool false ∧ wx = w)
    case first =>
     by_cases h1 : 1 < s.size
     ·have d2 : decide ((s.size : Int) > 1) = true := decide_eq_true (by omega)
      have d3 : (c0 == 48) = false := by rw [beq_eq_false_iff_ne]; exact fun h => hz.out ⟨h1, h⟩
      replace h1 := Lib.hid h1
      go_wp2_with fail
      go_meet
      case rel => exact ⟨rfl, rfl⟩
     ·have d2 : decide ((s.size : Int) > 1) = false := decide_eq_false (by omega)
      replace h1 := Lib.hid h1
      go_wp2_with fail
      go_meet
      case rel => exact ⟨rfl, rfl⟩
    case rest =>
     obtain ⟨rfl, hw⟩ := hcut
     subst hw
     clear b0 he d1
     go_wp2_with fail
     go_loop [5, 6] (fun n i => ∃ (k : Nat) (x : Int), k ≤ s.size ∧ i = .int .i64 k ∧ n = .int .i64 x ∧ DgAt s.data.toList k x) (fun _ i => s.size - (intOf i).toNat)
     case atStart => exact ⟨0, 0, by omega, rfl, rfl, dgAt_zero _⟩
     case round =>
      obtain ⟨k, x, hk, rfl, rfl, hD⟩ := hrel
      obtain ⟨x0, x1⟩ := dgAt_bound hD (by omega)
      by_cases hlt : k < s.size
      ·have d4 : decide ((k : Int) < (s.size : Int)) = true := decide_eq_true (by omega)
       have bk := bAt_get s k hlt
       have hst := fun h1 h2 => dgAt_step hD (by rw [hl.out]; exact hlt) h1 h2
       have hbad := fun h => dg_bad (l := s.data.toList) (k := k) (by rw [hl.out]; exact hlt) h
       have i1 : (0 : Int) ≤ (k : Int) := by omega
       obtain ⟨c, hc⟩ : ∃ c, bAt s.data.toList k = c := ⟨_, rfl⟩
       rw [hc] at bk hst hbad
       clear hc hD
       replace hst := Lib.hid hst; replace hbad := Lib.hid hbad
       by_cases c1 : c < 48
       ·have d5 : decide (c < 48) = true := decide_eq_true c1
        have hRn : R = -1 := by rw [← hR.out]; exact tenF_no _ _ (by rw [hdf2.out]; exact hbad.out (.inl c1))
        subst hRn
        go_wp2_with fail
        go_ret
        exact ⟨rfl, rfl⟩
       ·have d5 : decide (c < 48) = false := decide_eq_false c1
        by_cases c2 : c > 57
        ·have d6 : decide (c > 57) = true := decide_eq_true c2
         have hRn : R = -1 := by rw [← hR.out]; exact tenF_no _ _ (by rw [hdf2.out]; exact hbad.out (.inr c2))
         subst hRn
         go_wp2_with fail
         go_ret
         exact ⟨rfl, rfl⟩
        ·have d6 : decide (c > 57) = false := decide_eq_false c2
         have hst2 := Lib.hid (hst.out (by omega) (by omega))
         have c3 : 0 ≤ c - 48 := by omega
         have c4 : c - 48 ≤ 9 := by omega
         go_wp2_with fail
         go_round
         case rel => exact ⟨k + 1, 10 * x + (c - 48), by omega, by go_num, by go_num, hst2.out⟩
         case measure => simp [intOf]; omega
      ·obtain rfl : k = s.size := by omega
       have d4 : decide ((s.size : Int) < (s.size : Int)) = false := decide_eq_false (by omega)
       rw [← hl.out] at hD
       obtain ⟨hA, hx⟩ := dgAt_end hD
       have hTb : tensB s.data.toList = true := by rw [hdf2.out]; exact hA
       clear hD
       by_cases hm : x ≤ most
       ·have d5 : decide (x > most) = false := decide_eq_false (by omega)
        have hRn : R = x := by rw [← hR.out, hx]; unfold tenF; rw [if_pos ⟨hTb, by rw [← hx]; exact hm⟩]
        replace hx := Lib.hid hx
        subst hRn
        go_wp2_with fail
        go_ret
        exact ⟨rfl, rfl⟩
       ·have d5 : decide (x > most) = true := decide_eq_true (by omega)
        have hRn : R = -1 := by rw [← hR.out]; unfold tenF; rw [if_neg (by rw [← hx]; exact fun h => hm h.2)]
        replace hx := Lib.hid hx
        subst hRn
        go_wp2_with fail
        go_ret
        exact ⟨rfl, rfl⟩
  ·have hRn : R = -1 := by
    rw [← hR]; unfold tenF
    rw [if_neg]
    rintro ⟨h1, h2⟩
    have := ten_le _ h1 (by omega)
    omega
   have d1 : decide ((s.size : Int) > 10) = true := decide_eq_true (by omega)
   subst hRn
   clear hR hl
   go_enter Tryz.func147, Tryz.ntmps147
   go_wp2_with fail
   go_ret
   exact ⟨rfl, rfl⟩
end Go.Proofs.YtiknookfnameiaaGreatDoor
