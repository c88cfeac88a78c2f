/- The contracts of isa's Named and CondNamed, of asm's register. The contract of asm's register. -/
import Derived.Test.YtiknookfnameiaaGreatDoorJn13
import Derived.Lib.ItoaNum
import Derived.Lib.ItoaMem
namespace Go.Proofs.YtiknookfnameiaaGreatDoor
open Go.RowKit WP
set_option linter.unusedSimpArgs false
theorem eq_str (l : List UInt8) (s : ByteArray) : ((strS l).toList == s.toList) = decide (l = s.data.toList) := by
 rw [ByteArray.toList_eq, ByteArray.toList_eq]
 show (l.toArray.toList == s.data.toList) = _
 rw [List.toList_toArray]
 by_cases h : l = s.data.toList
 ·rw [decide_eq_true h, h]; simp
 ·rw [decide_eq_false h]; simpa using h
set_option maxRecDepth 100000 in
theorem named_any (s : ByteArray) (w : World) (hT : Tabs w) :
  Calls Tryz.prog 84 #[.string s] w fun e w' => e = .returned (.tuple #[.int .i64 (((namedF s).getD 0 : Nat) : Int), .int .i64 (if (namedF s).isSome = true then 0 else 50)]) ∧ w' = w := by
 obtain ⟨R, hR⟩ : ∃ R, namedF s = R := ⟨_, rfl⟩
 rw [hR]
 obtain ⟨V, hV⟩ : ∃ V : Int, ((R.getD 0 : Nat) : Int) = V := ⟨_, rfl⟩
 obtain ⟨C, hC⟩ : ∃ C : Int, (if R.isSome = true then (0 : Int) else 50) = C := ⟨_, rfl⟩
 rw [hV, hC]
 replace hV := Lib.hid hV; replace hC := Lib.hid hC
 replace hR := Lib.hid hR; replace hT := Lib.hid hT
 go_enter Tryz.func84, Tryz.ntmps84
 go_wp2_with fail
 go_loopw [4] (fun i wr => ∃ k : Nat, 1 ≤ k ∧ k ≤ 25 ∧ i = .int .i64 (k : Int) ∧ wr = w ∧ findT nameT s.data.toList (25 - k) k = R) (fun i _ => 25 - (intOf i).toNat)
 case atStart => exact ⟨1, by omega, by omega, rfl, rfl, hR.out⟩
 case round =>
  obtain ⟨k, h1, h2, rfl, rfl, hq⟩ := hrel
  clear hR
  by_cases hlt : k < 25
  ·obtain ⟨f, hf⟩ : ∃ f, 25 - k = f + 1 := ⟨24 - k, by omega⟩
   have hc := hT.out.names.2 k (by show k < 25; omega)
   rw [Nat.add_zero] at hc
   have e : (⟨(nameT.getD k []).toArray⟩ : ByteArray) = strS (nameT.getD k []) := rfl
   rw [e] at hc
   have eq := eq_str (nameT.getD k []) s
   rw [hf, findT] at hq
   have i1 : (0 : Int) ≤ (k : Int) := by omega
   have i2 : (k : Int) < 25 := by omega
   clear e
   by_cases hm : nameT.getD k [] = s.data.toList
   ·rw [if_pos hm] at hq
    rw [decide_eq_true hm] at eq
    subst hq
    generalize strS (nameT.getD k []) = S at *
    clear hm hf
    go_wp2_with fail
    go_ret2
    exact ⟨by rw [← hV.out, ← hC.out]; rfl, rfl⟩
   ·rw [if_neg hm] at hq
    rw [decide_eq_false hm] at eq
    generalize strS (nameT.getD k []) = S at *
    clear hm
    replace hq := Lib.hid hq
    go_wp2_with fail
    go_roundw
    case rel => exact ⟨k + 1, by omega, by omega, by go_num, trivial, by rw [← hq.out]; congr 1; omega⟩
    case measure => simp [intOf]; omega
  ·obtain rfl : k = 25 := by omega
   have : R = none := by rw [← hq]; rfl
   subst this
   clear hq
   go_wp2_with fail
   go_ret2
   exact ⟨by rw [← hV.out, ← hC.out]; rfl, rfl⟩
theorem ixc0 (S0 S1 S2 S3 S4 S5 S6 : ByteArray) (W : World) : (Instr.index 133 (.agg #[.string S0, .string S1, .string S2, .string S3, .string S4, .string S5, .string S6]) (.int .i64 0)).run Tryz.prog W = .ok (.string S0) W := by kernel_rfl
theorem ixc1 (S0 S1 S2 S3 S4 S5 S6 : ByteArray) (W : World) : (Instr.index 133 (.agg #[.string S0, .string S1, .string S2, .string S3, .string S4, .string S5, .string S6]) (.int .i64 1)).run Tryz.prog W = .ok (.string S1) W := by kernel_rfl
theorem ixc2 (S0 S1 S2 S3 S4 S5 S6 : ByteArray) (W : World) : (Instr.index 133 (.agg #[.string S0, .string S1, .string S2, .string S3, .string S4, .string S5, .string S6]) (.int .i64 2)).run Tryz.prog W = .ok (.string S2) W := by kernel_rfl
theorem ixc3 (S0 S1 S2 S3 S4 S5 S6 : ByteArray) (W : World) : (Instr.index 133 (.agg #[.string S0, .string S1, .string S2, .string S3, .string S4, .string S5, .string S6]) (.int .i64 3)).run Tryz.prog W = .ok (.string S3) W := by kernel_rfl
theorem ixc4 (S0 S1 S2 S3 S4 S5 S6 : ByteArray) (W : World) : (Instr.index 133 (.agg #[.string S0, .string S1, .string S2, .string S3, .string S4, .string S5, .string S6]) (.int .i64 4)).run Tryz.prog W = .ok (.string S4) W := by kernel_rfl
theorem ixc5 (S0 S1 S2 S3 S4 S5 S6 : ByteArray) (W : World) : (Instr.index 133 (.agg #[.string S0, .string S1, .string S2, .string S3, .string S4, .string S5, .string S6]) (.int .i64 5)).run Tryz.prog W = .ok (.string S5) W := by kernel_rfl
theorem ixc6 (S0 S1 S2 S3 S4 S5 S6 : ByteArray) (W : World) : (Instr.index 133 (.agg #[.string S0, .string S1, .string S2, .string S3, .string S4, .string S5, .string S6]) (.int .i64 6)).run Tryz.prog W = .ok (.string S6) W := by kernel_rfl
set_option maxRecDepth 100000 in
set_option maxHeartbeats 1000000 in
theorem condn_any (s : ByteArray) (w : World) (hT : Tabs w) :
  Calls Tryz.prog 138 #[.string s] w fun e w' => e = .returned (.tuple #[.int .i64 (((condF s).getD 0 : Nat) : Int), .int .i64 (if (condF s).isSome = true then 0 else 50)]) ∧ w' = w := by
 obtain ⟨R, hR⟩ : ∃ R, condF s = R := ⟨_, rfl⟩
 rw [hR]
 obtain ⟨V, hV⟩ : ∃ V : Int, ((R.getD 0 : Nat) : Int) = V := ⟨_, rfl⟩
 obtain ⟨C, hC⟩ : ∃ C : Int, (if R.isSome = true then (0 : Int) else 50) = C := ⟨_, rfl⟩
 rw [hV, hC]
 replace hV := Lib.hid hV; replace hC := Lib.hid hC
 have hc := fun (n : Nat) (h : n < 7) => (hT.conds.2 n (by show n < 7; omega) : w.cell? ⟨0, n * 1 + 0, none⟩ = some (.string (strS (condT.getD n []))))
 have c0 : w.cell? ⟨0, 0, none⟩ = some (.string (strS (condT.getD 0 []))) := hc 0 (by omega)
 have c1 : w.cell? ⟨0, 1, none⟩ = some (.string (strS (condT.getD 1 []))) := hc 1 (by omega)
 have c2 : w.cell? ⟨0, 2, none⟩ = some (.string (strS (condT.getD 2 []))) := hc 2 (by omega)
 have c3 : w.cell? ⟨0, 3, none⟩ = some (.string (strS (condT.getD 3 []))) := hc 3 (by omega)
 have c4 : w.cell? ⟨0, 4, none⟩ = some (.string (strS (condT.getD 4 []))) := hc 4 (by omega)
 have c5 : w.cell? ⟨0, 5, none⟩ = some (.string (strS (condT.getD 5 []))) := hc 5 (by omega)
 have c6 : w.cell? ⟨0, 6, none⟩ = some (.string (strS (condT.getD 6 []))) := hc 6 (by omega)
 have q := fun (n : Nat) => eq_str (condT.getD n []) s
 clear hc hT
 replace hR := Lib.hid hR; replace q := Lib.hid q
 obtain ⟨S0, s0⟩ : ∃ S, strS (condT.getD 0 []) = S := ⟨_, rfl⟩
 obtain ⟨S1, s1⟩ : ∃ S, strS (condT.getD 1 []) = S := ⟨_, rfl⟩
 obtain ⟨S2, s2⟩ : ∃ S, strS (condT.getD 2 []) = S := ⟨_, rfl⟩
 obtain ⟨S3, s3⟩ : ∃ S, strS (condT.getD 3 []) = S := ⟨_, rfl⟩
 obtain ⟨S4, s4⟩ : ∃ S, strS (condT.getD 4 []) = S := ⟨_, rfl⟩
 obtain ⟨S5, s5⟩ : ∃ S, strS (condT.getD 5 []) = S := ⟨_, rfl⟩
 obtain ⟨S6, s6⟩ : ∃ S, strS (condT.getD 6 []) = S := ⟨_, rfl⟩
 rw [s0] at c0; rw [s1] at c1; rw [s2] at c2; rw [s3] at c3; rw [s4] at c4; rw [s5] at c5; rw [s6] at c6
 replace s0 := Lib.hid s0; replace s1 := Lib.hid s1; replace s2 := Lib.hid s2; replace s3 := Lib.hid s3; replace s4 := Lib.hid s4; replace s5 := Lib.hid s5; replace s6 := Lib.hid s6
 have x0 := ixc0 S0 S1 S2 S3 S4 S5 S6
 have x1 := ixc1 S0 S1 S2 S3 S4 S5 S6
 have x2 := ixc2 S0 S1 S2 S3 S4 S5 S6
 have x3 := ixc3 S0 S1 S2 S3 S4 S5 S6
 have x4 := ixc4 S0 S1 S2 S3 S4 S5 S6
 have x5 := ixc5 S0 S1 S2 S3 S4 S5 S6
 have x6 := ixc6 S0 S1 S2 S3 S4 S5 S6
 go_enter Tryz.func138, Tryz.ntmps138
 go_wp2_with fail
 go_loopw [7] (fun i wr => ∃ k : Nat, k ≤ 7 ∧ i = .int .i64 (k : Int) ∧ wr = w ∧ findT condT s.data.toList (7 - k) k = R) (fun i _ => 7 - (intOf i).toNat)
 case atStart => exact ⟨0, by omega, rfl, rfl, hR.out⟩
 case round =>
  obtain ⟨k, h1, rfl, rfl, hq⟩ := hrel
  clear hR
  by_cases hlt : k < 7
  ·obtain ⟨f, hf⟩ : ∃ f, 7 - k = f + 1 := ⟨6 - k, by omega⟩
   have eq := q.out k
   rw [hf, findT] at hq
   by_cases hm : condT.getD k [] = s.data.toList
   ·rw [if_pos hm] at hq
    rw [decide_eq_true hm] at eq
    subst hq
    clear hm hf q
    have hk : k = 0 ∨ k = 1 ∨ k = 2 ∨ k = 3 ∨ k = 4 ∨ k = 5 ∨ k = 6 := by omega
    rcases hk with rfl | rfl | rfl | rfl | rfl | rfl | rfl <;> (first | rw [s0.out] at eq | rw [s1.out] at eq | rw [s2.out] at eq | rw [s3.out] at eq | rw [s4.out] at eq | rw [s5.out] at eq | rw [s6.out] at eq) <;> (go_wp2_with fail) <;> go_ret2 <;> exact ⟨by rw [← hV.out, ← hC.out]; rfl, rfl⟩
   ·rw [if_neg hm] at hq
    rw [decide_eq_false hm] at eq
    clear hm q
    have hk : k = 0 ∨ k = 1 ∨ k = 2 ∨ k = 3 ∨ k = 4 ∨ k = 5 ∨ k = 6 := by omega
    have hq' : findT condT s.data.toList (7 - (k + 1)) (k + 1) = R := by rw [← hq]; congr 1; omega
    clear hq hf
    replace hq' := Lib.hid hq'
    rcases hk with rfl | rfl | rfl | rfl | rfl | rfl | rfl <;> (first | rw [s0.out] at eq | rw [s1.out] at eq | rw [s2.out] at eq | rw [s3.out] at eq | rw [s4.out] at eq | rw [s5.out] at eq | rw [s6.out] at eq) <;> (go_wp2_with fail) <;> go_roundw <;> first | exact ⟨_, by decide, rfl, trivial, hq'.out⟩ | (simp [intOf]; done) | (simp [intOf]; omega)
  ·obtain rfl : k = 7 := by omega
   have : R = none := by rw [← hq]; rfl
   subst this
   clear hq
   go_wp2_with fail
   go_ret2
   exact ⟨by rw [← hV.out, ← hC.out]; rfl, rfl⟩
end Go.Proofs.YtiknookfnameiaaGreatDoor

namespace Go.Proofs.YtiknookfnameiaaGreatDoor
open Go.RowKit WP Go.Shelf Go.Sort
set_option linter.unusedSimpArgs false
theorem mitoa_any (n : Int) (w : World) (h0 : -9223372036854775808 ≤ n) (h1 : n ≤ 9223372036854775807) (htab : Pow10 w) :
  Calls Tryz.prog 33 #[.int .i64 n] w fun e w' => e = .returned (.string (strS (Lib.itoa n))) ∧ Below w.heap.size w w' := by
 refine (Any.strconv_Itoa laysItoa n h0 h1 w htab).mono ?_
 rintro e w' ⟨rfl, k, os, rfl⟩
 exact ⟨rfl, grow_below _ _ _⟩
def regO : Option Nat → Int
 | some n => (n : Int)
 | none => -1
def regV (x : W) : Int := regO (regF x)
theorem dec_short (k : Nat) (h : k < 15) : (Lib.decDigits k).length ≤ 2 := by
 rw [Lib.decDigits_length]
 by_cases h1 : k < 10
 ·rw [Lib.nDigits_small h1]; omega
 ·rw [Lib.nDigits_big h1, Lib.nDigits_small (by omega)]; omega
theorem eq_r (l : List UInt8) (s : ByteArray) : (s.toList == ((⟨#[114]⟩ : ByteArray) ++ strS l).toList) = decide (s.data.toList = 114 :: l) := by
 have e : (⟨#[114]⟩ : ByteArray) ++ strS l = strS (114 :: l) := by apply ByteArray.ext; simp [strS]
 rw [e, ByteArray.toList_eq, ByteArray.toList_eq]
 show (s.data.toList == (114 :: l).toArray.toList) = _
 by_cases h : s.data.toList = 114 :: l
 ·rw [decide_eq_true h, h]; simp
 ·rw [decide_eq_false h]; simpa using h
set_option maxRecDepth 100000 in
set_option maxHeartbeats 1000000 in
theorem reg_any (x : W) (w : World) (hP : Pow10 w) : Calls Tryz.prog 119 #[wV x] w fun e w' => e = .returned (.int .i64 (regV x)) ∧ Below w.heap.size w w' := by
 obtain ⟨s, q, c⟩ := x
 obtain ⟨R, hR⟩ : ∃ R, regF (s, q, c) = R := ⟨_, rfl⟩
 obtain ⟨V, hV⟩ : ∃ V, regV (s, q, c) = V := ⟨_, rfl⟩
 have hV' : regO R = V := by rw [← hV, ← hR]; rfl
 rw [hV]
 clear hV
 unfold wV
 dsimp only
 obtain ⟨w1, hw1⟩ : ∃ w1, w.alloc (.cells #[.string s, .bool q, .int .i64 (c : Int)] 152) = w1 := ⟨_, rfl⟩
 have hb : Below w.heap.size w w1 := by rw [← hw1]; exact (Below.refl w.heap.size w).alloc (Nat.le_refl _) _
 have hB : w1.heap[w.heap.size]? = some (.cells #[.string s, .bool q, .int .i64 (c : Int)] 152 (0, 0)) := by rw [← hw1]; exact heap_alloc_new w _
 have hg : ∀ W, Below w1.heap.size w1 W → W.cell? ⟨w.heap.size, 0, none⟩ = some (.string s) ∧ W.cell? ⟨w.heap.size, 1, none⟩ = some (.bool q) ∧ Pow10 W := fun W hW => by
  have h2 := (hW.block _ (Array.getElem?_eq_some_iff.1 hB).1).trans hB
  exact ⟨cell_of_row _ _ 0 _ _ _ h2, cell_of_row _ _ 1 _ _ _ h2, pow10_later hP (hb.trans (hW.mono hb.size))⟩
 clear hP hB
 replace hb := Lib.hid hb; replace hg := Lib.hid hg; replace hV' := Lib.hid hV'
 go_enter Tryz.func119, Tryz.ntmps119
 go_upto_region 1 with fail
 try rw [hw1]
 clear hw1
 go_wp2_with fail
 cases q with
 | true =>
  have hRn : R = none := by rw [← hR]; rfl
  subst hRn
  clear hR
  go_loopw [4] (fun i wr => ∃ k : Nat, k ≤ 15 ∧ i = .int .i64 (k : Int) ∧ Below w1.heap.size w1 wr) (fun i _ => 15 - (intOf i).toNat)
  case atStart => exact ⟨0, by omega, rfl, Below.refl _ _⟩
  case round =>
   obtain ⟨wo, rfl⟩ : ∃ wo, wo = wr := ⟨wr, rfl⟩
   obtain ⟨k, hk, rfl, hB⟩ := hrel
   by_cases hlt : k < 15
   ·have i2 : (k : Int) < 15 := by omega
    have g0 : ∀ g : GrownOf wo, g.w'.cell? ⟨w.heap.size, 0, none⟩ = some (.string s) := fun g => (hg.out _ (hB.trans (g.h.mono hB.size))).1
    have g1 : ∀ g : GrownOf wo, g.w'.cell? ⟨w.heap.size, 1, none⟩ = some (.bool true) := fun g => (hg.out _ (hB.trans (g.h.mono hB.size))).2.1
    replace hB := Lib.hid hB
    go_upto_region 4 with fail
    have hne : Nonempty (GrownOf wo) := ⟨⟨wo, Below.refl _ _⟩⟩
    refine wp_region_grown (by kernel_rfl) (by kernel_rfl) ?_
    repeat (go_big_quiet_step (fail))
    refine wpQuiet_nil ?_
    rintro _ ⟨g, rfl⟩
    go_wp2_with fail
    go_roundw
    case rel => exact ⟨k + 1, by omega, by go_num, hB.out.trans (g.h.mono hB.out.size)⟩
    case measure => simp [intOf]; omega
   ·obtain rfl : k = 15 := by omega
    replace hB := Lib.hid hB
    go_wp2_with fail
    go_ret
    exact ⟨by rw [← hV'.out]; rfl, hb.out.trans (hB.out.mono hb.out.size)⟩
 | false =>
  have hR' : regA s.data.toList 15 0 = R := hR
  clear hR
  replace hR' := Lib.hid hR'
  go_loopw [4] (fun i wr => ∃ k : Nat, k ≤ 15 ∧ i = .int .i64 (k : Int) ∧ Below w1.heap.size w1 wr ∧ regA s.data.toList (15 - k) k = R) (fun i _ => 15 - (intOf i).toNat)
  case atStart => exact ⟨0, by omega, rfl, Below.refl _ _, hR'.out⟩
  case round =>
   obtain ⟨wo, rfl⟩ : ∃ wo, wo = wr := ⟨wr, rfl⟩
   obtain ⟨k, hk, rfl, hB, hq⟩ := hrel
   clear hR'
   by_cases hlt : k < 15
   ·have i2 : (k : Int) < 15 := by omega
    have g0 : ∀ g : GrownOf wo, g.w'.cell? ⟨w.heap.size, 0, none⟩ = some (.string s) := fun g => (hg.out _ (hB.trans (g.h.mono hB.size))).1
    have g1 : ∀ g : GrownOf wo, g.w'.cell? ⟨w.heap.size, 1, none⟩ = some (.bool false) := fun g => (hg.out _ (hB.trans (g.h.mono hB.size))).2.1
    have gP : ∀ g : GrownOf wo, Pow10 g.w' := fun g => (hg.out _ (hB.trans (g.h.mono hB.size))).2.2
    have hit := fun W hW => mitoa_any (k : Int) W (by omega) (by omega) hW
    have ei : Lib.itoa (k : Int) = Lib.decDigits k := by unfold Lib.itoa; rw [if_neg (by omega)]; rfl
    rw [ei] at hit
    have es := eq_r (Lib.decDigits k) s
    have hsz : (strS (Lib.decDigits k)).size ≤ 2 := by show (Lib.decDigits k).toArray.size ≤ 2; rw [List.size_toArray]; exact dec_short k hlt
    obtain ⟨f, hf⟩ : ∃ f, 15 - k = f + 1 := ⟨14 - k, by omega⟩
    rw [hf, regA] at hq
    obtain ⟨S, hS⟩ : ∃ S, strS (Lib.decDigits k) = S := ⟨_, rfl⟩
    rw [hS] at es hit hsz
    have hz1 : (⟨#[114]⟩ : ByteArray).size + S.size ≤ 9223372036854775807 := by show 1 + S.size ≤ _; omega
    have hz2 : ¬ 9223372036854775807 < 1 + S.size := by omega
    clear ei hS
    have hne : Nonempty (GrownOf wo) := ⟨⟨wo, Below.refl _ _⟩⟩
    replace hB := Lib.hid hB; replace hit := Lib.hid hit; replace gP := Lib.hid gP
    by_cases hm : s.data.toList = 114 :: Lib.decDigits k
    ·rw [if_pos hm] at hq
     rw [decide_eq_true hm] at es
     subst hq
     clear hm hf
     go_upto_region 4 with fail
     refine wp_region_grown (by kernel_rfl) (by kernel_rfl) ?_
     repeat (go_big_quiet_step (first
      | (rename_i g; go_at_call 33; refine (hit.out _ (gP.out g)).mono ?_; rintro e w5 ⟨rfl, b2⟩; exact ⟨rfl, ⟨w5, g.h.trans (b2.mono g.h.size)⟩, rfl⟩)))
     refine wpQuiet_nil ?_
     rintro _ ⟨g, rfl⟩
     go_wp2_with fail
     go_ret
     exact ⟨by rw [← hV'.out]; rfl, hb.out.trans ((hB.out.trans (g.h.mono hB.out.size)).mono hb.out.size)⟩
    ·rw [if_neg hm] at hq
     rw [decide_eq_false hm] at es
     have hq' : regA s.data.toList (15 - (k + 1)) (k + 1) = R := by rw [← hq]; congr 1; omega
     clear hm hf hq
     replace hq' := Lib.hid hq'
     go_upto_region 4 with fail
     refine wp_region_grown (by kernel_rfl) (by kernel_rfl) ?_
     repeat (go_big_quiet_step (first
      | (rename_i g; go_at_call 33; refine (hit.out _ (gP.out g)).mono ?_; rintro e w5 ⟨rfl, b2⟩; exact ⟨rfl, ⟨w5, g.h.trans (b2.mono g.h.size)⟩, rfl⟩)))
     refine wpQuiet_nil ?_
     rintro _ ⟨g, rfl⟩
     go_wp2_with fail
     go_roundw
     case rel => exact ⟨k + 1, by omega, by go_num, hB.out.trans (g.h.mono hB.out.size), hq'.out⟩
     case measure => simp [intOf]; omega
   ·obtain rfl : k = 15 := by omega
    have : R = none := by rw [← hq]; rfl
    subst this
    replace hB := Lib.hid hB
    clear hq
    go_wp2_with fail
    go_ret
    exact ⟨by rw [← hV'.out]; rfl, hb.out.trans (hB.out.mono hb.out.size)⟩
end Go.Proofs.YtiknookfnameiaaGreatDoor
