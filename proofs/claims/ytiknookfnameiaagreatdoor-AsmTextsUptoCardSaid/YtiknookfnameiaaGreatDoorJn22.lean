/- The reference's Name. The contracts of the document's small functions of a text: Named, CondNamed, register, signed, value, operands. -/
import Derived.Test.YtiknookfnameiaaGreatDoorJn06
import Derived.Test.YtiknookfnameiaaGreatDoorJn20
import Derived.Test.YtiknookfnameiaaGreatDoorJn18
import Derived.Test.YtiknookfnameiaaGreatDoorJn14
import Derived.Test.YtiknookfnameiaaGreatDoorTRnbJn
import Derived.OwnWalk
namespace Go.Proofs.YtiknookfnameiaaGreatDoor
open Go.RowKit WP
set_option maxRecDepth 100000 in
set_option maxHeartbeats 1600000 in
theorem rname_any (s : ByteArray) (w : World) :
  Calls Tryz.prog 71 #[.string s] w fun e w' => e = .returned (.int .i64 (if nameF s = true then 0 else 42)) ∧ w' = w := by
 have hl := size_list s
 obtain ⟨R, hR⟩ : ∃ R, (if nameF s = true then (0 : Int) else 42) = R := ⟨_, rfl⟩
 rw [hR]
 by_cases h1 : 1 ≤ s.size
 ·have he := str_empty s false (decide_eq_false (by omega))
  by_cases h2 : s.size ≤ 24
  ·have hF : nameF s = nameA s.data.toList 0 := by unfold nameF; rw [decide_eq_true h1, decide_eq_true h2]; rfl
   rw [hF] at hR
   have d2 : decide ((s.size : Int) > 24) = false := decide_eq_false (by omega)
   replace hR := Lib.hid hR; replace hl := Lib.hid hl
   clear hF
   have hs : s.size ≤ 9223372036854775807 := by omega
   go_enter Tryz.func71, Tryz.ntmps71
   go_wp2_with fail
   clear d2 he
   go_loop [3] (fun i => ∃ k : Nat, k ≤ s.size ∧ i = .int .i64 k ∧ (if nameA (s.data.toList.drop k) k = true then (0 : Int) else 42) = R) (fun i => s.size - (intOf i).toNat)
   case atStart => exact ⟨0, by omega, rfl, hR.out⟩
   case round =>
    obtain ⟨k, hk, rfl, hq⟩ := hrel
    clear hR
    by_cases hlt : k < s.size
    ·have eb := bAt_get s k hlt
     have d4 : decide ((k : Int) < (s.size : Int)) = true := decide_eq_true (by omega)
     have i1 : (0 : Int) ≤ (k : Int) := by omega
     rw [nameA_drop _ _ _ (by rw [hl.out]; exact hlt)] at hq
     obtain ⟨c, hc⟩ : ∃ c, bAt s.data.toList k = c := ⟨_, rfl⟩
     rw [hc] at eb hq
     clear hc
     obtain ⟨sm, hsm⟩ : ∃ sm, (decide (97 ≤ c) && decide (c ≤ 122)) = sm := ⟨_, rfl⟩
     obtain ⟨ot, hot⟩ : ∃ ot, ((decide (48 ≤ c) && decide (c ≤ 57)) || decide (c = 95)) = ot := ⟨_, rfl⟩
     have hn : nmOk k c = (sm || (decide (k ≠ 0) && ot)) := by unfold nmOk; rw [hsm, hot]
     rw [hn] at hq
     clear hn
     replace hq := Lib.hid hq; replace hsm := Lib.hid hsm; replace hot := Lib.hid hot
     go_upto_region 6 with fail
     go_cut [4] from 19 to 28 (fun r wx => r = .bool sm ∧ wx = w)
     case first =>
      by_cases a1 : 97 ≤ c
      ·have d5 : decide (c ≥ 97) = true := decide_eq_true a1
       have hs2 : sm = decide (c ≤ 122) := by rw [← hsm.out, decide_eq_true a1, Bool.true_and]
       clear hsm
       generalize hz : decide (c ≤ 122) = z at *
       subst hs2
       go_wp2_with fail
       go_meet
       case rel => exact ⟨rfl, rfl⟩
      ·have d5 : decide (c ≥ 97) = false := decide_eq_false a1
       have hs2 : sm = false := by rw [← hsm.out, decide_eq_false a1, Bool.false_and]
       subst hs2
       go_wp2_with fail
       go_meet
       case rel => exact ⟨rfl, rfl⟩
     case rest =>
      obtain ⟨rfl, hw⟩ := hcut
      obtain rfl := hw
      clear hsm
      go_upto_region 7 with fail
      go_cut [5] from 29 to 44 (fun r wx => r = .bool ot ∧ wx = wc)
      case first =>
       by_cases a1 : 48 ≤ c
       ·have d5 : decide (c ≥ 48) = true := decide_eq_true a1
        by_cases a2 : c ≤ 57
        ·have d6 : decide (c ≤ 57) = true := decide_eq_true a2
         have hs2 : ot = true := by rw [← hot.out, decide_eq_true a1, decide_eq_true a2]; rfl
         subst hs2
         go_wp2_with fail
         go_meet
         case rel => exact ⟨rfl, rfl⟩
        ·have d6 : decide (c ≤ 57) = false := decide_eq_false a2
         have hs2 : ot = (c == 95) := by rw [← hot.out, decide_eq_false a2, Bool.and_false, Bool.false_or]; rfl
         clear hot
         generalize hz : (c == 95) = z at *
         subst hs2
         go_wp2_with fail
         go_meet
         case rel => exact ⟨rfl, rfl⟩
       ·have d5 : decide (c ≥ 48) = false := decide_eq_false a1
        have hs2 : ot = false := by rw [← hot.out, decide_eq_false a1, decide_eq_false (show ¬ c = 95 by omega)]; rfl
        have d7 : (c == 95) = false := by rw [beq_eq_false_iff_ne]; omega
        subst hs2
        go_wp2_with fail
        go_meet
        case rel => exact ⟨rfl, rfl⟩
      case rest =>
       obtain ⟨rfl, hw⟩ := hcut
       obtain rfl := hw
       clear hot eb
       cases sm with
       | true =>
        rw [Bool.true_or] at hq
        replace hq := Lib.hid (show (if nameA (s.data.toList.drop (k + 1)) (k + 1) = true then (0 : Int) else 42) = R by have := hq.out; simpa using this)
        go_wp2_with fail
        go_round
        case rel => exact ⟨k + 1, by omega, by go_num, hq.out⟩
        case measure => simp [intOf]; omega
       | false =>
        by_cases hk0 : k = 0
        ·have z1 : ((k : Int) == 0) = true := by simp [hk0]
         have hRn : R = 42 := by have := hq.out; rw [hk0] at this; simpa using this.symm
         subst hRn
         replace hk0 := Lib.hid hk0
         clear hq
         go_wp2_with fail
         go_ret
         exact ⟨rfl, rfl⟩
        ·have z1 : ((k : Int) == 0) = false := by simp [hk0]
         cases ot with
         | true =>
          replace hq := Lib.hid (show (if nameA (s.data.toList.drop (k + 1)) (k + 1) = true then (0 : Int) else 42) = R by have := hq.out; simpa [hk0] using this)
          replace hk0 := Lib.hid hk0
          go_wp2_with fail
          go_round
          case rel => exact ⟨k + 1, by omega, by go_num, hq.out⟩
          case measure => simp [intOf]; omega
         | false =>
          have hRn : R = 42 := by have := hq.out; simpa using this.symm
          subst hRn
          replace hk0 := Lib.hid hk0
          clear hq
          go_wp2_with fail
          go_ret
          exact ⟨rfl, rfl⟩
    ·obtain rfl : k = s.size := by omega
     have d4 : decide ((s.size : Int) < (s.size : Int)) = false := decide_eq_false (by omega)
     rw [List.drop_of_length_le (by rw [hl.out]; exact Nat.le_refl _)] at hq
     have hRn : R = 0 := by rw [← hq]; rfl
     subst hRn
     clear hq
     go_wp2_with fail
     go_ret
     exact ⟨rfl, rfl⟩
  ·have hRn : R = 42 := by rw [← hR]; unfold nameF; rw [decide_eq_false h2]; simp
   have d2 : decide ((s.size : Int) > 24) = true := decide_eq_true (by omega)
   subst hRn
   clear hR hl
   go_enter Tryz.func71, Tryz.ntmps71
   go_wp2_with fail
   go_ret
   exact ⟨rfl, rfl⟩
 ·have he := str_empty s true (decide_eq_true (by omega))
  have hRn : R = 42 := by rw [← hR]; unfold nameF; rw [decide_eq_false h1]; simp
  subst hRn
  clear hR hl
  go_enter Tryz.func71, Tryz.ntmps71
  go_wp2_with fail
  go_ret
  exact ⟨rfl, rfl⟩
end Go.Proofs.YtiknookfnameiaaGreatDoor

namespace Go.Proofs.YtiknookfnameiaaGreatDoor
open Go.RowKit WP
set_option linter.unusedSimpArgs false
set_option linter.unusedVariables false
set_option maxRecDepth 100000 in
theorem rnamed_any (s : ByteArray) (w : World) (hT : RTabs w) :
  Calls Tryz.prog 96 #[.string s] w fun e w' => e = .returned (.tuple #[.int .i64 (((namedF s).getD 0 : Nat) : Int), .int .i64 (if (namedF s).isSome = true then 0 else 50)]) ∧ w' = w := by
 obtain ⟨R, hR⟩ : ∃ R, namedF s = R := ⟨_, rfl⟩
 rw [hR]
 obtain ⟨V, hV⟩ : ∃ V : Int, ((R.getD 0 : Nat) : Int) = V := ⟨_, rfl⟩
 obtain ⟨C, hC⟩ : ∃ C : Int, (if R.isSome = true then (0 : Int) else 50) = C := ⟨_, rfl⟩
 rw [hV, hC]
 replace hV := Lib.hid hV; replace hC := Lib.hid hC
 replace hR := Lib.hid hR; replace hT := Lib.hid hT
 go_enter Tryz.func96, Tryz.ntmps96
 go_wp2_with fail
 go_loopw [4] (fun i wr => ∃ k : Nat, 1 ≤ k ∧ k ≤ 25 ∧ i = .int .i64 (k : Int) ∧ wr = w ∧ findT nameT s.data.toList (25 - k) k = R) (fun i _ => 25 - (intOf i).toNat)
 case atStart => exact ⟨1, by omega, by omega, rfl, rfl, hR.out⟩
 case round =>
  obtain ⟨k, h1, h2, rfl, rfl, hq⟩ := hrel
  clear hR
  by_cases hlt : k < 25
  ·obtain ⟨f, hf⟩ : ∃ f, 25 - k = f + 1 := ⟨24 - k, by omega⟩
   have hc := hT.out.names.2 k (by show k < 25; omega)
   rw [Nat.add_zero, Nat.mul_one] at hc
   have e : (⟨(nameT.getD k []).toArray⟩ : ByteArray) = strS (nameT.getD k []) := rfl
   rw [e] at hc
   have eq := eq_str (nameT.getD k []) s
   rw [hf, findT] at hq
   have i1 : (0 : Int) ≤ (k : Int) := by omega
   have i2 : (k : Int) < 25 := by omega
   clear e
   by_cases hm : nameT.getD k [] = s.data.toList
   ·rw [if_pos hm] at hq
    rw [decide_eq_true hm] at eq
    subst hq
    generalize strS (nameT.getD k []) = S at *
    clear hm hf
    go_wp2_with fail
    go_ret2
    exact ⟨by rw [← hV.out, ← hC.out]; rfl, rfl⟩
   ·rw [if_neg hm] at hq
    rw [decide_eq_false hm] at eq
    generalize strS (nameT.getD k []) = S at *
    clear hm
    replace hq := Lib.hid hq
    go_wp2_with fail
    go_roundw
    case rel => exact ⟨k + 1, by omega, by omega, by go_num, trivial, by rw [← hq.out]; congr 1; omega⟩
    case measure => simp [intOf]; omega
  ·obtain rfl : k = 25 := by omega
   have : R = none := by rw [← hq]; rfl
   subst this
   clear hq
   go_wp2_with fail
   go_ret2
   exact ⟨by rw [← hV.out, ← hC.out]; rfl, rfl⟩
set_option maxRecDepth 100000 in
theorem rcondn_any (s : ByteArray) (w : World) (hT : RTabs w) :
  Calls Tryz.prog 144 #[.string s] w fun e w' => e = .returned (.tuple #[.int .i64 (((condF s).getD 0 : Nat) : Int), .int .i64 (if (condF s).isSome = true then 0 else 50)]) ∧ w' = w := by
 obtain ⟨R, hR⟩ : ∃ R, condF s = R := ⟨_, rfl⟩
 rw [hR]
 obtain ⟨V, hV⟩ : ∃ V : Int, ((R.getD 0 : Nat) : Int) = V := ⟨_, rfl⟩
 obtain ⟨C, hC⟩ : ∃ C : Int, (if R.isSome = true then (0 : Int) else 50) = C := ⟨_, rfl⟩
 rw [hV, hC]
 replace hV := Lib.hid hV; replace hC := Lib.hid hC
 replace hR := Lib.hid hR; replace hT := Lib.hid hT
 go_enter Tryz.func144, Tryz.ntmps144
 go_wp2_with fail
 go_loopw [4] (fun i wr => ∃ k : Nat, k ≤ 7 ∧ i = .int .i64 (k : Int) ∧ wr = w ∧ findT condT s.data.toList (7 - k) k = R) (fun i _ => 7 - (intOf i).toNat)
 case atStart => exact ⟨0, by omega, rfl, rfl, hR.out⟩
 case round =>
  obtain ⟨k, h2, rfl, rfl, hq⟩ := hrel
  clear hR
  by_cases hlt : k < 7
  ·obtain ⟨f, hf⟩ : ∃ f, 7 - k = f + 1 := ⟨6 - k, by omega⟩
   have hc := hT.out.conds.2 k (by show k < 7; omega)
   rw [Nat.add_zero, Nat.mul_one] at hc
   have e : (⟨(condT.getD k []).toArray⟩ : ByteArray) = strS (condT.getD k []) := rfl
   rw [e] at hc
   have eq := eq_str (condT.getD k []) s
   rw [hf, findT] at hq
   have i1 : (0 : Int) ≤ (k : Int) := by omega
   have i2 : (k : Int) < 7 := by omega
   clear e
   by_cases hm : condT.getD k [] = s.data.toList
   ·rw [if_pos hm] at hq
    rw [decide_eq_true hm] at eq
    subst hq
    generalize strS (condT.getD k []) = S at *
    clear hm hf
    go_wp2_with fail
    go_ret2
    exact ⟨by rw [← hV.out, ← hC.out]; rfl, rfl⟩
   ·rw [if_neg hm] at hq
    rw [decide_eq_false hm] at eq
    generalize strS (condT.getD k []) = S at *
    clear hm
    replace hq := Lib.hid hq
    go_wp2_with fail
    go_roundw
    case rel => exact ⟨k + 1, by omega, by go_num, trivial, by rw [← hq.out]; congr 1; omega⟩
    case measure => simp [intOf]; omega
  ·obtain rfl : k = 7 := by omega
   have : R = none := by rw [← hq]; rfl
   subst this
   clear hq
   go_wp2_with fail
   go_ret2
   exact ⟨by rw [← hV.out, ← hC.out]; rfl, rfl⟩
set_option maxRecDepth 100000 in
theorem rreg_any (s : ByteArray) (w : World) :
  Calls Tryz.prog 125 #[.string s] w fun e w' => e = .returned (.int .i64 (regO (regA s.data.toList 15 0))) ∧ w' = w := by
 obtain ⟨R, hR⟩ : ∃ R, regA s.data.toList 15 0 = R := ⟨_, rfl⟩
 rw [hR]
 obtain ⟨V, hV⟩ : ∃ V : Int, regO R = V := ⟨_, rfl⟩
 rw [hV]
 replace hV := Lib.hid hV; replace hR := Lib.hid hR
 have hten := fun u (hu : u < 4294967296) W => rtens_any u W hu
 replace hten := Lib.hid hten
 go_enter Tryz.func125, Tryz.ntmps125
 go_wp2_with fail
 go_loopw [3] (fun i wr => ∃ k : Nat, k ≤ 15 ∧ i = .int .i64 (k : Int) ∧ wr = w ∧ regA s.data.toList (15 - k) k = R) (fun i _ => 15 - (intOf i).toNat)
 case atStart => exact ⟨0, by omega, rfl, rfl, hR.out⟩
 case round =>
  obtain ⟨k, h2, rfl, rfl, hq⟩ := hrel
  clear hR
  by_cases hlt : k < 15
  ·obtain ⟨f, hf⟩ : ∃ f, 15 - k = f + 1 := ⟨14 - k, by omega⟩
   rw [hf, regA] at hq
   have i1 : (0 : Int) ≤ (k : Int) := by omega
   have i2 : (k : Int) < 15 := by omega
   have i3 : IntKind.u32.wrap (k : Int) = (k : Int) := by rw [IntKind.wrap_u32]; omega
   have hcall := hten.out k (by omega)
   have eq := eq_r (Lib.decDigits k) s
   have hsz := dec_short k hlt
   have hsz2 : (strS (Lib.decDigits k)).size ≤ 2 := by rw [show (strS (Lib.decDigits k)).size = (Lib.decDigits k).length by simp [strS, ByteArray.size]]; exact hsz
   clear hsz
   by_cases hm : s.data.toList = 114 :: Lib.decDigits k
   ·rw [if_pos hm] at hq
    rw [decide_eq_true hm] at eq
    subst hq
    generalize strS (Lib.decDigits k) = S at *
    have hsz3 : ((⟨#[114]⟩ : ByteArray) ++ S).size ≤ 3 := by rw [ByteArray.size_append]; have : (⟨#[114]⟩ : ByteArray).size = 1 := rfl; omega
    clear hm hf
    go_wp2_with (go_at_call 146; refine (hcall _).mono ?_; rintro e w' ⟨rfl, rfl⟩)
    go_ret
    exact ⟨by rw [← hV.out]; rfl, rfl⟩
   ·rw [if_neg hm] at hq
    rw [decide_eq_false hm] at eq
    generalize strS (Lib.decDigits k) = S at *
    have hsz3 : ((⟨#[114]⟩ : ByteArray) ++ S).size ≤ 3 := by rw [ByteArray.size_append]; have : (⟨#[114]⟩ : ByteArray).size = 1 := rfl; omega
    clear hm
    replace hq := Lib.hid hq
    go_wp2_with (go_at_call 146; refine (hcall _).mono ?_; rintro e w' ⟨rfl, rfl⟩)
    go_roundw
    case rel => exact ⟨k + 1, by omega, by go_num, trivial, by rw [← hq.out]; congr 1; omega⟩
    case measure => simp [intOf]; omega
  ·obtain rfl : k = 15 := by omega
   have : R = none := by rw [← hq]; rfl
   subst this
   clear hq
   go_wp2_with fail
   go_ret
   exact ⟨by rw [← hV.out]; rfl, rfl⟩
theorem sgn_bd {l : List UInt8} {v : Int} (h : sgnF l = some v) : -2147483648 ≤ v ∧ v ≤ 2147483647 := ⟨(sgn_back l v h).1, (sgn_back l v h).2.1⟩
set_option maxRecDepth 100000 in
/-- the document's signed number of 16 bits -/
theorem rsgn_any (s : ByteArray) (w : World) (hs : s.size ≤ 140737488355328) :
  Calls Tryz.prog 145 #[.string s] w fun e w' => e = .returned (.tuple #[.int .i64 ((sgnF s.data.toList).getD 0), .bool (sgnIn s).isSome]) ∧ w' = w := by
 have hc := rsigned_any s w hs
 obtain ⟨p, hp⟩ : ∃ p, sgnIn s = p := ⟨_, rfl⟩
 rw [hp]
 unfold sgnIn at hp
 cases hv : sgnF s.data.toList with
 | none =>
  rw [hv] at hc hp
  dsimp only at hp
  subst hp
  replace hc := Lib.hid hc
  go_enter Tryz.func145, Tryz.ntmps145
  go_wp2_with fail
  refine hc.out.mono ?_
  rintro e wq ⟨rfl, hwq⟩
  obtain rfl := hwq.symm
  simp only [Option.getD_none, Option.isSome_none, errN, Bool.false_eq_true, if_false]
  go_wp2_with fail
  go_ret2
  exact ⟨rfl, rfl⟩
 | some v =>
  obtain ⟨b0, b1⟩ := sgn_bd hv
  rw [hv] at hc hp
  replace hc := Lib.hid hc
  dsimp only at hp
  obtain ⟨x, hx⟩ : ∃ x, decide (v ≥ -32768) = x := ⟨_, rfl⟩
  obtain ⟨y, hy⟩ : ∃ y, decide (v ≤ 32767) = y := ⟨_, rfl⟩
  have hpq : p.isSome = (x && y) := by
   rw [← hp, ← hx, ← hy]
   by_cases h : -32768 ≤ v ∧ v ≤ 32767
   ·rw [if_pos h, decide_eq_true (show v ≥ -32768 from h.1), decide_eq_true h.2]; rfl
   ·rw [if_neg h]
    by_cases h1 : v ≥ -32768
    ·rw [decide_eq_true h1, decide_eq_false (fun h2 => h ⟨h1, h2⟩)]; rfl
    ·rw [decide_eq_false h1]; rfl
  rw [hpq]
  clear hp hpq
  go_enter Tryz.func145, Tryz.ntmps145
  go_wp2_with fail
  refine hc.out.mono ?_
  rintro e wq ⟨rfl, hwq⟩
  obtain rfl := hwq.symm
  simp only [Option.getD_some, Option.isSome_some, errN, if_true]
  clear hc
  cases x <;> cases y <;> (go_wp2_with fail; go_ret2; exact ⟨rfl, rfl⟩)
def rvalS (o : Option (ByteArray × Int)) : ByteArray := (o.map (·.1)).getD ⟨#[]⟩
def rvalV (o : Option (ByteArray × Int)) : Int := (o.map (·.2)).getD 0
theorem num_bd {l : List UInt8} {v : Nat} (h : numF l = some v) : v < 4294967296 := (num_back l v h).1
set_option maxRecDepth 100000 in
theorem rvalue_any (s : ByteArray) (w : World) (hs : s.size ≤ 140737488355328) :
  Calls Tryz.prog 127 #[.string s] w fun e w' => e = .returned (.tuple #[.string (rvalS (rvalF s)), .int .u32 (rvalV (rvalF s)), .bool (rvalF s).isSome]) ∧ w' = w := by
 have h1 := rname_any s w
 have h2 := rnumber_any s w hs
 have h3 := rsigned_any s w hs
 obtain ⟨R, hR⟩ : ∃ R, rvalF s = R := ⟨_, rfl⟩
 rw [hR]
 unfold rvalF at hR
 cases hn : nameF s with
 | true =>
  rw [if_pos hn] at hR
  rw [if_pos hn] at h1
  subst hR
  clear h2 h3
  replace h1 := Lib.hid h1
  go_enter Tryz.func127, Tryz.ntmps127
  go_wp2_with fail
  refine h1.out.mono ?_
  rintro e wq ⟨rfl, hwq⟩
  obtain rfl := hwq.symm
  go_wp2_with fail
  go_ret3
  exact ⟨rfl, rfl⟩
 | false =>
  rw [if_neg (by rw [hn]; decide)] at hR
  rw [if_neg (by rw [hn]; decide)] at h1
  cases hm : numF s.data.toList with
  | some v =>
   rw [hm] at h2 hR
   dsimp only at hR
   subst hR
   clear h3
   simp only [Option.getD_some, Option.isSome_some, errN, if_true] at h2
   replace h1 := Lib.hid h1; replace h2 := Lib.hid h2
   go_enter Tryz.func127, Tryz.ntmps127
   go_wp2_with fail
   refine h1.out.mono ?_
   rintro e wq ⟨rfl, hwq⟩
   obtain rfl := hwq.symm
   go_wp2_with fail
   refine h2.out.mono ?_
   rintro e wq ⟨rfl, hwq⟩
   obtain rfl := hwq.symm
   go_wp2_with fail
   go_ret3
   exact ⟨rfl, rfl⟩
  | none =>
   rw [hm] at h2 hR
   dsimp only at hR
   simp only [Option.getD_none, Option.isSome_none, errN, Bool.false_eq_true, if_false] at h2
   have hu : ∀ x : Int, IntKind.u32.wrap x = x % 4294967296 := fun x => IntKind.wrap_u32 x
   cases hg : sgnF s.data.toList with
   | none =>
    rw [hg] at h3 hR
    simp only [Option.getD_none, Option.isSome_none, errN, Bool.false_eq_true, if_false] at h3
    simp only [Option.map_none] at hR
    subst hR
    replace h1 := Lib.hid h1; replace h2 := Lib.hid h2; replace h3 := Lib.hid h3
    go_enter Tryz.func127, Tryz.ntmps127
    go_wp2_with fail
    refine h1.out.mono ?_
    rintro e wq ⟨rfl, hwq⟩
    obtain rfl := hwq.symm
    go_wp2_with fail
    refine h2.out.mono ?_
    rintro e wq ⟨rfl, hwq⟩
    obtain rfl := hwq.symm
    go_wp2_with fail
    refine h3.out.mono ?_
    rintro e wq ⟨rfl, hwq⟩
    obtain rfl := hwq.symm
    go_wp2_with fail
    go_ret3
    exact ⟨rfl, rfl⟩
   | some v =>
    rw [hg] at h3 hR
    simp only [Option.getD_some, Option.isSome_some, errN, if_true] at h3
    simp only [Option.map_some] at hR
    subst hR
    replace h1 := Lib.hid h1; replace h2 := Lib.hid h2; replace h3 := Lib.hid h3
    go_enter Tryz.func127, Tryz.ntmps127
    go_wp2_with fail
    refine h1.out.mono ?_
    rintro e wq ⟨rfl, hwq⟩
    obtain rfl := hwq.symm
    go_wp2_with fail
    refine h2.out.mono ?_
    rintro e wq ⟨rfl, hwq⟩
    obtain rfl := hwq.symm
    go_wp2_with fail
    refine h3.out.mono ?_
    rintro e wq ⟨rfl, hwq⟩
    obtain rfl := hwq.symm
    go_wp2_with fail
    go_ret3
    exact ⟨rfl, rfl⟩
theorem eq_lit (l : List UInt8) (s : ByteArray) : (s.toList == l) = decide (s.data.toList = l) := by
 rw [ByteArray.toList_eq]
 by_cases h : s.data.toList = l
 ·rw [decide_eq_true h, h]; simp
 ·rw [decide_eq_false h]; simpa using h
def ropsA : Option (Nat × Nat) → Int
 | some y => (y.1 : Int)
 | none => -1
def ropsB (o : Option (Nat × Nat)) : Int := (((o.map (·.2)).getD 0 : Nat) : Int)
set_option maxRecDepth 100000 in
theorem rops_any (s : ByteArray) (w : World) (hT : RTabs w) :
  Calls Tryz.prog 95 #[.string s] w fun e w' => e = .returned (.tuple #[.int .i64 (ropsA (ropsF s)), .int .i64 (ropsB (ropsF s))]) ∧ w' = w := by
 have hn := rnamed_any s w hT
 have hsh := fun op : Nat => rshape_any (op : Int) w hT
 have q1 := eq_lit wordT s
 have q2 := eq_lit liT s
 have q3 := eq_lit zeroT s
 obtain ⟨R, hR⟩ : ∃ R, ropsF s = R := ⟨_, rfl⟩
 rw [hR]
 unfold ropsF at hR
 clear hT
 by_cases h1 : s.data.toList = wordT
 ·rw [if_pos h1] at hR
  rw [decide_eq_true h1] at q1
  unfold wordT at q1
  subst hR
  clear hn hsh q2 q3 h1
  go_enter Tryz.func95, Tryz.ntmps95
  go_wp2_with fail
  go_ret2
  exact ⟨rfl, rfl⟩
 rw [if_neg h1] at hR
 rw [decide_eq_false h1] at q1
 unfold wordT at q1
 clear h1
 by_cases h2 : s.data.toList = liT
 ·rw [if_pos h2] at hR
  rw [decide_eq_true h2] at q2
  unfold liT at q2
  subst hR
  clear hn hsh q3 h2
  go_enter Tryz.func95, Tryz.ntmps95
  go_wp2_with fail
  go_ret2
  exact ⟨rfl, rfl⟩
 rw [if_neg h2] at hR
 rw [decide_eq_false h2] at q2
 unfold liT at q2
 clear h2
 by_cases h3 : s.data.toList = zeroT
 ·rw [if_pos h3] at hR
  rw [decide_eq_true h3] at q3
  unfold zeroT at q3
  subst hR
  clear hn hsh h3
  go_enter Tryz.func95, Tryz.ntmps95
  go_wp2_with fail
  go_ret2
  exact ⟨rfl, rfl⟩
 rw [if_neg h3] at hR
 rw [decide_eq_false h3] at q3
 unfold zeroT at q3
 clear h3
 cases hv : namedF s with
 | none =>
  rw [hv] at hn hR
  simp only [Option.map_none] at hR
  subst hR
  simp only [Option.getD_none, Option.isSome_none, Bool.false_eq_true, if_false] at hn
  clear hsh hv
  replace hn := Lib.hid hn
  go_enter Tryz.func95, Tryz.ntmps95
  go_wp2_with fail
  refine hn.out.mono ?_
  rintro e wq ⟨rfl, hwq⟩
  obtain rfl := hwq.symm
  go_wp2_with fail
  go_ret2
  exact ⟨rfl, rfl⟩
 | some op =>
  rw [hv] at hn hR
  simp only [Option.map_some] at hR
  subst hR
  simp only [Option.getD_some, Option.isSome_some, if_true] at hn
  have hso := hsh op
  have hl := shape_len (op : Int)
  have hsz : (strS (shapeI op)).size = (shapeI op).length := by simp [strS, ByteArray.size]
  generalize shapeI op = L at *
  generalize strS L = S at *
  clear hsh hv
  replace hn := Lib.hid hn; replace hso := Lib.hid hso
  go_enter Tryz.func95, Tryz.ntmps95
  go_wp2_with fail
  refine hn.out.mono ?_
  rintro e wq ⟨rfl, hwq⟩
  obtain rfl := hwq.symm
  go_wp2_with fail
  refine hso.out.mono ?_
  rintro e wq ⟨rfl, hwq⟩
  obtain rfl := hwq.symm
  go_wp2_with fail
  go_ret2
  exact ⟨rfl, rfl⟩
end Go.Proofs.YtiknookfnameiaaGreatDoor
