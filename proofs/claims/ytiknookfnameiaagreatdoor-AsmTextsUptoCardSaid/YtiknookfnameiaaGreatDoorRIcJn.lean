/- The contract of the reference's Check of an instruction. -/
import Derived.Test.YtiknookfnameiaaGreatDoorJn18
import Derived.Deep.Cut
import Derived.Deep.CutRange
import Derived.Deep.RegionWith
namespace Go.Proofs
namespace YtiknookfnameiaaGreatDoor
open Go.RowKit WP
def rinsC (i : Ins) : Array Value := #[.int .i64 i.op, .int .i64 i.k, .int .i64 i.a, .int .i64 i.b, .int .i64 i.c, .int .i64 i.imm]
theorem rfine_parts (i : Ins) {A B C K I : Bool} (hA : withinI (hasL (shapeI i.op) 97) i.a 0 14 = A) (hB : withinI (hasL (shapeI i.op) 98) i.b 0 14 = B) (hC : withinI (hasL (shapeI i.op) 99) i.c 0 14 = C) (hK : withinI (hasL (shapeI i.op) 107) i.k 0 6 = K) (hI : immOk (shapeI i.op) i.imm = I) : rfine i = (A && B && C && K && I) := by
 unfold rfine; rw [hA, hB, hC, hK, hI]
set_option maxRecDepth 100000 in
set_option maxHeartbeats 2000000 in
theorem rcheck_any (i : Ins) (w : World) (hT : RTabs w) :
  Calls Tryz.prog 72 #[.agg (rinsC i)] w fun e w' => Below w.heap.size w w' ∧ e = .returned (.int .i64 (rcheckI i)) := by
 obtain ⟨R, hR⟩ : ∃ R, rcheckI i = R := ⟨_, rfl⟩
 rw [hR]
 obtain ⟨L, hL⟩ : ∃ L, shapeI i.op = L := ⟨_, rfl⟩
 have hlen : L.length ≤ 3 := by rw [← hL]; exact shape_len i.op
 have hfin := fun {A B C K I : Bool} => @rfine_parts i A B C K I
 rw [hL] at hfin
 have hsh := fun W hW => rshape_any i.op W hW
 rw [hL] at hsh
 have hRv : R = if L = [] then 50 else if rfine i then 0 else 51 := by rw [← hR, ← hL]; rfl
 have hw1 : ∀ o : Obj, RTabs (w.alloc o) := fun o => hT.later ((Below.refl _ _).alloc (Nat.le_refl _) _)
 replace hsh := Lib.hid (fun o => hsh _ (hw1 o))
 clear hw1 hR hL hT
 obtain ⟨op, k, a, b, c, imm⟩ := i
 simp only [rinsC] at hfin ⊢
 have haA : ∀ W, Calls Tryz.prog 101 #[.string (strS L), .int .u8 97] W fun e w' => e = .returned (.bool (hasL L 97)) ∧ w' = W := fun W => has_any L 97 W hlen
 have haB : ∀ W, Calls Tryz.prog 101 #[.string (strS L), .int .u8 98] W fun e w' => e = .returned (.bool (hasL L 98)) ∧ w' = W := fun W => has_any L 98 W hlen
 have haC : ∀ W, Calls Tryz.prog 101 #[.string (strS L), .int .u8 99] W fun e w' => e = .returned (.bool (hasL L 99)) ∧ w' = W := fun W => has_any L 99 W hlen
 have haK : ∀ W, Calls Tryz.prog 101 #[.string (strS L), .int .u8 107] W fun e w' => e = .returned (.bool (hasL L 107)) ∧ w' = W := fun W => has_any L 107 W hlen
 have haU : ∀ W, Calls Tryz.prog 101 #[.string (strS L), .int .u8 117] W fun e w' => e = .returned (.bool (hasL L 117)) ∧ w' = W := fun W => has_any L 117 W hlen
 have haS : ∀ W, Calls Tryz.prog 101 #[.string (strS L), .int .u8 115] W fun e w' => e = .returned (.bool (hasL L 115)) ∧ w' = W := fun W => has_any L 115 W hlen
 have haO : ∀ W, Calls Tryz.prog 101 #[.string (strS L), .int .u8 111] W fun e w' => e = .returned (.bool (hasL L 111)) ∧ w' = W := fun W => has_any L 111 W hlen
 have wA := fun W => within_any (hasL L 97) a 0 14 W
 have wB := fun W => within_any (hasL L 98) b 0 14 W
 have wC := fun W => within_any (hasL L 99) c 0 14 W
 have wK := fun W => within_any (hasL L 107) k 0 6 W
 by_cases hLe : L = []
 ·subst hLe
  rw [if_pos rfl] at hRv
  subst hRv
  have hS : strS [] = ⟨#[]⟩ := rfl
  rw [hS] at hsh
  clear haA haB haC haK haU haS haO wA wB wC wK hfin
  go_enter Tryz.func72, Tryz.ntmps72
  go_wp2_with (go_at_call 99; refine (hsh.out _).mono ?_; rintro e w' ⟨rfl, rfl⟩)
  go_ret
  exact ⟨(Below.refl _ _).alloc (Nat.le_refl _) _, rfl⟩
 ·rw [if_neg hLe] at hRv
  have s1 : (strS L).toList.isEmpty = false := by
   cases L with
   | nil => exact absurd rfl hLe
   | cons x l => simp [strS, ByteArray.toList_eq]
  obtain ⟨A, hA⟩ : ∃ A, hasL L 97 = A := ⟨_, rfl⟩
  obtain ⟨B, hB⟩ : ∃ A, hasL L 98 = A := ⟨_, rfl⟩
  obtain ⟨C, hC⟩ : ∃ A, hasL L 99 = A := ⟨_, rfl⟩
  obtain ⟨K, hK⟩ : ∃ A, hasL L 107 = A := ⟨_, rfl⟩
  obtain ⟨U, hU⟩ : ∃ A, hasL L 117 = A := ⟨_, rfl⟩
  obtain ⟨V, hV⟩ : ∃ A, hasL L 115 = A := ⟨_, rfl⟩
  obtain ⟨O, hO⟩ : ∃ A, hasL L 111 = A := ⟨_, rfl⟩
  have hI : immOk L imm = if U then decide (0 ≤ imm ∧ imm ≤ 65535) else if V || O then decide (-32768 ≤ imm ∧ imm ≤ 32767) else decide (imm = 0) := by unfold immOk; rw [hU, hV, hO]
  rw [hA] at haA wA hfin
  rw [hB] at haB wB hfin
  rw [hC] at haC wC hfin
  rw [hK] at haK wK hfin
  rw [hU] at haU
  rw [hV] at haS
  rw [hO] at haO
  obtain ⟨WA, hWA⟩ : ∃ x, withinI A a 0 14 = x := ⟨_, rfl⟩
  obtain ⟨WB, hWB⟩ : ∃ x, withinI B b 0 14 = x := ⟨_, rfl⟩
  obtain ⟨WC, hWC⟩ : ∃ x, withinI C c 0 14 = x := ⟨_, rfl⟩
  obtain ⟨WK, hWK⟩ : ∃ x, withinI K k 0 6 = x := ⟨_, rfl⟩
  have hf := hfin hWA hWB hWC hWK rfl
  rw [hI] at hf
  rw [hf] at hRv
  rw [hWA] at wA
  rw [hWB] at wB
  rw [hWC] at wC
  rw [hWK] at wK
  clear hA hB hC hK hU hV hO hWA hWB hWC hWK hfin hf hI hlen
  obtain ⟨S, hS⟩ : ∃ S, strS L = S := ⟨_, rfl⟩
  rw [hS] at s1 hsh haA haB haC haK haU haS haO
  clear hS hLe
  replace hRv := Lib.hid hRv; replace haA := Lib.hid haA; replace haB := Lib.hid haB; replace haC := Lib.hid haC; replace haK := Lib.hid haK; replace haU := Lib.hid haU; replace haS := Lib.hid haS; replace haO := Lib.hid haO
  replace wA := Lib.hid wA; replace wB := Lib.hid wB; replace wC := Lib.hid wC; replace wK := Lib.hid wK
  go_enter Tryz.func72, Tryz.ntmps72
  go_upto_region 4 with (go_at_call 99; refine (hsh.out _).mono ?_; rintro e w' ⟨rfl, rfl⟩)
  obtain ⟨w1, hw1⟩ : ∃ w1, w.alloc (.cells #[.int .i64 op, .int .i64 k, .int .i64 a, .int .i64 b, .int .i64 c, .int .i64 imm] 128) = w1 := ⟨_, rfl⟩
  have hq : w1.heap[w.heap.size]? = some (.cells #[.int .i64 op, .int .i64 k, .int .i64 a, .int .i64 b, .int .i64 c, .int .i64 imm] 128 (0, 0)) := by rw [← hw1]; exact heap_alloc_new _ _
  have hb1 : Below w.heap.size w w1 := by rw [← hw1]; exact (Below.refl _ _).alloc (Nat.le_refl _) _
  rw [hw1]
  clear hw1 s1
  go_cut [4] from 10 to 35 (fun r wx => r = .bool (WA && WB && WC && WK) ∧ ∃ n, wx = w1.drewN n)
  case first =>
   have c1 : w1.cell? ⟨w.heap.size, 1, none⟩ = some (.int .i64 k) := cell_of_row _ _ 1 _ _ _ hq
   have c2 : w1.cell? ⟨w.heap.size, 2, none⟩ = some (.int .i64 a) := cell_of_row _ _ 2 _ _ _ hq
   have c3 : w1.cell? ⟨w.heap.size, 3, none⟩ = some (.int .i64 b) := cell_of_row _ _ 3 _ _ _ hq
   have c4 : w1.cell? ⟨w.heap.size, 4, none⟩ = some (.int .i64 c) := cell_of_row _ _ 4 _ _ _ hq
   clear hq
   replace hb1 := Lib.hid hb1
   rcases WA with _ | _
   ·go_quiet ((first | (go_at_call_of 101 (Value.int .u8 97); exact Calls.quiet_of_same (haA.out _)) | (go_at_call_of 100 (Value.int .i64 a); exact Calls.quiet_of_same (wA.out _))))
    go_wp2_with fail
    go_meet
    case rel => exact ⟨rfl, _, rfl⟩
   ·rcases WB with _ | _
    ·go_quiet ((first | (go_at_call_of 101 (Value.int .u8 97); exact Calls.quiet_of_same (haA.out _)) | (go_at_call_of 100 (Value.int .i64 a); exact Calls.quiet_of_same (wA.out _)) | (go_at_call_of 101 (Value.int .u8 98); exact Calls.quiet_of_same (haB.out _)) | (go_at_call_of 100 (Value.int .i64 b); exact Calls.quiet_of_same (wB.out _))))
     go_wp2_with fail
     go_meet
     case rel => exact ⟨rfl, _, rfl⟩
    ·rcases WC with _ | _
     ·go_quiet ((first | (go_at_call_of 101 (Value.int .u8 97); exact Calls.quiet_of_same (haA.out _)) | (go_at_call_of 100 (Value.int .i64 a); exact Calls.quiet_of_same (wA.out _)) | (go_at_call_of 101 (Value.int .u8 98); exact Calls.quiet_of_same (haB.out _)) | (go_at_call_of 100 (Value.int .i64 b); exact Calls.quiet_of_same (wB.out _)) | (go_at_call_of 101 (Value.int .u8 99); exact Calls.quiet_of_same (haC.out _)) | (go_at_call_of 100 (Value.int .i64 c); exact Calls.quiet_of_same (wC.out _))))
      go_wp2_with fail
      go_meet
      case rel => exact ⟨rfl, _, rfl⟩
     ·rcases WK with _ | _
      ·go_quiet ((first | (go_at_call_of 101 (Value.int .u8 97); exact Calls.quiet_of_same (haA.out _)) | (go_at_call_of 100 (Value.int .i64 a); exact Calls.quiet_of_same (wA.out _)) | (go_at_call_of 101 (Value.int .u8 98); exact Calls.quiet_of_same (haB.out _)) | (go_at_call_of 100 (Value.int .i64 b); exact Calls.quiet_of_same (wB.out _)) | (go_at_call_of 101 (Value.int .u8 99); exact Calls.quiet_of_same (haC.out _)) | (go_at_call_of 100 (Value.int .i64 c); exact Calls.quiet_of_same (wC.out _)) | (go_at_call_of 101 (Value.int .u8 107); exact Calls.quiet_of_same (haK.out _)) | (go_at_call_of 100 (Value.int .i64 k); exact Calls.quiet_of_same (wK.out _))))
       go_wp2_with fail
       go_meet
       case rel => exact ⟨rfl, _, rfl⟩
      ·go_quiet ((first | (go_at_call_of 101 (Value.int .u8 97); exact Calls.quiet_of_same (haA.out _)) | (go_at_call_of 100 (Value.int .i64 a); exact Calls.quiet_of_same (wA.out _)) | (go_at_call_of 101 (Value.int .u8 98); exact Calls.quiet_of_same (haB.out _)) | (go_at_call_of 100 (Value.int .i64 b); exact Calls.quiet_of_same (wB.out _)) | (go_at_call_of 101 (Value.int .u8 99); exact Calls.quiet_of_same (haC.out _)) | (go_at_call_of 100 (Value.int .i64 c); exact Calls.quiet_of_same (wC.out _)) | (go_at_call_of 101 (Value.int .u8 107); exact Calls.quiet_of_same (haK.out _)) | (go_at_call_of 100 (Value.int .i64 k); exact Calls.quiet_of_same (wK.out _))))
       go_wp2_with fail
       go_meet
       case rel => exact ⟨rfl, _, rfl⟩
  case rest =>
   obtain ⟨rfl, n, rfl⟩ := hcut
   obtain ⟨w2, hw2⟩ : ∃ w2, w1.drewN n = w2 := ⟨_, rfl⟩
   have hb2 : Below w.heap.size w w2 := by rw [← hw2]; exact hb1.trans ⟨rfl, rfl, rfl, Nat.le_refl _, fun _ _ => rfl⟩
   have c5 : w2.cell? ⟨w.heap.size, 5, none⟩ = some (.int .i64 imm) := by rw [← hw2]; exact cell_of_row _ _ 5 _ _ _ hq
   rw [hw2]
   clear hw2 hq hb1 wA wB wC wK haA haB haC haK
   replace hb2 := Lib.hid hb2
   obtain ⟨W, hW⟩ : ∃ W, (WA && WB && WC && WK) = W := ⟨_, rfl⟩
   rw [hW] at hRv ⊢
   clear hW WA WB WC WK
   rcases W with _ | _
   ·have hR : R = 51 := by rw [hRv.out]; rfl
    clear hRv
    subst hR
    rcases U with _ | _
    ·rcases V with _ | _
     ·rcases O with _ | _
      all_goals
       go_wp2_with (first | (go_at_call_of 101 (Value.int .u8 117); refine (haU.out _).mono ?_; rintro e w' ⟨rfl, rfl⟩) | (go_at_call_of 101 (Value.int .u8 115); refine (haS.out _).mono ?_; rintro e w' ⟨rfl, rfl⟩) | (go_at_call_of 101 (Value.int .u8 111); refine (haO.out _).mono ?_; rintro e w' ⟨rfl, rfl⟩))
       go_ret
       exact ⟨hb2.out, rfl⟩
     ·go_wp2_with (first | (go_at_call_of 101 (Value.int .u8 117); refine (haU.out _).mono ?_; rintro e w' ⟨rfl, rfl⟩) | (go_at_call_of 101 (Value.int .u8 115); refine (haS.out _).mono ?_; rintro e w' ⟨rfl, rfl⟩))
      go_ret
      exact ⟨hb2.out, rfl⟩
    ·go_wp2_with (go_at_call_of 101 (Value.int .u8 117); refine (haU.out _).mono ?_; rintro e w' ⟨rfl, rfl⟩)
     go_ret
     exact ⟨hb2.out, rfl⟩
   ·have hRv2 := hRv.out
    clear hRv
    rw [Bool.true_and] at hRv2
    rcases U with _ | _
    ·rcases V with _ | _
     ·rcases O with _ | _
      ·by_cases hz : imm = 0
       ·have d1 : (imm == 0) = true := by simp [hz]
        have hR : R = 0 := by rw [hRv2]; simp [hz]
        clear hRv2; subst hR
        replace hz := Lib.hid hz
        go_wp2_with (first | (go_at_call_of 101 (Value.int .u8 117); refine (haU.out _).mono ?_; rintro e w' ⟨rfl, rfl⟩) | (go_at_call_of 101 (Value.int .u8 115); refine (haS.out _).mono ?_; rintro e w' ⟨rfl, rfl⟩) | (go_at_call_of 101 (Value.int .u8 111); refine (haO.out _).mono ?_; rintro e w' ⟨rfl, rfl⟩))
        go_ret
        exact ⟨hb2.out, rfl⟩
       ·have d1 : (imm == 0) = false := by simp [hz]
        have hR : R = 51 := by rw [hRv2]; simp [hz]
        clear hRv2; subst hR
        replace hz := Lib.hid hz
        go_wp2_with (first | (go_at_call_of 101 (Value.int .u8 117); refine (haU.out _).mono ?_; rintro e w' ⟨rfl, rfl⟩) | (go_at_call_of 101 (Value.int .u8 115); refine (haS.out _).mono ?_; rintro e w' ⟨rfl, rfl⟩) | (go_at_call_of 101 (Value.int .u8 111); refine (haO.out _).mono ?_; rintro e w' ⟨rfl, rfl⟩))
        go_ret
        exact ⟨hb2.out, rfl⟩
      ·by_cases h1 : -32768 ≤ imm
       ·by_cases h2 : imm ≤ 32767
        ·have d1 : decide (imm ≥ -32768) = true := decide_eq_true h1
         have d2 : decide (imm ≤ 32767) = true := decide_eq_true h2
         have hR : R = 0 := by rw [hRv2]; simp [h1, h2]
         clear hRv2; subst hR
         go_wp2_with (first | (go_at_call_of 101 (Value.int .u8 117); refine (haU.out _).mono ?_; rintro e w' ⟨rfl, rfl⟩) | (go_at_call_of 101 (Value.int .u8 115); refine (haS.out _).mono ?_; rintro e w' ⟨rfl, rfl⟩) | (go_at_call_of 101 (Value.int .u8 111); refine (haO.out _).mono ?_; rintro e w' ⟨rfl, rfl⟩))
         go_ret
         exact ⟨hb2.out, rfl⟩
        ·have d1 : decide (imm ≥ -32768) = true := decide_eq_true h1
         have d2 : decide (imm ≤ 32767) = false := decide_eq_false h2
         have hR : R = 51 := by rw [hRv2]; simp [h2]
         clear hRv2; subst hR
         go_wp2_with (first | (go_at_call_of 101 (Value.int .u8 117); refine (haU.out _).mono ?_; rintro e w' ⟨rfl, rfl⟩) | (go_at_call_of 101 (Value.int .u8 115); refine (haS.out _).mono ?_; rintro e w' ⟨rfl, rfl⟩) | (go_at_call_of 101 (Value.int .u8 111); refine (haO.out _).mono ?_; rintro e w' ⟨rfl, rfl⟩))
         go_ret
         exact ⟨hb2.out, rfl⟩
       ·have d1 : decide (imm ≥ -32768) = false := decide_eq_false h1
        have hR : R = 51 := by rw [hRv2]; simp [h1]
        clear hRv2; subst hR
        go_wp2_with (first | (go_at_call_of 101 (Value.int .u8 117); refine (haU.out _).mono ?_; rintro e w' ⟨rfl, rfl⟩) | (go_at_call_of 101 (Value.int .u8 115); refine (haS.out _).mono ?_; rintro e w' ⟨rfl, rfl⟩) | (go_at_call_of 101 (Value.int .u8 111); refine (haO.out _).mono ?_; rintro e w' ⟨rfl, rfl⟩))
        go_ret
        exact ⟨hb2.out, rfl⟩
     ·by_cases h1 : -32768 ≤ imm
      ·by_cases h2 : imm ≤ 32767
       ·have d1 : decide (imm ≥ -32768) = true := decide_eq_true h1
        have d2 : decide (imm ≤ 32767) = true := decide_eq_true h2
        have hR : R = 0 := by rw [hRv2]; simp [h1, h2]
        clear hRv2; subst hR
        go_wp2_with (first | (go_at_call_of 101 (Value.int .u8 117); refine (haU.out _).mono ?_; rintro e w' ⟨rfl, rfl⟩) | (go_at_call_of 101 (Value.int .u8 115); refine (haS.out _).mono ?_; rintro e w' ⟨rfl, rfl⟩))
        go_ret
        exact ⟨hb2.out, rfl⟩
       ·have d1 : decide (imm ≥ -32768) = true := decide_eq_true h1
        have d2 : decide (imm ≤ 32767) = false := decide_eq_false h2
        have hR : R = 51 := by rw [hRv2]; simp [h2]
        clear hRv2; subst hR
        go_wp2_with (first | (go_at_call_of 101 (Value.int .u8 117); refine (haU.out _).mono ?_; rintro e w' ⟨rfl, rfl⟩) | (go_at_call_of 101 (Value.int .u8 115); refine (haS.out _).mono ?_; rintro e w' ⟨rfl, rfl⟩))
        go_ret
        exact ⟨hb2.out, rfl⟩
      ·have d1 : decide (imm ≥ -32768) = false := decide_eq_false h1
       have hR : R = 51 := by rw [hRv2]; simp [h1]
       clear hRv2; subst hR
       go_wp2_with (first | (go_at_call_of 101 (Value.int .u8 117); refine (haU.out _).mono ?_; rintro e w' ⟨rfl, rfl⟩) | (go_at_call_of 101 (Value.int .u8 115); refine (haS.out _).mono ?_; rintro e w' ⟨rfl, rfl⟩))
       go_ret
       exact ⟨hb2.out, rfl⟩
    ·by_cases h1 : 0 ≤ imm
     ·by_cases h2 : imm ≤ 65535
      ·have d1 : decide (imm ≥ 0) = true := decide_eq_true h1
       have d2 : decide (imm ≤ 65535) = true := decide_eq_true h2
       have hR : R = 0 := by rw [hRv2]; simp [h1, h2]
       clear hRv2; subst hR
       go_wp2_with (go_at_call_of 101 (Value.int .u8 117); refine (haU.out _).mono ?_; rintro e w' ⟨rfl, rfl⟩)
       go_ret
       exact ⟨hb2.out, rfl⟩
      ·have d1 : decide (imm ≥ 0) = true := decide_eq_true h1
       have d2 : decide (imm ≤ 65535) = false := decide_eq_false h2
       have hR : R = 51 := by rw [hRv2]; simp [h2]
       clear hRv2; subst hR
       go_wp2_with (go_at_call_of 101 (Value.int .u8 117); refine (haU.out _).mono ?_; rintro e w' ⟨rfl, rfl⟩)
       go_ret
       exact ⟨hb2.out, rfl⟩
     ·have d1 : decide (imm ≥ 0) = false := decide_eq_false h1
      have hR : R = 51 := by rw [hRv2]; simp [h1]
      clear hRv2; subst hR
      go_wp2_with (go_at_call_of 101 (Value.int .u8 117); refine (haU.out _).mono ?_; rintro e w' ⟨rfl, rfl⟩)
      go_ret
      exact ⟨hb2.out, rfl⟩
end YtiknookfnameiaaGreatDoor
end Go.Proofs
