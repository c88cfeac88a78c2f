/- The contract of text's Words. (Printed by wip/genTWds.py.) -/
import Derived.Test.YtiknookfnameiaaGreatDoorJn05
import Derived.WalkMore
import Derived.Deep.RegionLaw
namespace Go.Proofs.YtiknookfnameiaaGreatDoor
open Go.RowKit WP
set_option maxRecDepth 100000 in
set_option maxHeartbeats 8000000 in
theorem words_any (s : ByteArray) (w : World) (hs : s.size ≤ 1099511627776) :
  Calls Tryz.prog 38 #[.string s] w fun e w' => Below w.heap.size w w' ∧ WordsRes (wordsF s) w.heap.size e w' := by
 obtain ⟨i0, z0, hi, hz0, hz1, hz2, hz3⟩ := infoW_parts
 have hmf : ∀ (fn : Fn) (first cap : Array Value) (w : World), (Instr.makeFunc fn first cap).run Tryz.prog w = .ok (.func fn first cap) w := fun _ _ _ _ => rfl
 obtain ⟨R, hR⟩ : ∃ R, wordsF s = R := ⟨_, rfl⟩
 rw [hR]
 have hl := Lib.hid (size_list s)
 have hR := Lib.hid hR
 go_enter_defers Tryz.func38, Tryz.ntmps38
 go_wp2_with fail
 have h0 : Wst w.heap.size w (((w.alloc (Obj.cells #[Value.slice none 0 0] 113)).alloc (Obj.cells #[Value.int IntKind.i64 0] 3)).alloc (Obj.cells #[Value.int IntKind.i64 0] 25)) (.slice none 0 0) [] := by
  refine ⟨?_, ?_, ?_, World.ownsRow_nil _ _ _ _, ?_⟩
  ·rw [heap_alloc_old _ _ (by simp; omega), heap_alloc_old _ _ (by simp)]; exact heap_alloc_new _ _
  ·rw [heap_alloc_old _ _ (by simp)]
   have := heap_alloc_new (w.alloc (Obj.cells #[Value.slice none 0 0] 113)) (Obj.cells #[Value.int IntKind.i64 0] 3)
   simpa using this
  ·have := heap_alloc_new ((w.alloc (Obj.cells #[Value.slice none 0 0] 113)).alloc (Obj.cells #[Value.int IntKind.i64 0] 3)) (Obj.cells #[Value.int IntKind.i64 0] 25)
   simpa using this
  ·exact Below.alloc (Below.alloc (Below.alloc (Below.refl _ _) (Nat.le_refl _) _) (by simp) _) (by simp; omega) _
 have h0 := Lib.hid h0
 generalize (((w.alloc (Obj.cells #[Value.slice none 0 0] 113)).alloc (Obj.cells #[Value.int IntKind.i64 0] 3)).alloc (Obj.cells #[Value.int IntKind.i64 0] 25)) = wa at *
 go_step3
 go_wp2
 go_step3
 go_wp2
 go_loopw [5] (fun i wr => ∃ (k f : Nat) (v : Value) (acc : List W), k ≤ s.size ∧ s.size + 1 ≤ f + k ∧ acc.length ≤ k ∧ i = .int .i64 k ∧ Wst w.heap.size w wr v acc ∧ wA s f k acc = R) (fun i _ => s.size - (intOf i).toNat)
 case atStart => exact ⟨0, s.size + 1, _, [], by omega, by omega, by simp, rfl, h0.out, hR.out⟩
 case round =>
  obtain ⟨k, f, v, acc, hk, hf, hac, rfl, hW, hq⟩ := hrel
  obtain ⟨f, rfl⟩ : ∃ g, f = g + 1 := ⟨f - 1, by omega⟩
  clear h0 hR
  obtain ⟨ao, ca, rfl⟩ := hW.form
  have c0 := hW.c0
  have c1 := hW.c1
  have c2 := hW.c2
  have f0 := hW.f0
  have f1 := hW.f1
  have f2 := hW.f2
  by_cases hlt : k < s.size
  ·have eb := bAt_get s k hlt
   have hq : (if blankI (bAt s.data.toList k) = true then wA s f (k + 1) acc
    else if bAt s.data.toList k = 35 then .inl acc
    else if bAt s.data.toList k = 34 then
     match qA s.data.toList (s.size + 1) (k + 1) [] with
     | .inr k => .inr (k + 1)
     | .inl (b, n) => if n < s.size ∧ blankI (bAt s.data.toList n) = false then .inr (n + 1) else wA s f n (acc ++ [(⟨b.toArray⟩, true, k + 1)])
    else wA s f (skipB s.data.toList s.size k) (acc ++ [(s.extract k (skipB s.data.toList s.size k), false, k + 1)])) = R := by
    rw [← hq]; conv => rhs; unfold wA; rw [if_neg (by omega)]
    rfl
   obtain ⟨c, hc⟩ : ∃ c, bAt s.data.toList k = c := ⟨_, rfl⟩
   rw [hc] at eb
   simp only [hc] at hq
   by_cases hbk : blankI c = true
   ·rw [if_pos hbk] at hq
    have hq := Lib.hid hq; have hW := Lib.hid hW
    go_wp2_with (go_at_call 59; refine (blank_any _ _).mono ?_; rintro e w2 ⟨rfl, hw⟩; rw [hw, hbk]; clear hw w2)
    go_roundw
    case rel => exact ⟨k + 1, f, _, acc, by omega, by omega, by omega, by go_num, hW.out, hq.out⟩
    case measure => simp [intOf]; omega
   ·rw [if_neg hbk] at hq
    replace hbk : blankI c = false := by simpa using hbk
    by_cases h35 : c = 35
    ·subst h35
     have hR : R = .inl acc := by rw [← hq, if_pos rfl]
     clear hc
     clear hq
     have hW := Lib.hid hW
     go_wp2_with (go_at_call 59; refine (blank_any _ _).mono ?_; rintro e w2 ⟨rfl, hw⟩; rw [hw, hbk]; clear hw w2)
     rw [Exit.noGoto_ret]
     have hW3 := hW.out.keep0.keep1.keep2
     clear hW c0 c1 c2 f0 f1 f2
     have c0 := hW3.c0
     have c1 := hW3.c1
     have c2 := hW3.c2
     have hW3 := Lib.hid hW3
     generalize ((wr.setCell ⟨w.heap.size, 0, none⟩ (.slice ao acc.length ca)).setCell ⟨w.heap.size + 1, 0, none⟩ (.int .i64 0)).setCell ⟨w.heap.size + 1 + 1, 0, none⟩ (.int .i64 0) = w3 at *
     refine leaves_cons (f := 58) (args := #[.pointer (some ⟨w.heap.size, 0, none⟩), .pointer (some ⟨w.heap.size + 1, 0, none⟩), .pointer (some ⟨w.heap.size + 1 + 1, 0, none⟩)]) (by simp) (by simp [go_sem]) ?_
     refine (catch_idle _ _ _ _).mono ?_
     rintro e u' w'' ⟨rfl, rfl, hw⟩
     rw [hw]
     clear hw w''
     simp [Leaves, settle, results, Tryz.results38, go_sem, c0, c1, c2]
     exact ⟨hW3.out.below, by rw [hR]; exact ⟨_, rfl, hW3.out.own⟩⟩
    ·rw [if_neg h35] at hq
     have d35 : (c == 35) = false := by simp [h35]
     by_cases h34 : c = 34
     ·subst h34
      rw [if_pos rfl] at hq
      cases hQ : qA s.data.toList (s.size + 1) (k + 1) [] with
      | inr k2 =>
       rw [hQ] at hq
       simp only at hq
       have hk2 := qA_no _ _ _ _ _ (by rw [hl.out]; omega) hQ
       rw [hl.out] at hk2
       have hW := Lib.hid hW; have hq := Lib.hid hq; have hQ := Lib.hid hQ
       go_wp2_with (first | (go_at_call 59; refine (blank_any _ _).mono ?_; rintro e w2 ⟨rfl, hw⟩; rw [hw, hbk]; clear hw w2) | (go_at_call 60; refine (quoted_any s k _ (by omega) hlt).mono ?_; rintro e w2 ⟨hb2, hr2⟩; rw [hQ.out] at hr2; replace hr2 : e = .panicked _ := hr2; rw [hr2]; clear hr2))
       rw [Exit.noGoto_panic]
       have hW2 := hW.out.later hb2
       clear hW c0 c1 c2 f0 f1 f2
       have c0 := hW2.c0
       have c1 := hW2.c1
       have c2 := hW2.c2
       have f0 := hW2.f0
       have f1 := hW2.f1
       have f2 := hW2.f2
       have hW2 := Lib.hid hW2
       refine leaves_cons (f := 58) (args := #[.pointer (some ⟨w.heap.size, 0, none⟩), .pointer (some ⟨w.heap.size + 1, 0, none⟩), .pointer (some ⟨w.heap.size + 1 + 1, 0, none⟩)]) (by simp) (by simp [go_sem]) ?_
       refine (catch_broken w.heap.size k2 _ _ _ [] _ c0 c1 c2 f0 f1 f2 (by omega) (by omega)).mono ?_
       rintro e' u' w3 ⟨rfl, rfl, hw⟩
       obtain ⟨c0, c1, c2, hB⟩ := hW2.out.fail _ _ hw.symm
       clear hw
       simp [Leaves, settle, results, Tryz.results38, go_sem, c0, c1, c2]
       exact ⟨hB, by rw [← hq.out]; rfl⟩
      | inl p =>
       obtain ⟨b, n⟩ := p
       rw [hQ] at hq
       simp only at hq
       have hbd := qA_bd _ _ _ _ _ _ hQ
       rw [hl.out] at hbd
       have hW := Lib.hid hW; have hq := Lib.hid hq; have hQ := Lib.hid hQ
       go_upto_region 14 with (first | (go_at_call 59; refine (blank_any _ _).mono ?_; rintro e w2 ⟨rfl, hw⟩; rw [hw, hbk]; clear hw w2) | (go_at_call 60; refine (quoted_any s k _ (by omega) hlt).mono ?_; rintro e w2 ⟨hb2, hr2⟩; rw [hQ.out] at hr2; obtain ⟨v2, he, ho2⟩ := hr2; rw [he]; clear he e))
       have hW2 := hW.out.later hb2
       clear hW c0 c1 c2 f0 f1 f2
       have c0 := hW2.c0
       have f0 := hW2.f0
       have hcv := conv_bytes (P := Tryz.prog) (Rd.of_own ho2) 101 5 9 Tryz.underlying101 Tryz.underlying5 Tryz.underlying9
       clear ho2
       by_cases hn : n < s.size
       ·have en := bAt_get s n hn
        obtain ⟨c3, hc3⟩ : ∃ x, bAt s.data.toList n = x := ⟨_, rfl⟩
        have hq := hq.out
        rw [hc3] at hq en
        by_cases hb3 : blankI c3 = true
        ·rw [if_neg (by rw [hb3]; simp)] at hq
         have hq := Lib.hid hq; have hW2 := Lib.hid hW2
         go_upto_region 16 with (go_at_call 59; refine (blank_any _ _).mono ?_; rintro e w2 ⟨rfl, hw⟩; rw [hw, hb3]; clear hw w2)
         have hW2s := hW2.out.size
         go_wp2_with (at_builtin; refine wpList_append_lies _ rfl _ _ 113 rfl (w.heap.size + 3) 152 i0 z0 3 32 Tryz.underlying113 hi hz0 hz1 hz2 hz3 (by omega) _ _ _ rfl (hW2.out.own.alloc _) ⟨w2.heap.size, 0, none⟩ 1 1 [.string ⟨b.toArray⟩, .bool true, .int .i64 ((k : Int) + 1)] rfl rfl ?c1 ?c2 (by omega) ?c3 ?c4 ?c5 (w2.heap.size + 1) ?c6 ?_)
         case c1 => exact cells_new _ _ _ _
         case c2 => intro u hu; simp only [List.mem_cons, List.not_mem_nil, or_false] at hu; rcases hu with rfl | rfl | rfl <;> rfl
         case c3 => simp only [maxLen]; omega
         case c4 => omega
         case c5 => simp; omega
         case c6 => simp
         intro gg cap w3 hown hgrow hat hgl
         have hgrow2 : ((w2.alloc (.cells #[.string ⟨b.toArray⟩, .bool true, .int .i64 ((k : Int) + 1)] 152)).drew).grownBy w3 (Value.slice ao acc.length ca).ownBlock := ⟨hgrow.os, hgrow.tape, hgrow.output, hgrow.size, hgrow.block⟩
         obtain ⟨m0, n0⟩ := hW2.out.mid hgrow2
         have hWn := hW2.out.more _ (⟨b.toArray⟩, true, k + 1) hgrow2 (by rw [ww_append]; exact hown)
         clear hown hgrow hgrow2 hat hgl hW2
         have hWn := Lib.hid hWn
         go_wp2_with fail
         go_roundw
         case rel => exact ⟨n, f, _, _, by omega, by omega, by simp; omega, rfl, hWn.out, hq.out⟩
         case measure => simp [intOf]; omega
        ·replace hb3 : blankI c3 = false := by simpa using hb3
         rw [if_pos ⟨hn, hb3⟩] at hq
         have hq := Lib.hid hq
         clear hcv
         go_wp2_with (go_at_call 59; refine (blank_any _ _).mono ?_; rintro e w2 ⟨rfl, hw⟩; rw [hw, hb3]; clear hw w2)
         rw [Exit.noGoto_panic]
         have hW2 := hW2
         clear c0 f0
         have c0 := hW2.c0
         have c1 := hW2.c1
         have c2 := hW2.c2
         have f0 := hW2.f0
         have f1 := hW2.f1
         have f2 := hW2.f2
         have hW2 := Lib.hid hW2
         refine leaves_cons (f := 58) (args := #[.pointer (some ⟨w.heap.size, 0, none⟩), .pointer (some ⟨w.heap.size + 1, 0, none⟩), .pointer (some ⟨w.heap.size + 1 + 1, 0, none⟩)]) (by simp) (by simp [go_sem]) ?_
         refine (catch_broken w.heap.size n _ _ _ [] _ c0 c1 c2 f0 f1 f2 (by omega) (by omega)).mono ?_
         rintro e' u' w3 ⟨rfl, rfl, hw⟩
         obtain ⟨c0, c1, c2, hB⟩ := hW2.out.fail _ _ hw.symm
         clear hw
         simp [Leaves, settle, results, Tryz.results38, go_sem, c0, c1, c2]
         exact ⟨hB, by rw [← hq.out]; rfl⟩
       ·have hq := hq.out
        rw [if_neg (fun h => hn h.1)] at hq
        have hq := Lib.hid hq; have hW2 := Lib.hid hW2
        have dn : decide ((n : Int) < (s.size : Int)) = false := decide_eq_false (by omega)
        go_upto_region 16 with fail
        have hW2s := hW2.out.size
        go_wp2_with (at_builtin; refine wpList_append_lies _ rfl _ _ 113 rfl (w.heap.size + 3) 152 i0 z0 3 32 Tryz.underlying113 hi hz0 hz1 hz2 hz3 (by omega) _ _ _ rfl (hW2.out.own.alloc _) ⟨w2.heap.size, 0, none⟩ 1 1 [.string ⟨b.toArray⟩, .bool true, .int .i64 ((k : Int) + 1)] rfl rfl ?e1 ?e2 (by omega) ?e3 ?e4 ?e5 (w2.heap.size + 1) ?e6 ?_)
        case e1 => exact cells_new _ _ _ _
        case e2 => intro u hu; simp only [List.mem_cons, List.not_mem_nil, or_false] at hu; rcases hu with rfl | rfl | rfl <;> rfl
        case e3 => simp only [maxLen]; omega
        case e4 => omega
        case e5 => simp; omega
        case e6 => simp
        intro gg cap w3 hown hgrow hat hgl
        have hgrow2 : ((w2.alloc (.cells #[.string ⟨b.toArray⟩, .bool true, .int .i64 ((k : Int) + 1)] 152)).drew).grownBy w3 (Value.slice ao acc.length ca).ownBlock := ⟨hgrow.os, hgrow.tape, hgrow.output, hgrow.size, hgrow.block⟩
        obtain ⟨m0, n0⟩ := hW2.out.mid hgrow2
        have hWn := hW2.out.more _ (⟨b.toArray⟩, true, k + 1) hgrow2 (by rw [ww_append]; exact hown)
        clear hown hgrow hgrow2 hat hgl hW2
        have hWn := Lib.hid hWn
        go_wp2_with fail
        go_roundw
        case rel => exact ⟨n, f, _, _, by omega, by omega, by simp; omega, rfl, hWn.out, hq.out⟩
        case measure => simp [intOf]; omega
     ·rw [if_neg h34] at hq
      have d34 : (c == 34) = false := by simp [h34]
      obtain ⟨N, hN⟩ : ∃ N, skipB s.data.toList s.size k = N := ⟨_, rfl⟩
      have hN1 : k < N := by
       obtain ⟨g, hg⟩ : ∃ g, s.size = g + 1 := ⟨s.size - 1, by omega⟩
       rw [← hN, hg]; exact skipB_gt _ _ _ (by rw [hl.out]; omega) (by rw [hc]; exact hbk)
      have hN2 : N ≤ s.size := by
       have := (skipB_bd s.data.toList s.size k (by rw [hl.out]; omega)).2
       rw [hN, hl.out] at this; exact this
      rw [hN] at hq
      have hN := Lib.hid hN; have hW := Lib.hid hW; have hq := Lib.hid hq
      go_wp2_with (go_at_call 59; refine (blank_any _ _).mono ?_; rintro e w2 ⟨rfl, hw⟩; rw [hw, hbk]; clear hw w2)
      generalize wr = wo at *
      go_loopw [5] (fun i wq => ∃ (j g : Nat), k ≤ j ∧ j ≤ s.size ∧ s.size ≤ g + j ∧ i = .int .i64 j ∧ wq = wo ∧ skipB s.data.toList g j = N) (fun i _ => s.size - (intOf i).toNat)
      case atStart => exact ⟨k, s.size, by omega, by omega, by omega, rfl, rfl, hN.out⟩
      case round =>
       obtain ⟨j, g, hj1, hj2, hg, rfl, hwe, hsk⟩ := hrel
       subst hwe
       by_cases hjs : j < s.size
       ·have ej := bAt_get s j hjs
        obtain ⟨cj, hcj⟩ : ∃ x, bAt s.data.toList j = x := ⟨_, rfl⟩
        by_cases hbj : blankI cj = true
        ·have hjN : j = N := by rw [← hsk]; cases g <;> simp [skipB, hcj, hbj]
         rw [hcj] at ej
         subst hjN
         clear hsk hcj
         have hWs := hW.out.size
         go_upto_region 8 with (go_at_call 59; refine (blank_any _ _).mono ?_; rintro e w2 ⟨rfl, hw⟩; rw [hw, hbj]; clear hw w2)
         have hw1 : IntKind.i64.wrap ((k : Int) + 1) = (k : Int) + 1 := IntWalk.i64_in _ (by omega)
         have hca : ∀ o, (wr.alloc o).cell? ⟨w.heap.size, 0, none⟩ = some (.slice ao acc.length ca) := fun o => cell_of_row _ _ _ _ _ _ ((heap_alloc_old wr o (by omega)).trans hW.out.b0)
         refine wp_region_noPanic ?_
         go_region_law (refine step_append_lies _ (by rfl) _ _ _ (by rfl) (w.heap.size + 3) 152 i0 z0 3 32 Tryz.underlying113 hi hz0 hz1 hz2 hz3 (by omega) _ _ _ (by rfl) ((hW.out.own.alloc _).drew) ⟨wr.heap.size, 0, none⟩ 1 1 [.string (s.extract k j), .bool false, .int .i64 ((k : Int) + 1)] (by rfl) (by rfl) (World.news_of_block (cs := #[.string (s.extract k j), .bool false, .int .i64 ((k : Int) + 1)]) (fr := (0, 0)) (heap_alloc_new wr _)) (by simp [Value.oneCell']) (by omega) (by simp only [maxLen]; omega) (by omega) (by simp; omega) (wr.heap.size + 1) (by simp) ?_; intro gg cap w3 hown hgrow hat hgl; obtain ⟨m0, n0⟩ := hW.out.mid ⟨hgrow.os, hgrow.tape, hgrow.output, hgrow.size, hgrow.block⟩)
         all_goals
          apply NoPanic.normal
          clear m0 n0 hw1 hca c0 c1 c2 f0 f1 f2
          have hgrow2 : ((wr.alloc (.cells #[.string (s.extract k j), .bool false, .int .i64 ((k : Int) + 1)] 152)).drew).grownBy w3 (Value.slice ao acc.length ca).ownBlock := ⟨hgrow.os, hgrow.tape, hgrow.output, hgrow.size, hgrow.block⟩
          obtain ⟨m0, n0⟩ := hW.out.mid hgrow2
          have hWn := hW.out.more _ (s.extract k j, false, k + 1) hgrow2 (by rw [ww_append]; exact hown)
          clear hown hgrow hgrow2 hat hgl hW
          have hWn := Lib.hid hWn
          go_wp2_with fail
          go_roundw
          case rel => exact ⟨j, f, _, _, by omega, by omega, by simp; omega, rfl, hWn.out, hq.out⟩
          case measure => simp [intOf]; omega
        ·replace hbj : blankI cj = false := by simpa using hbj
         obtain ⟨g, rfl⟩ : ∃ x, g = x + 1 := ⟨g - 1, by omega⟩
         have hsk : skipB s.data.toList g (j + 1) = N := by rw [← hsk]; conv => rhs; unfold skipB; rw [if_pos ⟨by rw [hl.out]; omega, by rw [hcj]; exact hbj⟩]
         rw [hcj] at ej
         clear hcj
         have hsk := Lib.hid hsk
         go_wp2_with (go_at_call 59; refine (blank_any _ _).mono ?_; rintro e w2 ⟨rfl, hw⟩; rw [hw, hbj]; clear hw w2)
         go_roundw
         case rel => exact ⟨j + 1, g, by omega, by omega, by omega, by go_num, (by first | trivial | rfl), hsk.out⟩
         case measure => simp [intOf]; omega
       ·have hjN : j = N := by rw [← hsk]; cases g <;> simp [skipB, hl.out, hjs]
        subst hjN
        obtain rfl : j = s.size := by omega
        clear hsk
        have hWs := hW.out.size
        have dj : decide ((s.size : Int) < (s.size : Int)) = false := decide_eq_false (by omega)
        go_upto_region 8 with fail
        have hw1 : IntKind.i64.wrap ((k : Int) + 1) = (k : Int) + 1 := IntWalk.i64_in _ (by omega)
        have hca : ∀ o, (wr.alloc o).cell? ⟨w.heap.size, 0, none⟩ = some (.slice ao acc.length ca) := fun o => cell_of_row _ _ _ _ _ _ ((heap_alloc_old wr o (by omega)).trans hW.out.b0)
        refine wp_region_noPanic ?_
        go_region_law (refine step_append_lies _ (by rfl) _ _ _ (by rfl) (w.heap.size + 3) 152 i0 z0 3 32 Tryz.underlying113 hi hz0 hz1 hz2 hz3 (by omega) _ _ _ (by rfl) ((hW.out.own.alloc _).drew) ⟨wr.heap.size, 0, none⟩ 1 1 [.string (s.extract k s.size), .bool false, .int .i64 ((k : Int) + 1)] (by rfl) (by rfl) (World.news_of_block (cs := #[.string (s.extract k s.size), .bool false, .int .i64 ((k : Int) + 1)]) (fr := (0, 0)) (heap_alloc_new wr _)) (by simp [Value.oneCell']) (by omega) (by simp only [maxLen]; omega) (by omega) (by simp; omega) (wr.heap.size + 1) (by simp) ?_; intro gg cap w3 hown hgrow hat hgl; obtain ⟨m0, n0⟩ := hW.out.mid ⟨hgrow.os, hgrow.tape, hgrow.output, hgrow.size, hgrow.block⟩)
        all_goals
         apply NoPanic.normal
         clear m0 n0 hw1 hca c0 c1 c2 f0 f1 f2
         have hgrow2 : ((wr.alloc (.cells #[.string (s.extract k s.size), .bool false, .int .i64 ((k : Int) + 1)] 152)).drew).grownBy w3 (Value.slice ao acc.length ca).ownBlock := ⟨hgrow.os, hgrow.tape, hgrow.output, hgrow.size, hgrow.block⟩
         obtain ⟨m0, n0⟩ := hW.out.mid hgrow2
         have hWn := hW.out.more _ (s.extract k s.size, false, k + 1) hgrow2 (by rw [ww_append]; exact hown)
         clear hown hgrow hgrow2 hat hgl hW
         have hWn := Lib.hid hWn
         go_wp2_with fail
         go_roundw
         case rel => exact ⟨s.size, f, _, _, by omega, by omega, by simp; omega, rfl, hWn.out, hq.out⟩
         case measure => simp [intOf]; omega
  ·obtain rfl : k = s.size := by omega
   have hR : R = .inl acc := by rw [← hq]; unfold wA; rw [if_pos (Nat.le_refl _)]
   have d1 : decide ((s.size : Int) < (s.size : Int)) = false := decide_eq_false (by omega)
   clear hq
   have hW := Lib.hid hW
   go_wp2_with fail
   rw [Exit.noGoto_ret]
   have hW3 := hW.out.keep0.keep1.keep2
   clear hW c0 c1 c2 f0 f1 f2
   have c0 := hW3.c0
   have c1 := hW3.c1
   have c2 := hW3.c2
   have hW3 := Lib.hid hW3
   generalize ((wr.setCell ⟨w.heap.size, 0, none⟩ (.slice ao acc.length ca)).setCell ⟨w.heap.size + 1, 0, none⟩ (.int .i64 0)).setCell ⟨w.heap.size + 1 + 1, 0, none⟩ (.int .i64 0) = w3 at *
   refine leaves_cons (f := 58) (args := #[.pointer (some ⟨w.heap.size, 0, none⟩), .pointer (some ⟨w.heap.size + 1, 0, none⟩), .pointer (some ⟨w.heap.size + 1 + 1, 0, none⟩)]) (by simp) (by simp [go_sem]) ?_
   refine (catch_idle _ _ _ _).mono ?_
   rintro e u' w'' ⟨rfl, rfl, hw⟩
   rw [hw]
   clear hw w''
   simp [Leaves, settle, results, Tryz.results38, go_sem, c0, c1, c2]
   exact ⟨hW3.out.below, by rw [hR]; exact ⟨_, rfl, hW3.out.own⟩⟩
end Go.Proofs.YtiknookfnameiaaGreatDoor
