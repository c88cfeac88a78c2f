/- The contract of the reference's Words. For the document's instruction: rows of words, pieces as values, bounds of the fields; stores of whole blocks. -/
import Derived.Test.YtiknookfnameiaaGreatDoorKQuoJn
import Derived.Test.YtiknookfnameiaaGreatDoorRFlJn
import Derived.Deep.Cut
import Derived.Deep.CutRange
import Derived.Deep.RegionHeld3
namespace Go.Proofs.YtiknookfnameiaaGreatDoor
open Go.RowKit WP
theorem rown_later {w w' : World} {base : Nat} {e : TypeId} {size n : Nat} {v : Value} {xs : List Value} (h : w.ownsRow base e size v n xs) (hb : Below w.heap.size w w') : w'.ownsRow base e size v n xs :=
 h.kept (row := none) ⟨hb.os, hb.tape, hb.output, hb.size, fun k hk _ => hb.block k hk⟩ (by
  rcases h.2 with ⟨hv, _⟩ | ⟨g, cap, cur, hv, _⟩
  ·exact .inl (by rw [hv]; rfl)
  ·exact .inr (by rw [hv]; simp [Value.ownBlock]))
theorem infoRW : (Tryz.prog.info? 172).map (fun i => (i.zero.map (fun z => z.cells.size), i.size, i.bytes)) = some (some 3, 3, 32) := by kernel_rfl
theorem infoRW_parts : ∃ i z, Tryz.prog.info? 172 = some i ∧ i.zero = some z ∧ i.size = 3 ∧ i.bytes = 32 ∧ z.cells.size = 3 := by
 have h := infoRW
 cases hi : Tryz.prog.info? 172 with
 | none => rw [hi] at h; exact absurd h (by simp)
 | some i =>
  rw [hi] at h
  simp only [Option.map_some, Option.some.injEq, Prod.mk.injEq] at h
  obtain ⟨h1, h2, h3⟩ := h
  cases hz : i.zero with
  | none => rw [hz] at h1; exact absurd h1 (by simp)
  | some z => rw [hz] at h1; simp only [Option.map_some, Option.some.injEq] at h1; exact ⟨i, z, rfl, hz, h2, h3, h1⟩
/-- what the reference's Words answers -/
def RWordsRes (R : (List W) ⊕ Nat) (B : Nat) (e : Ending) (w' : World) : Prop :=
 match R with
 | .inl acc => ∃ v, e = .returned (.tuple #[v, .int .i64 0, .int .i64 0]) ∧ w'.ownsRow B 172 3 v acc.length (ww acc)
 | .inr c => e = .returned (.tuple #[.slice none 0 0, .int .i64 (c : Int), .int .i64 40])
set_option maxRecDepth 100000 in
set_option maxHeartbeats 8000000 in
theorem rwords_any (s : ByteArray) (w : World) (hs : s.size ≤ 1099511627776) :
  Calls Tryz.prog 69 #[.string s] w fun e w' => Below w.heap.size w w' ∧ RWordsRes (wordsF s) w.heap.size e w' := by
 obtain ⟨i0, z0, hi, hz0, hz1, hz2, hz3⟩ := infoRW_parts
 obtain ⟨R, hR⟩ : ∃ R, wordsF s = R := ⟨_, rfl⟩
 rw [hR]
 have hl := Lib.hid (size_list s)
 replace hR := Lib.hid hR
 go_enter Tryz.func69, Tryz.ntmps69
 go_wp2_with fail
 go_loopw [5, 6] (fun v i wr => ∃ (k f : Nat) (acc : List W), k ≤ s.size ∧ s.size + 1 ≤ f + k ∧ acc.length ≤ k ∧ i = .int .i64 k ∧ wr.ownsRow w.heap.size 172 3 v acc.length (ww acc) ∧ Below w.heap.size w wr ∧ wA s f k acc = R) (fun _ i _ => s.size - (intOf i).toNat)
 case atStart => exact ⟨0, s.size + 1, [], by omega, by omega, by simp, rfl, World.ownsRow_nil _ _ _ _, Below.refl _ _, hR.out⟩
 case round =>
  obtain ⟨wo, rfl⟩ : ∃ wo, wo = wr := ⟨wr, rfl⟩
  obtain ⟨va, rfl⟩ : ∃ b, b = u5 := ⟨u5, rfl⟩
  obtain ⟨k0, f0, acc, hk0, hf0, hac0, rfl, ho, hb, hq0⟩ := hrel
  clear hR
  obtain ⟨ao, ca, rfl⟩ : ∃ ao ca, va = .slice ao acc.length ca := by
   rcases ho.2 with ⟨hv, hn⟩ | ⟨g, cap, cur, hv, _⟩
   ·exact ⟨none, 0, by rw [hv, hn]⟩
   ·exact ⟨_, _, hv⟩
  have hbs := hb.size
  replace ho := Lib.hid ho; replace hb := Lib.hid hb; replace hq0 := Lib.hid hq0
  go_wp2_with fail
  go_loop [6] (fun i => ∃ (k f : Nat), k0 ≤ k ∧ k ≤ s.size ∧ s.size + 1 ≤ f + k ∧ i = .int .i64 k ∧ wA s f k acc = R) (fun i => s.size - (intOf i).toNat)
  case atStart => exact ⟨k0, f0, by omega, by omega, by omega, rfl, hq0.out⟩
  case round =>
   obtain ⟨k, f, hk1, hk, hf, rfl, hq⟩ := hrel
   obtain ⟨f, rfl⟩ : ∃ g, f = g + 1 := ⟨f - 1, by omega⟩
   have hac : acc.length ≤ k := by omega
   clear hq0
   by_cases hlt : k < s.size
   ·have d0 : decide (k < s.size) = true := decide_eq_true hlt
    have d1 : decide (s.size ≤ k) = false := decide_eq_false (by omega)
    have eb := bAt_get s k hlt
    have hq : (if blankI (bAt s.data.toList k) = true then wA s f (k + 1) acc
     else if bAt s.data.toList k = 35 then .inl acc
     else if bAt s.data.toList k = 34 then
      match qA s.data.toList (s.size + 1) (k + 1) [] with
      | .inr k => .inr (k + 1)
      | .inl (b, n) => if n < s.size ∧ blankI (bAt s.data.toList n) = false then .inr (n + 1) else wA s f n (acc ++ [((⟨b.toArray⟩ : ByteArray), true, k + 1)])
     else wA s f (skipB s.data.toList s.size k) (acc ++ [(s.extract k (skipB s.data.toList s.size k), false, k + 1)])) = R := by
     rw [← hq]; conv => rhs; unfold wA; rw [if_neg (by omega)]
     rfl
    obtain ⟨c, hc⟩ : ∃ c, bAt s.data.toList k = c := ⟨_, rfl⟩
    rw [hc] at eb
    simp only [hc] at hq
    by_cases hbk : blankI c = true
    ·rw [if_pos hbk] at hq
     replace hq := Lib.hid hq
     go_wp2_with (go_at_call 93; refine (rparts_any _ _).mono ?_; rintro e w2 ⟨rfl, hw⟩; rw [hw, hbk]; clear hw w2)
     go_round
     case rel => exact ⟨k + 1, f, by omega, by omega, by omega, by go_num, hq.out⟩
     case measure => simp [intOf]; omega
    ·rw [if_neg hbk] at hq
     replace hbk : blankI c = false := by simpa using hbk
     by_cases h35 : c = 35
     ·subst h35
      have hR : R = .inl acc := by rw [← hq, if_pos rfl]
      clear hc hq
      replace hR := Lib.hid hR
      go_wp2_with (go_at_call 93; refine (rparts_any _ _).mono ?_; rintro e w2 ⟨rfl, hw⟩; rw [hw, hbk]; clear hw w2)
      refine bodyPost_ret (v := .tuple #[.slice ao acc.length ca, .int .i64 0, .int .i64 0]) (by simp [results, Tryz.results69, go_sem]) rfl ⟨hb.out, by rw [hR.out]; exact ⟨_, rfl, ho.out⟩⟩
     ·rw [if_neg h35] at hq
      have d35 : (c == 35) = false := by simp [h35]
      by_cases h34 : c = 34
      ·subst h34
       rw [if_pos rfl] at hq
       have hqc := rquoted_any s k wo (by omega) hlt
       cases hQ : qA s.data.toList (s.size + 1) (k + 1) [] with
       | inr k2 =>
        rw [hQ] at hq hqc
        simp only at hq
        have hk2 := qA_no _ _ _ _ _ (by rw [hl.out]; omega) hQ
        rw [hl.out] at hk2
        replace hq := Lib.hid hq; replace hQ := Lib.hid hQ; replace hqc := Lib.hid hqc
        go_wp2_with (first | (go_at_call 93; refine (rparts_any _ _).mono ?_; rintro e w2 ⟨rfl, hw⟩; rw [hw, hbk]; clear hw w2) | (go_at_call 94; refine hqc.out.mono ?_; rintro e w2 ⟨hb2, hr2⟩; replace hr2 : e = .returned (.tuple #[.slice none 0 0, .int .i64 k2, .bool false]) := hr2; rw [hr2]; clear hr2))
        have hb3 := hb.out.trans (hb2.mono hbs)
        refine bodyPost_ret (v := .tuple #[.slice none 0 0, .int .i64 ((k2 : Int) + 1), .int .i64 40]) (by simp [results, Tryz.results69, go_sem]) rfl ⟨hb3, by rw [← hq.out]; rfl⟩
       | inl p =>
        obtain ⟨b, n⟩ := p
        rw [hQ] at hq hqc
        simp only at hq
        have hbd := qA_bd _ _ _ _ _ _ hQ
        rw [hl.out] at hbd
        replace hQ := Lib.hid hQ; replace hqc := Lib.hid hqc
        go_upto_region 10 with (first | (go_at_call 93; refine (rparts_any _ _).mono ?_; rintro e w2 ⟨rfl, hw⟩; rw [hw, hbk]; clear hw w2) | (go_at_call 94; refine hqc.out.mono ?_; rintro e w2 ⟨hb2, hr2⟩; obtain ⟨v2, he, ho2⟩ := hr2; rw [he]; clear he e))
        have hb3 := hb.out.trans (hb2.mono hbs)
        have ho3 := rown_later ho.out hb2
        have hcv := conv_bytes (P := Tryz.prog) (Rd.of_own ho2) 101 5 9 Tryz.underlying101 Tryz.underlying5 Tryz.underlying9
        clear ho2 hb2 hqc
        replace hb3 := Lib.hid hb3; replace ho3 := Lib.hid ho3
        by_cases hn : n < s.size
        ·have en := bAt_get s n hn
         have dn : decide (n < s.size) = true := decide_eq_true hn
         obtain ⟨c3, hc3⟩ : ∃ x, bAt s.data.toList n = x := ⟨_, rfl⟩
         rw [hc3] at hq en
         by_cases hb4 : blankI c3 = true
         ·rw [if_neg (by rw [hb4]; simp)] at hq
          replace hq := Lib.hid hq
          go_upto_region 12 with (go_at_call 93; refine (rparts_any _ _).mono ?_; rintro e w3 ⟨rfl, hw⟩; rw [hw, hb4]; clear hw w3)
          have hsx := hb3.out.size
          go_wp2_with (at_builtin; refine wpList_append_onto' _ rfl _ _ 169 rfl w.heap.size 172 i0 z0 3 32 Tryz.underlying169 hi hz0 hz1 hz2 hz3 (by omega) _ _ _ rfl (ho3.out.alloc _) ⟨w2.heap.size, 0, none⟩ 1 1 [.string ⟨b.toArray⟩, .bool true, .int .i64 ((k : Int) + 1)] rfl rfl ?c1 ?c2 ?c3 ?c4 ?c5 ?_)
          case c1 => exact cells_new _ _ _ _
          case c2 => intro u hu; simp only [List.mem_cons, List.not_mem_nil, or_false] at hu; rcases hu with rfl | rfl | rfl <;> rfl
          case c3 => simp only [maxLen]; omega
          case c4 => omega
          case c5 => simp; omega
          intro v3 w3 hoN hON
          have hb3 : Below w.heap.size w w3 := (hb3.out.alloc hsx _).grown hON.1 (by simp; omega) (fun k hk => (ho3.out.lt k hk).1)
          have ho4 : w3.ownsRow w.heap.size 172 3 v3 (acc ++ [((⟨b.toArray⟩ : ByteArray), true, k + 1)]).length (ww (acc ++ [((⟨b.toArray⟩ : ByteArray), true, k + 1)])) := by
           rw [ww_append, List.length_append]; exact hoN
          clear hoN hON
          replace hb3 := Lib.hid hb3; replace ho4 := Lib.hid ho4
          go_wp2_with fail
          go_roundw
          case rel => exact ⟨n, f, _, by omega, by omega, by simp; omega, rfl, ho4.out, hb3.out, hq.out⟩
          case measure => simp [intOf]; omega
         ·replace hb4 : blankI c3 = false := by simpa using hb4
          rw [if_pos ⟨hn, hb4⟩] at hq
          replace hq := Lib.hid hq
          clear hcv
          go_wp2_with (go_at_call 93; refine (rparts_any _ _).mono ?_; rintro e w3 ⟨rfl, hw⟩; rw [hw, hb4]; clear hw w3)
          refine bodyPost_ret (v := .tuple #[.slice none 0 0, .int .i64 ((n : Int) + 1), .int .i64 40]) (by simp [results, Tryz.results69, go_sem]) rfl ⟨hb3.out, by rw [← hq.out]; rfl⟩
        ·have dn : decide (n < s.size) = false := decide_eq_false hn
         rw [if_neg (fun h => hn h.1)] at hq
         replace hq := Lib.hid hq
         go_upto_region 12 with fail
         have hsx := hb3.out.size
         go_wp2_with (at_builtin; refine wpList_append_onto' _ rfl _ _ 169 rfl w.heap.size 172 i0 z0 3 32 Tryz.underlying169 hi hz0 hz1 hz2 hz3 (by omega) _ _ _ rfl (ho3.out.alloc _) ⟨w2.heap.size, 0, none⟩ 1 1 [.string ⟨b.toArray⟩, .bool true, .int .i64 ((k : Int) + 1)] rfl rfl ?c1 ?c2 ?c3 ?c4 ?c5 ?_)
         case c1 => exact cells_new _ _ _ _
         case c2 => intro u hu; simp only [List.mem_cons, List.not_mem_nil, or_false] at hu; rcases hu with rfl | rfl | rfl <;> rfl
         case c3 => simp only [maxLen]; omega
         case c4 => omega
         case c5 => simp; omega
         intro v3 w3 hoN hON
         have hb3 : Below w.heap.size w w3 := (hb3.out.alloc hsx _).grown hON.1 (by simp; omega) (fun k hk => (ho3.out.lt k hk).1)
         have ho4 : w3.ownsRow w.heap.size 172 3 v3 (acc ++ [((⟨b.toArray⟩ : ByteArray), true, k + 1)]).length (ww (acc ++ [((⟨b.toArray⟩ : ByteArray), true, k + 1)])) := by
          rw [ww_append, List.length_append]; exact hoN
         clear hoN hON
         replace hb3 := Lib.hid hb3; replace ho4 := Lib.hid ho4
         go_wp2_with fail
         go_roundw
         case rel => exact ⟨n, f, _, by omega, by omega, by simp; omega, rfl, ho4.out, hb3.out, hq.out⟩
         case measure => simp [intOf]; omega
      ·rw [if_neg h34] at hq
       have d34 : (c == 34) = false := by simp [h34]
       obtain ⟨N, hN⟩ : ∃ N, skipB s.data.toList s.size k = N := ⟨_, rfl⟩
       have hN1 : k < N := by
        obtain ⟨g, hg⟩ : ∃ g, s.size = g + 1 := ⟨s.size - 1, by omega⟩
        rw [← hN, hg]; exact skipB_gt _ _ _ (by rw [hl.out]; omega) (by rw [hc]; exact hbk)
       have hN2 : N ≤ s.size := by
        have := (skipB_bd s.data.toList s.size k (by rw [hl.out]; omega)).2
        rw [hN, hl.out] at this; exact this
       rw [hN] at hq
       replace hN := Lib.hid hN; replace hq := Lib.hid hq
       go_wp2_with (go_at_call 93; refine (rparts_any _ _).mono ?_; rintro e w2 ⟨rfl, hw⟩; rw [hw, hbk]; clear hw w2)
       go_loop [6] (fun i => ∃ (j g : Nat), k ≤ j ∧ j ≤ s.size ∧ s.size ≤ g + j ∧ i = .int .i64 j ∧ skipB s.data.toList g j = N) (fun i => s.size - (intOf i).toNat)
       case atStart => exact ⟨k, s.size, by omega, by omega, by omega, rfl, hN.out⟩
       case round =>
        obtain ⟨j, g, hj1, hj2, hg, rfl, hsk⟩ := hrel
        by_cases hjs : j < s.size
        ·have ej := bAt_get s j hjs
         have dj : decide (j < s.size) = true := decide_eq_true hjs
         obtain ⟨cj, hcj⟩ : ∃ x, bAt s.data.toList j = x := ⟨_, rfl⟩
         by_cases hbj : blankI cj = true
         ·have hjN : j = N := by rw [← hsk]; cases g <;> simp [skipB, hcj, hbj]
          rw [hcj] at ej
          subst hjN
          clear hsk hcj
          go_upto_region 16 with (go_at_call 93; refine (rparts_any _ _).mono ?_; rintro e w2 ⟨rfl, hw⟩; rw [hw, hbj]; clear hw w2)
          have hsx := hb.out.size
          go_wp2_with (at_builtin; refine wpList_append_onto' _ rfl _ _ 169 rfl w.heap.size 172 i0 z0 3 32 Tryz.underlying169 hi hz0 hz1 hz2 hz3 (by omega) _ _ _ rfl (ho.out.alloc _) ⟨wo.heap.size, 0, none⟩ 1 1 [.string (s.extract k j), .bool false, .int .i64 ((k : Int) + 1)] rfl rfl ?c1 ?c2 ?c3 ?c4 ?c5 ?_)
          case c1 => exact cells_new _ _ _ _
          case c2 => intro u hu; simp only [List.mem_cons, List.not_mem_nil, or_false] at hu; rcases hu with rfl | rfl | rfl <;> rfl
          case c3 => simp only [maxLen]; omega
          case c4 => omega
          case c5 => simp; omega
          intro v3 w3 hoN hON
          have hb3 : Below w.heap.size w w3 := (hb.out.alloc hsx _).grown hON.1 (by simp; omega) (fun k hk => (ho.out.lt k hk).1)
          have ho4 : w3.ownsRow w.heap.size 172 3 v3 (acc ++ [((s.extract k j), false, k + 1)]).length (ww (acc ++ [((s.extract k j), false, k + 1)])) := by
           rw [ww_append, List.length_append]; exact hoN
          clear hoN hON
          replace hb3 := Lib.hid hb3; replace ho4 := Lib.hid ho4
          go_wp2_with fail
          go_roundw
          case rel => exact ⟨j, f, _, by omega, by omega, by simp; omega, rfl, ho4.out, hb3.out, hq.out⟩
          case measure => simp [intOf]; omega
         ·replace hbj : blankI cj = false := by simpa using hbj
          obtain ⟨g, rfl⟩ : ∃ x, g = x + 1 := ⟨g - 1, by omega⟩
          have hsk : skipB s.data.toList g (j + 1) = N := by rw [← hsk]; conv => rhs; unfold skipB; rw [if_pos ⟨by rw [hl.out]; omega, by rw [hcj]; exact hbj⟩]
          rw [hcj] at ej
          clear hcj
          replace hsk := Lib.hid hsk
          go_wp2_with (go_at_call 93; refine (rparts_any _ _).mono ?_; rintro e w2 ⟨rfl, hw⟩; rw [hw, hbj]; clear hw w2)
          go_round
          case rel => exact ⟨j + 1, g, by omega, by omega, by omega, by go_num, hsk.out⟩
          case measure => simp [intOf]; omega
        ·have hjN : j = N := by rw [← hsk]; cases g <;> simp [skipB, hl.out, hjs]
         subst hjN
         obtain rfl : j = s.size := by omega
         clear hsk
         have dj : decide (s.size < s.size) = false := decide_eq_false (by omega)
         go_upto_region 16 with fail
         have hsx := hb.out.size
         go_wp2_with (at_builtin; refine wpList_append_onto' _ rfl _ _ 169 rfl w.heap.size 172 i0 z0 3 32 Tryz.underlying169 hi hz0 hz1 hz2 hz3 (by omega) _ _ _ rfl (ho.out.alloc _) ⟨wo.heap.size, 0, none⟩ 1 1 [.string (s.extract k s.size), .bool false, .int .i64 ((k : Int) + 1)] rfl rfl ?e1 ?e2 ?e3 ?e4 ?e5 ?_)
         case e2 => exact ⟨rfl, rfl, rfl⟩
         case e3 => simp only [maxLen]; omega
         case e4 => omega
         case e5 => omega
         intro v3 w3 hoN hON
         have hb3 : Below w.heap.size w w3 := (hb.out.alloc hsx _).grown hON.1 (by simp; omega) (fun k hk => (ho.out.lt k hk).1)
         have ho4 : w3.ownsRow w.heap.size 172 3 v3 (acc ++ [((s.extract k s.size), false, k + 1)]).length (ww (acc ++ [((s.extract k s.size), false, k + 1)])) := by
          rw [ww_append, List.length_append]; exact hoN
         clear hoN hON
         replace hb3 := Lib.hid hb3; replace ho4 := Lib.hid ho4
         go_wp2_with fail
         go_roundw
         case rel => exact ⟨s.size, f, _, by omega, by omega, by simp; omega, rfl, ho4.out, hb3.out, hq.out⟩
         case measure => simp [intOf]; omega
   ·obtain rfl : k = s.size := by omega
    have hR : R = .inl acc := by rw [← hq]; unfold wA; rw [if_pos (Nat.le_refl _)]
    have d0 : decide (s.size < s.size) = false := decide_eq_false (by omega)
    clear hq
    replace hR := Lib.hid hR
    go_wp2_with fail
    refine bodyPost_ret (v := .tuple #[.slice ao acc.length ca, .int .i64 0, .int .i64 0]) (by simp [results, Tryz.results69, go_sem]) rfl ⟨hb.out, by rw [hR.out]; exact ⟨_, rfl, ho.out⟩⟩
end Go.Proofs.YtiknookfnameiaaGreatDoor

namespace Go.Proofs.YtiknookfnameiaaGreatDoor
open Go.RowKit WP
set_option linter.unusedSimpArgs false
set_option linter.unusedVariables false
theorem rfield_any (i : Ins) (c : UInt8) (s : ByteArray) (w : World) (hs : s.size ≤ 140737488355328) (hT : RTabs w) (hc : c = 97 ∨ c = 98 ∨ c = 99 ∨ c = 107 ∨ c = 117 ∨ c = 111 ∨ c = 115) :
  Calls Tryz.prog 124 #[.agg (rinsC i), .int .u8 (c.toNat : Int), .string s] w fun e w' => RFieldRes w w' e (rfieldF i c s) := by
 rcases hc with rfl | rfl | rfl | rfl | rfl | rfl | rfl
 ·exact rfield_a i s w hs
 ·exact rfield_b i s w hs
 ·exact rfield_c i s w hs
 ·exact rfield_k i s w hT hs
 ·exact rfield_u i s w hs
 ·exact rfield_o i s w hs
 ·exact rfield_s i s w hs
/-- a row of words that only is read -/
def RWs (w : World) (v : Value) (ops : List W) : Prop :=
 ∃ ao cap, v = .slice ao ops.length cap ∧ ops.length ≤ cap ∧ cap ≤ 9223372036854775807 ∧ (ops = [] ∨ ∃ b off cs, ao = some ⟨b, off, none⟩ ∧ w.heap[b]? = some (Obj.cells cs 172 (0, 0)) ∧
  ∀ i x, ops[i]? = some x → cs[off + i * 3]? = some (.string x.1) ∧ cs[off + i * 3 + 1]? = some (.bool x.2.1) ∧ cs[off + i * 3 + 2]? = some (.int .i64 (x.2.2 : Int)))
theorem RWs.same {w w' : World} {v : Value} {ops : List W} (h : RWs w v ops) (hk : ∀ (b : Nat) (cs : Array Value), w.heap[b]? = some (Obj.cells cs 172 (0, 0)) → w'.heap[b]? = w.heap[b]?) : RWs w' v ops := by
 obtain ⟨ao, cap, rfl, h1, h2, h3⟩ := h
 refine ⟨ao, cap, rfl, h1, h2, ?_⟩
 rcases h3 with h | ⟨b, off, cs, e, hb, hc⟩
 ·exact .inl h
 ·exact .inr ⟨b, off, cs, e, (hk b cs hb).trans hb, hc⟩
theorem RWs.later {w w' : World} {v : Value} {ops : List W} (h : RWs w v ops) (hb : Below w.heap.size w w') : RWs w' v ops := h.same fun b cs h => hb.block b (Array.getElem?_eq_some_iff.1 h).1
theorem RWs.get {w : World} {v : Value} {ops : List W} (h : RWs w v ops) (i : Nat) (x : W) (hi : ops[i]? = some x) : ∃ b off cap, v = .slice (some ⟨b, off, none⟩) ops.length cap ∧ ops.length ≤ cap ∧ cap ≤ 9223372036854775807 ∧ w.cell? ⟨b, off + i * 3, none⟩ = some (.string x.1) ∧ w.cell? ⟨b, off + i * 3 + 1, none⟩ = some (.bool x.2.1) ∧ w.cell? ⟨b, off + i * 3 + 2, none⟩ = some (.int .i64 (x.2.2 : Int)) := by
 obtain ⟨ao, cap, rfl, h1, h2, h3⟩ := h
 rcases h3 with rfl | ⟨b, off, cs, rfl, hb, hc⟩
 ·simp at hi
 ·obtain ⟨c0, c1, c2⟩ := hc i x hi
  exact ⟨b, off, cap, rfl, h1, h2, (cell_of_row _ _ _ _ _ _ hb).trans c0, (cell_of_row _ _ _ _ _ _ hb).trans c1, (cell_of_row _ _ _ _ _ _ hb).trans c2⟩
/-- a piece, and one word as values -/
def pieA (p : Pie) : Array Value := #[.int .i64 p.what, .int .i64 p.op, .int .i64 p.cond, .int .i64 p.a, .int .u32 p.val, .string p.nm, .int .i64 (p.line : Int), .int .i64 (p.col : Int)]
abbrev pieZ : Array Value := #[.int .i64 0, .int .i64 0, .int .i64 0, .int .i64 0, .int .u32 0, .string ⟨#[]⟩, .int .i64 0, .int .i64 0]
def RInsRes (w w' : World) (e : Ending) (o : Pie ⊕ Nat) : Prop :=
 ∃ (p : Pie) (k : Int), e = .returned (.tuple #[.agg (pieA p), .int .i64 k]) ∧ Below w.heap.size w w' ∧ (match o with | .inl q => p = q ∧ k = -1 | .inr j => k = j)
/-- the fields' bounds -/
structure InsB (op : Int) (i : Ins) : Prop where
 o : i.op = op
 a : 0 ≤ i.a ∧ i.a < 16
 b : 0 ≤ i.b ∧ i.b < 16
 c : 0 ≤ i.c ∧ i.c < 16
 k : 0 ≤ i.k ∧ i.k < 8
 m : -32768 ≤ i.imm ∧ i.imm ≤ 65535
theorem regA_lt (s : List UInt8) : ∀ (f k r : Nat), regA s f k = some r → k ≤ r ∧ r < k + f
 | 0, k, r, h => by cases h
 | f + 1, k, r, h => by
  unfold regA at h
  split at h
  ·cases h; omega
  ·have := regA_lt s f (k + 1) r h; omega
theorem rfield_bd {op : Int} {i : Ins} {c : UInt8} {s : ByteArray} {y : Ins × ByteArray} (h : InsB op i) (hy : rfieldF i c s = some y) : InsB op y.1 := by
 unfold rfieldF at hy
 split at hy
 ·obtain ⟨n, hn, rfl⟩ := Option.map_eq_some_iff.1 hy
  have := regA_lt _ _ _ _ hn
  exact ⟨h.o, ⟨by show (0 : Int) ≤ (n : Int); omega, by show (n : Int) < 16; omega⟩, h.b, h.c, h.k, h.m⟩
 split at hy
 ·obtain ⟨n, hn, rfl⟩ := Option.map_eq_some_iff.1 hy
  have := regA_lt _ _ _ _ hn
  exact ⟨h.o, h.a, ⟨by show (0 : Int) ≤ (n : Int); omega, by show (n : Int) < 16; omega⟩, h.c, h.k, h.m⟩
 split at hy
 ·obtain ⟨n, hn, rfl⟩ := Option.map_eq_some_iff.1 hy
  have := regA_lt _ _ _ _ hn
  exact ⟨h.o, h.a, h.b, ⟨by show (0 : Int) ≤ (n : Int); omega, by show (n : Int) < 16; omega⟩, h.k, h.m⟩
 split at hy
 ·obtain ⟨n, hn, rfl⟩ := Option.map_eq_some_iff.1 hy
  have := findT_bd _ _ _ _ _ hn
  exact ⟨h.o, h.a, h.b, h.c, ⟨by show (0 : Int) ≤ (n : Int); omega, by show (n : Int) < 8; omega⟩, h.m⟩
 split at hy
 ·split at hy
  ·split at hy
   ·cases hy
    exact ⟨h.o, h.a, h.b, h.c, h.k, ⟨by dsimp only; omega, by dsimp only; omega⟩⟩
   ·cases hy
  ·cases hy
 split at hy
 ·cases hy; exact h
 ·obtain ⟨v, hv, rfl⟩ := Option.map_eq_some_iff.1 hy
  refine ⟨h.o, h.a, h.b, h.c, h.k, ?_⟩
  unfold sgnIn at hv
  split at hv
  ·split at hv
   ·cases hv; dsimp only; omega
   ·cases hv
  ·cases hv
theorem shape_let (op : Nat) : ∀ c ∈ shapeI (op : Int), c = 97 ∨ c = 98 ∨ c = 99 ∨ c = 107 ∨ c = 117 ∨ c = 111 ∨ c = 115 := by
 by_cases h : op < 25
 ·revert h; revert op; decide +kernel
 ·intro c hc
  rw [(off_range (op : Int) (by omega)).1] at hc
  simp at hc
def rinsP (ln : Nat) : (Ins × ByteArray × Nat) ⊕ Nat → Pie ⊕ Nat
 | .inr k => .inr k
 | .inl x => .inl (pieceF ln x)
theorem rinstr_P (op : Nat) (ws : List W) (ln : Nat) : rinstrF op ws ln = rinsP ln (rfieldsF (shapeI op) ws 0 ({ ins0 with op := op }, eB, 0)) := by
 unfold rinstrF
 cases rfieldsF (shapeI op) ws 0 ({ ins0 with op := op }, eB, 0) <;> rfl
theorem rfields_end (L : List UInt8) (ws : List W) (k : Nat) (x : Ins × ByteArray × Nat) (h : ¬ (k < L.length ∧ k < ws.length)) : rfieldsF (L.drop k) (ws.drop k) k x = .inl x := by
 by_cases h1 : k < L.length
 ·have h2 : ws.length ≤ k := by omega
  rw [List.drop_eq_nil_of_le h2]
  cases L.drop k <;> rfl
 ·rw [List.drop_eq_nil_of_le (by omega)]
  cases ws.drop k <;> rfl
theorem rfields_step (L : List UInt8) (ws : List W) (k : Nat) (x : Ins × ByteArray × Nat) (c : UInt8) (w : W) (h1 : L[k]? = some c) (h2 : ws[k]? = some w) :
  rfieldsF (L.drop k) (ws.drop k) k x = match (if w.2.1 = true then none else rfieldF x.1 c w.1) with
   | none => .inr k
   | some y => rfieldsF (L.drop (k + 1)) (ws.drop (k + 1)) (k + 1) (y.1, if y.2.size = 0 then x.2 else (y.2, w.2.2)) := by
 obtain ⟨l1, e1⟩ := List.getElem?_eq_some_iff.1 h1
 obtain ⟨l2, e2⟩ := List.getElem?_eq_some_iff.1 h2
 rw [List.drop_eq_getElem_cons l1, List.drop_eq_getElem_cons l2, e1, e2]
 rfl
theorem kept_zero' {w w5 : World} {T : TypeId} {cs : Array Value} (h : Below (w.alloc (.cells cs T)).drew.heap.size (w.alloc (.cells cs T)).drew w5) : w5.heap[w.heap.size]? = some (.cells cs T (0, 0)) :=
 (h.block _ (by show w.heap.size < (w.alloc (.cells cs T)).heap.size; simp)).trans (heap_alloc_new w _)
theorem six_heap {w2 : World} {g : Nat} {T : TypeId} {u0 u1 u2 u3 u4 u5 : Value} (h : w2.heap[g]? = some (.cells #[u0, u1, u2, u3, u4, u5] T (0, 0))) (v0 v1 v2 v3 v4 v5 : Value) :
  ((((((w2.setCell ⟨g, 0, none⟩ v0).setCell ⟨g, 1, none⟩ v1).setCell ⟨g, 2, none⟩ v2).setCell ⟨g, 3, none⟩ v3).setCell ⟨g, 4, none⟩ v4).setCell ⟨g, 5, none⟩ v5).heap[g]? = some (.cells #[v0, v1, v2, v3, v4, v5] T (0, 0)) := by
 have h0 := heap_setCell_same w2 g 0 _ _ v0 h
 have h1 := heap_setCell_same _ g 1 _ _ v1 h0
 have h2 := heap_setCell_same _ g 2 _ _ v2 h1
 have h3 := heap_setCell_same _ g 3 _ _ v3 h2
 have h4 := heap_setCell_same _ g 4 _ _ v4 h3
 exact heap_setCell_same _ g 5 _ _ v5 h4
theorem infoPie : (Tryz.prog.info? 125).map (·.size) = some 8 := by kernel_rfl
theorem set_cell {w : World} {g : Nat} {T : TypeId} {cs cs' : Array Value} (h : w.heap[g]? = some (.cells cs T (0, 0))) (j : Nat) (v : Value) (e : cs.setIfInBounds j v = cs') : (w.setCell ⟨g, j, none⟩ v).heap[g]? = some (.cells cs' T (0, 0)) := by
 rw [heap_setCell_same w g j _ _ v h, e]
theorem str_at {L : List UInt8} {k : Nat} {c : UInt8} (h : L[k]? = some c) : ∃ h2 : k < (strS L).size, (strS L)[k]'h2 = c := by
 obtain ⟨h1, e⟩ := List.getElem?_eq_some_iff.1 h
 exact ⟨by simpa [strS, ByteArray.size] using h1, e⟩
end Go.Proofs.YtiknookfnameiaaGreatDoor
