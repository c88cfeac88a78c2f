/- The contract of the reference's quoted. -/
import Derived.Test.YtiknookfnameiaaGreatDoorJn20
namespace Go.Proofs.YtiknookfnameiaaGreatDoor
open Go.RowKit WP
/-- what the reference's quoted answers -/
def RQuoRes (R : (List UInt8 × Nat) ⊕ Nat) (B : Nat) (e : Ending) (w' : World) : Prop :=
 match R with
 | .inl (b, n) => ∃ v, e = .returned (.tuple #[v, .int .i64 n, .bool true]) ∧ w'.ownsRow B 5 1 v b.length (vb b)
 | .inr k => e = .returned (.tuple #[.slice none 0 0, .int .i64 k, .bool false])
theorem escF_cases (l : List UInt8) (k : Nat) (h : k + 3 < l.length) : escF (l.drop k) = if bAt l (k + 1) ≠ 120 then (0, false) else if hv (bAt l (k + 2)) < 0 ∨ hv (bAt l (k + 3)) < 0 then (0, false) else (hv (bAt l (k + 2)) * 16 + hv (bAt l (k + 3)), !plainI (hv (bAt l (k + 2)) * 16 + hv (bAt l (k + 3)))) := by
 unfold escF
 rw [bAt_drop, bAt_drop, bAt_drop, List.length_drop]
 by_cases h1 : bAt l (k + 1) = 120
 ·rw [if_neg (show ¬ (l.length - k < 4 ∨ bAt l (k + 1) ≠ 120) by omega), if_neg (show ¬ bAt l (k + 1) ≠ 120 by simp [h1])]
 ·rw [if_pos (by right; exact h1), if_pos h1]
theorem escF_short (l : List UInt8) (k : Nat) (h : l.length ≤ k + 3) : escF (l.drop k) = (0, false) := by
 unfold escF
 rw [if_pos (by rw [List.length_drop]; omega)]
set_option maxRecDepth 100000 in
set_option maxHeartbeats 2000000 in
theorem rquoted_any (s : ByteArray) (at' : Nat) (w : World) (hs : s.size ≤ 1099511627776) (ha : at' < s.size) :
  Calls Tryz.prog 94 #[.string s, .int .i64 at'] w fun e w' => Below w.heap.size w w' ∧
   RQuoRes (qA s.data.toList (s.size + 1) (at' + 1) []) w.heap.size e w' := by
 obtain ⟨i0, hi, hz0, hz1, hz2⟩ := info_parts infoBr
 obtain ⟨R, hR⟩ : ∃ R, qA s.data.toList (s.size + 1) (at' + 1) [] = R := ⟨_, rfl⟩
 rw [hR]
 have hl := Lib.hid (size_list s)
 have hR := Lib.hid hR
 go_enter Tryz.func94, Tryz.ntmps94
 go_wp2_with fail
 go_loopw [7, 8] (fun v i wr => ∃ (k f : Nat) (acc : List UInt8), k ≤ s.size ∧ s.size + 1 ≤ f + k ∧ acc.length ≤ k ∧ i = .int .i64 k ∧ wr.ownsRow w.heap.size 5 1 v acc.length (vb acc) ∧ Below w.heap.size w wr ∧ qA s.data.toList f k acc = R) (fun _ i _ => s.size - (intOf i).toNat)
 case atStart => exact ⟨at' + 1, s.size + 1, [], by omega, by omega, by simp, rfl, World.ownsRow_nil _ _ _ _, Below.refl _ _, hR.out⟩
 case round =>
  obtain ⟨wr, rfl⟩ : ∃ wo, wo = wr := ⟨wr, rfl⟩
  obtain ⟨va, rfl⟩ : ∃ b, b = u7 := ⟨u7, rfl⟩
  obtain ⟨k, f, acc, hk, hf, hac, rfl, ho, hb, hq⟩ := hrel
  obtain ⟨f, rfl⟩ : ∃ g, f = g + 1 := ⟨f - 1, by omega⟩
  clear hR
  obtain ⟨ao, ca, rfl⟩ : ∃ ao ca, va = .slice ao acc.length ca := by
   rcases ho.2 with ⟨hv, hn⟩ | ⟨g, cap, cur, hv, _⟩
   ·exact ⟨none, 0, by rw [hv, hn]⟩
   ·exact ⟨_, _, hv⟩
  replace ho := Lib.hid ho; replace hb := Lib.hid hb
  by_cases hlt : k < s.size
  ·have d0 : decide ((k : Int) < (s.size : Int)) = true := decide_eq_true (by omega)
   have d1 : decide ((k : Int) ≥ (s.size : Int)) = false := decide_eq_false (by omega)
   have eb := bAt_get s k hlt
   have hq : (if bAt s.data.toList k = 34 then .inl (acc, k + 1)
    else if plainI (bAt s.data.toList k) = true then qA s.data.toList f (k + 1) (acc ++ [s.data.toList.getD k 0])
    else if bAt s.data.toList k ≠ 92 then .inr k
    else if (escF (s.data.toList.drop k)).2 = true then qA s.data.toList f (k + 4) (acc ++ [UInt8.ofNat (escF (s.data.toList.drop k)).1.toNat])
    else .inr k) = R := by rw [← hq]; conv => rhs; unfold qA; rw [if_neg (by rw [hl.out]; omega)]
   obtain ⟨c, hc⟩ : ∃ c, bAt s.data.toList k = c := ⟨_, rfl⟩
   have hcb := bAt_bd s.data.toList k
   rw [hc] at hcb eb
   simp only [hc] at hq
   by_cases h34 : c = 34
   ·subst h34
    rw [if_pos rfl] at hq
    subst hq
    clear hc hcb
    go_wp2_with fail
    refine bodyPost_ret (v := .tuple #[.slice ao acc.length ca, .int .i64 ((k : Int) + 1), .bool true]) (by simp [results, Tryz.results94, go_sem]) rfl ⟨hb.out, _, rfl, ho.out⟩
   ·have d3 : (c != 34) = true := by simp [h34]
    rw [if_neg h34] at hq
    by_cases hp : plainI c = true
    ·rw [if_pos hp] at hq
     have hv : vb (acc ++ [s.data.toList.getD k 0]) = vb acc ++ [.int .u8 c] := by rw [vb_append, ← hc]; rfl
     replace hq := Lib.hid hq; replace hv := Lib.hid hv; replace hc := Lib.hid hc
     have hs1 := hb.out.size
     clear hcb
     go_wp2_with (first | (go_at_call 122; refine (rplain_any _ _).mono ?_; rintro e w2 ⟨rfl, hw⟩; rw [hw, hp]; clear hw w2) | (at_builtin; refine wpList_append_onto' _ rfl _ _ 101 rfl w.heap.size 5 i0 (.int .u8 0) 1 1 Tryz.underlying101 hi hz0 hz1 hz2 rfl (by decide) _ _ _ rfl (ho.out.alloc _) ⟨wr.heap.size, 0, none⟩ 1 1 [.int .u8 c] rfl rfl ?c1 ?c2 ?c3 ?c4 ?c5 ?_))
     case c1 => exact cell_one_new _ _ _
     case c2 => simp [Value.oneCell']
     case c3 => simp only [maxLen]; omega
     case c4 => omega
     case c5 => simp; omega
     intro v1 w1 ho1 hO1
     have hfin : w1.ownsRow w.heap.size 5 1 v1 (acc ++ [s.data.toList.getD k 0]).length (vb (acc ++ [s.data.toList.getD k 0])) := by
      rw [hv.out]; simpa using ho1
     have hb2 : Below w.heap.size w w1 := hb.out.trans ((Below.alloc (Below.refl _ _) hs1 _).trans (hO1.below (by simp; omega) (fun g hg => (ho.out.lt g hg).1)))
     clear ho1 hO1 ho hb
     replace hfin := Lib.hid hfin; replace hb2 := Lib.hid hb2
     go_wp2_with fail
     go_roundw
     case rel => exact ⟨k + 1, f, _, by omega, by omega, by simp; omega, by go_num, hfin.out, hb2.out, hq.out⟩
     case measure => simp [intOf]; omega
    ·rw [if_neg hp] at hq
     replace hp : plainI c = false := by simpa using hp
     by_cases h92 : c = 92
     ·subst h92
      rw [if_neg (by simp)] at hq
      clear hcb h34
      by_cases h3 : k + 3 < s.size
      ·have e3 : decide ((k : Int) + 3 < (s.size : Int)) = true := decide_eq_true (by omega)
       have hEC := escF_cases s.data.toList k (by rw [hl.out]; exact h3)
       have f1 := bAt_get s (k + 1) (by omega)
       have f2 := bAt_get s (k + 2) (by omega)
       have f3 := bAt_get s (k + 3) h3
       have t2 := bAt_bd s.data.toList (k + 2)
       have t3 := bAt_bd s.data.toList (k + 3)
       obtain ⟨x1, hx1⟩ : ∃ x, bAt s.data.toList (k + 1) = x := ⟨_, rfl⟩
       obtain ⟨x2, hx2⟩ : ∃ x, bAt s.data.toList (k + 2) = x := ⟨_, rfl⟩
       obtain ⟨x3, hx3⟩ : ∃ x, bAt s.data.toList (k + 3) = x := ⟨_, rfl⟩
       rw [hx1] at f1 hEC
       rw [hx2] at f2 t2 hEC
       rw [hx3] at f3 t3 hEC
       clear hx1 hx2 hx3
       have g2 := hv_ge x2
       have g3 := hv_ge x3
       have u2 := hv_lt x2
       have u3 := hv_lt x3
       have hc2 := fun W => rworth_any x2 W t2.1 t2.2
       have hc3 := fun W => rworth_any x3 W t3.1 t3.2
       obtain ⟨y2, hy2⟩ : ∃ y, hv x2 = y := ⟨_, rfl⟩
       obtain ⟨y3, hy3⟩ : ∃ y, hv x3 = y := ⟨_, rfl⟩
       rw [hy2] at g2 u2 hEC
       rw [hy3] at g3 u3 hEC
       simp only [hy2] at hc2
       simp only [hy3] at hc3
       clear hy2 hy3
       replace hc2 := Lib.hid hc2; replace hc3 := Lib.hid hc3
       by_cases h120 : x1 = 120
       ·have dx : (x1 == 120) = true := by rw [h120]; rfl
        rw [if_neg (show ¬ x1 ≠ 120 by simp [h120])] at hEC
        clear h120
        by_cases n2 : y2 < 0
        ·have dy : decide (y2 ≥ 0) = false := decide_eq_false (by omega)
         have hE := hEC.trans (if_pos (.inl n2))
         rw [hE] at hq
         replace hq : Sum.inr k = R := hq
         replace hq := Lib.hid hq
         clear hE hEC
         go_wp2_with (go_at_call 122; refine (rplain_any _ _).mono ?_; rintro e w2 ⟨rfl, hw⟩; rw [hw, hp]; clear hw w2)
         refine (hc2.out _).mono ?_
         rintro e w3 ⟨rfl, rfl⟩
         go_wp2_with fail
         refine bodyPost_ret (v := .tuple #[.slice none 0 0, .int .i64 (k : Int), .bool false]) (by simp [results, Tryz.results94, go_sem]) rfl ⟨hb.out, by rw [← hq.out]; rfl⟩
        ·have dy : decide (y2 ≥ 0) = true := decide_eq_true (by omega)
         by_cases n3 : y3 < 0
         ·have dz : decide (y3 ≥ 0) = false := decide_eq_false (by omega)
          have hE := hEC.trans (if_pos (.inr n3))
          rw [hE] at hq
          replace hq : Sum.inr k = R := hq
          replace hq := Lib.hid hq
          clear hE hEC
          go_wp2_with (go_at_call 122; refine (rplain_any _ _).mono ?_; rintro e w2 ⟨rfl, hw⟩; rw [hw, hp]; clear hw w2)
          refine (hc2.out _).mono ?_
          rintro e w3 ⟨rfl, rfl⟩
          go_wp2_with fail
          refine (hc3.out _).mono ?_
          rintro e w4 ⟨rfl, rfl⟩
          go_wp2_with fail
          refine bodyPost_ret (v := .tuple #[.slice none 0 0, .int .i64 (k : Int), .bool false]) (by simp [results, Tryz.results94, go_sem]) rfl ⟨hb.out, by rw [← hq.out]; rfl⟩
         ·have dz : decide (y3 ≥ 0) = true := decide_eq_true (by omega)
          have hE := hEC.trans (if_neg (by omega))
          rw [show y2 * 16 + y3 = 16 * y2 + y3 by omega] at hE
          obtain ⟨vv, hvv⟩ : ∃ x, 16 * y2 + y3 = x := ⟨_, rfl⟩
          have v0 : 0 ≤ vv := by omega
          have v1 : vv ≤ 255 := by omega
          have wv : IntKind.u8.wrap vv = vv := by rw [IntKind.wrap_u8]; omega
          rw [hvv] at hE
          rw [hE] at hq
          clear hE hEC
          have m1 : IntKind.i64.wrap (16 * y2) = 16 * y2 := IntWalk.i64_in _ (by omega)
          have m2 : IntKind.i64.wrap (16 * y2 + y3) = 16 * y2 + y3 := IntWalk.i64_in _ (by omega)
          have m3 : IntKind.u8.wrap (16 * y2 + y3) = 16 * y2 + y3 := by rw [hvv]; exact wv
          have j2 : IntKind.i64.wrap ((k : Int) + 2) = (k : Int) + 2 := IntWalk.i64_in _ (by omega)
          have j3 : IntKind.i64.wrap ((k : Int) + 3) = (k : Int) + 3 := IntWalk.i64_in _ (by omega)
          have o2 : (0 : Int) ≤ (k : Int) + 2 := by omega
          have o3 : (0 : Int) ≤ (k : Int) + 3 := by omega
          have p2 : ((k : Int) + 2).toNat = k + 2 := by omega
          have p3 : ((k : Int) + 3).toNat = k + 3 := by omega
          have q2 : (k : Int) + 2 < (s.size : Int) := by omega
          have q3 : (k : Int) + 3 < (s.size : Int) := by omega
          replace hvv := Lib.hid hvv; replace hq := Lib.hid hq
          go_wp2_with (go_at_call 122; refine (rplain_any _ _).mono ?_; rintro e w2 ⟨rfl, hw⟩; rw [hw, hp]; clear hw w2)
          refine (hc2.out _).mono ?_
          rintro e w3 ⟨rfl, rfl⟩
          go_wp2_with fail
          refine (hc3.out _).mono ?_
          rintro e w4 ⟨rfl, rfl⟩
          go_wp2_with fail
          go_quiet ((first | (go_at_call_of 123 (Value.int .u8 x2); exact Calls.quiet_of_same (hc2.out _)) | (go_at_call_of 123 (Value.int .u8 x3); exact Calls.quiet_of_same (hc3.out _))))
          rw [hvv.out]
          obtain ⟨wq, hwq⟩ : ∃ wq, w4.drewN nq = wq := ⟨_, rfl⟩
          have ho2 : wq.ownsRow w.heap.size 5 1 (.slice ao acc.length ca) acc.length (vb acc) := by rw [← hwq]; exact ho.out
          have hb2 : Below w.heap.size w wq := by rw [← hwq]; exact hb.out.trans ⟨rfl, rfl, rfl, Nat.le_refl _, fun _ _ => rfl⟩
          rw [hwq]
          clear hwq ho hb m1 m2 m3 j2 j3 o2 o3 p2 p3 q2 q3 f1 f2 f3 hc2 hc3
          have hs1 := hb2.size
          replace ho2 := Lib.hid ho2; replace hb2 := Lib.hid hb2
          by_cases hpv : plainI vv = true
          ·have hq := hq.out
           rw [hpv] at hq
           replace hq : Sum.inr k = R := hq
           replace hq := Lib.hid hq
           go_wp2_with (go_at_call 122; refine (rplain_any _ _).mono ?_; rintro e w2 ⟨rfl, hw⟩; rw [hw, hpv]; clear hw w2)
           refine bodyPost_ret (v := .tuple #[.slice none 0 0, .int .i64 (k : Int), .bool false]) (by simp [results, Tryz.results94, go_sem]) rfl ⟨hb2.out, by rw [← hq.out]; rfl⟩
          ·have hq := hq.out
           replace hpv : plainI vv = false := by simpa using hpv
           rw [hpv] at hq
           replace hq : qA s.data.toList f (k + 4) (acc ++ [UInt8.ofNat vv.toNat]) = R := hq
           have hv : vb (acc ++ [UInt8.ofNat vv.toNat]) = vb acc ++ [.int .u8 vv] := by rw [vb_append]; congr 1; simp only [vb, List.map_cons, List.map_nil]; rw [ofI8_val vv v0 v1]
           replace hq := Lib.hid hq; replace hv := Lib.hid hv
           go_wp2_with (first | (go_at_call 122; refine (rplain_any _ _).mono ?_; rintro e w2 ⟨rfl, hw⟩; rw [hw, hpv]; clear hw w2) | (at_builtin; refine wpList_append_onto' _ rfl _ _ 101 rfl w.heap.size 5 i0 (.int .u8 0) 1 1 Tryz.underlying101 hi hz0 hz1 hz2 rfl (by decide) _ _ _ rfl (ho2.out.alloc _) ⟨wq.heap.size, 0, none⟩ 1 1 [.int .u8 vv] rfl rfl ?c1 ?c2 ?c3 ?c4 ?c5 ?_))
           case c1 => exact cell_one_new _ _ _
           case c2 => simp [Value.oneCell']
           case c3 => simp only [maxLen]; omega
           case c4 => omega
           case c5 => simp; omega
           intro v1 w1 ho1 hO1
           have hfin : w1.ownsRow w.heap.size 5 1 v1 (acc ++ [UInt8.ofNat vv.toNat]).length (vb (acc ++ [UInt8.ofNat vv.toNat])) := by
            rw [hv.out]; simpa using ho1
           have hb3 : Below w.heap.size w w1 := hb2.out.trans ((Below.alloc (Below.refl _ _) hs1 _).trans (hO1.below (by simp; omega) (fun g hg => (ho2.out.lt g hg).1)))
           clear ho1 hO1 ho2 hb2
           replace hfin := Lib.hid hfin; replace hb3 := Lib.hid hb3
           go_wp2_with fail
           go_roundw
           case rel => exact ⟨k + 4, f, _, by omega, by omega, by simp; omega, by go_num, hfin.out, hb3.out, hq.out⟩
           case measure => simp [intOf]; omega
       ·have dx : (x1 == 120) = false := by simp [h120]
        have hE := hEC.trans (if_pos h120)
        rw [hE] at hq
        replace hq : Sum.inr k = R := hq
        replace hq := Lib.hid hq
        clear hE hEC
        go_wp2_with (go_at_call 122; refine (rplain_any _ _).mono ?_; rintro e w2 ⟨rfl, hw⟩; rw [hw, hp]; clear hw w2)
        refine bodyPost_ret (v := .tuple #[.slice none 0 0, .int .i64 (k : Int), .bool false]) (by simp [results, Tryz.results94, go_sem]) rfl ⟨hb.out, by rw [← hq.out]; rfl⟩
      ·have e3 : decide ((k : Int) + 3 < (s.size : Int)) = false := decide_eq_false (by omega)
       rw [escF_short _ _ (by rw [hl.out]; omega)] at hq
       replace hq : Sum.inr k = R := hq
       replace hq := Lib.hid hq
       go_wp2_with (go_at_call 122; refine (rplain_any _ _).mono ?_; rintro e w2 ⟨rfl, hw⟩; rw [hw, hp]; clear hw w2)
       refine bodyPost_ret (v := .tuple #[.slice none 0 0, .int .i64 (k : Int), .bool false]) (by simp [results, Tryz.results94, go_sem]) rfl ⟨hb.out, by rw [← hq.out]; rfl⟩
     ·rw [if_pos h92] at hq
      have d92 : (c == 92) = false := by simp [h92]
      replace hq := Lib.hid hq
      clear hcb
      go_wp2_with (go_at_call 122; refine (rplain_any _ _).mono ?_; rintro e w2 ⟨rfl, hw⟩; rw [hw, hp]; clear hw w2)
      refine bodyPost_ret (v := .tuple #[.slice none 0 0, .int .i64 (k : Int), .bool false]) (by simp [results, Tryz.results94, go_sem]) rfl ⟨hb.out, by rw [← hq.out]; rfl⟩
  ·obtain rfl : k = s.size := by omega
   have hq : Sum.inr s.data.toList.length = R := by rw [← hq]; conv => rhs; unfold qA; rw [if_pos (by rw [hl.out]; exact Nat.le_refl _)]
   rw [hl.out] at hq
   replace hq := Lib.hid hq
   go_wp2_with fail
   refine bodyPost_ret (v := .tuple #[.slice none 0 0, .int .i64 (s.size : Int), .bool false]) (by simp [results, Tryz.results94, go_sem]) rfl ⟨hb.out, by rw [← hq.out]; rfl⟩
end Go.Proofs.YtiknookfnameiaaGreatDoor
