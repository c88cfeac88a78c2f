/- The reference's Number and Signed. -/
import Derived.Test.YtiknookfnameiaaGreatDoorJn20
import Derived.Test.YtiknookfnameiaaGreatDoorTNuDJn
namespace Go.Proofs.YtiknookfnameiaaGreatDoor
open Go.RowKit WP
theorem hv_hxF : ∀ n : Fin 256, isHx (UInt8.ofNat n.val) = decide (0 ≤ hv ((n.val : Nat) : Int)) ∧ (0 ≤ hv ((n.val : Nat) : Int) → hv ((n.val : Nat) : Int) = (hxVal (UInt8.ofNat n.val) : Int)) := by decide +kernel
theorem hv_hx (c : UInt8) : isHx c = decide (0 ≤ hv (c.toNat : Int)) ∧ (0 ≤ hv (c.toNat : Int) → hv (c.toNat : Int) = (hxVal c : Int)) := by
 have := hv_hxF ⟨c.toNat, c.toNat_lt⟩
 rwa [UInt8.ofNat_toNat] at this
/-- the bytes from 2 up to k are hex digits, and x is their number -/
def HxAt (l : List UInt8) (k : Nat) (x : Int) : Prop := ((l.drop 2).take (k - 2)).all isHx = true ∧ x = (hxFrom 0 ((l.drop 2).take (k - 2)) : Int)
theorem hxAt_two (l : List UInt8) : HxAt l 2 0 := ⟨rfl, rfl⟩
theorem hxAt_bound {l : List UInt8} {k : Nat} {x : Int} (h : HxAt l k x) (hk : k ≤ 10) : 0 ≤ x ∧ x < 4294967296 := by
 have h1 := hxFrom_lt ((l.drop 2).take (k - 2)) 0
 have h2 : ((l.drop 2).take (k - 2)).length ≤ 8 := by rw [List.length_take]; omega
 have h3 : (16 : Nat) ^ ((l.drop 2).take (k - 2)).length ≤ 16 ^ 8 := Nat.pow_le_pow_right (by decide) h2
 have h4 : (16 : Nat) ^ 8 = 4294967296 := rfl
 have h5 := h.2
 omega
theorem drop_getD (l : List UInt8) (k : Nat) (h2 : 2 ≤ k) : (l.drop 2).getD (k - 2) 0 = l.getD k 0 := by
 rw [List.getD_eq_getElem?_getD, List.getElem?_drop, List.getD_eq_getElem?_getD, show 2 + (k - 2) = k by omega]
theorem hxFrom_snoc (a : Nat) (l : List UInt8) (c : UInt8) : hxFrom a (l ++ [c]) = hxFrom a l * 16 + hxVal c := by unfold hxFrom; rw [List.foldl_append]; rfl
theorem hxAt_step {l : List UInt8} {k : Nat} {x : Int} (h : HxAt l k x) (h2 : 2 ≤ k) (hk : k < l.length) (h1 : 0 ≤ hv (bAt l k)) : HxAt l (k + 1) (16 * x + hv (bAt l k)) := by
 have hd := hv_hx (l.getD k 0)
 rw [bAt_getD] at h1 ⊢
 have hs := take_snoc (l.drop 2) (k - 2) (by rw [List.length_drop]; omega)
 rw [drop_getD l k h2] at hs
 unfold HxAt
 rw [show k + 1 - 2 = k - 2 + 1 by omega, hs, List.all_append, h.1, hxFrom_snoc, h.2]
 refine ⟨?_, by have := hd.2 h1; omega⟩
 simp only [List.all_cons, List.all_nil, Bool.and_true, Bool.true_and]
 rw [hd.1]; exact decide_eq_true h1
theorem hx_bad {l : List UInt8} {k : Nat} (h2 : 2 ≤ k) (hk : k < l.length) (h : hv (bAt l k) < 0) : (l.drop 2).all isHx = false := by
 rw [List.all_eq_false]
 refine ⟨l.getD k 0, ?_, ?_⟩
 ·rw [← drop_getD l k h2, List.getD_eq_getElem?_getD, List.getElem?_eq_getElem (by rw [List.length_drop]; omega)]
  exact List.getElem_mem _
 ·rw [(hv_hx _).1, decide_eq_false (by rw [bAt_getD] at h; omega)]; simp
theorem hxAt_end {l : List UInt8} {x : Int} (h : HxAt l l.length x) : (l.drop 2).all isHx = true ∧ x = (hxFrom 0 (l.drop 2) : Int) := by
 unfold HxAt at h
 rwa [List.take_of_length_le (by rw [List.length_drop]; omega)] at h
theorem take_two (l : List UInt8) : l.take 2 = [48, 120] ↔ 2 ≤ l.length ∧ bAt l 0 = 48 ∧ bAt l 1 = 120 := by
 match l with
 | [] => simp
 | [a] => simp
 | a :: b :: r =>
  have e0 : bAt (a :: b :: r) 0 = (a.toNat : Int) := rfl
  have e1 : bAt (a :: b :: r) 1 = (b.toNat : Int) := rfl
  rw [e0, e1]
  simp only [List.take_succ_cons, List.take_zero, List.cons.injEq, and_true, List.length_cons]
  constructor
  ·rintro ⟨rfl, rfl⟩; exact ⟨by omega, rfl, rfl⟩
  ·rintro ⟨_, h1, h2⟩; exact ⟨UInt8.toNat.inj (by show a.toNat = 48; omega), UInt8.toNat.inj (by show b.toNat = 120; omega)⟩
theorem tens_no_x (l : List UInt8) (h : l.take 2 = [48, 120]) : tensB l = false := by
 unfold tensB
 have : l.all isDg = false := by
  rw [List.all_eq_false]
  exact ⟨120, List.mem_of_mem_take (by rw [h]; simp), by decide⟩
 rw [this, Bool.and_false]
theorem numF_tens (l : List UInt8) (h : ¬ (l.take 2 = [48, 120] ∧ 2 < l.length ∧ l.length ≤ 10)) :
  (tenF 4294967295 l = -1 ∧ numF l = none) ∨ (0 ≤ tenF 4294967295 l ∧ tenF 4294967295 l ≤ 4294967295 ∧ ∃ u : Nat, numF l = some u ∧ tenF 4294967295 l = (u : Int)) := by
 by_cases hx : l.take 2 = [48, 120]
 ·left
  refine ⟨tenF_no _ _ (tens_no_x l hx), ?_⟩
  unfold numF
  rw [if_pos hx, if_neg]
  rintro ⟨h1, h2, _⟩
  rw [List.length_drop] at h1 h2
  exact h ⟨hx, by omega, by omega⟩
 ·unfold tenF numF
  rw [if_neg hx]
  by_cases ht : tensB l = true ∧ valFrom 0 l ≤ 4294967295
  ·right
   rw [if_pos ⟨ht.1, by omega⟩, if_pos ht]
   exact ⟨by omega, by omega, _, rfl, rfl⟩
  ·left
   rw [if_neg (fun h => ht ⟨h.1, by omega⟩), if_neg ht]
   exact ⟨rfl, rfl⟩
set_option maxRecDepth 100000 in
set_option maxHeartbeats 1600000 in
theorem rnumber_any (s : ByteArray) (w : World) (hs : s.size ≤ 140737488355328) :
  Calls Tryz.prog 126 #[.string s] w fun e w' => e = .returned (.tuple #[.int .u32 ((numF s.data.toList).getD 0 : Nat), .int .i64 (errN (numF s.data.toList).isSome)]) ∧ w' = w := by
 have hl := size_list s
 by_cases hx : s.data.toList.take 2 = [48, 120] ∧ 2 < s.data.toList.length ∧ s.data.toList.length ≤ 10
 ·obtain ⟨hx, n2, n10⟩ := hx
  obtain ⟨_, x0, x1⟩ := (take_two _).1 hx
  rw [hl] at n2 n10
  have p0 : 0 < s.size := by omega
  have p1 : 1 < s.size := by omega
  have b0 := bAt_get s 0 p0
  have b1 := bAt_get s 1 p1
  rw [x0] at b0
  rw [x1] at b1
  have i0 : (0 : Int) < (s.size : Int) := by omega
  have i1 : (1 : Int) < (s.size : Int) := by omega
  have d1 : decide ((s.size : Int) > 2) = true := decide_eq_true (by omega)
  have d2 : decide ((s.size : Int) ≤ 10) = true := decide_eq_true (by omega)
  have hnum : numF s.data.toList = if (s.data.toList.drop 2).all isHx = true then some (hxFrom 0 (s.data.toList.drop 2)) else none := by
   unfold numF
   rw [if_pos hx]
   have e1 : 1 ≤ (s.data.toList.drop 2).length := by rw [List.length_drop]; omega
   have e2 : (s.data.toList.drop 2).length ≤ 8 := by rw [List.length_drop]; omega
   by_cases ha : (s.data.toList.drop 2).all isHx = true
   ·rw [if_pos ⟨e1, e2, ha⟩, if_pos ha]
   ·rw [if_neg (fun h => ha h.2.2), if_neg ha]
  obtain ⟨N, hN⟩ : ∃ N, numF s.data.toList = N := ⟨_, rfl⟩
  rw [hN] at hnum ⊢
  obtain ⟨A, hA0⟩ : ∃ A : Int, ((N.getD 0 : Nat) : Int) = A := ⟨_, rfl⟩
  obtain ⟨E, hE0⟩ : ∃ E : Int, errN N.isSome = E := ⟨_, rfl⟩
  rw [hA0, hE0]
  clear x0 x1 hx hN
  replace hl := Lib.hid hl; replace hnum := Lib.hid hnum; replace hA0 := Lib.hid hA0; replace hE0 := Lib.hid hE0
  go_enter Tryz.func126, Tryz.ntmps126
  go_wp2_with fail
  go_loop [4, 5] (fun n i => ∃ (k : Nat) (x : Int), 2 ≤ k ∧ k ≤ s.size ∧ i = .int .i64 k ∧ n = .int .i64 x ∧ HxAt s.data.toList k x) (fun _ i => s.size - (intOf i).toNat)
  case atStart => exact ⟨2, 0, by omega, by omega, rfl, rfl, hxAt_two _⟩
  case round =>
   clear b0 b1
   obtain ⟨k, x, hk2, hk, rfl, rfl, hH⟩ := hrel
   obtain ⟨x0, x1⟩ := hxAt_bound hH (by omega)
   by_cases hlt : k < s.size
   ·have d4 : decide ((k : Int) < (s.size : Int)) = true := decide_eq_true (by omega)
    have bk := bAt_get s k hlt
    have hst := fun h1 => hxAt_step hH hk2 (by rw [hl.out]; exact hlt) h1
    have hbad := fun h => hx_bad (l := s.data.toList) hk2 (by rw [hl.out]; exact hlt) h
    have hcb : 0 ≤ bAt s.data.toList k ∧ bAt s.data.toList k ≤ 255 := by rw [bAt_getD]; have := (s.data.toList.getD k 0).toNat_lt; omega
    have hlt16 := hv_lt (bAt s.data.toList k)
    have hw := fun W => rworth_any (bAt s.data.toList k) W hcb.1 hcb.2
    have i2 : (0 : Int) ≤ (k : Int) := by omega
    obtain ⟨c, hc⟩ : ∃ c, bAt s.data.toList k = c := ⟨_, rfl⟩
    rw [hc] at bk hst hbad hlt16
    simp only [hc] at hw
    obtain ⟨v, hv'⟩ : ∃ v, hv c = v := ⟨_, rfl⟩
    rw [hv'] at hst hbad hlt16
    simp only [hv'] at hw
    clear hc hH hcb hv'
    replace hst := Lib.hid hst; replace hbad := Lib.hid hbad; replace hw := Lib.hid hw
    by_cases c1 : v < 0
    ·have d5 : decide (v < 0) = true := decide_eq_true c1
     have hNn : N = none := by rw [hnum.out, hbad.out c1]; rfl
     have hA1 : A = 0 := by rw [← hA0.out, hNn]; rfl
     have hE1 : E = 41 := by rw [← hE0.out, hNn]; rfl
     clear hA0 hE0 hnum hNn
     subst hA1 hE1
     go_wp2_with (go_at_call 123; refine (hw.out _).mono ?_; rintro e w2 ⟨rfl, rfl⟩)
     exact bodyPost_ret (v := .tuple #[.int .u32 0, .int .i64 41]) (by simp [results, Tryz.results126, go_sem]) rfl ⟨rfl, rfl⟩
    ·have d5 : decide (v < 0) = false := decide_eq_false c1
     have hst2 := Lib.hid (hst.out (by omega))
     go_wp2_with (go_at_call 123; refine (hw.out _).mono ?_; rintro e w2 ⟨rfl, rfl⟩)
     go_round
     case rel => exact ⟨k + 1, 16 * x + v, by omega, by omega, by go_num, by go_num, hst2.out⟩
     case measure => simp [intOf]; omega
   ·obtain rfl : k = s.size := by omega
    have d4 : decide ((s.size : Int) < (s.size : Int)) = false := decide_eq_false (by omega)
    rw [← hl.out] at hH
    obtain ⟨hA, hxv⟩ := hxAt_end hH
    have hNs : N = some (hxFrom 0 (s.data.toList.drop 2)) := by rw [hnum.out, if_pos hA]
    have hA1 : A = x := by rw [← hA0.out, hNs, hxv]; rfl
    have hE1 : E = 0 := by rw [← hE0.out, hNs]; rfl
    clear hH hA hxv hA0 hE0 hnum hNs
    subst hA1 hE1
    go_wp2_with fail
    exact bodyPost_ret (v := .tuple #[.int .u32 A, .int .i64 0]) (by simp [results, Tryz.results126, go_sem]) rfl ⟨rfl, rfl⟩
 ·have hnt := numF_tens _ hx
  have htn := fun W => rtensF_any s 4294967295 W hs (by decide) (by decide)
  obtain ⟨T, hT⟩ : ∃ T, tenF 4294967295 s.data.toList = T := ⟨_, rfl⟩
  rw [hT] at hnt
  simp only [hT] at htn
  rw [take_two, hl] at hx
  have g0 : 0 < s.size → (s[0]!.toNat : Int) = bAt s.data.toList 0 := fun h => by rw [← bAt_get s 0 h, getElem!_pos s 0 h]
  have b0 := fun h => bAt_get s 0 h
  have b1 := fun h => bAt_get s 1 h
  clear hT g0
  obtain ⟨c0, hc0⟩ : ∃ c, bAt s.data.toList 0 = c := ⟨_, rfl⟩
  obtain ⟨c1, hc1⟩ : ∃ c, bAt s.data.toList 1 = c := ⟨_, rfl⟩
  rw [hc0, hc1] at hx
  simp only [hc0] at b0
  simp only [hc1] at b1
  obtain ⟨N, hN⟩ : ∃ N, numF s.data.toList = N := ⟨_, rfl⟩
  rw [hN] at hnt ⊢
  obtain ⟨A, hA0⟩ : ∃ A : Int, ((N.getD 0 : Nat) : Int) = A := ⟨_, rfl⟩
  obtain ⟨E, hE0⟩ : ∃ E : Int, errN N.isSome = E := ⟨_, rfl⟩
  rw [hA0, hE0]
  replace hnt : (T = -1 ∧ A = 0 ∧ E = 41) ∨ (0 ≤ T ∧ T ≤ 4294967295 ∧ A = T ∧ E = 0) := by
   rcases hnt with ⟨h1, h2⟩ | ⟨h1, h2, u, h3, h4⟩
   ·exact .inl ⟨h1, by rw [← hA0, h2]; rfl, by rw [← hE0, h2]; rfl⟩
   ·exact .inr ⟨h1, h2, by rw [← hA0, h3, h4]; rfl, by rw [← hE0, h3]; rfl⟩
  clear hc0 hc1 hN hl hA0 hE0
  replace htn := Lib.hid htn; replace hnt := Lib.hid hnt; replace hx := Lib.hid hx; replace b0 := Lib.hid b0; replace b1 := Lib.hid b1
  go_enter Tryz.func126, Tryz.ntmps126
  go_upto_region 1 with fail
  go_cut [25] from 8 to 25 (fun r wx => r = .bool false ∧ wx = w)
  case first =>
   clear hnt htn
   by_cases h2 : 2 < s.size
   ·have d1 : decide ((s.size : Int) > 2) = true := decide_eq_true (by omega)
    have i0 : (0 : Int) < (s.size : Int) := by omega
    have i1 : (1 : Int) < (s.size : Int) := by omega
    have b0' := b0.out (by omega)
    have b1' := b1.out (by omega)
    by_cases e0 : c0 = 48
    ·have d2 : (c0 == 48) = true := by simp [e0]
     replace e0 := Lib.hid e0
     by_cases e1 : c1 = 120
     ·have d3 : (c1 == 120) = true := by simp [e1]
      have d4 : decide ((s.size : Int) ≤ 10) = false := decide_eq_false (fun h => hx.out ⟨⟨by omega, e0.out, e1⟩, by omega, by omega⟩)
      replace e1 := Lib.hid e1
      go_wp2_with fail
      go_meet
      case rel => exact ⟨rfl, rfl⟩
     ·have d3 : (c1 == 120) = false := by simp [e1]
      replace e1 := Lib.hid e1
      go_wp2_with fail
      go_meet
      case rel => exact ⟨rfl, rfl⟩
    ·have d2 : (c0 == 48) = false := by simp [e0]
     replace e0 := Lib.hid e0
     go_wp2_with fail
     go_meet
     case rel => exact ⟨rfl, rfl⟩
   ·have d1 : decide ((s.size : Int) > 2) = false := decide_eq_false (by omega)
    go_wp2_with fail
    go_meet
    case rel => exact ⟨rfl, rfl⟩
  case rest =>
   obtain ⟨rfl, hw⟩ := hcut
   subst hw
   rcases hnt.out with ⟨rfl, rfl, rfl⟩ | ⟨t0, t1, rfl, rfl⟩
   ·go_wp2_with (go_at_call 147; refine (htn.out _).mono ?_; rintro e w2 ⟨rfl, rfl⟩)
    exact bodyPost_ret (v := .tuple #[.int .u32 0, .int .i64 41]) (by simp [results, Tryz.results126, go_sem]) rfl ⟨rfl, rfl⟩
   ·have d9 : decide (A < 0) = false := decide_eq_false (by omega)
    go_wp2_with (go_at_call 147; refine (htn.out _).mono ?_; rintro e w2 ⟨rfl, rfl⟩)
    exact bodyPost_ret (v := .tuple #[.int .u32 A, .int .i64 0]) (by simp [results, Tryz.results126, go_sem]) rfl ⟨rfl, rfl⟩
theorem sgnF_neg (l : List UInt8) (h : l.head? = some 45) :
  (tenF 2147483648 l.tail < 1 ∧ -1 ≤ tenF 2147483648 l.tail ∧ sgnF l = none) ∨ (1 ≤ tenF 2147483648 l.tail ∧ tenF 2147483648 l.tail ≤ 2147483648 ∧ sgnF l = some (-tenF 2147483648 l.tail)) := by
 unfold tenF sgnF
 rw [if_pos h]
 by_cases ht : tensB l.tail = true ∧ valFrom 0 l.tail ≤ 2147483648
 ·rw [if_pos (show tensB l.tail = true ∧ (valFrom 0 l.tail : Int) ≤ 2147483648 from ⟨ht.1, by omega⟩)]
  by_cases hz : l.tail = [48]
  ·left
   rw [if_neg (fun h => h.2.1 hz), hz]
   exact ⟨by decide, by decide, rfl⟩
  ·right
   have hpos : valFrom 0 l.tail ≠ 0 := by
    intro e
    have hb := dec_back _ l.tail rfl ht.1
    rw [e] at hb
    exact hz (by rw [← hb, Lib.decDigits_one (by decide)]; rfl)
   rw [if_pos ⟨ht.1, hz, ht.2⟩]
   exact ⟨by omega, by omega, rfl⟩
 ·left
  rw [if_neg (fun h => ht ⟨h.1, by omega⟩), if_neg (fun h => ht ⟨h.1, h.2.2⟩)]
  exact ⟨by decide, by decide, rfl⟩
theorem sgnF_pos (l : List UInt8) (h : l.head? ≠ some 45) :
  (tenF 2147483647 l = -1 ∧ sgnF l = none) ∨ (0 ≤ tenF 2147483647 l ∧ tenF 2147483647 l ≤ 2147483647 ∧ sgnF l = some (tenF 2147483647 l)) := by
 unfold tenF sgnF
 rw [if_neg h]
 by_cases ht : tensB l = true ∧ valFrom 0 l ≤ 2147483647
 ·rw [if_pos (show tensB l = true ∧ (valFrom 0 l : Int) ≤ 2147483647 from ⟨ht.1, by omega⟩), if_pos ht]
  exact .inr ⟨by omega, by omega, rfl⟩
 ·rw [if_neg (fun h => ht ⟨h.1, by omega⟩), if_neg ht]
  exact .inl ⟨rfl, rfl⟩
theorem head_is (l : List UInt8) (c : UInt8) : l.head? = some c ↔ 0 < l.length ∧ bAt l 0 = (c.toNat : Int) := by
 cases l with
 | nil => simp
 | cons a r =>
  have e0 : bAt (a :: r) 0 = (a.toNat : Int) := rfl
  rw [e0, List.head?_cons, Option.some.injEq, List.length_cons]
  constructor
  ·rintro rfl; exact ⟨by omega, rfl⟩
  ·rintro ⟨_, h⟩; exact UInt8.toNat.inj (by omega)
theorem extract_tail (s : ByteArray) : (s.extract 1 s.size).data.toList = s.data.toList.tail := by
 have : (s.extract 1 s.size).data.toList = (s.data.extract 1 s.size).toList := by simp
 rw [this, Array.toList_extract, List.extract_eq_take_drop, ← List.drop_one]
 exact List.take_of_length_le (by rw [List.length_drop, size_list]; exact Nat.le_refl _)
set_option maxRecDepth 100000 in
set_option maxHeartbeats 1600000 in
theorem rsigned_any (s : ByteArray) (w : World) (hs : s.size ≤ 140737488355328) :
  Calls Tryz.prog 148 #[.string s] w fun e w' => e = .returned (.tuple #[.int .i32 ((sgnF s.data.toList).getD 0), .int .i64 (errN (sgnF s.data.toList).isSome)]) ∧ w' = w := by
 have hl := size_list s
 obtain ⟨A, hA0⟩ : ∃ A : Int, (sgnF s.data.toList).getD 0 = A := ⟨_, rfl⟩
 obtain ⟨E, hE0⟩ : ∃ E : Int, errN (sgnF s.data.toList).isSome = E := ⟨_, rfl⟩
 rw [hA0, hE0]
 by_cases hh : s.data.toList.head? = some 45
 ·have hT := sgnF_neg _ hh
  obtain ⟨hp, h45⟩ := (head_is _ _).1 hh
  rw [hl] at hp
  have b0 := bAt_get s 0 hp
  rw [h45] at b0
  replace b0 : (s[0].toNat : Int) = 45 := b0
  have he := str_empty s false (decide_eq_false (by omega))
  have htn := fun W => rtensF_any (s.extract 1 s.size) 2147483648 W (by rw [ByteArray.size_extract]; omega) (by decide) (by decide)
  simp only [extract_tail] at htn
  generalize tenF 2147483648 s.data.toList.tail = T at *
  replace hT : (T < 1 ∧ -1 ≤ T ∧ A = 0 ∧ E = 41) ∨ (1 ≤ T ∧ T ≤ 2147483648 ∧ A = -T ∧ E = 0) := by
   rcases hT with ⟨h1, h2, h3⟩ | ⟨h1, h2, h3⟩
   ·exact .inl ⟨h1, h2, by rw [← hA0, h3]; rfl, by rw [← hE0, h3]; rfl⟩
   ·exact .inr ⟨h1, h2, by rw [← hA0, h3]; rfl, by rw [← hE0, h3]; rfl⟩
  have hi : (0 : Int) < (s.size : Int) := by omega
  have hi1 : (1 : Int) ≤ (s.size : Int) := by omega
  clear hA0 hE0 hh h45 hl
  replace htn := Lib.hid htn
  rcases hT with ⟨t1, t2, rfl, rfl⟩ | ⟨t1, t2, rfl, rfl⟩
  ·have d1 : decide (T < 1) = true := decide_eq_true t1
   go_enter Tryz.func148, Tryz.ntmps148
   go_wp2_with (go_at_call 147; refine (htn.out _).mono ?_; rintro e w2 ⟨rfl, rfl⟩)
   exact bodyPost_ret (v := .tuple #[.int .i32 0, .int .i64 41]) (by simp [results, Tryz.results148, go_sem]) rfl ⟨rfl, rfl⟩
  ·have d1 : decide (T < 1) = false := decide_eq_false (by omega)
   have m1 : -2147483648 ≤ -T := by omega
   have m2 : -T ≤ 2147483647 := by omega
   go_enter Tryz.func148, Tryz.ntmps148
   go_wp2_with (go_at_call 147; refine (htn.out _).mono ?_; rintro e w2 ⟨rfl, rfl⟩)
   exact bodyPost_ret (v := .tuple #[.int .i32 (-T), .int .i64 0]) (by simp [results, Tryz.results148, go_sem]) rfl ⟨rfl, rfl⟩
 ·have hT := sgnF_pos _ hh
  have htn := fun W => rtensF_any s 2147483647 W hs (by decide) (by decide)
  generalize tenF 2147483647 s.data.toList = T at *
  replace hT : (T = -1 ∧ A = 0 ∧ E = 41) ∨ (0 ≤ T ∧ T ≤ 2147483647 ∧ A = T ∧ E = 0) := by
   rcases hT with ⟨h1, h3⟩ | ⟨h1, h2, h3⟩
   ·exact .inl ⟨h1, by rw [← hA0, h3]; rfl, by rw [← hE0, h3]; rfl⟩
   ·exact .inr ⟨h1, h2, by rw [← hA0, h3]; rfl, by rw [← hE0, h3]; rfl⟩
  rw [head_is, hl] at hh
  clear hA0 hE0 hl
  replace htn := Lib.hid htn; replace hT := Lib.hid hT; replace hh := Lib.hid hh
  go_enter Tryz.func148, Tryz.ntmps148
  go_upto_region 1 with fail
  go_cut [12] from 6 to 12 (fun r wx => r = .bool false ∧ wx = w)
  case first =>
   clear hT htn
   by_cases h0 : s.size = 0
   ·have he := str_empty s true (decide_eq_true h0)
    replace h0 := Lib.hid h0
    go_wp2_with fail
    go_meet
    case rel => exact ⟨rfl, rfl⟩
   ·have he := str_empty s false (decide_eq_false h0)
    have hp : 0 < s.size := by omega
    have b0 := bAt_get s 0 hp
    have hi : (0 : Int) < (s.size : Int) := by omega
    have hx : bAt s.data.toList 0 ≠ 45 := fun e => hh.out ⟨hp, e⟩
    obtain ⟨c, hc⟩ : ∃ c, bAt s.data.toList 0 = c := ⟨_, rfl⟩
    rw [hc] at b0 hx
    have d1 : (c == 45) = false := by simp [hx]
    clear hc hh
    replace hx := Lib.hid hx; replace h0 := Lib.hid h0
    go_wp2_with fail
    go_meet
    case rel => exact ⟨rfl, rfl⟩
  case rest =>
   obtain ⟨rfl, hw⟩ := hcut
   subst hw
   rcases hT.out with ⟨rfl, rfl, rfl⟩ | ⟨t0, t1, rfl, rfl⟩
   ·go_wp2_with (go_at_call 147; refine (htn.out _).mono ?_; rintro e w2 ⟨rfl, rfl⟩)
    exact bodyPost_ret (v := .tuple #[.int .i32 0, .int .i64 41]) (by simp [results, Tryz.results148, go_sem]) rfl ⟨rfl, rfl⟩
   ·have d9 : decide (A < 0) = false := decide_eq_false (by omega)
    go_wp2_with (go_at_call 147; refine (htn.out _).mono ?_; rintro e w2 ⟨rfl, rfl⟩)
    exact bodyPost_ret (v := .tuple #[.int .i32 A, .int .i64 0]) (by simp [results, Tryz.results148, go_sem]) rfl ⟨rfl, rfl⟩
end Go.Proofs.YtiknookfnameiaaGreatDoor
