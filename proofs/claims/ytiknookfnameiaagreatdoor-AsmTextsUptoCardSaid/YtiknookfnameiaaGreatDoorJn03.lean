/- The contracts of isa's Check and Encode. The contract of isa's Encode. -/
import Derived.Test.YtiknookfnameiaaGreatDoorIsaBJn
namespace Go.Proofs
namespace YtiknookfnameiaaGreatDoor
open Go.RowKit WP
theorem fldsC_at : ∀ (F : List Fld) (j : Nat) (hj : j < F.length) (o : Nat), o < 5 → (fldsC F)[j * 5 + o]? = (fldC F[j])[o]?
 | [], j, hj, _, _ => absurd hj (by simp)
 | f :: F, 0, _, o, ho => by
  have h5 : (fldC f).length = 5 := rfl
  show (fldC f ++ fldsC F)[0 * 5 + o]? = _
  rw [List.getElem?_append_left (by omega)]
  simp
 | f :: F, j + 1, hj, o, ho => by
  have h5 : (fldC f).length = 5 := rfl
  show (fldC f ++ fldsC F)[(j + 1) * 5 + o]? = _
  rw [List.getElem?_append_right (by omega), show (j + 1) * 5 + o - (fldC f).length = j * 5 + o by omega]
  exact fldsC_at F j (by simpa using hj) o ho
/-- field j of a row of fields, its five cells -/
theorem fld_cells {w : World} {B g cap : Nat} {F : List Fld} (h : w.ownsRow B 139 5 (.slice (some ⟨g, 0, none⟩) F.length cap) F.length (fldsC F)) (j : Nat) (hj : j < F.length) :
  w.cell? ⟨g, j * 5, none⟩ = some (.int .i64 F[j].v) ∧ w.cell? ⟨g, j * 5 + 1, none⟩ = some (.int .i64 F[j].lo) ∧ w.cell? ⟨g, j * 5 + 2, none⟩ = some (.int .i64 F[j].hi) ∧ w.cell? ⟨g, j * 5 + 3, none⟩ = some (.int .i64 F[j].at') ∧ w.cell? ⟨g, j * 5 + 4, none⟩ = some (.int .i64 F[j].bits) := by
 refine ⟨?_, ?_, ?_, ?_, ?_⟩
 ·rw [h.cellAt (j * 5) (by omega)]; exact fldsC_at F j hj 0 (by omega)
 ·rw [h.cellAt (j * 5 + 1) (by omega)]; exact fldsC_at F j hj 1 (by omega)
 ·rw [h.cellAt (j * 5 + 2) (by omega)]; exact fldsC_at F j hj 2 (by omega)
 ·rw [h.cellAt (j * 5 + 3) (by omega)]; exact fldsC_at F j hj 3 (by omega)
 ·rw [h.cellAt (j * 5 + 4) (by omega)]; exact fldsC_at F j hj 4 (by omega)
theorem own_belowI {w w' : World} {base : Nat} {e : TypeId} {size n : Nat} {v : Value} {xs : List Value} (h : w.ownsRow base e size v n xs) (hb : Below w.heap.size w w') : w'.ownsRow base e size v n xs :=
 h.kept (row := none) ⟨hb.os, hb.tape, hb.output, hb.size, fun k hk _ => hb.block k hk⟩ (by
  rcases h.2 with ⟨hv, _⟩ | ⟨g, cap, cur, hv, _⟩
  ·exact .inl (by rw [hv]; rfl)
  ·exact .inr (by rw [hv]; simp [Value.ownBlock]))
theorem own_form {w : World} {base : Nat} {e : TypeId} {size n : Nat} {v : Value} {xs : List Value} (h : w.ownsRow base e size v n xs) : ∃ ao ca, v = .slice ao n ca := by
 rcases h.2 with ⟨hv, hn⟩ | ⟨g, cap, cur, hv, _⟩
 ·exact ⟨none, 0, by rw [hv, hn]⟩
 ·exact ⟨_, _, hv⟩
set_option maxRecDepth 100000 in
set_option maxHeartbeats 4000000 in
theorem check_any (i : Ins) (w : World) (hT : Tabs w) (hm1 : -2147483648 ≤ i.imm) (hm2 : i.imm ≤ 2147483647) :
  Calls Tryz.prog 47 #[.agg (insC i)] w fun e w' => Below w.heap.size w w' ∧ e = .returned (.int .i64 (checkI i)) := by
 have hfc := fun W hW => fields_any i W hW hm1 hm2
 obtain ⟨I, hI⟩ : ∃ I, I = i := ⟨_, rfl⟩
 rw [← hI] at hfc ⊢
 obtain ⟨op, k, a, b, c, imm⟩ := i
 obtain ⟨K, hK⟩ : ∃ K, checkI I = K := ⟨_, rfl⟩
 rw [hK]
 have eI : insC I = #[.int .i64 op, .int .i64 k, .int .i64 a, .int .i64 b, .int .i64 c, .int .i32 imm] := by rw [hI]; rfl
 rw [eI] at hfc ⊢
 obtain ⟨R, hR⟩ : ∃ R, restI I = R := ⟨_, rfl⟩
 obtain ⟨F, hF⟩ : ∃ F, fieldsI I = F := ⟨_, rfl⟩
 by_cases hop : 1 ≤ op ∧ op < 25
 ·have hd : decide (1 ≤ op ∧ op < 25) = true := decide_eq_true hop
  have hK2 : (if F.all okFld then (if R = ins0 then (0 : Int) else 51) else 51) = K := by
   rw [← hK, ← hR, ← hF, hI]; unfold checkI; rw [if_pos hop]
  have hFl : F.length ≤ 3 := by rw [← hF]; unfold fieldsI; rw [List.length_map]; exact shape_len _
  clear hK hop hm1 hm2
  obtain ⟨rop, rk, ra, rb, rc, rm⟩ := R
  simp only [hR, hF, insC] at hfc
  clear hR hF eI hI
  go_enter Tryz.func47, Tryz.ntmps47
  go_wp2_with (first
   | (go_at_call 74; refine (is_any _ _).mono ?_; rintro e w2 ⟨rfl, hw⟩; rw [hw, hd]; clear hw w2)
   | (go_at_call 48; refine (hfc _ (hT.later ((Below.refl _ _).alloc (Nat.le_refl _) _))).mono ?_; rintro e w2 ⟨hb2, v2, rfl, ho2⟩; obtain ⟨ao, ca, rfl⟩ := own_form ho2))
  have hbA : Below w.heap.size w w2 := ((Below.refl _ _).alloc (Nat.le_refl _) _).trans (hb2.mono (by simp))
  have hsz := hbA.size
  go_loopw [18] (fun n wl => ∃ j : Nat, j ≤ F.length ∧ n = .int .i64 j ∧ Below (w2.heap.size + 1) (w2.alloc (.cells #[.int .i64 rop, .int .i64 rk, .int .i64 ra, .int .i64 rb, .int .i64 rc, .int .i32 rm] 92)) wl ∧ (F.take j).all okFld = true) (fun n _ => F.length - (intOf n).toNat)
  case atStart => exact ⟨0, Nat.zero_le _, rfl, Below.refl _ _, rfl⟩
  case round =>
   obtain ⟨wo, rfl⟩ : ∃ wo, wo = wr := ⟨wr, rfl⟩
   obtain ⟨j, hj, rfl, hbo, hall⟩ := hrel
   have hbs := hbo.size
   rw [show (w2.alloc (.cells #[.int .i64 rop, .int .i64 rk, .int .i64 ra, .int .i64 rb, .int .i64 rc, .int .i32 rm] 92)).heap.size = w2.heap.size + 1 by simp] at hbs
   have hbW : Below w.heap.size w wo := (hbA.alloc hsz _).trans (hbo.mono (by omega))
   have ho := own_belowI ((ho2.alloc (.cells #[.int .i64 rop, .int .i64 rk, .int .i64 ra, .int .i64 rb, .int .i64 rc, .int .i32 rm] 92))) (w' := wo) (by rw [show (w2.alloc (.cells #[.int .i64 rop, .int .i64 rk, .int .i64 ra, .int .i64 rb, .int .i64 rc, .int .i32 rm] 92)).heap.size = w2.heap.size + 1 by simp]; exact hbo)
   by_cases hjl : j < F.length
   ·have dj : decide (j < F.length) = true := decide_eq_true hjl
    obtain ⟨g, cap, hv⟩ := Joins.ownsRow_form ho (by omega)
    simp only [Value.slice.injEq] at hv
    obtain ⟨rfl, _, rfl⟩ := hv
    obtain ⟨c0, c1, c2, c3, c4⟩ := fld_cells ho j hjl
    have hall2 : ∀ f, F[j] = f → okFld f = false → F.all okFld = false := fun f e h => by
     rw [List.all_eq_false]; exact ⟨F[j], List.getElem_mem hjl, by rw [e, h]; simp⟩
    have hall3 : okFld F[j] = true → (F.take (j + 1)).all okFld = true := fun h => by
     rw [List.take_succ_eq_append_getElem hjl, List.all_append, hall]; simp [h]
    obtain ⟨⟨fv, fl, fh, fa, fb⟩, hf⟩ : ∃ f, F[j] = f := ⟨_, rfl⟩
    rw [hf] at c0 c1 c2 c3 c4 hall3
    replace hall2 := hall2 _ hf
    simp only at c0 c1 c2 c3 c4
    clear hf hall
    replace hall2 := Lib.hid hall2; replace hall3 := Lib.hid hall3; replace hK2 := Lib.hid hK2; replace ho := Lib.hid ho; replace hbo := Lib.hid hbo
    by_cases h1 : fv < fl
    ·have d1 : decide (fv < fl) = true := decide_eq_true h1
     go_wp2_with fail
     go_ret
     exact ⟨hbW.alloc (Nat.le_trans hsz (by omega)) _, by rw [← hK2.out, if_neg (by rw [hall2.out (by unfold okFld; exact decide_eq_false (by simp only; omega))]; simp)]; rfl⟩
    ·have d1 : decide (fv < fl) = false := decide_eq_false h1
     by_cases h2 : fh < fv
     ·have d2 : decide (fh < fv) = true := decide_eq_true h2
      go_wp2_with fail
      go_ret
      exact ⟨hbW.alloc (Nat.le_trans hsz (by omega)) _, by rw [← hK2.out, if_neg (by rw [hall2.out (by unfold okFld; exact decide_eq_false (by simp only; omega))]; simp)]; rfl⟩
     ·have d2 : decide (fh < fv) = false := decide_eq_false h2
      go_wp2_with fail
      go_round
      case rel => exact ⟨j + 1, by omega, by go_num, hbo.out.alloc (by omega) _, hall3.out (by unfold okFld; exact decide_eq_true (by simp only; omega))⟩
      case measure => simp only [intOf]; go_num
   ·have dj : decide (j < F.length) = false := decide_eq_false hjl
    have hcR : wo.heap[w2.heap.size]? = some (.cells #[.int .i64 rop, .int .i64 rk, .int .i64 ra, .int .i64 rb, .int .i64 rc, .int .i32 rm] 92 (0, 0)) := by
     rw [hbo.block _ (by omega)]; exact heap_alloc_new _ _
    have e0 := cell_of_row _ _ 0 _ _ _ hcR
    have e1 := cell_of_row _ _ 1 _ _ _ hcR
    have e2 := cell_of_row _ _ 2 _ _ _ hcR
    have e3 := cell_of_row _ _ 3 _ _ _ hcR
    have e4 := cell_of_row _ _ 4 _ _ _ hcR
    have e5 := cell_of_row _ _ 5 _ _ _ hcR
    simp at e0 e1 e2 e3 e4 e5
    rw [List.take_of_length_le (by omega)] at hall
    rw [if_pos hall] at hK2
    replace hK2 := Lib.hid hK2
    clear hcR hall ho hbo
    go_wp2_with fail
    all_goals
     go_ret
     refine ⟨hbW, ?_⟩
     rw [← hK2.out]
     first
      | (rw [if_pos (by simp [ins0, *])]; rfl)
      | (rw [if_neg (by simp [ins0, *])]; rfl)
 ·have hd : decide (1 ≤ op ∧ op < 25) = false := decide_eq_false hop
  have hK2 : K = 50 := by rw [← hK, hI]; unfold checkI; rw [if_neg hop]
  subst hK2
  clear hK hop hfc hR hF hm1 hm2 hT eI
  go_enter Tryz.func47, Tryz.ntmps47
  go_wp2_with (go_at_call 74; refine (is_any _ _).mono ?_; rintro e w2 ⟨rfl, hw⟩; rw [hw, hd]; clear hw w2)
  go_ret
  exact ⟨(Below.refl _ _).alloc (Nat.le_refl _) _, rfl⟩
end YtiknookfnameiaaGreatDoor
end Go.Proofs

namespace Go.Proofs
namespace YtiknookfnameiaaGreatDoor
open Go.RowKit WP
def fldFits (f : Fld) : Prop := 1 ≤ f.bits ∧ 0 ≤ f.at' ∧ f.at' + f.bits ≤ 32
theorem fits_fld (i : Ins) (c : UInt8) : fldFits (fld i c) := by
 unfold fld fldFits
 repeat' split
 all_goals simp
theorem lay_bd (F : List Fld) (h : ∀ f ∈ F, fldFits f) : ∀ w : Int, 0 ≤ w → w ≤ 4294967295 → 0 ≤ F.foldl lay1 w ∧ F.foldl lay1 w ≤ 4294967295 := by
 induction F with
 | nil => intro w h0 h1; exact ⟨h0, h1⟩
 | cons f F ih =>
  intro w h0 h1
  rw [List.foldl_cons]
  have hf := h f List.mem_cons_self
  have hb := setI_bd w f.at' f.bits (f.v % 4294967296) h0 h1 (by have := hf.1; omega) hf.2.1 hf.2.2
  exact ih (fun g hg => h g (List.mem_cons_of_mem _ hg)) _ hb.1 hb.2
set_option maxRecDepth 100000 in
set_option maxHeartbeats 4000000 in
theorem encode_any (i : Ins) (w : World) (hT : Tabs w) (hm1 : -2147483648 ≤ i.imm) (hm2 : i.imm ≤ 2147483647) :
  Calls Tryz.prog 30 #[.agg (insC i)] w fun e w' => Below w.heap.size w w' ∧ e = .returned (.tuple #[.int .u32 (if checkI i = 0 then wordI i else 0), .int .i64 (checkI i)]) := by
 have hfc := fun W hW => fields_any i W hW hm1 hm2
 have hcc := fun W hW => check_any i W hW hm1 hm2
 obtain ⟨I, hI⟩ : ∃ I, I = i := ⟨_, rfl⟩
 rw [← hI] at hfc hcc ⊢
 obtain ⟨op, k, a, b, c, imm⟩ := i
 obtain ⟨K, hK⟩ : ∃ K, checkI I = K := ⟨_, rfl⟩
 have eI : insC I = #[.int .i64 op, .int .i64 k, .int .i64 a, .int .i64 b, .int .i64 c, .int .i32 imm] := by rw [hI]; rfl
 rw [hK]
 simp only [hK] at hcc
 rw [eI] at hfc hcc ⊢
 by_cases hK0 : K = 0
 ·subst hK0
  rw [if_pos rfl]
  obtain ⟨R, hR⟩ : ∃ R, restI I = R := ⟨_, rfl⟩
  obtain ⟨F, hF⟩ : ∃ F, fieldsI I = F := ⟨_, rfl⟩
  obtain ⟨V, hV⟩ : ∃ V, wordI I = V := ⟨_, rfl⟩
  have hfit : ∀ f ∈ F, fldFits f := by
   rw [← hF]; unfold fieldsI; intro f hf
   obtain ⟨c, _, rfl⟩ := List.mem_map.1 hf
   exact fits_fld _ _
  have hV2 : F.foldl lay1 (op * 67108864 % 4294967296) = V := by rw [← hV, ← hF, hI]; rfl
  have hop : 1 ≤ op ∧ op < 25 := by
   rw [hI] at hK; unfold checkI at hK
   by_cases h : 1 ≤ op ∧ op < 25
   ·exact h
   ·rw [if_neg h] at hK; cases hK
  have hFl : F.length ≤ 3 := by rw [← hF]; unfold fieldsI; rw [List.length_map]; exact shape_len _
  rw [hV]
  clear hm1 hm2 hK
  obtain ⟨rop, rk, ra, rb, rc, rm⟩ := R
  simp only [hR, hF, insC] at hfc
  clear hR hF eI hI hV
  go_enter Tryz.func30, Tryz.ntmps30
  go_wp2_with (first
   | (go_at_call 47; refine (hcc _ (hT.later ((Below.refl _ _).alloc (Nat.le_refl _) _))).mono ?_; rintro e w1 ⟨hb1, rfl⟩
      have hq : w1.heap[w.heap.size]? = some (.cells #[.int .i64 op, .int .i64 k, .int .i64 a, .int .i64 b, .int .i64 c, .int .i32 imm] 92 (0, 0)) := (hb1.block _ (by simp)).trans (heap_alloc_new _ _)
      have e0 : w1.cell? ⟨w.heap.size, 0, none⟩ = some (.int .i64 op) := cell_of_row _ _ 0 _ _ _ hq
      have e1 : w1.cell? ⟨w.heap.size, 1, none⟩ = some (.int .i64 k) := cell_of_row _ _ 1 _ _ _ hq
      have e2 : w1.cell? ⟨w.heap.size, 2, none⟩ = some (.int .i64 a) := cell_of_row _ _ 2 _ _ _ hq
      have e3 : w1.cell? ⟨w.heap.size, 3, none⟩ = some (.int .i64 b) := cell_of_row _ _ 3 _ _ _ hq
      have e4 : w1.cell? ⟨w.heap.size, 4, none⟩ = some (.int .i64 c) := cell_of_row _ _ 4 _ _ _ hq
      have e5 : w1.cell? ⟨w.heap.size, 5, none⟩ = some (.int .i32 imm) := cell_of_row _ _ 5 _ _ _ hq
      clear hq)
   | (go_at_call 48; refine (hfc _ (hT.later (((Below.refl _ _).alloc (Nat.le_refl _) _).trans (hb1.mono (by simp))))).mono ?_; rintro e w2 ⟨hb2, v2, rfl, ho2⟩; obtain ⟨ao, ca, rfl⟩ := own_form ho2))
  have hbA : Below w.heap.size w w2 := (((Below.refl _ _).alloc (Nat.le_refl _) _).trans (hb1.mono (by simp))).trans (hb2.mono (by have := hb1.size; simp at this; omega))
  have hsz := hbA.size
  clear hcc hfc e0 e1 e2 e3 e4 e5
  go_loopw [26, 5] (fun n x wl => ∃ j : Nat, j ≤ F.length ∧ n = .int .i64 j ∧ Below (w2.heap.size + 1) (w2.alloc (.cells #[.int .i64 rop, .int .i64 rk, .int .i64 ra, .int .i64 rb, .int .i64 rc, .int .i32 rm] 92)) wl ∧ x = .int .u32 ((F.take j).foldl lay1 (op * 67108864 % 4294967296))) (fun n _ _ => F.length - (intOf n).toNat)
  case atStart => exact ⟨0, Nat.zero_le _, rfl, Below.refl _ _, by
   simp only [List.take_zero, List.foldl_nil]
   congr 1
   omega⟩
  case round =>
   obtain ⟨wo, rfl⟩ : ∃ wo, wo = wr := ⟨wr, rfl⟩
   obtain ⟨j, hj, rfl, hbo, rfl⟩ := hrel
   have hbs := hbo.size
   rw [show (w2.alloc (.cells #[.int .i64 rop, .int .i64 rk, .int .i64 ra, .int .i64 rb, .int .i64 rc, .int .i32 rm] 92)).heap.size = w2.heap.size + 1 by simp] at hbs
   have hbW : Below w.heap.size w wo := (hbA.alloc hsz _).trans (hbo.mono (by omega))
   have ho := own_belowI ((ho2.alloc (.cells #[.int .i64 rop, .int .i64 rk, .int .i64 ra, .int .i64 rb, .int .i64 rc, .int .i32 rm] 92))) (w' := wo) (by rw [show (w2.alloc (.cells #[.int .i64 rop, .int .i64 rk, .int .i64 ra, .int .i64 rb, .int .i64 rc, .int .i32 rm] 92)).heap.size = w2.heap.size + 1 by simp]; exact hbo)
   by_cases hjl : j < F.length
   ·have dj : decide (j < F.length) = true := decide_eq_true hjl
    obtain ⟨g, cap, hv⟩ := Joins.ownsRow_form ho (by omega)
    simp only [Value.slice.injEq] at hv
    obtain ⟨rfl, _, rfl⟩ := hv
    obtain ⟨c0, c1, c2, c3, c4⟩ := fld_cells ho j hjl
    have hfx := hfit F[j] (List.getElem_mem hjl)
    have hnext : (F.take (j + 1)).foldl lay1 (op * 67108864 % 4294967296) = lay1 ((F.take j).foldl lay1 (op * 67108864 % 4294967296)) F[j] := by
     rw [List.take_succ_eq_append_getElem hjl, List.foldl_append]; rfl
    have hbd := lay_bd (F.take j) (fun f hf => hfit f (List.mem_of_mem_take hf)) (op * 67108864 % 4294967296) (by omega) (by omega)
    obtain ⟨⟨fv, fl, fh, fa, fb⟩, hf⟩ : ∃ f, F[j] = f := ⟨_, rfl⟩
    rw [hf] at c0 c1 c2 c3 c4 hnext hfx
    obtain ⟨X, hX⟩ : ∃ X, (F.take j).foldl lay1 (op * 67108864 % 4294967296) = X := ⟨_, rfl⟩
    rw [hX] at hnext hbd ⊢
    conv at hnext => rhs; unfold lay1
    unfold fldFits at hfx
    simp only at c0 c1 c2 c3 c4 hnext hfx
    clear hf hX
    replace hnext := Lib.hid hnext; replace hV2 := Lib.hid hV2; replace ho := Lib.hid ho; replace hbo := Lib.hid hbo
    go_wp2_with (go_at_call 49; refine (set_yes X fa fb (fv % 4294967296) _ hbd.1 hbd.2 (by omega) (by omega) hfx.1 hfx.2.1 hfx.2.2).mono ?_; rintro e w3 ⟨rfl, rfl⟩)
    go_round
    case rel => exact ⟨j + 1, by omega, rfl, hbo.out.alloc (by omega) _, by rw [hnext.out]⟩
    case measure => simp only [intOf]; omega
   ·have dj : decide (j < F.length) = false := decide_eq_false hjl
    rw [List.take_of_length_le (by omega)] at ⊢
    rw [hV2] at ⊢
    go_wp2_with fail
    exact bodyPost_ret (v := .tuple #[.int .u32 V, .int .i64 0]) (by simp [results, Tryz.results30, go_sem]) rfl ⟨hbW, rfl⟩
 ·rw [if_neg hK0]
  have dK : (K == 0) = false := by simpa using hK0
  clear hfc hm1 hm2 eI hI hK
  go_enter Tryz.func30, Tryz.ntmps30
  go_wp2_with (go_at_call 47; refine (hcc _ (hT.later ((Below.refl _ _).alloc (Nat.le_refl _) _))).mono ?_; rintro e w1 ⟨hb1, rfl⟩)
  exact bodyPost_ret (v := .tuple #[.int .u32 0, .int .i64 K]) (by simp [results, Tryz.results30, go_sem]) rfl ⟨((Below.refl _ _).alloc (Nat.le_refl _) _).trans (hb1.mono (by simp)), rfl⟩
end YtiknookfnameiaaGreatDoor
end Go.Proofs
