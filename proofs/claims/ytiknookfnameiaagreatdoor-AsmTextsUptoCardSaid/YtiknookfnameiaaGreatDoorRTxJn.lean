/- AsmTexts' walk. -/
import Derived.Test.YtiknookfnameiaaGreatDoorJn47
import Derived.Test.YtiknookfnameiaaGreatDoorJn18
namespace Go.Proofs.YtiknookfnameiaaGreatDoor
open Go.RowKit WP
set_option linter.unusedSimpArgs false
set_option linter.unusedVariables false
def fOf {α : Type} : α ⊕ Flt → Flt
 | .inl _ => (0, 0, 0)
 | .inr f => f
def lOf : (List Int × List (ByteArray × Nat)) ⊕ Flt → List Int
 | .inl x => x.1
 | .inr _ => []
def bOf : (List Int × List (ByteArray × Nat)) ⊕ Flt → List (ByteArray × Nat)
 | .inl x => x.2
 | .inr _ => []
theorem rd_nil (w : World) : Rd w (.slice none 0 0) (wi []) := ⟨none, 0, rfl, Nat.le_refl _, by decide, .inl rfl⟩
theorem reads_nil (w : World) : Reads w 2 (.slice none 0 0) 0 (lc []) := ⟨rfl, .inl ⟨rfl, rfl⟩⟩
theorem OutW.reads {w : World} {B : Nat} {e : TypeId} {size : Nat} {v : Value} {n : Nat} {xs : List Value} (h : OutW w B e size v n xs) : Reads w size v n xs := by
 obtain ⟨h0, h⟩ := h
 refine ⟨h0, ?_⟩
 rcases h with h | ⟨g, cur, rfl, h1, h2, h3, h4, h5⟩
 ·exact .inl h
 ·refine .inr ⟨g, n, rfl, (Array.getElem?_eq_some_iff.1 h3).1, Nat.le_refl _, h2, fun j u hu => ?_⟩
  have hj := (List.getElem?_eq_some_iff.1 hu).1
  rw [cell_of_row _ _ _ _ _ _ h3]
  rw [← h5, List.getElem?_take_of_lt (by omega)] at hu
  rw [← hu, Array.getElem?_toList]
theorem tell_words {w' : World} {B : Nat} {e : Ending} {A : (List Int × List (ByteArray × Nat)) ⊕ Flt} (h : AsmRes w' B 22 1 e (wordsR A)) : ∃ v, e = .returned (.tuple #[v, fltV (fOf A)]) ∧ Rd w' v (wi (lOf A)) := by
 cases A with
 | inl x => obtain ⟨v, rfl, h⟩ := h; exact ⟨v, rfl, h.rd⟩
 | inr f => exact ⟨_, h, rd_nil _⟩
theorem rtell_words {w' : World} {B : Nat} {e : Ending} {A : (List Int × List (ByteArray × Nat)) ⊕ Flt} (h : RAsR w' B 22 1 e (wordsR A)) : ∃ v, e = .returned (.tuple #[v, fltV (fOf A)]) ∧ Rd w' v (wi (lOf A)) := by
 cases A with
 | inl x => obtain ⟨v, rfl, h⟩ := h; exact ⟨v, rfl, (Reads.of_own h).rd⟩
 | inr f => exact ⟨_, h, rd_nil _⟩
theorem tell_labs {w' : World} {B : Nat} {e : Ending} {T : TypeId} {A : (List Int × List (ByteArray × Nat)) ⊕ Flt} (h : AsmRes w' B T 2 e (labsR A)) : ∃ v, e = .returned (.tuple #[v, fltV (fOf A)]) ∧ Reads w' 2 v (bOf A).length (lc (bOf A)) ∧ ∀ k, v.ownBlock = some k → B ≤ k := by
 cases A with
 | inl x => obtain ⟨v, rfl, h⟩ := h; exact ⟨v, rfl, h.reads, fun k hk => (h.lt k hk).1⟩
 | inr f => exact ⟨_, h, reads_nil _, fun k hk => by cases hk⟩
theorem rtell_labs {w' : World} {B : Nat} {e : Ending} {T : TypeId} {A : (List Int × List (ByteArray × Nat)) ⊕ Flt} (h : RAsR w' B T 2 e (labsR A)) : ∃ v, e = .returned (.tuple #[v, fltV (fOf A)]) ∧ Reads w' 2 v (bOf A).length (lc (bOf A)) ∧ ∀ k, v.ownBlock = some k → B ≤ k := by
 cases A with
 | inl x => obtain ⟨v, rfl, h⟩ := h; exact ⟨v, rfl, Reads.of_own h, fun k hk => (h.lt k hk).1⟩
 | inr f => exact ⟨_, h, reads_nil _, fun k hk => by cases hk⟩
theorem numbers_any (w : World) : Calls Tryz.prog 11 #[] w fun e w' => e = .returned (.bool true) ∧ w' = w := by
 go_enter Tryz.func11, Tryz.ntmps11
 go_wp2_with fail
 go_ret
 exact ⟨rfl, rfl⟩
set_option maxRecDepth 100000 in
theorem fault_same (f : Flt) (w : World) : Calls Tryz.prog 13 #[fltV f, fltV f] w fun e w' => e = .returned (.bool true) ∧ Below w.heap.size w w' := by
 unfold fltV
 have b1 := ((Below.refl w.heap.size w).alloc (Nat.le_refl _) (.cells #[.int .i64 f.1, .int .i64 (f.2.1 : Int), .int .i64 (f.2.2 : Int)] 27)).alloc (by simp) (.cells #[.int .i64 f.1, .int .i64 (f.2.1 : Int), .int .i64 (f.2.2 : Int)] 33)
 replace b1 := Lib.hid b1
 go_enter Tryz.func13, Tryz.ntmps13
 go_wp2_with fail
 go_ret
 exact ⟨rfl, b1.out⟩
theorem reads_lab {w : World} {v : Value} {l : List (ByteArray × Nat)} (h : Reads w 2 v l.length (lc l)) (k : Nat) (p : ByteArray × Nat) (hp : l[k]? = some p) : ∃ g ca, v = .slice (some ⟨g, 0, none⟩) l.length ca ∧ l.length ≤ ca ∧ ca ≤ 9223372036854775807 ∧ w.cell? ⟨g, k * 2, none⟩ = some (.string p.1) ∧ w.cell? ⟨g, k * 2 + 1, none⟩ = some (.int .i64 (p.2 : Int)) := by
 have hi := (List.getElem?_eq_some_iff.1 hp).1
 obtain ⟨g, ca, e, _, h1, h2, hc⟩ := h.cellAt (by omega)
 obtain ⟨a0, a1⟩ := lc_get l k p hp
 exact ⟨g, ca, e, h1, h2, hc _ _ a0, hc _ _ a1⟩
theorem reads_set3 {w : World} {F n : Nat} {v : Value} {xs : List Value} (h : Reads w 2 v n xs) (hne : v.ownBlock ≠ some F) (f0 f1 f2 : Value) : Reads (((w.setCell ⟨F, 0, none⟩ f0).setCell ⟨F, 1, none⟩ f1).setCell ⟨F, 2, none⟩ f2) 2 v n xs := by
 refine ⟨h.1, ?_⟩
 rcases h.2 with hn | ⟨g, cap, rfl, hg, h1, h2, hc⟩
 ·exact .inl hn
 ·refine .inr ⟨g, cap, rfl, by simpa using hg, h1, h2, fun j u hu => ?_⟩
  have hgF : g ≠ F := fun e => hne (by rw [e]; rfl)
  exact (World.cell?_of_block (by rw [Below.heap_setCell _ ⟨F, 2, none⟩ _ g hgF, Below.heap_setCell _ ⟨F, 1, none⟩ _ g hgF, Below.heap_setCell _ ⟨F, 0, none⟩ _ g hgF])).trans (hc j u hu)
set_option maxRecDepth 100000 in
set_option maxHeartbeats 4000000 in
theorem texts_any (s : ByteArray) (base m : Int) (w : World) (hE : AEnv w) (hR : RTabs w) (hM : MaxL w m) (hT : ErrT w) (hs : s.size ≤ 9223372036854775807) (nb : base < 4294967296 ∧ 0 ≤ base) :
  Calls Tryz.prog 4 #[.string s, .int .u32 base] w fun e w' => e = .returned (.bool true) ∧ Below w.heap.size w w' := by
 have hfi := first_any m w hE hM hT
 have has := fun (W : World) (hb : Below w.heap.size w W) => assemble_any s base m W (hE.later hb) (maxl_later hM hb) (hT.later hb) hs nb
 have hra := fun (W : World) (hb : Below w.heap.size w W) => rassemble_any s base W (hR.later hb) hs nb
 have hla := fun (W : World) (hb : Below w.heap.size w W) => labels_any s m W (hE.later hb) (maxl_later hM hb) (hT.later hb) hs
 have hrl := fun (W : World) (hb : Below w.heap.size w W) => rlabels_any s W (hR.later hb) hs
 simp only [asm_same] at hra hrl
 obtain ⟨A, hA⟩ : ∃ A, readM base s = A := ⟨_, rfl⟩
 obtain ⟨A0, hA0⟩ : ∃ A0, readM 0 s = A0 := ⟨_, rfl⟩
 simp only [hA] at has hra
 simp only [hA0] at hla hrl
 clear hA hA0 hE hR hM hT
 replace hfi := Lib.hid hfi; replace has := Lib.hid has; replace hra := Lib.hid hra; replace hla := Lib.hid hla; replace hrl := Lib.hid hrl
 go_enter Tryz.func4, Tryz.ntmps4
 go_wp2_with fail
 refine (numbers_any _).mono ?_
 rintro e w1 ⟨rfl, hw1⟩
 obtain rfl := hw1.symm
 clear hw1
 go_wp2_with fail
 refine hfi.out.mono ?_
 rintro e w2 ⟨rfl, b2⟩
 clear hfi
 replace b2 := Lib.hid b2
 go_wp2_with fail
 refine (has.out w2 b2.out).mono ?_
 rintro e w3 ⟨b3, hres⟩
 obtain ⟨v3, rfl, hr3⟩ := tell_words hres
 clear hres has
 obtain ⟨F1, hF1⟩ : ∃ f, fOf A = f := ⟨_, rfl⟩
 obtain ⟨l1, hl1⟩ : ∃ l, lOf A = l := ⟨_, rfl⟩
 rw [hF1]
 rw [hl1] at hr3
 have B3 := b2.out.trans (b3.mono b2.out.size)
 obtain ⟨w4, hw4⟩ : ∃ w4, w3.alloc (.cells #[.int .i64 F1.1, .int .i64 (F1.2.1 : Int), .int .i64 (F1.2.2 : Int)] 27) = w4 := ⟨_, rfl⟩
 have b34 : Below w3.heap.size w3 w4 := by rw [← hw4]; exact (Below.refl _ _).alloc (Nat.le_refl _) _
 have hC4 : w4.heap[w3.heap.size]? = some (.cells #[.int .i64 F1.1, .int .i64 (F1.2.1 : Int), .int .i64 (F1.2.2 : Int)] 27 (0, 0)) := by rw [← hw4]; exact heap_alloc_new w3 _
 have B4 := B3.trans (b34.mono B3.size)
 have hr4 := hr3.mono b34
 replace B3 := Lib.hid B3; replace b34 := Lib.hid b34; replace hC4 := Lib.hid hC4; replace B4 := Lib.hid B4; replace hr4 := Lib.hid hr4; replace hw4 := Lib.hid hw4; replace hF1 := Lib.hid hF1; replace hl1 := Lib.hid hl1; replace b3 := Lib.hid b3
 have hC4z := hC4
 clear hr3
 unfold fltV
 go_upto_region 4 with fail
 rw [hw4.out]
 clear hw4
 go_wp2_with fail
 refine (hra.out w4 B4.out).mono ?_
 rintro e w5 ⟨b5, hres⟩
 obtain ⟨v5, rfl, hr5⟩ := rtell_words hres
 clear hres hra
 rw [hF1.out]
 rw [hl1.out] at hr5
 have B5 := B4.out.trans (b5.mono B4.out.size)
 obtain ⟨w6, hw6⟩ : ∃ w6, w5.alloc (.cells #[.int .i64 F1.1, .int .i64 (F1.2.1 : Int), .int .i64 (F1.2.2 : Int)] 33) = w6 := ⟨_, rfl⟩
 have b56 : Below w5.heap.size w5 w6 := by rw [← hw6]; exact (Below.refl _ _).alloc (Nat.le_refl _) _
 have hC6 : w6.heap[w5.heap.size]? = some (.cells #[.int .i64 F1.1, .int .i64 (F1.2.1 : Int), .int .i64 (F1.2.2 : Int)] 33 (0, 0)) := by rw [← hw6]; exact heap_alloc_new w5 _
 have b46 := b5.trans (b56.mono b5.size)
 have B6 := B4.out.trans (b46.mono B4.out.size)
 have hr6 := hr5.mono b56
 have hr4' := hr4.out.mono b46
 have hC46 := (b46.block w3.heap.size (Array.getElem?_eq_some_iff.1 hC4.out).1).trans hC4.out
 have hsm := asame_any v3 v5 l1 w6 hr4' hr6
 have hfl := fun W => fault_same F1 W
 replace B5 := Lib.hid B5; replace b56 := Lib.hid b56; replace hC6 := Lib.hid hC6; replace B6 := Lib.hid B6; replace hw6 := Lib.hid hw6; replace b5 := Lib.hid b5; replace hC46 := Lib.hid hC46; replace hsm := Lib.hid hsm; replace hfl := Lib.hid hfl; replace b46 := Lib.hid b46
 clear hr5 hr6 hr4' hr4 hC4
 unfold fltV
 go_upto_region 5 with fail
 rw [hw6.out]
 clear hw6
 go_wp2_with fail
 refine hsm.out.mono ?_
 rintro e w7 ⟨rfl, b7⟩
 have hC67 := (b7.block w5.heap.size (Array.getElem?_eq_some_iff.1 hC6.out).1).trans hC6.out
 have hC47 := (b7.block w3.heap.size (Array.getElem?_eq_some_iff.1 hC46.out).1).trans hC46.out
 have B7 := B6.out.trans (b7.mono B6.out.size)
 have x0 := cell_of_row _ _ 0 _ _ _ hC47
 have x1 := cell_of_row _ _ 1 _ _ _ hC47
 have x2 := cell_of_row _ _ 2 _ _ _ hC47
 have y0 := cell_of_row _ _ 0 _ _ _ hC67
 have y1 := cell_of_row _ _ 1 _ _ _ hC67
 have y2 := cell_of_row _ _ 2 _ _ _ hC67
 simp only [List.getElem?_toArray, List.getElem?_cons_zero, List.getElem?_cons_succ] at x0 x1 x2 y0 y1 y2
 replace hC67 := Lib.hid hC67; replace hC47 := Lib.hid hC47; replace B7 := Lib.hid B7; replace b7 := Lib.hid b7
 clear hsm hC6 hC46 x0 x1 x2 y0 y1 y2
 have x0 := cell_of_row w7 w3.heap.size 0 _ _ _ hC47.out
 have x1 := cell_of_row w7 w3.heap.size 1 _ _ _ hC47.out
 have x2 := cell_of_row w7 w3.heap.size 2 _ _ _ hC47.out
 have y0 := cell_of_row w7 w5.heap.size 0 _ _ _ hC67.out
 have y1 := cell_of_row w7 w5.heap.size 1 _ _ _ hC67.out
 have y2 := cell_of_row w7 w5.heap.size 2 _ _ _ hC67.out
 simp only [List.getElem?_toArray, List.getElem?_cons_zero, List.getElem?_cons_succ] at x0 x1 x2 y0 y1 y2
 go_wp2_with fail
 refine (hfl.out w7).mono ?_
 rintro e w8 ⟨rfl, b8⟩
 have hC68 := (b8.block w5.heap.size (Array.getElem?_eq_some_iff.1 hC67.out).1).trans hC67.out
 have hC48 := (b8.block w3.heap.size (Array.getElem?_eq_some_iff.1 hC47.out).1).trans hC47.out
 have B8 := B7.out.trans (b8.mono B7.out.size)
 have hs35 : w3.heap.size < w5.heap.size := by
  have h1 := (Array.getElem?_eq_some_iff.1 hC4z.out).1
  have h2 := b5.out.size
  omega
 have hs58 : w5.heap.size < w8.heap.size := (Array.getElem?_eq_some_iff.1 hC68).1
 clear hC67 hC47 x0 x1 x2 y0 y1 y2 b7 hfl
 replace hC68 := Lib.hid hC68; replace hC48 := Lib.hid hC48; replace B8 := Lib.hid B8; replace b8 := Lib.hid b8; replace hs35 := Lib.hid hs35; replace hs58 := Lib.hid hs58
 go_wp2_with fail
 refine (hla.out w8 B8.out).mono ?_
 rintro e w9 ⟨b9, hres⟩
 obtain ⟨v9, rfl, hr9, hv9⟩ := tell_labs hres
 clear hres hla
 obtain ⟨F0, hF0⟩ : ∃ f, fOf A0 = f := ⟨_, rfl⟩
 obtain ⟨L, hL⟩ : ∃ l, bOf A0 = l := ⟨_, rfl⟩
 rw [hF0]
 rw [hL] at hr9
 have hC49 := (b9.block w3.heap.size (Array.getElem?_eq_some_iff.1 hC48.out).1).trans hC48.out
 have hC69 := (b9.block w5.heap.size (Array.getElem?_eq_some_iff.1 hC68.out).1).trans hC68.out
 have B9 := B8.out.trans (b9.mono B8.out.size)
 obtain ⟨hN, bN, ⟨r0, r1, r2⟩, ⟨f0, f1, f2⟩, hoth⟩ := rflt_set (.int .i64 F0.1) (.int .i64 (F0.2.1 : Int)) (.int .i64 (F0.2.2 : Int)) hC49
 have hr10 := reads_set3 (F := w3.heap.size) hr9 (fun e => by have := hv9 _ e; have := hs35.out; have := hs58.out; omega) (.int .i64 F0.1) (.int .i64 (F0.2.1 : Int)) (.int .i64 (F0.2.2 : Int))
 have hC610 := (hoth w5.heap.size (by have := hs35.out; omega)).trans hC69
 have B10 := B9.trans (bN w.heap.size B3.out.size)
 obtain ⟨w10, hw10⟩ : ∃ w10, ((w9.setCell ⟨w3.heap.size, 0, none⟩ (.int .i64 F0.1)).setCell ⟨w3.heap.size, 1, none⟩ (.int .i64 (F0.2.1 : Int))).setCell ⟨w3.heap.size, 2, none⟩ (.int .i64 (F0.2.2 : Int)) = w10 := ⟨_, rfl⟩
 rw [hw10] at hN hr10 hC610 B10
 replace hN := Lib.hid hN; replace hr10 := Lib.hid hr10; replace hC610 := Lib.hid hC610; replace B10 := Lib.hid B10; replace hw10 := Lib.hid hw10; replace hF0 := Lib.hid hF0; replace hL := Lib.hid hL; replace hv9 := Lib.hid hv9; replace b9 := Lib.hid b9
 clear hC49 hC69 B9 bN hoth hr9 hC48 hC68
 unfold fltV
 go_upto_region 8 with fail
 rw [hw10.out]
 clear hw10 r0 r1 r2 f0 f1 f2
 go_wp2_with fail
 refine (hrl.out w10 B10.out).mono ?_
 rintro e w11 ⟨b11, hres⟩
 obtain ⟨v11, rfl, hr11, hv11⟩ := rtell_labs hres
 clear hres hrl
 rw [hF0.out]
 rw [hL.out] at hr11
 have hC611 := (b11.block w5.heap.size (Array.getElem?_eq_some_iff.1 hC610.out).1).trans hC610.out
 have hN11 := (b11.block w3.heap.size (Array.getElem?_eq_some_iff.1 hN.out).1).trans hN.out
 have B11 := B10.out.trans (b11.mono B10.out.size)
 have hr911 := hr10.out.later b11
 have h510 : w5.heap.size < w10.heap.size := (Array.getElem?_eq_some_iff.1 hC610.out).1
 obtain ⟨hM2, bN, ⟨r0, r1, r2⟩, ⟨f0, f1, f2⟩, hoth⟩ := rflt_set (.int .i64 F0.1) (.int .i64 (F0.2.1 : Int)) (.int .i64 (F0.2.2 : Int)) hC611
 have hra12 := reads_set3 (F := w5.heap.size) hr911 (fun e => by have := hv9.out _ e; have := hs58.out; omega) (.int .i64 F0.1) (.int .i64 (F0.2.1 : Int)) (.int .i64 (F0.2.2 : Int))
 have hrb12 := reads_set3 (F := w5.heap.size) hr11 (fun e => by have := hv11 _ e; omega) (.int .i64 F0.1) (.int .i64 (F0.2.1 : Int)) (.int .i64 (F0.2.2 : Int))
 have hN12 := (hoth w3.heap.size (by have := hs35.out; omega)).trans hN11
 have B12 := B11.trans (bN w.heap.size (Nat.le_trans B3.out.size (Nat.le_of_lt hs35.out)))
 obtain ⟨w12, hw12⟩ : ∃ w12, ((w11.setCell ⟨w5.heap.size, 0, none⟩ (.int .i64 F0.1)).setCell ⟨w5.heap.size, 1, none⟩ (.int .i64 (F0.2.1 : Int))).setCell ⟨w5.heap.size, 2, none⟩ (.int .i64 (F0.2.2 : Int)) = w12 := ⟨_, rfl⟩
 rw [hw12] at hM2 hra12 hrb12 hN12 B12
 have x0 := cell_of_row w12 w3.heap.size 0 _ _ _ hN12
 have x1 := cell_of_row w12 w3.heap.size 1 _ _ _ hN12
 have x2 := cell_of_row w12 w3.heap.size 2 _ _ _ hN12
 have y0 := cell_of_row w12 w5.heap.size 0 _ _ _ hM2
 have y1 := cell_of_row w12 w5.heap.size 1 _ _ _ hM2
 have y2 := cell_of_row w12 w5.heap.size 2 _ _ _ hM2
 simp only [List.getElem?_toArray, List.getElem?_cons_zero, List.getElem?_cons_succ] at x0 x1 x2 y0 y1 y2
 obtain ⟨aoa, caa, rfl, ha1, ha2⟩ := hra12.shape
 obtain ⟨aob, cab, rfl, hb1, hb2⟩ := hrb12.shape
 have hfl2 := fault_same F0 w12
 obtain ⟨n, hn⟩ : ∃ n, L.length = n := ⟨_, rfl⟩
 clear hC611 hN11 B11 hr911 bN hoth hr11 hr10 hN hC610 hN12 hM2 h510
 replace hra12 := Lib.hid hra12; replace hrb12 := Lib.hid hrb12; replace B12 := Lib.hid B12; replace hw12 := Lib.hid hw12; replace hv11 := Lib.hid hv11; replace b11 := Lib.hid b11; replace hfl2 := Lib.hid hfl2; replace hn := Lib.hid hn
 unfold fltV
 go_upto_region 9 with fail
 rw [hw12.out]
 clear hw12 r0 r1 r2 f0 f1 f2
 unfold fltV at hfl2
 go_wp2_with fail
 refine hfl2.out.mono ?_
 rintro e w13 ⟨rfl, b13⟩
 have hra13 := hra12.out.later b13
 have hrb13 := hrb12.out.later b13
 have B13 := B12.out.trans (b13.mono B12.out.size)
 clear hfl2 x0 x1 x2 y0 y1 y2 hra12 hrb12
 replace hra13 := Lib.hid hra13; replace hrb13 := Lib.hid hrb13; replace B13 := Lib.hid B13; replace b13 := Lib.hid b13
 have hbw : ∀ q, Below w.heap.size w (w13.drewN q) := fun q => by
  induction q with
  | zero => exact B13.out
  | succ q ih => exact ih.drew
 replace hbw := Lib.hid hbw
 go_wp2_with fail
 go_loopw [11] (fun i wr => ∃ k : Nat, k ≤ L.length ∧ i = .int .i64 k ∧ ∃ q, wr = w13.drewN q) (fun i _ => L.length - (intOf i).toNat)
 case atStart => exact ⟨0, by omega, rfl, 0, rfl⟩
 case round =>
  obtain ⟨k, hk, rfl, q, rfl⟩ := hrel
  by_cases hlt : k < L.length
  ·obtain ⟨x, hx⟩ : ∃ x, L[k]? = some x := ⟨_, List.getElem?_eq_getElem hlt⟩
   obtain ⟨ga, ca1, ea, _, _, a0, a1⟩ := reads_lab hra13.out k x hx
   obtain ⟨gb, cb1, eb, _, _, c0, c1⟩ := reads_lab hrb13.out k x hx
   simp only [Value.slice.injEq, true_and] at ea eb
   obtain ⟨rfl, rfl⟩ := ea
   obtain ⟨rfl, rfl⟩ := eb
   obtain ⟨xs, xp⟩ := x
   dsimp only at a0 a1 c0 c1
   have d1 : decide ((k : Int) < (L.length : Int)) = true := decide_eq_true (by omega)
   have i1 : (0 : Int) ≤ (k : Int) := by omega
   have i2 : (k : Int) < (L.length : Int) := by omega
   clear hx
   go_wp2_with fail
   go_quiet (fail)
   go_wp2_with fail
   go_roundw
   case rel => exact ⟨k + 1, by omega, by go_num, q + nq, rfl⟩
   case measure => simp [intOf]; omega
  ·obtain rfl : k = L.length := by omega
   have d1 : decide ((L.length : Int) < (L.length : Int)) = false := decide_eq_false (by omega)
   go_wp2_with fail
   go_ret
   exact ⟨rfl, hbw.out q⟩
end Go.Proofs.YtiknookfnameiaaGreatDoor
