/- The contract of asm's line: one word's text (printed by genAsL.py). -/
import Derived.Test.YtiknookfnameiaaGreatDoorJn42
import Derived.Test.YtiknookfnameiaaGreatDoorJn41
namespace Go.Proofs
open Go.RowKit
namespace YtiknookfnameiaaGreatDoor
open WP
theorem cond_len : ∀ n : Nat, (condI n).length ≤ 2 := by
  intro n
  by_cases hn : n < 7
  · have : n = 0 ∨ n = 1 ∨ n = 2 ∨ n = 3 ∨ n = 4 ∨ n = 5 ∨ n = 6 := by omega
    rcases this with rfl | rfl | rfl | rfl | rfl | rfl | rfl <;> decide
  · unfold condI; rw [if_pos (by omega), List.getD_eq_getElem?_getD, List.getElem?_eq_none (by show 7 ≤ _; omega)]; simp
theorem name_len (op : Int) : (nameI op).length ≤ 4 := by
  unfold nameI
  by_cases h : op.toNat < 25
  · generalize op.toNat = n at *
    revert n
    decide
  · rw [List.getD_eq_getElem?_getD, List.getElem?_eq_none (by show 25 ≤ _; omega)]; simp
theorem itoaP_len (n : Int) (h0 : -2147483648 ≤ n) (h1 : n ≤ 2147483647) : (Lib.itoa n).length ≤ 11 := by
  unfold Lib.itoa
  split
  · have := (decP_len n.natAbs (by omega)).2
    simp; omega
  · have := (decP_len n.toNat (by omega)).2
    omega
/-- what is held while a line is written -/
structure LnSt (C : Nat) (w0 w : World) (cs : Array Value) (s : ByteArray) (pos : Nat) : Prop where
  blk : w.heap[C]? = some (.cells cs 92 (0, 0))
  it : w.heap[C + 1]? = some (.stringIter s pos)
  size : C + 2 ≤ w.heap.size
  below : Below C w0 w
namespace LnSt
variable {C : Nat} {w0 w : World} {cs : Array Value} {s : ByteArray} {pos : Nat}
theorem next (h : LnSt C w0 w cs s pos) (p : Nat) : LnSt C w0 (w.iterAt (C + 1) s p) cs s p :=
  ⟨by rw [Lib.iterAt_other _ _ _ _ _ (by omega)]; exact h.blk, Lib.iterAt_heap _ _ _ _ _ h.it,
    by rw [Lib.iterAt_size]; exact h.size, Lib.below_iterAt h.below (by omega) _ _⟩
theorem later (h : LnSt C w0 w cs s pos) {w' : World} (hb : Below w.heap.size w w') : LnSt C w0 w' cs s pos :=
  ⟨(hb.block _ (by have := h.size; omega)).trans h.blk, (hb.block _ (by have := h.size; omega)).trans h.it, Nat.le_trans h.size hb.size, h.below.trans (hb.mono (by have := h.size; omega))⟩
theorem start (w : World) (cs : Array Value) (s : ByteArray) : LnSt w.heap.size w ((w.alloc (.cells cs 92)).alloc (.stringIter s 0)) cs s 0 := by
  have e : (w.alloc (.cells cs 92)).heap.size = w.heap.size + 1 := by simp
  refine ⟨?_, ?_, by simp, ((Below.refl _ _).alloc (Nat.le_refl _) _).alloc (by simp) _⟩
  · rw [heap_alloc_old _ _ (by simp)]; exact heap_alloc_new w _
  · rw [← e]; exact heap_alloc_new _ _
end LnSt
/-- one more operand behind what stands -/
theorem lit_fold (D : Ins) (lab L : List UInt8) (pos : Nat) (y : UInt8) (h : pos < L.length) (hy : L[pos] = y) (acc F : List UInt8) (hf : (L.drop pos).foldl (fun s c => s ++ litI D lab c) acc = F) : (L.drop (pos + 1)).foldl (fun s c => s ++ litI D lab c) (acc ++ litI D lab y) = F := by
  rw [List.drop_eq_getElem_cons h, hy, List.foldl_cons] at hf
  exact hf
theorem strS_two (a b : List UInt8) : strS a ++ (⟨#[32]⟩ : ByteArray) ++ strS b = strS (a ++ 32 :: b) := by
  apply ByteArray.ext; simp [strS]
theorem strS_three (a b : List UInt8) : strS a ++ (⟨#[32]⟩ : ByteArray) ++ ((⟨#[114]⟩ : ByteArray) ++ strS b) = strS (a ++ 32 :: 114 :: b) := by
  apply ByteArray.ext; simp [strS]
theorem strS_emp (a : List UInt8) : (strS a).toList.isEmpty = a.isEmpty := by
  cases a <;> simp [strS, ByteArray.toList_eq]
theorem bad_line (x : Int) (lab : List UInt8) (h : goodI x = false) : strS (lineL x lab) = (⟨#[119, 111, 114, 100, 32]⟩ : ByteArray) ++ hexTP x := by
  unfold lineL hexTP
  rw [h, if_neg (by simp)]
  apply ByteArray.ext; simp [strS]
set_option maxRecDepth 100000 in
set_option maxHeartbeats 4000000 in
theorem lineP_any (x : Int) (lab : List UInt8) (w : World) (hT : Tabs w) (hP : Pow10P w) (h0 : 0 ≤ x) (h1 : x ≤ 4294967295) (hl : lab.length ≤ 64) :
    Calls Tryz.prog 35 #[.int .u32 x, .string (strS lab)] w fun e w' => Below w.heap.size w w' ∧ e = .returned (.string (strS (lineL x lab))) := by
  have hdc := decode_any x w hT h0 h1
  have bd := decI_bd x h0 h1
  obtain ⟨R, hR⟩ : ∃ R, strS (lineL x lab) = R := ⟨_, rfl⟩
  rw [hR]
  obtain ⟨G, hG⟩ : ∃ G, goodI x = G := ⟨_, rfl⟩
  rw [hG] at hdc
  rcases G with _ | _
  · have hx := hexedP_any x
    rw [bad_line x lab hG] at hR
    have hxs : (hexTP x).size = 10 := by unfold hexTP; rw [strS_size]; simp [hx8P_len]
    generalize hexTP x = X at *
    obtain ⟨op, k, a, b, c, imm⟩ := decI x
    simp only [insC] at hdc
    replace hR := Lib.hid hR
    clear bd hG
    go_enter Tryz.func35, Tryz.ntmps35
    go_wp2_with (first
      | (go_at_call 31; refine hdc.mono ?_; rintro e w2 ⟨hb, rfl⟩)
      | (go_at_call 28; refine (hx _ h0 h1).mono ?_; rintro e w3 ⟨rfl, hb3⟩))
    go_ret
    exact ⟨(hb.alloc hb.size _).trans (hb3.mono (by simp; have := hb.size; omega)), retS hR.out⟩
  · have hlin : lineL x lab = insL (decI x) lab := by unfold lineL; rw [hG, if_pos rfl]
    rw [hlin] at hR
    unfold insL at hR
    clear hG hlin
    obtain ⟨D, hD⟩ : ∃ D, decI x = D := ⟨_, rfl⟩
    rw [hD] at hdc bd hR
    clear hD
    have hnm := fun W hW => name_of D.op W hW
    have hsh := fun W hW => shape_any D.op W hW
    have hnl := name_len D.op
    have hlen := shape_len D.op
    have hasc := shape_ascii D.op
    obtain ⟨op, k, a, b, c, imm⟩ := D
    simp only [insC] at hdc
    simp only at bd hnm hsh hnl hlen hasc hR
    obtain ⟨⟨bo0, bo1⟩, ⟨ba0, ba1⟩, ⟨bb0, bb1⟩, ⟨bc0, bc1⟩, ⟨bk0, bk1⟩, ⟨bi0, bi1⟩⟩ := bd
    obtain ⟨L, hLL⟩ : ∃ L, shapeI op = L := ⟨_, rfl⟩
    obtain ⟨NM, hNM⟩ : ∃ L, nameI op = L := ⟨_, rfl⟩
    obtain ⟨F, hF⟩ : ∃ F, L.foldl (fun s z => s ++ litI ⟨op, k, a, b, c, imm⟩ lab z) NM = F := ⟨_, rfl⟩
    rw [hLL, hNM, hF] at hR
    rw [hLL] at hsh hlen hasc
    rw [hNM] at hnm hnl
    have hSz : (strS L).size = L.length := strS_size L
    clear hLL hNM
    replace hR := Lib.hid hR; replace hF := Lib.hid hF; replace hSz := Lib.hid hSz
    go_enter Tryz.func35, Tryz.ntmps35
    go_wp2_with (first
      | (go_at_call 31; refine hdc.mono ?_; rintro e w2 ⟨hb, rfl⟩; have hTa := hT.later (hb.alloc hb.size (.cells #[.int .i64 op, .int .i64 k, .int .i64 a, .int .i64 b, .int .i64 c, .int .i32 imm] 92)); replace hb := Lib.hid hb; replace hTa := Lib.hid hTa)
      | (go_at_call 55; refine (hnm _ hTa.out).mono ?_; rintro e w3 ⟨rfl, rfl⟩)
      | (go_at_call 51; refine (hsh _ hTa.out).mono ?_; rintro e w3 ⟨rfl, rfl⟩))
    have hst0 := LnSt.start w2 #[.int .i64 op, .int .i64 k, .int .i64 a, .int .i64 b, .int .i64 c, .int .i32 imm] (strS L)
    replace hst0 := Lib.hid hst0
    clear hdc hnm hsh
    go_loopw [7, 9] (fun s _ wl => ∃ (acc : List UInt8) (pos : Nat), LnSt w2.heap.size w2 wl #[.int .i64 op, .int .i64 k, .int .i64 a, .int .i64 b, .int .i64 c, .int .i32 imm] (strS L) pos ∧ pos ≤ L.length ∧ s = .string (strS acc) ∧ acc.length ≤ 4 + 70 * pos ∧ (L.drop pos).foldl (fun s z => s ++ litI ⟨op, k, a, b, c, imm⟩ lab z) acc = F) (fun _ _ wl => L.length - wl.iterPos (w2.heap.size + 1))
    case atStart => exact ⟨NM, 0, hst0.out, Nat.zero_le _, rfl, by omega, hF.out⟩
    case round =>
      obtain ⟨wo, rfl⟩ : ∃ wo, wo = wr := ⟨wr, rfl⟩
      obtain ⟨acc, pos, hst, hpl, rfl, hal, hRs⟩ := hrel
      clear hst0 hF
      have hpos0 := iterPos_of hst.it
      have has : (strS acc).size ≤ 300 := by rw [strS_size]; omega
      by_cases hp : pos < L.length
      · obtain ⟨y, hy⟩ : ∃ y, L[pos] = y := ⟨_, rfl⟩
        have hya : y.toNat < 128 := by rw [← hy]; exact hasc _ (List.getElem_mem hp)
        have hys : (strS L)[pos]'(by rw [hSz.out]; exact hp) = y := by rw [← hy]; rfl
        have hnx : ∀ ty, (Instr.next (.pointer (some ⟨w2.heap.size + 1, 0, none⟩)) true ty).run Tryz.prog wo = .ok (.tuple #[.bool true, .int .i64 pos, .int .i32 y.toNat]) (wo.iterAt (w2.heap.size + 1) (strS L) (pos + 1)) := fun ty => by
          have := Lib.run_next_ascii_at (P := Tryz.prog) wo (w2.heap.size + 1) (strS L) pos ty hst.it (by rw [hSz.out]; exact hp) (by rw [hys]; exact hya)
          rw [hys] at this; exact this
        have hst2 := hst.next (pos + 1)
        replace hRs := lit_fold ⟨op, k, a, b, c, imm⟩ lab L pos y hp hy acc F hRs
        obtain ⟨W1, hW1⟩ : ∃ W1, wo.iterAt (w2.heap.size + 1) (strS L) (pos + 1) = W1 := ⟨_, rfl⟩
        rw [hW1] at hnx hst2
        clear hW1 hst hy hys
        have hsz1 := hst2.size
        have hbW : Below w.heap.size w W1 := hb.out.trans (hst2.below.mono hb.out.size)
        have hP1 := Lib.hid (pow10P_later hP hbW)
        have hT1 := Lib.hid (hT.later hbW)
        have HS := Lib.hid hst2
        clear hst2 hbW
        by_cases h97 : y = 97
        · have hL : litI ⟨op, k, a, b, c, imm⟩ lab y = 32 :: 114 :: Lib.decDigits a.toNat := by rw [h97]; rfl
          rw [hL] at hRs
          have hxn : (y.toNat : Int) = 97 := by rw [h97]; rfl
          rw [hxn] at hnx
          have hcat := strS_three acc (Lib.decDigits a.toNat)
          have hln := (decP_len a.toNat (by omega)).2
          have hln2 : (acc ++ 32 :: 114 :: Lib.decDigits a.toNat).length ≤ 4 + 70 * (pos + 1) := by simp; omega
          have hic : ∀ W, Pow10P W → Calls Tryz.prog 33 #[.int .i64 a] W fun e w' => e = .returned (.string (strS (Lib.decDigits a.toNat))) ∧ Below W.heap.size W w' := by
            intro W hW
            have := itoa_any a W (by omega) (by omega) hW
            unfold Lib.itoa at this
            rw [if_neg (by omega)] at this
            exact this
          have hz2 : (strS (Lib.decDigits a.toNat)).size ≤ 10 := by rw [strS_size]; exact hln
          generalize hD : strS (Lib.decDigits a.toNat) = DD at *
          have hc : W1.cell? ⟨w2.heap.size, 2, none⟩ = some (.int .i64 a) := cell_of_row _ _ _ _ _ _ HS.out.blk
          clear hL hxn h97 hD hln
          replace hRs := Lib.hid hRs; replace hcat := Lib.hid hcat; replace hic := Lib.hid hic
          go_wp2_with (go_at_call 33; refine (hic.out _ hP1.out).mono ?_; rintro e w5 ⟨rfl, hb5⟩; have HS5 := Lib.hid (HS.out.later hb5); clear hb5)
          go_roundw
          case rel => exact ⟨_, pos + 1, HS5.out, by omega, by rw [← hcat.out], hln2, hRs.out⟩
          case measure => rw [iterPos_of HS5.out.it, hpos0]; omega
        have d97 : ¬ ((y.toNat : Int) = 97) := fun e => h97 (UInt8.toNat.inj (by show y.toNat = 97; omega))
        by_cases h98 : y = 98
        · have hL : litI ⟨op, k, a, b, c, imm⟩ lab y = 32 :: 114 :: Lib.decDigits b.toNat := by rw [h98]; rfl
          rw [hL] at hRs
          have hxn : (y.toNat : Int) = 98 := by rw [h98]; rfl
          rw [hxn] at hnx
          have hcat := strS_three acc (Lib.decDigits b.toNat)
          have hln := (decP_len b.toNat (by omega)).2
          have hln2 : (acc ++ 32 :: 114 :: Lib.decDigits b.toNat).length ≤ 4 + 70 * (pos + 1) := by simp; omega
          have hic : ∀ W, Pow10P W → Calls Tryz.prog 33 #[.int .i64 b] W fun e w' => e = .returned (.string (strS (Lib.decDigits b.toNat))) ∧ Below W.heap.size W w' := by
            intro W hW
            have := itoa_any b W (by omega) (by omega) hW
            unfold Lib.itoa at this
            rw [if_neg (by omega)] at this
            exact this
          have hz2 : (strS (Lib.decDigits b.toNat)).size ≤ 10 := by rw [strS_size]; exact hln
          generalize hD : strS (Lib.decDigits b.toNat) = DD at *
          have hc : W1.cell? ⟨w2.heap.size, 3, none⟩ = some (.int .i64 b) := cell_of_row _ _ _ _ _ _ HS.out.blk
          clear hL hxn h98 hD hln
          replace hRs := Lib.hid hRs; replace hcat := Lib.hid hcat; replace hic := Lib.hid hic
          go_wp2_with (go_at_call 33; refine (hic.out _ hP1.out).mono ?_; rintro e w5 ⟨rfl, hb5⟩; have HS5 := Lib.hid (HS.out.later hb5); clear hb5)
          go_roundw
          case rel => exact ⟨_, pos + 1, HS5.out, by omega, by rw [← hcat.out], hln2, hRs.out⟩
          case measure => rw [iterPos_of HS5.out.it, hpos0]; omega
        have d98 : ¬ ((y.toNat : Int) = 98) := fun e => h98 (UInt8.toNat.inj (by show y.toNat = 98; omega))
        by_cases h99 : y = 99
        · have hL : litI ⟨op, k, a, b, c, imm⟩ lab y = 32 :: 114 :: Lib.decDigits c.toNat := by rw [h99]; rfl
          rw [hL] at hRs
          have hxn : (y.toNat : Int) = 99 := by rw [h99]; rfl
          rw [hxn] at hnx
          have hcat := strS_three acc (Lib.decDigits c.toNat)
          have hln := (decP_len c.toNat (by omega)).2
          have hln2 : (acc ++ 32 :: 114 :: Lib.decDigits c.toNat).length ≤ 4 + 70 * (pos + 1) := by simp; omega
          have hic : ∀ W, Pow10P W → Calls Tryz.prog 33 #[.int .i64 c] W fun e w' => e = .returned (.string (strS (Lib.decDigits c.toNat))) ∧ Below W.heap.size W w' := by
            intro W hW
            have := itoa_any c W (by omega) (by omega) hW
            unfold Lib.itoa at this
            rw [if_neg (by omega)] at this
            exact this
          have hz2 : (strS (Lib.decDigits c.toNat)).size ≤ 10 := by rw [strS_size]; exact hln
          generalize hD : strS (Lib.decDigits c.toNat) = DD at *
          have hc : W1.cell? ⟨w2.heap.size, 4, none⟩ = some (.int .i64 c) := cell_of_row _ _ _ _ _ _ HS.out.blk
          clear hL hxn h99 hD hln
          replace hRs := Lib.hid hRs; replace hcat := Lib.hid hcat; replace hic := Lib.hid hic
          go_wp2_with (go_at_call 33; refine (hic.out _ hP1.out).mono ?_; rintro e w5 ⟨rfl, hb5⟩; have HS5 := Lib.hid (HS.out.later hb5); clear hb5)
          go_roundw
          case rel => exact ⟨_, pos + 1, HS5.out, by omega, by rw [← hcat.out], hln2, hRs.out⟩
          case measure => rw [iterPos_of HS5.out.it, hpos0]; omega
        have d99 : ¬ ((y.toNat : Int) = 99) := fun e => h99 (UInt8.toNat.inj (by show y.toNat = 99; omega))
        by_cases h107 : y = 107
        · obtain ⟨kn, rfl⟩ := Int.eq_ofNat_of_zero_le bk0
          have hL : litI ⟨op, (kn : Int), a, b, c, imm⟩ lab y = 32 :: condI (kn : Int) := by rw [h107]; rfl
          rw [hL] at hRs
          have hxn : (y.toNat : Int) = 107 := by rw [h107]; rfl
          rw [hxn] at hnx
          have hcat := strS_two acc (condI kn)
          have hln := cond_len kn
          have hln2 : (acc ++ 32 :: condI kn).length ≤ 4 + 70 * (pos + 1) := by simp; omega
          have hic := fun W hW => cond_any kn W hW
          have hz2 : (strS (condI kn)).size ≤ 2 := by rw [strS_size]; exact hln
          generalize hD : strS (condI kn) = DD at *
          have hc : W1.cell? ⟨w2.heap.size, 1, none⟩ = some (.int .i64 kn) := cell_of_row _ _ _ _ _ _ HS.out.blk
          clear hL hxn h107 hD hln
          replace hRs := Lib.hid hRs; replace hcat := Lib.hid hcat; replace hic := Lib.hid hic
          go_wp2_with (go_at_call 29; refine (hic.out _ hT1.out).mono ?_; rintro e w5 ⟨rfl, rfl⟩)
          go_roundw
          case rel => exact ⟨_, pos + 1, HS.out, by omega, by rw [← hcat.out], hln2, hRs.out⟩
          case measure => rw [iterPos_of HS.out.it, hpos0]; omega
        have d107 : ¬ ((y.toNat : Int) = 107) := fun e => h107 (UInt8.toNat.inj (by show y.toNat = 107; omega))
        by_cases hlab : y = 111 ∧ lab ≠ []
        · have hL : litI ⟨op, k, a, b, c, imm⟩ lab y = 32 :: lab := by
            unfold litI; rw [if_neg h97, if_neg h98, if_neg h99, if_neg h107, if_pos hlab]
          rw [hL] at hRs
          have hxn : (y.toNat : Int) = 111 := by rw [hlab.1]; rfl
          rw [hxn] at hnx
          have hcat := strS_two acc lab
          have hln2 : (acc ++ 32 :: lab).length ≤ 4 + 70 * (pos + 1) := by simp; omega
          have hz2 : (strS lab).size ≤ 64 := by rw [strS_size]; exact hl
          have s1 : (strS lab).toList.isEmpty = false := by
            rw [strS_emp]; cases lab with
            | nil => exact absurd rfl hlab.2
            | cons _ _ => rfl
          clear hL hxn hlab
          replace hRs := Lib.hid hRs; replace hcat := Lib.hid hcat
          go_wp2_with fail
          go_roundw
          case rel => exact ⟨_, pos + 1, HS.out, by omega, by rw [← hcat.out], hln2, hRs.out⟩
          case measure => rw [iterPos_of HS.out.it, hpos0]; omega
        have hL : litI ⟨op, k, a, b, c, imm⟩ lab y = 32 :: Lib.itoa imm := by
          unfold litI; rw [if_neg h97, if_neg h98, if_neg h99, if_neg h107, if_neg hlab]
        rw [hL] at hRs
        have hcat := strS_two acc (Lib.itoa imm)
        have hln := itoaP_len imm (by omega) (by omega)
        have hln2 : (acc ++ 32 :: Lib.itoa imm).length ≤ 4 + 70 * (pos + 1) := by simp; omega
        have hic := fun W hW => minusP_any imm W (by omega) (by omega) hW
        have hz2 : (strS (Lib.itoa imm)).size ≤ 11 := by rw [strS_size]; exact hln
        generalize hD : strS (Lib.itoa imm) = DD at *
        have hc : W1.cell? ⟨w2.heap.size, 5, none⟩ = some (.int .i32 imm) := cell_of_row _ _ _ _ _ _ HS.out.blk
        clear hL hD hln
        replace hRs := Lib.hid hRs; replace hcat := Lib.hid hcat; replace hic := Lib.hid hic
        by_cases h111 : y = 111
        · have hle : lab = [] := Classical.byContradiction fun h => hlab ⟨h111, h⟩
          have s1 : (strS lab).toList.isEmpty = true := by rw [strS_emp, hle]; rfl
          have hxn : (y.toNat : Int) = 111 := by rw [h111]; rfl
          rw [hxn] at hnx
          clear hxn h111 hlab hle h97 h98 h99 h107
          go_wp2_with (go_at_call 56; refine (hic.out _ hP1.out).mono ?_; rintro e w5 ⟨rfl, hb5⟩; have HS5 := Lib.hid (HS.out.later hb5); clear hb5)
          go_roundw
          case rel => exact ⟨_, pos + 1, HS5.out, by omega, by rw [← hcat.out], hln2, hRs.out⟩
          case measure => rw [iterPos_of HS5.out.it, hpos0]; omega
        · have d111 : ¬ ((y.toNat : Int) = 111) := fun e => h111 (UInt8.toNat.inj (by show y.toNat = 111; omega))
          clear h111 hlab h97 h98 h99 h107
          go_wp2_with (go_at_call 56; refine (hic.out _ hP1.out).mono ?_; rintro e w5 ⟨rfl, hb5⟩; have HS5 := Lib.hid (HS.out.later hb5); clear hb5)
          go_roundw
          case rel => exact ⟨_, pos + 1, HS5.out, by omega, by rw [← hcat.out], hln2, hRs.out⟩
          case measure => rw [iterPos_of HS5.out.it, hpos0]; omega
      · have hnx : ∀ ty, (Instr.next (.pointer (some ⟨w2.heap.size + 1, 0, none⟩)) true ty).run Tryz.prog wo = .ok (.tuple #[.bool false]) wo := fun ty => Lib.run_next_end_at wo _ (strS L) pos ty hst.it (by rw [hSz.out]; exact hp)
        rw [List.drop_eq_nil_of_le (by omega)] at hRs
        have hac : strS acc = R := by rw [← hR.out, ← hRs]; rfl
        have hbf : Below w.heap.size w wo := hb.out.trans (hst.below.mono hb.out.size)
        clear hRs hst
        replace hac := Lib.hid hac; replace hbf := Lib.hid hbf
        go_wp2_with fail
        go_ret
        exact ⟨hbf.out, retS hac.out⟩
end YtiknookfnameiaaGreatDoor
end Go.Proofs
