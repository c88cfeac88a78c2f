/- The contract of the reference's text: one word's line (printed by genAsL.py). -/
import Derived.Test.YtiknookfnameiaaDoorAsL
namespace Go.Proofs
open Go.RowKit
namespace YtiknookfnameiaaDoor
open WP
set_option maxRecDepth 100000 in
set_option maxHeartbeats 4000000 in
theorem rtext_any (x : Int) (lab : List UInt8) (w : World) (hT : RTabs w) (h0 : 0 ≤ x) (h1 : x ≤ 4294967295) (hl : lab.length ≤ 64) :
    Calls Tryd.prog 16 #[.int .u32 x, .string (strS lab)] w fun e w' => Below w.heap.size w w' ∧ e = .returned (.string (strS (lineL x lab))) := by
  have hdc := rdec_any x w hT h0 h1
  rw [(dec_same x h0 h1).1, (dec_same x h0 h1).2] at hdc
  have bd := decI_bd x h0 h1
  obtain ⟨R, hR⟩ : ∃ R, strS (lineL x lab) = R := ⟨_, rfl⟩
  rw [hR]
  obtain ⟨G, hG⟩ : ∃ G, goodI x = G := ⟨_, rfl⟩
  rw [hG] at hdc
  rcases G with _ | _
  · have hx := rhexed_any x
    rw [bad_line x lab hG] at hR
    have hxs : (hexT x).size = 10 := by unfold hexT; rw [strS_size]; simp [hx8_len]
    generalize hexT x = X at *
    obtain ⟨op, k, a, b, c, imm⟩ := decI x
    simp only [rinsC] at hdc
    replace hR := Lib.hid hR
    clear bd hG
    go_enter Tryd.func16, Tryd.ntmps16
    go_wp2_with (first
      | (go_at_call 25; refine hdc.mono ?_; rintro e w2 ⟨hb, rfl⟩)
      | (go_at_call 27; refine (hx _ h0 h1).mono ?_; rintro e w3 ⟨rfl, rfl⟩))
    go_ret
    exact ⟨hb.alloc hb.size _, retS hR.out⟩
  · have hlin : lineL x lab = insL (decI x) lab := by unfold lineL; rw [hG, if_pos rfl]
    rw [hlin] at hR
    unfold insL at hR
    clear hG hlin
    obtain ⟨D, hD⟩ : ∃ D, decI x = D := ⟨_, rfl⟩
    rw [hD] at hdc bd hR
    clear hD
    have hnm := fun W hW => rname_of D.op W hW
    have hsh := fun W hW => rshape_any D.op W hW
    have hnl := name_len D.op
    have hlen := shape_len D.op
    obtain ⟨op, k, a, b, c, imm⟩ := D
    simp only [rinsC] at hdc
    simp only at bd hnm hsh hnl hlen hR
    obtain ⟨⟨bo0, bo1⟩, ⟨ba0, ba1⟩, ⟨bb0, bb1⟩, ⟨bc0, bc1⟩, ⟨bk0, bk1⟩, ⟨bi0, bi1⟩⟩ := bd
    obtain ⟨L, hLL⟩ : ∃ L, shapeI op = L := ⟨_, rfl⟩
    obtain ⟨NM, hNM⟩ : ∃ L, nameI op = L := ⟨_, rfl⟩
    obtain ⟨F, hF⟩ : ∃ F, L.foldl (fun s z => s ++ litI ⟨op, k, a, b, c, imm⟩ lab z) NM = F := ⟨_, rfl⟩
    rw [hLL, hNM, hF] at hR
    rw [hLL] at hsh hlen
    rw [hNM] at hnm hnl
    have hSz : (strS L).size = L.length := strS_size L
    clear hLL hNM
    replace hR := Lib.hid hR; replace hF := Lib.hid hF; replace hSz := Lib.hid hSz
    go_enter Tryd.func16, Tryd.ntmps16
    go_wp2_with (first
      | (go_at_call 25; refine hdc.mono ?_; rintro e w2 ⟨hb, rfl⟩; have hTa := hT.later (hb.alloc hb.size (.cells #[.int .i64 op, .int .i64 k, .int .i64 a, .int .i64 b, .int .i64 c, .int .i64 imm] 59)); replace hb := Lib.hid hb; replace hTa := Lib.hid hTa)
      | (go_at_call 28; refine (hnm _ hTa.out).mono ?_; rintro e w3 ⟨rfl, rfl⟩)
      | (go_at_call 29; refine (hsh _ hTa.out).mono ?_; rintro e w3 ⟨rfl, rfl⟩))
    clear hdc hnm hsh
    go_loop [7, 9] (fun s i => ∃ (acc : List UInt8) (pos : Nat), pos ≤ L.length ∧ i = .int .i64 pos ∧ s = .string (strS acc) ∧ acc.length ≤ 4 + 70 * pos ∧ (L.drop pos).foldl (fun s z => s ++ litI ⟨op, k, a, b, c, imm⟩ lab z) acc = F) (fun _ i => L.length - (intOf i).toNat)
    case atStart => exact ⟨NM, 0, Nat.zero_le _, rfl, rfl, by omega, hF.out⟩
    case round =>
      obtain ⟨acc, pos, hpl, rfl, rfl, hal, hRs⟩ := hrel
      clear hF
      have has : (strS acc).size ≤ 300 := by rw [strS_size]; omega
      by_cases hp : pos < L.length
      · obtain ⟨y, hy⟩ : ∃ y, L[pos] = y := ⟨_, rfl⟩
        have hk2 : pos < (strS L).size := by rw [hSz.out]; exact hp
        have hys : (((strS L)[pos]'hk2).toNat : Int) = (y.toNat : Int) := by rw [← hy]; rfl
        replace hRs := lit_fold ⟨op, k, a, b, c, imm⟩ lab L pos y hp hy acc F hRs
        clear hy
        by_cases h97 : y = 97
        · have hL : litI ⟨op, k, a, b, c, imm⟩ lab y = 32 :: 114 :: Lib.decDigits a.toNat := by rw [h97]; rfl
          rw [hL] at hRs
          have hxn : (y.toNat : Int) = 97 := by rw [h97]; rfl
          rw [hxn] at hys
          have hcat := strS_three' acc (Lib.decDigits a.toNat)
          have hln := (dec_len a.toNat (by omega)).2
          have hln2 : (acc ++ 32 :: 114 :: Lib.decDigits a.toNat).length ≤ 4 + 70 * (pos + 1) := by simp; omega
          have hic : ∀ W, Calls Tryd.prog 15 #[.int .u32 a] W fun e w' => e = .returned (.string (strS (Lib.decDigits a.toNat))) ∧ w' = W := by
            intro W
            have := rtens_any a.toNat W (by omega)
            rwa [Int.toNat_of_nonneg (by omega)] at this
          have hz2 : (strS (Lib.decDigits a.toNat)).size ≤ 10 := by rw [strS_size]; exact hln
          generalize hD : strS (Lib.decDigits a.toNat) = DD at *
          clear hL hxn h97 hD hln
          replace hRs := Lib.hid hRs; replace hcat := Lib.hid hcat; replace hic := Lib.hid hic
          go_wp2_with (go_at_call 15; refine (hic.out _).mono ?_; rintro e w5 ⟨rfl, rfl⟩)
          go_round
          case rel => exact ⟨_, pos + 1, by omega, by go_num, by rw [← hcat.out], hln2, hRs.out⟩
          case measure => simp [intOf]; omega
        have d97 : (((y.toNat : Nat) : Int) == 97) = false := by rw [beq_eq_false_iff_ne]; exact fun e => h97 (UInt8.toNat.inj (by show y.toNat = 97; omega))
        by_cases h98 : y = 98
        · have hL : litI ⟨op, k, a, b, c, imm⟩ lab y = 32 :: 114 :: Lib.decDigits b.toNat := by rw [h98]; rfl
          rw [hL] at hRs
          have hxn : (y.toNat : Int) = 98 := by rw [h98]; rfl
          rw [hxn] at hys
          have hcat := strS_three' acc (Lib.decDigits b.toNat)
          have hln := (dec_len b.toNat (by omega)).2
          have hln2 : (acc ++ 32 :: 114 :: Lib.decDigits b.toNat).length ≤ 4 + 70 * (pos + 1) := by simp; omega
          have hic : ∀ W, Calls Tryd.prog 15 #[.int .u32 b] W fun e w' => e = .returned (.string (strS (Lib.decDigits b.toNat))) ∧ w' = W := by
            intro W
            have := rtens_any b.toNat W (by omega)
            rwa [Int.toNat_of_nonneg (by omega)] at this
          have hz2 : (strS (Lib.decDigits b.toNat)).size ≤ 10 := by rw [strS_size]; exact hln
          generalize hD : strS (Lib.decDigits b.toNat) = DD at *
          clear hL hxn h98 hD hln
          replace hRs := Lib.hid hRs; replace hcat := Lib.hid hcat; replace hic := Lib.hid hic
          go_wp2_with (go_at_call 15; refine (hic.out _).mono ?_; rintro e w5 ⟨rfl, rfl⟩)
          go_round
          case rel => exact ⟨_, pos + 1, by omega, by go_num, by rw [← hcat.out], hln2, hRs.out⟩
          case measure => simp [intOf]; omega
        have d98 : (((y.toNat : Nat) : Int) == 98) = false := by rw [beq_eq_false_iff_ne]; exact fun e => h98 (UInt8.toNat.inj (by show y.toNat = 98; omega))
        by_cases h99 : y = 99
        · have hL : litI ⟨op, k, a, b, c, imm⟩ lab y = 32 :: 114 :: Lib.decDigits c.toNat := by rw [h99]; rfl
          rw [hL] at hRs
          have hxn : (y.toNat : Int) = 99 := by rw [h99]; rfl
          rw [hxn] at hys
          have hcat := strS_three' acc (Lib.decDigits c.toNat)
          have hln := (dec_len c.toNat (by omega)).2
          have hln2 : (acc ++ 32 :: 114 :: Lib.decDigits c.toNat).length ≤ 4 + 70 * (pos + 1) := by simp; omega
          have hic : ∀ W, Calls Tryd.prog 15 #[.int .u32 c] W fun e w' => e = .returned (.string (strS (Lib.decDigits c.toNat))) ∧ w' = W := by
            intro W
            have := rtens_any c.toNat W (by omega)
            rwa [Int.toNat_of_nonneg (by omega)] at this
          have hz2 : (strS (Lib.decDigits c.toNat)).size ≤ 10 := by rw [strS_size]; exact hln
          generalize hD : strS (Lib.decDigits c.toNat) = DD at *
          clear hL hxn h99 hD hln
          replace hRs := Lib.hid hRs; replace hcat := Lib.hid hcat; replace hic := Lib.hid hic
          go_wp2_with (go_at_call 15; refine (hic.out _).mono ?_; rintro e w5 ⟨rfl, rfl⟩)
          go_round
          case rel => exact ⟨_, pos + 1, by omega, by go_num, by rw [← hcat.out], hln2, hRs.out⟩
          case measure => simp [intOf]; omega
        have d99 : (((y.toNat : Nat) : Int) == 99) = false := by rw [beq_eq_false_iff_ne]; exact fun e => h99 (UInt8.toNat.inj (by show y.toNat = 99; omega))
        by_cases h107 : y = 107
        · obtain ⟨kn, rfl⟩ := Int.eq_ofNat_of_zero_le bk0
          have hL : litI ⟨op, (kn : Int), a, b, c, imm⟩ lab y = 32 :: condI (kn : Int) := by rw [h107]; rfl
          rw [hL] at hRs
          have hxn : (y.toNat : Int) = 107 := by rw [h107]; rfl
          rw [hxn] at hys
          have hcat := strS_two acc (condI kn)
          have hln := cond_len kn
          have hln2 : (acc ++ 32 :: condI kn).length ≤ 4 + 70 * (pos + 1) := by simp; omega
          have hic := fun W hW => rcond_any kn W hW
          have hz2 : (strS (condI kn)).size ≤ 2 := by rw [strS_size]; exact hln
          generalize hD : strS (condI kn) = DD at *
          clear hL hxn h107 hD hln
          replace hRs := Lib.hid hRs; replace hcat := Lib.hid hcat; replace hic := Lib.hid hic
          go_wp2_with (go_at_call 30; refine (hic.out _ hTa.out).mono ?_; rintro e w5 ⟨rfl, rfl⟩)
          go_round
          case rel => exact ⟨_, pos + 1, by omega, by go_num, by rw [← hcat.out], hln2, hRs.out⟩
          case measure => simp [intOf]; omega
        have d107 : (((y.toNat : Nat) : Int) == 107) = false := by rw [beq_eq_false_iff_ne]; exact fun e => h107 (UInt8.toNat.inj (by show y.toNat = 107; omega))
        by_cases hlab : y = 111 ∧ lab ≠ []
        · have hL : litI ⟨op, k, a, b, c, imm⟩ lab y = 32 :: lab := by
            unfold litI; rw [if_neg h97, if_neg h98, if_neg h99, if_neg h107, if_pos hlab]
          rw [hL] at hRs
          have hxn : (y.toNat : Int) = 111 := by rw [hlab.1]; rfl
          rw [hxn] at hys
          have hcat := strS_two acc lab
          have hln2 : (acc ++ 32 :: lab).length ≤ 4 + 70 * (pos + 1) := by simp; omega
          have hz2 : (strS lab).size ≤ 64 := by rw [strS_size]; exact hl
          have s1 : (strS lab).toList.isEmpty = false := by
            rw [strS_emp]; cases lab with
            | nil => exact absurd rfl hlab.2
            | cons _ _ => rfl
          clear hL hxn hlab
          replace hRs := Lib.hid hRs; replace hcat := Lib.hid hcat
          go_wp2_with fail
          go_round
          case rel => exact ⟨_, pos + 1, by omega, by go_num, by rw [← hcat.out], hln2, hRs.out⟩
          case measure => simp [intOf]; omega
        have hL : litI ⟨op, k, a, b, c, imm⟩ lab y = 32 :: Lib.itoa imm := by
          unfold litI; rw [if_neg h97, if_neg h98, if_neg h99, if_neg h107, if_neg hlab]
        rw [hL] at hRs
        have hcat := strS_two acc (Lib.itoa imm)
        have hln := itoa_len imm (by omega) (by omega)
        have hln2 : (acc ++ 32 :: Lib.itoa imm).length ≤ 4 + 70 * (pos + 1) := by simp; omega
        have hic := fun W => rminus_any imm W (by omega) (by omega)
        have hz2 : (strS (Lib.itoa imm)).size ≤ 11 := by rw [strS_size]; exact hln
        generalize hD : strS (Lib.itoa imm) = DD at *
        clear hL hD hln
        replace hRs := Lib.hid hRs; replace hcat := Lib.hid hcat; replace hic := Lib.hid hic
        by_cases h111 : y = 111
        · have hle : lab = [] := Classical.byContradiction fun h => hlab ⟨h111, h⟩
          have s1 : (strS lab).toList.isEmpty = true := by rw [strS_emp, hle]; rfl
          have hxn : (y.toNat : Int) = 111 := by rw [h111]; rfl
          rw [hxn] at hys
          clear hxn h111 hlab hle h97 h98 h99 h107
          go_wp2_with (go_at_call 31; refine (hic.out _).mono ?_; rintro e w5 ⟨rfl, rfl⟩)
          go_round
          case rel => exact ⟨_, pos + 1, by omega, by go_num, by rw [← hcat.out], hln2, hRs.out⟩
          case measure => simp [intOf]; omega
        · have d111 : (((y.toNat : Nat) : Int) == 111) = false := by rw [beq_eq_false_iff_ne]; exact fun e => h111 (UInt8.toNat.inj (by show y.toNat = 111; omega))
          clear h111 hlab h97 h98 h99 h107
          go_wp2_with (go_at_call 31; refine (hic.out _).mono ?_; rintro e w5 ⟨rfl, rfl⟩)
          go_round
          case rel => exact ⟨_, pos + 1, by omega, by go_num, by rw [← hcat.out], hln2, hRs.out⟩
          case measure => simp [intOf]; omega
      · have hk2 : ¬ pos < (strS L).size := by rw [hSz.out]; exact hp
        rw [List.drop_eq_nil_of_le (by omega)] at hRs
        have hac : strS acc = R := by rw [← hR.out, ← hRs]; rfl
        have hbf : Below w.heap.size w (w2.alloc (.cells #[.int .i64 op, .int .i64 k, .int .i64 a, .int .i64 b, .int .i64 c, .int .i64 imm] 59)) := hb.out.alloc hb.out.size _
        clear hRs
        replace hac := Lib.hid hac; replace hbf := Lib.hid hbf
        go_wp2_with fail
        go_ret
        exact ⟨hbf.out, retS hac.out⟩
end YtiknookfnameiaaDoor
end Go.Proofs
