/- The contract of the law's turned: it always says yes. -/
import Derived.Test.YtedhinekkmoheaaKeepB
import Derived.Laws.Closers25b
import Derived.Deep.DeepCutAuto
namespace Go.Proofs.Ytedhinekkmoheaa
open Go.RowKit WP
theorem vw_set (L : List UInt32) (i : Nat) (z : Int) (h1 : 0 ≤ z) (h2 : z ≤ 4294967295) : (vw L).set i (.int .u32 z) = vw (L.set i (ofI z)) := by
  unfold vw
  rw [List.map_set, ofI_val z h1 h2]
theorem vb_set (L : List UInt8) (i : Nat) (z : Int) (h1 : 0 ≤ z) (h2 : z ≤ 255) : (vb L).set i (.int .u8 z) = vb (L.set i (UInt8.ofNat z.toNat)) := by
  unfold vb
  rw [List.map_set]
  congr 2
  simp; omega
theorem own_grown {w w' : World} {base : Nat} {e : TypeId} {size n : Nat} {v : Value} {xs : List Value} {row : Option Nat} (h : w.ownsRow base e size v n xs) (hg : w.grownBy w' row) (hne : v.ownBlock ≠ row ∨ v.ownBlock = none) : w'.ownsRow base e size v n xs := by
  exact h.kept hg hne.symm
set_option maxRecDepth 100000 in
set_option maxHeartbeats 8000000 in
theorem turned_any (va : Value) (l : List UInt32) (w : World) (ha : Rd w va (vw l)) (hl : l.length ≤ 262144) :
    Calls Try.prog 22 #[va] w fun e w' => e = .returned (.bool true) ∧ Below w.heap.size w w' := by
  obtain ⟨i0, hi, hz0, hz1, hz2⟩ := info_parts info22
  obtain ⟨ao, ca, rfl, a1, a2, a3⟩ := ha.words
  clear a3
  have lb := Lib.hid (length_bytesL l)
  have ll := Lib.hid (lentL_len l 300)
  have hl' := Lib.hid hl
  go_enter Try.func22, Try.ntmps22
  go_wp2_with fail
  refine (lent_any _ l _ ha (by omega)).mono ?_
  rintro e w1 ⟨wide, rfl, ow, b1⟩
  obtain ⟨g1, cp1, rfl, q1, r1⟩ := ow.form (by omega)
  have rw1 := Rd.of_own ow
  obtain ⟨wo, wc1, hwe, e1, e2, e3⟩ := rw1.words
  simp only [Value.slice.injEq] at hwe
  obtain ⟨rfl, hx, rfl⟩ := hwe
  rw [ll.out] at e1
  clear e3 hx
  have rm1 := rw1.take l.length (by omega)
  rw [vw_take, lentL_take] at rm1
  go_wp2_with fail
  refine (bytes_any _ l _ rm1 (by omega)).mono ?_
  rintro e w2 ⟨u, rfl, ou2, b2⟩
  have rm2 := rm1.mono b2
  have ow2 := own_below ow b2
  have fu := far_new ow ou2 (Nat.le_refl _)
  have hB2 := b1.trans (b2.mono b1.size)
  have ou2 := own_base ou2 b1.size
  have rb2 := Rd.of_own ou2
  obtain ⟨uo, cp2, rfl, t1, t2, t3⟩ := rb2.bytes
  rw [lb.out] at t1 rb2 ou2 ⊢
  clear t3 rm1 b2 b1 rw1 ow
  go_wp2_with fail
  refine (words_yes _ (bytesL l) _ rb2 (by rw [lb.out]; omega) (by rw [lb.out]; omega)).mono ?_
  rintro e w3 ⟨v3, rfl, ov3, b3⟩
  have rm3 := rm2.mono b3
  have ow3 := own_below ow2 b3
  have ou3 := own_below ou2 b3
  have hB3 := hB2.trans (b3.mono hB2.size)
  clear b3 rm2 ow2 ou2 hB2 ov3 rb2
  go_wp2_with fail
  refine (hexall_any _ l _ rm3 (by omega)).mono ?_
  rintro e w4 ⟨rfl, b4⟩
  have ow4 := own_below ow3 b4
  have ou4 := own_below ou3 b4
  have hB4 := hB3.trans (b4.mono hB3.size)
  clear b4 rm3 ow3 ou3 hB3
  have h0 : ∃ L' Y', L'.length = l.length + 300 ∧ Y'.length = 4 * l.length ∧ w4.ownsRow w.heap.size 22 1 (.slice (some ⟨g1, 0, none⟩) (l.length + 300) cp1) (l.length + 300) (vw L') ∧ w4.ownsRow w.heap.size 5 1 (.slice uo (4 * l.length) cp2) (4 * l.length) (vb Y') :=
    ⟨_, _, ll.out, lb.out, ow4, ou4⟩
  clear ow4 ou4
  have h0 := Lib.hid h0; have hB4 := Lib.hid hB4; have fu := Lib.hid fu
  go_wp2_with fail
  go_loopw [6] (fun i wr => ∃ k : Nat, k ≤ l.length + 6 ∧ i = .int .i64 k ∧ (∃ L' Y', L'.length = l.length + 300 ∧ Y'.length = 4 * l.length ∧ wr.ownsRow w.heap.size 22 1 (.slice (some ⟨g1, 0, none⟩) (l.length + 300) cp1) (l.length + 300) (vw L') ∧ wr.ownsRow w.heap.size 5 1 (.slice uo (4 * l.length) cp2) (4 * l.length) (vb Y')) ∧ Below w.heap.size w wr) (fun i _ => l.length + 6 - (intOf i).toNat)
  case atStart => exact ⟨0, by omega, rfl, h0.out, hB4.out⟩
  case round =>
    obtain ⟨k, hk, rfl, ⟨L', Y', hL, hY, ow, ou⟩, hb⟩ := hrel
    have hs := hb.size
    by_cases hlt : k < l.length
    · obtain ⟨g2, cp2', huf, q2, r2⟩ := ou.form (by omega)
      simp only [Value.slice.injEq] at huf
      obtain ⟨rfl, hx, rfl⟩ := huf
      clear hx
      have hne : g1 ≠ g2 := fun h => fu.out g1 rfl (by rw [h]; rfl)
      have hc1 := (ow.cellAt k (by omega)).trans (vw_get L' k (by omega))
      have hf1 := ow.frozenAt k
      have ⟨x1, x2⟩ := wAt_bd L' k
      have ⟨y1, y2⟩ := bAt_bd Y' (4 * k + 3)
      have hL := Lib.hid hL; have hY := Lib.hid hY
      have ow := Lib.hid ow; have ou := Lib.hid ou; have hb := Lib.hid hb
      go_upto_region 10 with fail
      generalize hz : bits .xor .u32 (if IntKind.u32.signed = true then -1 else IntKind.u32.max) (wAt L' k) = z
      have z1 : 0 ≤ z := by rw [← hz]; exact bits_lo_u32 _ _ _
      have z2 : z ≤ 4294967295 := by rw [← hz]; exact bits_hi_u32 _ _ _
      clear hz hc1 hf1
      have hst := ow.out.stored k (.int .u32 z)
      rw [vw_set _ _ _ z1 z2] at hst
      obtain ⟨wq, hwq⟩ : ∃ wq, wr.setCell ⟨g1, k, none⟩ (.int .u32 z) = wq := ⟨_, rfl⟩
      rw [hwq] at hst ⊢
      obtain ⟨ow5, gr5⟩ := hst
      have ou5 := ou.out.kept gr5 (.inr (by simp [Value.ownBlock]; omega))
      have hb5 := hb.out.grown gr5 hs (by simp; omega)
      clear ow ou hb gr5 hwq
      have hc2 := (ou5.cellAt (4 * k + 3) (by omega)).trans (vb_get Y' _ (by rw [hY.out]; omega))
      have hf2 := ou5.frozenAt (4 * k + 3)
      have ow5 := Lib.hid ow5; have ou5 := Lib.hid ou5; have hb5 := Lib.hid hb5
      go_wp2_with fail
      generalize hz : bits .xor .u8 (bAt Y' (4 * k + 3)) 1 = y
      have y3 : 0 ≤ y := by rw [← hz]; exact bits_lo_u8 _ _ _
      have y4 : y ≤ 255 := by rw [← hz]; exact bits_hi_u8 _ _ _
      clear hz hc2 hf2
      have hst := ou5.out.stored (4 * k + 3) (.int .u8 y)
      rw [vb_set _ _ _ y3 y4] at hst
      have ow6 := ow5.out.kept hst.2 (.inr (by simp [Value.ownBlock]; omega))
      have hb6 := hb5.out.grown hst.2 hb5.out.size (by simp; omega)
      exact ⟨⟨k + 7, by omega, by go_num, ⟨_, _, by simpa using hL.out, by simpa using hY.out, ow6, hst.1⟩, hb6⟩, by simp [intOf]; omega⟩
    · have rm := (Rd.of_own ow).take l.length (by omega)
      rw [vw_take] at rm
      obtain ⟨M, hM⟩ : ∃ M, L'.take l.length = M := ⟨_, rfl⟩
      have lM : M.length = l.length := by rw [← hM, List.length_take]; omega
      rw [hM] at rm
      have rb := Rd.of_own ou
      clear hM ow ou h0 hB4 fu hL
      have hY4 : Y'.length / 4 = l.length := by omega
      have hY5 : Y'.length % 4 = 0 := by omega
      have hY6 : Y'.length ≤ 1048576 := by omega
      have hY := Lib.hid hY; have hY4 := Lib.hid hY4; have hY5 := Lib.hid hY5; have hY6 := Lib.hid hY6
      have lM := Lib.hid lM; have hb := Lib.hid hb
      have lv := Lib.hid (length_vw M)
      go_wp2_with (at_builtin; refine wpList_append_rd _ rfl _ _ 39 rfl w.heap.size 22 i0 (.int .u32 0) 4 Try.underlying39 hi hz0 hz1 hz2 rfl _ _ _ rfl (World.ownsRow_nil _ _ _ _) _ (vw M) rfl rm (vw_oneCell M) ?c1 ?c2 ?c3 ?_)
      case c1 => rw [lv.out, lM.out]; simp only [maxLen]; omega
      case c2 => rw [lv.out, lM.out]; omega
      case c3 => exact hs
      intro vn w5 ho hO
      have hb5 := hO.below hs (by simp [Value.ownBlock])
      have rn5 := Rd.of_own ho
      have rm5 := rm.mono (hO.below (Nat.le_refl _) (by simp [Value.ownBlock]))
      have rb5 := rb.mono (hO.below (Nat.le_refl _) (by simp [Value.ownBlock]))
      have hB5 := hb.out.trans hb5
      clear hb5 rm rb hO ho hb
      go_wp2_with fail
      refine (words_yes _ Y' _ rb5 hY6.out hY5.out).mono ?_
      rintro e w6 ⟨v6, rfl, o6, b6⟩
      have r6 := Rd.of_own o6
      have rn6 := rn5.mono b6
      have rm6 := rm5.mono b6
      have rb6 := rb5.mono b6
      have hB6 := hB5.trans (b6.mono hB5.size)
      clear o6 b6 rn5 rm5 rb5 hB5
      go_wp2_with fail
      refine (rwords_yes _ Y' _ rb6 hY6.out hY5.out).mono ?_
      rintro e w7 ⟨v7, rfl, o7, b7⟩
      have r7 : Rd w7.drew v7 _ := (Rd.of_own o7).kept fun _ _ _ => rfl
      have r6 : Rd w7.drew v6 _ := (r6.mono b7).kept fun _ _ _ => rfl
      have rn7 : Rd w7.drew _ _ := (rn6.mono b7).kept fun _ _ _ => rfl
      have rm7 : Rd w7.drew _ _ := (rm6.mono b7).kept fun _ _ _ => rfl
      have hB7 := (hB6.trans (b7.mono hB6.size)).drew
      clear o7 b7 rn6 rm6 rb6 hB6
      have ar := alike_refl (wordsL Y')
      go_upto_region 15 with fail
      go_cut [2, 86] from 63 to 86 (fun r c wx => r = .bool true ∧ Below w.heap.size w wx)
      case first =>
        go_region_with (first
          | (go_at_call 25; refine (bytes_any _ M _ rm7 (by have := lM.out; omega)).mono ?_; rintro e w8 ⟨v8, rfl, o8, b8⟩; have hcv1 := conv_bytes (P := Try.prog) (Rd.of_own o8) 48 5 9 Try.underlying48 Try.underlying5 Try.underlying9)
          | (go_at_call 24; refine (rbytes_any _ M _ (rn7.mono b8) (by have := lM.out; omega)).mono ?_; rintro e w9 ⟨v9, rfl, o9, b9⟩; have hcv2 := conv_bytes (P := Try.prog) (Rd.of_own o9) 48 5 9 Try.underlying48 Try.underlying5 Try.underlying9; have hcv3 := conv_bytes (P := Try.prog) ((Rd.of_own o8).mono b9) 48 5 9 Try.underlying48 Try.underlying5 Try.underlying9; have hb9 := b8.trans (b9.mono b8.size); clear o9 o8 b8 b9)
          | (go_at_call 27; refine (hexall_any _ M _ (rm7.mono hb9) (by have := lM.out; omega)).mono ?_; rintro e w10 ⟨rfl, b10⟩; have hb10 := hb9.trans (b10.mono hb9.size); clear b10 hcv1 hcv2 hcv3)
          | (go_at_call 40; refine (rhexall_any _ M _ (rn7.mono hb10) (by have := lM.out; omega)).mono ?_; rintro e w11 ⟨rfl, b11⟩; have hb11 := hb10.trans (b11.mono hb10.size); clear b11)
          | (go_at_call 23; refine (lsame_any _ _ (wordsL Y') (wordsL Y') _ (r6.mono hb11) (r7.mono hb11)).mono ?_; rintro e w12 ⟨rfl, n12, h12⟩; rw [ar]; have hB12 : Below w.heap.size w w12 := (by rw [h12]; exact below_drewN (hB7.trans (hb11.mono hB7.size)) _); clear h12))
        all_goals
          go_wp2_with fail
          go_meet
          case rel => exact ⟨by simp, hB12⟩
      case rest =>
        obtain ⟨rfl, hB12⟩ := hcut
        go_wp2_with fail
        go_ret
        exact ⟨ret_bool (by simp), hB12⟩
end Go.Proofs.Ytedhinekkmoheaa
