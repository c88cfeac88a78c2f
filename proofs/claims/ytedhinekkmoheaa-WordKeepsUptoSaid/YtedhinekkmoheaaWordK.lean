/- WordBack, the walk. -/
import Derived.Test.YtedhinekkmoheaaWordQ
import Derived.Test.YtedhinekkmoheaaWordL
import Derived.Test.YtedhinekkmoheaaWordG
import Derived.Deep.DeepCutAuto
import Derived.Deep.RegionHeld3
namespace Go.Proofs.Ytedhinekkmoheaa
open Go.RowKit WP

theorem alike_refl (l : List UInt32) : alikeB l l = true := by simp [alikeB]
theorem hexS_strL (m : Nat) : strL (hexS m) = hexL m := by unfold hexS strL; simp
/-- what ParseHex and ParseAll tell of one text -/
theorem ph_size (s : ByteArray) (h : s.size ≠ 8) : parseHexV s = pairV 0 10 := by unfold parseHexV; rw [if_neg h]
theorem ph_none (s : ByteArray) (h : parse8 s = none) : parseHexV s = pairV 0 10 := by unfold parseHexV; rw [h]; split <;> rfl
theorem ph_some (s : ByteArray) (m : Nat) (h8 : s.size = 8) (h : parse8 s = some m) : parseHexV s = pairV m 0 := by unfold parseHexV; rw [if_pos h8, h]
theorem chunk_zero (s : ByteArray) : chunkN s 0 = parse8 s := by
  unfold chunkN parse8
  rw [strL_extract, Nat.mul_zero, List.drop_zero, List.take_take]
  congr 1
  rw [Nat.sub_zero, Nat.min_def]
  split
  · rfl
  · rw [List.take_of_length_le (by rw [strL_length]; omega), List.take_of_length_le (by rw [strL_length]; omega)]
theorem toList_strL (s : ByteArray) : s.toList = strL s := ByteArray.toList_eq s
theorem hexAll_text (s : ByteArray) (h8 : s.size % 8 = 0) (hall : ∀ i, i < s.size / 8 → chunkN s i ≠ none) : (hexAllL (parseAllL s) == s.toList) = true := by
  rw [hex_parseAll s h8 hall, toList_strL]; simp
theorem parseAllL_one (s : ByteArray) (m : Nat) (h8 : s.size = 8) (h : parse8 s = some m) : parseAllL s = [ofI m] := by
  unfold parseAllL
  rw [h8]
  have : chunkI s 0 = m := by unfold chunkI; rw [chunk_zero, h]; rfl
  simp [List.range_succ, this]
theorem piece_size (l : List UInt32) (k : Nat) (hlt : k < l.length) : (ByteArray.extract ⟨(hexAllL l).toArray⟩ (8 * k) (8 * k + 8)).size = 8 := by
  rw [ByteArray.size_extract, size_mk, length_hexAllL]; omega
theorem piece_strL (l : List UInt32) (k : Nat) (hlt : k < l.length) : strL (ByteArray.extract ⟨(hexAllL l).toArray⟩ (8 * k) (8 * k + 8)) = hexL (l[k].toNat) := by
  rw [strL_extract, strL_mk (hexAllL l), show 8 * k + 8 - 8 * k = 8 by omega, chunk_hex l k hlt]
theorem piece_parse (l : List UInt32) (k : Nat) (hlt : k < l.length) : parseHexV (ByteArray.extract ⟨(hexAllL l).toArray⟩ (8 * k) (8 * k + 8)) = pairV (wAt l k) 0 := by
  have hp8 : parse8 (ByteArray.extract ⟨(hexAllL l).toArray⟩ (8 * k) (8 * k + 8)) = some (l[k].toNat) := by
    unfold parse8
    rw [piece_strL l k hlt, List.take_of_length_le (by rw [length_hexL]; omega)]
    exact parse_hexL _ (l[k]).toNat_lt
  rw [ph_some _ _ (piece_size l k hlt) hp8, wAt_get l k hlt]
theorem piece_hex' (l : List UInt32) (k : Nat) (hlt : k < l.length) : ((hexS (wAt l k)).toList == (ByteArray.extract ⟨(hexAllL l).toArray⟩ (8 * k) (8 * k + 8)).toList) = true := by
  rw [toList_strL, toList_strL, piece_strL l k hlt, wAt_get l k hlt, hexS_strL]; simp
theorem piece_hex (l : List UInt32) (k : Nat) (hlt : k < l.length) : ((hexS (wAt l k)).toList != (ByteArray.extract ⟨(hexAllL l).toArray⟩ (8 * k) (8 * k + 8)).toList) = false := by
  rw [toList_strL, toList_strL, piece_strL l k hlt, wAt_get l k hlt, hexS_strL]; simp
set_option maxRecDepth 100000 in
set_option maxHeartbeats 2000000 in
theorem back_walk (va : Value) (l : List UInt32) (s : ByteArray) (w : World) (ha : Rd w va (vw l)) (hl : l.length ≤ 1048576) (hs : s.size ≤ 1048576) :
    Calls Try.prog 6 #[va, .string s] w fun e w' => e = .returned (.bool true) ∧ Below w.heap.size w w' := by
  obtain ⟨ao, ca, rfl, a1, a2, a3⟩ := ha.words
  clear a3
  have lb := Lib.hid (length_bytesL l)
  have lh : (⟨(hexAllL l).toArray⟩ : ByteArray).size = 8 * l.length := by rw [size_mk, length_hexAllL]
  go_enter Try.func6, Try.ntmps6
  go_wp2_with fail
  refine (head_any _).mono ?_
  rintro e w1 ⟨rfl, hb1⟩
  have ra1 := ha.mono hb1
  go_wp2_with fail
  refine (bytes_any _ l _ ra1 (by omega)).mono ?_
  rintro e w2 ⟨v2, rfl, ho2, hb2⟩
  have rb2 := Rd.of_own ho2
  obtain ⟨bo, cb, rfl, b1, b2, b3⟩ := rb2.bytes
  rw [lb.out] at rb2 b1 ⊢
  clear b3
  have ra2 := ra1.mono hb2
  have hB2 := hb1.trans (hb2.mono hb1.size)
  go_wp2_with fail
  refine (hexall_any _ l _ ra2 (by omega)).mono ?_
  rintro e w3 ⟨rfl, hb3⟩
  have ra3 := ra2.mono hb3
  have rb3 := rb2.mono hb3
  have hB3 := hB2.trans (hb3.mono hB2.size)
  go_upto_if 42 with fail
  go_cut [] (fun wx => Below w.heap.size w wx)
  case first =>
    by_cases hn : l.length ≤ 262144
    case neg =>
      go_wp2_with fail
      go_meet
      case rel => exact hB3
    case pos =>
      have hb4 : (bytesL l).length ≤ 1048576 := by rw [lb.out]; omega
      have hb5 : (bytesL l).length % 4 = 0 := by rw [lb.out]; omega
      have hb6 : (bytesL l).length / 4 = l.length := by rw [lb.out]; omega
      have hb4 := Lib.hid hb4; have hb5 := Lib.hid hb5; have hb6 := Lib.hid hb6
      have lh' := Lib.hid lh
      have ar := alike_refl l
      clear ha ra1 ra2 rb2 ho2 hb1 hb2 hb3 hB2
      go_wp2_with fail
      refine (words_yes _ (bytesL l) _ rb3 hb4.out hb5.out).mono ?_
      rw [hb6.out, words_bytes]
      rintro e w4 ⟨v4, rfl, ho4, hbb4⟩
      have r4 := Rd.of_own ho4
      have ra4 := ra3.mono hbb4
      have rb4 := rb3.mono hbb4
      have hB4 := hB3.trans (hbb4.mono hB3.size)
      clear ho4 hbb4 ra3 rb3 hB3
      go_wp2_with fail
      refine (parseall_any ⟨(hexAllL l).toArray⟩ _ (by rw [lh'.out]; omega) (by rw [lh'.out]; omega)).mono ?_
      rintro e w5 ⟨hbb5, ⟨v5, rfl, ho5, _⟩ | ⟨_, i, hi, hno⟩⟩
      case inr =>
        exfalso
        rw [lh'.out] at hi
        rw [chunkN_hex l i (by omega)] at hno
        cases hno
      have r5 := Rd.of_own ho5
      rw [parseAll_hex] at r5
      have r45 := r4.mono hbb5
      have ra5 := ra4.mono hbb5
      have rb5 := rb4.mono hbb5
      have hB5 := hB4.trans (hbb5.mono hB4.size)
      clear ho5 hbb5 ra4 rb4 hB4 r4
      go_wp2_with fail
      refine (lsame_any _ _ l l _ r45 ra5).mono ?_
      rintro e w6 ⟨rfl, n6, rfl⟩
      go_wp2_with fail
      refine (lsame_any _ _ l l _ (r5.drewN _) (ra5.drewN _)).mono ?_
      rintro e w6 ⟨rfl, n7, h7⟩
      have ra6 : Rd w6 (.slice ao l.length ca) (vw l) := by rw [h7]; exact (ra5.drewN _).drewN _
      have rb6 : Rd w6 (.slice bo (4 * l.length) cb) (vb (bytesL l)) := by rw [h7]; exact (rb5.drewN _).drewN _
      have hB6 : Below w.heap.size w w6 := by rw [h7]; exact below_drewN (below_drewN hB5 _) _
      clear h7 ra5 rb5 r5 r45 hB5
      go_wp2_with fail
      go_loopw [11, 12, 13] (fun i _ _ wr => ∃ k : Nat, k ≤ l.length ∧ i = .int .i64 k ∧ Below w6.heap.size w6 wr) (fun i _ _ _ => l.length - (intOf i).toNat)
      case atStart => exact ⟨0, by omega, rfl, Below.refl _ _⟩
      case round =>
        obtain ⟨k, hk, rfl, hbr⟩ := hrel
        have ra := ra6.mono hbr
        have rb := rb6.mono hbr
        by_cases hlt : k < l.length
        · have ⟨x1, x2⟩ := wAt_bd l k
          have hph := piece_parse l k hlt
          have hx2 := piece_hex l k hlt
          have hx1 := piece_hex' l k hlt
          have hq0 := bytesL_get l k 0 hlt (by decide)
          have hq3 := bytesL_get l k 3 hlt (by decide)
          rw [(wordB_at l[k]).1, ← wAt_get l k hlt, Nat.add_zero] at hq0
          rw [(wordB_at l[k]).2.2.2, ← wAt_get l k hlt] at hq3
          obtain ⟨ao', ca', hva, _, _, hca⟩ := ra.words
          obtain ⟨bo', cb', hvb, _, _, hcb⟩ := rb.bytes
          simp only [Value.slice.injEq] at hva hvb
          obtain ⟨rfl, hx, rfl⟩ := hva
          clear hx
          obtain ⟨rfl, hx, rfl⟩ := hvb
          clear hx
          obtain ⟨ba, oa, rfl, hba, hca⟩ := hca.resolve_left (by intro h; rw [h] at hlt; simp at hlt)
          obtain ⟨bb, ob, rfl, hbb, hcb⟩ := hcb.resolve_left (by intro h; have := lb.out; rw [h] at this; simp at this; omega)
          have hca := hca k hlt
          have hc0 := hcb (4 * k) (by rw [lb.out]; omega)
          have hc3 := hcb (4 * k + 3) (by rw [lb.out]; omega)
          rw [hq0] at hc0
          rw [hq3] at hc3
          have hph := Lib.hid hph
          clear hq0 hq3 hcb ra6 rb6 ra rb
          have i1 : (0 : Int) ≤ k := by omega
          have i2 : (k : Int) < l.length := by omega
          go_wp2_with fail
          refine (parsehex_any _ _ (by rw [ByteArray.size_extract, lh'.out]; omega)).mono ?_
          rw [hph.out]; unfold pairV
          rintro e w8 ⟨rfl, rfl⟩
          dsimp only
          go_wp2_with fail
          have j1 : (0 : Int) ≤ 8 * (k : Int) := by omega
          have j2 : (0 : Int) ≤ 4 * (k : Int) := by omega
          have j3 : (0 : Int) ≤ 4 * (k : Int) + 3 := by omega
          have j4 : 4 * (k : Int) < 4 * (l.length : Int) := by omega
          have j5 : 4 * (k : Int) + 3 < 4 * (l.length : Int) := by omega
          have j6 : 8 * (k : Int) + 8 ≤ 8 * (l.length : Int) := by omega
          have j7 : (0 : Int) ≤ 8 * (k : Int) + 8 := by omega
          have j8 : 8 * (k : Int) ≤ 8 * (k : Int) + 8 := by omega
          have j9 : 8 * k + 8 ≤ 8 * l.length := by omega
          have u1 : IntKind.u8.wrap (wAt l k) = wAt l k % 256 := IntKind.wrap_u8 _
          have u2 : IntKind.u8.wrap (wAt l k / 16777216) = wAt l k / 16777216 := by rw [IntKind.wrap_u8]; omega
          have u3 : IntKind.u32.wrap (wAt l k / 16777216) = wAt l k / 16777216 := by rw [IntKind.wrap_u32]; omega
          have u4 : (wAt l k).tdiv 16777216 = wAt l k / 16777216 := Int.tdiv_eq_ediv_of_nonneg x1
          have t1 : (8 * (k : Int)).toNat = 8 * k := by omega
          have t2 : (8 * (k : Int) + 8).toNat = 8 * k + 8 := by omega
          have t3 : (4 * (k : Int)).toNat = 4 * k := by omega
          have t4 : (4 * (k : Int) + 3).toNat = 4 * k + 3 := by omega
          have s1 : IntKind.i64.wrap (8 * (k : Int)) = 8 * (k : Int) := IntWalk.i64_in _ (by omega)
          have s2 : IntKind.i64.wrap (8 * (k : Int) + 8) = 8 * (k : Int) + 8 := IntWalk.i64_in _ (by omega)
          have s3 : IntKind.i64.wrap (4 * (k : Int)) = 4 * (k : Int) := IntWalk.i64_in _ (by omega)
          have s4 : IntKind.i64.wrap (4 * (k : Int) + 3) = 4 * (k : Int) + 3 := IntWalk.i64_in _ (by omega)
          go_region_held3 (fun w' => Below w6.heap.size w6 w' ∧ ba < w'.heap.size ∧ bb < w'.heap.size ∧ w'.cell? ⟨ba, oa + k, none⟩ = some (.int .u32 (wAt l k)) ∧ w'.cell? ⟨bb, ob + 4 * k, none⟩ = some (.int .u8 (wAt l k / 16777216)) ∧ w'.cell? ⟨bb, ob + (4 * k + 3), none⟩ = some (.int .u8 (wAt l k % 256)))
            (first
              | exact ⟨Below.drew (by assumption), by assumption, by assumption, by assumption, by assumption, by assumption⟩
              | exact ⟨hbr.drew.trans (hb.mono hbr.drew.size), Nat.lt_of_lt_of_le hba hb.size, Nat.lt_of_lt_of_le hbb hb.size, (hb.cell (p := ⟨ba, oa + k, none⟩) hba).trans hca, (hb.cell (p := ⟨bb, ob + 4 * k, none⟩) hbb).trans hc0, (hb.cell (p := ⟨bb, ob + (4 * k + 3), none⟩) hbb).trans hc3⟩)
            (first
              | (go_at_call 31; refine (hex_any _ _ x1 x2).mono ?_; rintro e w1 ⟨rfl, hb⟩))
          clear s1 s2 s3 s4 t1 t2 t3 t4 u1 u2 u3 u4
          go_wp2
          go_roundw
          case rel => exact ⟨k + 1, by omega, by go_num, hbr.drew.trans (hb.mono hbr.drew.size)⟩
          case measure => simp [intOf]; omega
        · by_cases h0 : 0 < l.length
          · have r9 : Rd wr (.slice bo (4 * l.length - 1) cb) (vb ((bytesL l).take (4 * l.length - 1))) := by
              have := rb.take (4 * l.length - 1) (by omega)
              rw [vb, ← List.map_take] at this
              exact this
            have l9 : ((bytesL l).take (4 * l.length - 1)).length = 4 * l.length - 1 := by rw [List.length_take, lb.out]; omega
            have l9 := Lib.hid l9
            go_wp2_with fail
            refine (words_part _ _ _ r9 (by rw [l9.out]; omega) (by rw [l9.out]; omega)).mono ?_
            rintro e w9 ⟨rfl, rfl⟩
            go_wp2_with fail
            go_meet
            case rel => exact hB6.trans (hbr.mono hB6.size)
          · go_wp2_with fail
            go_meet
            case rel => exact hB6.trans (hbr.mono hB6.size)
  case rest =>
    have hmax : s.size ≤ 9223372036854775807 := by omega
    have hmax2 : s.size ≤ 2097152 := by omega
    clear ha ra1 ra2 ra3 rb2 rb3 ho2 hb1 hb2 hb3 hB2 hB3
    have hcut := Lib.hid hcut
    by_cases h8 : s.size % 8 = 0
    case neg =>
      have hph := Lib.hid (ph_size s (by omega))
      have h8 := Lib.hid h8
      go_wp2_with fail
      refine (parsehex_any s _ hmax).mono ?_
      rw [hph.out]; unfold pairV
      rintro e w4 ⟨rfl, rfl⟩
      go_wp2_with fail
      refine (parseall_part s _ hmax2 h8.out).mono ?_
      rintro e w4 ⟨rfl, rfl⟩
      go_wp2_with fail
      go_ret
      exact ⟨rfl, hcut.out⟩
    case pos =>
      have h8 := Lib.hid h8
      cases hp : parse8 s with
      | none =>
        have hph := Lib.hid (ph_none s hp)
        have hp := Lib.hid hp
        go_wp2_with fail
        refine (parsehex_any s _ hmax).mono ?_
        rw [hph.out]; unfold pairV
        rintro e w4 ⟨rfl, rfl⟩
        go_wp2_with fail
        refine (parseall_any s _ hmax2 h8.out).mono ?_
        rintro e w4 ⟨hb4, ⟨v4, rfl, ho4, hall⟩ | ⟨rfl, hn⟩⟩
        · have ht := hexAll_text s h8.out hall
          have r4 := Rd.of_own ho4
          have hlen : (parseAllL s).length ≤ 4294967296 := by unfold parseAllL; simp; omega
          have hlen := Lib.hid hlen
          clear ho4 hall
          obtain ⟨co, cc, rfl, c1, c2, c3⟩ := r4.words
          clear c3
          go_wp2_with fail
          refine (hexall_any _ (parseAllL s) _ r4 hlen.out).mono ?_
          rintro e w5 ⟨rfl, hb5⟩
          go_wp2_with fail
          go_ret
          exact ⟨rfl, (hcut.out.trans (hb4.mono hcut.out.size)).trans (hb5.mono (hcut.out.trans (hb4.mono hcut.out.size)).size)⟩
        · clear hn
          go_wp2_with fail
          go_ret
          exact ⟨rfl, hcut.out.trans (hb4.mono hcut.out.size)⟩
      | some m =>
        by_cases hs8 : s.size = 8
        case neg =>
          have hph := Lib.hid (ph_size s hs8)
          have hp := Lib.hid hp
          clear hs8
          go_wp2_with fail
          refine (parsehex_any s _ hmax).mono ?_
          rw [hph.out]; unfold pairV
          rintro e w4 ⟨rfl, rfl⟩
          go_wp2_with fail
          refine (parseall_any s _ hmax2 h8.out).mono ?_
          rintro e w4 ⟨hb4, ⟨v4, rfl, ho4, hall⟩ | ⟨rfl, hn⟩⟩
          · have ht := hexAll_text s h8.out hall
            have r4 := Rd.of_own ho4
            have hlen : (parseAllL s).length ≤ 4294967296 := by unfold parseAllL; simp; omega
            have hlen := Lib.hid hlen
            clear ho4 hall
            obtain ⟨co, cc, rfl, c1, c2, c3⟩ := r4.words
            clear c3
            go_wp2_with fail
            refine (hexall_any _ (parseAllL s) _ r4 hlen.out).mono ?_
            rintro e w5 ⟨rfl, hb5⟩
            go_wp2_with fail
            go_ret
            exact ⟨rfl, (hcut.out.trans (hb4.mono hcut.out.size)).trans (hb5.mono (hcut.out.trans (hb4.mono hcut.out.size)).size)⟩
          · clear hn
            go_wp2_with fail
            go_ret
            exact ⟨rfl, hcut.out.trans (hb4.mono hcut.out.size)⟩
        case pos =>
          have hph := Lib.hid (ph_some s m hs8 hp)
          have hm := parse8_lt s m hp
          have hone := parseAllL_one s m hs8 hp
          have hx1 : ((hexS (m : Int)).toList == s.toList) = true := by
            rw [toList_strL, toList_strL, hexS_strL, hex_parse8 s m hs8 hp]; simp
          have hx2 : ((hexS (m : Int)).toList != s.toList) = false := by
            rw [bne, hx1]; rfl
          have hm2 : (m : Int) ≤ 4294967295 := by omega
          have hof : (((ofI (m : Int)).toNat : Nat) : Int) = m := ofI_val _ (by omega) hm2
          have hp := Lib.hid hp; have hs8 := Lib.hid hs8
          go_wp2_with fail
          refine (parsehex_any s _ hmax).mono ?_
          rw [hph.out]; unfold pairV
          rintro e w4 ⟨rfl, rfl⟩
          go_wp2_with fail
          refine (parseall_any s _ hmax2 h8.out).mono ?_
          rintro e w4 ⟨hb4, ⟨v4, rfl, ho4, hall⟩ | ⟨rfl, i, hi, hn⟩⟩
          · have ht := hexAll_text s h8.out hall
            have r4 := Rd.of_own ho4
            rw [hone] at r4 ht
            clear ho4 hall hone
            obtain ⟨co, cc, rfl, c1, c2, c3⟩ := r4.words
            obtain ⟨bq, oq, rfl, hbq, hcq⟩ := c3.resolve_left (by simp)
            have hcq := hcq 0 (by simp)
            have hw0 : wAt [ofI (m : Int)] 0 = m := by simp [wAt, hof]
            rw [hw0, Nat.add_zero] at hcq
            simp only [List.length_cons, List.length_nil] at r4 c1 ⊢
            clear hw0 hof
            go_wp2_with fail
            refine (hex_any _ _ (by omega) hm2).mono ?_
            rintro e w5 ⟨rfl, hb5⟩
            have r5 := r4.mono hb5
            have hcq5 := (hb5.cell (p := ⟨bq, oq, none⟩) hbq).trans hcq
            clear hcq
            go_wp2_with fail
            refine (hexall_any _ [ofI (m : Int)] _ r5 (by simp)).mono ?_
            rintro e w6 ⟨rfl, hb6⟩
            go_wp2_with fail
            go_ret
            have k4 := hcut.out.trans (hb4.mono hcut.out.size)
            have k5 := k4.trans (hb5.mono k4.size)
            exact ⟨rfl, k5.trans (hb6.mono k5.size)⟩
          · exfalso
            have hs8' := hs8.out
            obtain rfl : i = 0 := by omega
            rw [chunk_zero, hp.out] at hn
            cases hn
end Go.Proofs.Ytedhinekkmoheaa
