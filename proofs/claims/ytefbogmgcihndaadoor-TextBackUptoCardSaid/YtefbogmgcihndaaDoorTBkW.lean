/- The walk of TextBack. -/
import Derived.Test.YtefbogmgcihndaaDoorTNuE
import Derived.Test.YtefbogmgcihndaaDoorTUnP
import Derived.Test.YtefbogmgcihndaaDoorTIsN
import Derived.Test.YtefbogmgcihndaaDoorTHead
import Derived.Test.YtefbogmgcihndaaDoorTQte
import Derived.Test.YtefbogmgcihndaaDoorTRd
namespace Go.Proofs.YtefbogmgcihndaaDoor
open Go.RowKit WP
structure Pk (w : World) : Prop where
  p : Pow10 w
  e : ErrVar w "strconv.ErrRange"
theorem Pk.later {w w' : World} (h : Pk w) (hb : Below w.heap.size w w') : Pk w' := ⟨pow10_later h.p hb, h.e.later hb⟩
theorem mk_list (l : List UInt8) : (⟨l.toArray⟩ : ByteArray).data.toList = l := rfl
theorem dec_len (u : Nat) (h : u < 4294967296) : (Lib.decDigits u).length ≤ 20 := by
  by_cases h1 : u = 0
  · subst h1; rw [Lib.decDigits_length, Lib.nDigits_small (by decide)]; decide
  · rw [Lib.decDigits_length]
    have := Lib.numDigits_eq u (by omega) (by omega)
    split at this <;> omega
theorem itoa_len (n : Int) (h0 : -2147483648 ≤ n) (h1 : n ≤ 2147483647) : (Lib.itoa n).length ≤ 21 := by
  unfold Lib.itoa
  split
  · have := dec_len n.natAbs (by omega)
    simp only [List.length_cons]; omega
  · have := dec_len n.toNat (by omega)
    omega
theorem hexTx_size (x : Int) : (hexTx x).size = 10 := by
  unfold hexTx
  rw [mk_size, List.length_append, hx8_len]; rfl
/-- a world grown out of w -/
structure GrownOf (w : World) where
  w' : World
  h : Below w.heap.size w w'
/-- a drawn region whose operations read no memory and whose callees only make memory: one walk in the order of the text -/
theorem wp_region_grown {P : Program} {id : Nat} {Q : Exit → Act → World → Prop} {a : Act} {w : World} {l : List Oper} (hm : P.follows .mixedOrders = true) (hB : Region.lexB .any l.toArray = true)
    (h : wpQuiet P l.toArray (fun w' => ∃ g : GrownOf w, w' = g.w') (fun a' => ∀ w', (∃ g : GrownOf w, w' = g.w') → Q .normal a' w') l a) : (Code.region id l.toArray true).wp P Q a w :=
  wp_region_quiet (C := fun w' => ∃ g : GrownOf w, w' = g.w') hm hB ⟨⟨_, Below.drew (Below.refl _ _)⟩, rfl⟩ (by simpa using h)
theorem zeros_take (k : Nat) (h : k ≤ 8) : ((#[48, 48, 48, 48, 48, 48, 48, 48] : Array UInt8).extract 0 k).toList = List.replicate k 48 := by
  have : k = 0 ∨ k = 1 ∨ k = 2 ∨ k = 3 ∨ k = 4 ∨ k = 5 ∨ k = 6 ∨ k = 7 ∨ k = 8 := by omega
  rcases this with rfl | rfl | rfl | rfl | rfl | rfl | rfl | rfl | rfl <;> rfl
theorem hex_same (H s : ByteArray) (h1 : 3 ≤ s.size) (h2 : s.size ≤ 10) (h : H.data.toList = [48, 120] ++ List.replicate (10 - s.size) 48 ++ s.data.toList.drop 2) :
    (H.toList == ((⟨#[48, 120]⟩ : ByteArray) ++ (⟨#[48, 48, 48, 48, 48, 48, 48, 48]⟩ : ByteArray).extract 0 (10 - s.size) ++ s.extract 2 s.size).toList) = true := by
  rw [ByteArray.toList_eq, ByteArray.toList_eq, h, beq_iff_eq]
  have hz := zeros_take (10 - s.size) (by omega)
  have hs : (s.data.extract 2 s.size).toList = s.data.toList.drop 2 := by
    rw [Array.toList_extract, List.extract_eq_take_drop]
    exact List.take_of_length_le (by rw [List.length_drop, size_list]; exact Nat.le_refl _)
  simp only [ByteArray.data_append, ByteArray.data_extract, Array.toList_append, hz, hs]
theorem num_s (s : ByteArray) (hs : s.size ≤ 1048576) : ∃ xv iv : Int, (∀ W, ErrVar W "strconv.ErrRange" → Calls Tryd.prog 19 #[.string s] W fun e w' => Below W.heap.size W w' ∧ e = .returned (.tuple #[.int .u32 xv, .int .i64 iv])) ∧
    ((iv = 41 ∧ xv = 0) ∨ (iv = 0 ∧ (∃ T : ByteArray, (∀ W, Pow10 W → Calls Tryd.prog 11 #[.int .u32 xv] W fun e w' => e = .returned (.string T) ∧ Below W.heap.size W w') ∧
      (T = s ∨ (T ≠ s ∧ ∃ H : ByteArray, (∀ W, Calls Tryd.prog 20 #[.int .u32 xv] W fun e w' => e = .returned (.string H) ∧ Below W.heap.size W w') ∧ 3 ≤ s.size ∧ s.size ≤ 10 ∧ s.data.toList.take 2 = [48, 120] ∧ H.data.toList = [48, 120] ++ List.replicate (10 - s.size) 48 ++ s.data.toList.drop 2))))) := by
  have hl := size_list s
  cases hn : numF s.data.toList with
  | none =>
    refine ⟨0, 41, fun W hW => ?_, .inl ⟨rfl, rfl⟩⟩
    have := number_any s W (by omega) hW
    rw [hn] at this
    exact this
  | some u =>
    obtain ⟨hu, hb⟩ := num_back _ _ hn
    refine ⟨(u : Int), 0, fun W hW => ?_, .inr ⟨rfl, ⟨(Lib.decDigits u).toArray⟩, fun W hW => tens_any u hu W hW, ?_⟩⟩
    · have := number_any s W (by omega) hW
      rw [hn] at this
      exact this
    · by_cases he : (⟨(Lib.decDigits u).toArray⟩ : ByteArray) = s
      · exact .inl he
      · rcases hb with hb | ⟨h1, h2, h3, h4⟩
        · exact absurd (by rw [hb, mk_self]) he
        · refine .inr ⟨he, hexTx (u : Int), fun W => hexed_any (u : Int) W (by omega) (by omega), by omega, by omega, h3, ?_⟩
          rw [hl] at h4
          exact h4
theorem sgn_s (s : ByteArray) (hs : s.size ≤ 1048576) : ∃ yv jv : Int, (∀ W, ErrVar W "strconv.ErrRange" → Calls Tryd.prog 21 #[.string s] W fun e w' => Below W.heap.size W w' ∧ e = .returned (.tuple #[.int .i32 yv, .int .i64 jv])) ∧
    ((jv = 41 ∧ yv = 0) ∨ (jv = 0 ∧ (∀ W, Pow10 W → Calls Tryd.prog 22 #[.int .i32 yv] W fun e w' => e = .returned (.string s) ∧ Below W.heap.size W w'))) := by
  cases hn : sgnF s.data.toList with
  | none =>
    refine ⟨0, 41, fun W hW => ?_, .inl ⟨rfl, rfl⟩⟩
    have := signed_any s W (by omega) hW
    rw [hn] at this
    exact this
  | some n =>
    obtain ⟨h0, h1, hb⟩ := sgn_back _ _ hn
    refine ⟨n, 0, fun W hW => ?_, .inr ⟨rfl, fun W hW => ?_⟩⟩
    · have := signed_any s W (by omega) hW
      rw [hn] at this
      exact this
    · have := minus_any n W h0 h1 hW
      rw [hb, mk_self] at this
      exact this
theorem unq_s (s : ByteArray) (hs : s.size ≤ 1048576) (W : World) : Calls Tryd.prog 23 #[.string s] W fun e w' => Below W.heap.size W w' ∧ ∃ (ao : Option Addr) (m ca : Nat) (kv : Int), e = .returned (.tuple #[.slice ao m ca, .int .i64 kv]) ∧
    ((kv = 40 ∧ m = 0) ∨ (kv = 0 ∧ ∀ w2, Below w'.heap.size w' w2 → Calls Tryd.prog 9 #[.slice ao m ca] w2 fun e w3 => e = .returned (.string s) ∧ Below w2.heap.size w2 w3)) := by
  have hl := size_list s
  refine (unquote_any s W (by omega)).mono ?_
  rintro e w' ⟨hb, hr⟩
  refine ⟨hb, ?_⟩
  cases hn : unqF s.data.toList with
  | none =>
    rw [hn] at hr
    exact ⟨none, 0, 0, 40, hr, .inl ⟨rfl, rfl⟩⟩
  | some b =>
    rw [hn] at hr
    obtain ⟨v, he, ho⟩ := hr
    have hq := quote_unq _ _ hn
    have hbl : b.length ≤ s.size := by
      have h1 : (quoteL b).length = s.size := by rw [hq, hl]
      have h2 := qbs_ge b
      unfold quoteL at h1
      rw [List.length_cons, List.length_append] at h1
      omega
    obtain ⟨ao, ca, rfl⟩ := uown_form ho
    refine ⟨ao, b.length, ca, 0, he, .inr ⟨rfl, fun w2 hw2 => ?_⟩⟩
    have := quote_any (.slice ao b.length ca) b w2 ((Rd.of_own ho).mono hw2) (by omega)
    rw [hq, mk_self] at this
    exact this
set_option maxRecDepth 100000 in
set_option maxHeartbeats 4000000 in
theorem back_walk (u : Nat) (n : Int) (s : ByteArray) (w : World) (hu : u < 4294967296) (hn0 : -2147483648 ≤ n) (hn1 : n ≤ 2147483647) (hs : s.size ≤ 1048576) (hP : Pk w) :
    Calls Tryd.prog 6 #[.int .u32 (u : Int), .int .i32 n, .string s] w fun e w' => e = .returned (.bool true) ∧ Below w.heap.size w w' := by
  have hT := fun W hW => tens_any u hu W hW
  have hNT := fun W hW => number_any ⟨(Lib.decDigits u).toArray⟩ W (by have := dec_len u hu; rw [mk_size]; omega) hW
  rw [mk_list, num_tens u hu] at hNT
  have hH := fun W => hexed_any (u : Int) W (by omega) (by omega)
  have hNH := fun W hW => number_any (hexTx (u : Int)) W (by rw [hexTx_size]; omega) hW
  rw [show (hexTx (u : Int)).data.toList = [48, 120] ++ hx8 u from rfl, num_hex u hu] at hNH
  have hHs := hexTx_size (u : Int)
  have hM := fun W hW => minus_any n W hn0 hn1 hW
  have hSM := fun W hW => signed_any ⟨(Lib.itoa n).toArray⟩ W (by have := itoa_len n hn0 hn1; rw [mk_size]; omega) hW
  rw [mk_list, sgn_itoa n hn0 hn1] at hSM
  simp only [Option.getD_some, Option.isSome_some, errN, if_true] at hNT hNH hSM
  obtain ⟨TX, hTX⟩ : ∃ B : ByteArray, ⟨(Lib.decDigits u).toArray⟩ = B := ⟨_, rfl⟩
  obtain ⟨HX, hHX⟩ : ∃ B : ByteArray, hexTx (u : Int) = B := ⟨_, rfl⟩
  obtain ⟨MN, hMN⟩ : ∃ B : ByteArray, ⟨(Lib.itoa n).toArray⟩ = B := ⟨_, rfl⟩
  simp only [hTX] at hT hNT
  simp only [hHX] at hH hNH hHs
  simp only [hMN] at hM hSM
  clear hTX hHX hMN
  obtain ⟨x, hx⟩ : ∃ x : Int, (u : Int) = x := ⟨_, rfl⟩
  simp only [hx] at hT hNT hH hNH ⊢
  clear hx hu hn0 hn1
  obtain ⟨l, hl⟩ : ∃ l, s.data.toList = l := ⟨_, rfl⟩
  have hls : l.length = s.size := by rw [← hl]; exact size_list s
  replace hT := Lib.hid hT; replace hNT := Lib.hid hNT; replace hH := Lib.hid hH; replace hNH := Lib.hid hNH; replace hM := Lib.hid hM; replace hSM := Lib.hid hSM
  have hB := Below.refl w.heap.size w
  replace hB := Lib.hid hB; replace hP := Lib.hid hP
  go_enter Tryd.func6, Tryd.ntmps6
  go_upto_region 8 with (first
    | (go_at_call 7; refine (head_yes _ hP.out.p).mono ?_; rintro e w2 ⟨rfl, hb2⟩; replace hP := Lib.hid (hP.out.later hb2); replace hB := Lib.hid (hB.out.trans (hb2.mono hB.out.size)); clear hb2)
    | (go_at_call 11; refine (hT.out _ hP.out.p).mono ?_; rintro e w2 ⟨rfl, hb2⟩; replace hP := Lib.hid (hP.out.later hb2); replace hB := Lib.hid (hB.out.trans (hb2.mono hB.out.size)); clear hb2)
    | (go_at_call_of 19 (Value.string TX); refine (hNT.out _ hP.out.e).mono ?_; rintro e w2 ⟨hb2, rfl⟩; replace hP := Lib.hid (hP.out.later hb2); replace hB := Lib.hid (hB.out.trans (hb2.mono hB.out.size)); clear hb2)
    | (go_at_call 20; refine (hH.out _).mono ?_; rintro e w2 ⟨rfl, hb2⟩; replace hP := Lib.hid (hP.out.later hb2); replace hB := Lib.hid (hB.out.trans (hb2.mono hB.out.size)); clear hb2)
    | (go_at_call_of 19 (Value.string HX); refine (hNH.out _ hP.out.e).mono ?_; rintro e w2 ⟨hb2, rfl⟩; replace hP := Lib.hid (hP.out.later hb2); replace hB := Lib.hid (hB.out.trans (hb2.mono hB.out.size)); clear hb2)
    | (go_at_call 22; refine (hM.out _ hP.out.p).mono ?_; rintro e w2 ⟨rfl, hb2⟩; replace hP := Lib.hid (hP.out.later hb2); replace hB := Lib.hid (hB.out.trans (hb2.mono hB.out.size)); clear hb2)
    | (go_at_call 21; refine (hSM.out _ hP.out.e).mono ?_; rintro e w2 ⟨hb2, rfl⟩; replace hP := Lib.hid (hP.out.later hb2); replace hB := Lib.hid (hB.out.trans (hb2.mono hB.out.size)); clear hb2))
  clear hT hNT hNH hM hSM
  obtain ⟨wa, rfl⟩ : ∃ wa, wa = w2 := ⟨w2, rfl⟩
  obtain ⟨v5, w5, hcv5, hrd5, hb5⟩ := conv_to_bytes (P := Tryd.prog) wa 9 24 5 s Tryd.underlying9 Tryd.underlying24 Tryd.underlying5 (by simp only [maxLen]; omega)
  rw [hl] at hrd5
  replace hP := Lib.hid (hP.out.later hb5)
  replace hB := Lib.hid (hB.out.trans (hb5.mono hB.out.size))
  have hQ := quote_any v5 l w5 hrd5 (by omega)
  obtain ⟨q, hq⟩ : ∃ q : ByteArray, ⟨(quoteL l).toArray⟩ = q := ⟨_, rfl⟩
  have hqn : q.data.toList = quoteL l := by rw [← hq]
  have hqz : q.size = (l.flatMap qb).length + 2 := by rw [← hq, mk_size]; unfold quoteL; simp
  have hq1 : l.length ≤ (l.flatMap qb).length := qbs_ge l
  have hq2 := length_qbs l
  rw [hq] at hQ
  have hU := fun W => unquote_any q W (by omega)
  rw [hqn, unq_quote] at hU
  have hqb := quote_bytes l
  rw [← hqn] at hqb
  rw [size_list] at hqb
  have e1 : decide ((q.size : Int) < (s.size : Int) + 2) = false := decide_eq_false (by omega)
  have e2 : decide ((q.size : Int) > 4 * (s.size : Int) + 2) = false := decide_eq_false (by omega)
  have e5 : ¬ q.size < s.size + 2 := by omega
  have e6 : ¬ 4 * s.size + 2 < q.size := by omega
  have e3 : (s.size : Int) + 2 ≤ 9223372036854775807 := by omega
  have e4 : 4 * (s.size : Int) + 2 ≤ 9223372036854775807 := by omega
  clear hq hqn hb5 hrd5
  replace hQ := Lib.hid hQ; replace hU := Lib.hid hU; replace hqb := Lib.hid hqb
  go_upto_region 10 with (first
    | (go_at_call 9; refine hQ.out.mono ?_; rintro e w2 ⟨rfl, hb2⟩; replace hP := Lib.hid (hP.out.later hb2); replace hB := Lib.hid (hB.out.trans (hb2.mono hB.out.size)); clear hb2)
    | (go_at_call 23; refine (hU.out _).mono ?_; rintro e w3 ⟨hb2, hr⟩; obtain ⟨vd, rfl, hod⟩ := hr; replace hP := Lib.hid (hP.out.later hb2); replace hB := Lib.hid (hB.out.trans (hb2.mono hB.out.size)); clear hb2))
  clear hcv5 hQ hU
  obtain ⟨wb, rfl⟩ : ∃ wb, wb = w3 := ⟨w3, rfl⟩
  have hcd := conv_bytes (P := Tryd.prog) (Rd.of_own hod) 24 5 9 Tryd.underlying24 Tryd.underlying5 Tryd.underlying9
  rw [← hl, mk_self] at hcd
  clear hod
  have hqs : q.size ≤ 4194306 := by omega
  replace hqz := Lib.hid hqz; replace hq1 := Lib.hid hq1; replace hq2 := Lib.hid hq2; replace hls := Lib.hid hls; replace hl := Lib.hid hl
  go_wp2_with fail
  clear hcd e1 e2 e3 e4 e5 e6
  go_loop [16] (fun i => ∃ k : Nat, k ≤ q.size ∧ i = .int .i64 k) (fun i => q.size - (intOf i).toNat)
  case atStart => exact ⟨0, by omega, rfl⟩
  case round =>
    obtain ⟨k, hk, rfl⟩ := hrel
    by_cases hlt : k < q.size
    · have bk := bAt_get q k hlt
      obtain ⟨c1, c2, c3⟩ := hqb.out k hlt
      obtain ⟨c, hc⟩ : ∃ c, bAt q.data.toList k = c := ⟨_, rfl⟩
      rw [hc] at bk c1 c2 c3
      clear hc
      have d1 : decide (c < 32) = false := decide_eq_false (by omega)
      have d2 : decide (c > 126) = false := decide_eq_false (by omega)
      have i1 : (0 : Int) ≤ (k : Int) := by omega
      by_cases h34 : c = 34
      · have d3 : (c == 34) = true := by simp [h34]
        replace c3 := c3 h34
        replace h34 := Lib.hid h34
        rcases c3 with rfl | hk1
        · go_wp2_with fail
          go_round
          case rel => exact ⟨0 + 1, by omega, by go_num⟩
          case measure => simp [intOf]; omega
        · have d4 : ((k : Int) != (q.size : Int) - 1) = false := by simp; omega
          have hk2 : (q.size : Int) - 1 = (k : Int) := by omega
          replace hk1 := Lib.hid hk1
          go_wp2_with fail
          all_goals
            go_round
            case rel => exact ⟨k + 1, by omega, by go_num⟩
            case measure => simp [intOf]; omega
      · have d3 : (c == 34) = false := by simp [h34]
        clear c3
        replace h34 := Lib.hid h34
        go_wp2_with fail
        go_round
        case rel => exact ⟨k + 1, by omega, by go_num⟩
        case measure => simp [intOf]; omega
    · obtain rfl : k = q.size := by omega
      clear hqb hqs hlt hk
      obtain ⟨xv, iv, hNS, hxi⟩ := num_s s hs
      obtain ⟨yv, jv, hSS, hyj⟩ := sgn_s s hs
      have hUS := fun W => unq_s s hs W
      have hnm := fun W => name_any s W
      have hin := fun W => isname_any s W (by omega)
      obtain ⟨R, hR⟩ : ∃ R, nameF s = R := ⟨_, rfl⟩
      simp only [hR] at hnm hin
      clear hR
      replace hNS := Lib.hid hNS; replace hSS := Lib.hid hSS; replace hUS := Lib.hid hUS; replace hnm := Lib.hid hnm; replace hin := Lib.hid hin; replace hxi := Lib.hid hxi; replace hyj := Lib.hid hyj
      go_upto_region 18 with (first
        | (go_at_call 19; refine (hNS.out _ hP.out.e).mono ?_; rintro e w4 ⟨hb2, rfl⟩; replace hP := Lib.hid (hP.out.later hb2); replace hB := Lib.hid (hB.out.trans (hb2.mono hB.out.size)); clear hb2))
      clear hNS
      obtain ⟨wc, rfl⟩ : ∃ wc, wc = w4 := ⟨w4, rfl⟩
      go_cut [180] from 145 to 180 (fun r wx => r = .bool false ∧ Below wc.heap.size wc wx)
      case first =>
        clear hSS hUS hnm hin hyj
        rcases hxi.out with ⟨rfl, rfl⟩ | ⟨rfl, T, hT, hTs⟩
        · go_quiet (fail)
          go_wp2_with fail
          go_meet
          case rel => exact ⟨rfl, below_drewN (Below.refl _ _) _⟩
        · rcases hTs with rfl | ⟨hne, H, hH, z1, z2, z3, z4⟩
          · replace hT := Lib.hid hT
            have hne : Nonempty (GrownOf wc) := ⟨⟨wc, Below.refl _ _⟩⟩
            refine wp_region_grown (by kernel_rfl) (by kernel_rfl) ?_
            repeat (go_big_quiet_step ((rename_i g; go_at_call 11; refine (hT.out _ (pow10_later hP.out.p g.h)).mono ?_; rintro e w5 ⟨rfl, b2⟩; exact ⟨rfl, ⟨w5, g.h.trans (b2.mono g.h.size)⟩, rfl⟩)))
            refine wpQuiet_nil ?_
            rintro _ ⟨g, rfl⟩
            go_wp2_with fail
            go_meet
            case rel => exact ⟨rfl, g.h⟩
          · replace hT := Lib.hid hT; replace hH := Lib.hid hH
            have hg0 : Nonempty (GrownOf wc) := ⟨⟨wc, Below.refl _ _⟩⟩
            have q1 : (T.toList == s.toList) = false := by rw [ByteArray.toList_eq, ByteArray.toList_eq, beq_eq_false_iff_ne]; exact fun e => hne (ByteArray.ext (Array.toList_inj.1 e))
            have q2 : decide ((s.size : Int) < 3) = false := decide_eq_false (by omega)
            have q3 : decide ((s.size : Int) > 10) = false := decide_eq_false (by omega)
            have q4 : (2 : Int) ≤ (s.size : Int) := by omega
            have q5 : (0 : Int) ≤ 10 - (s.size : Int) := by omega
            have q6 : 10 - (s.size : Int) ≤ 8 := by omega
            have q7 : ((s.extract 0 2).toList == [48, 120]) = true := by rw [ByteArray.toList_eq, show (s.extract 0 2).data.toList = s.data.toList.take 2 by simp, z3]; rfl
            have q8 := hex_same H s z1 z2 z4
            replace z3 := Lib.hid z3; replace z4 := Lib.hid z4; replace hne := Lib.hid hne
            refine wp_region_grown (by kernel_rfl) (by kernel_rfl) ?_
            repeat (go_big_quiet_step (first
              | (rename_i g; go_at_call 11; refine (hT.out _ (pow10_later hP.out.p g.h)).mono ?_; rintro e w5 ⟨rfl, b2⟩; exact ⟨rfl, ⟨w5, g.h.trans (b2.mono g.h.size)⟩, rfl⟩)
              | (rename_i g; go_at_call 20; refine (hH.out _).mono ?_; rintro e w5 ⟨rfl, b2⟩; exact ⟨rfl, ⟨w5, g.h.trans (b2.mono g.h.size)⟩, rfl⟩)))
            refine wpQuiet_nil ?_
            rintro _ ⟨g, rfl⟩
            go_wp2_with fail
            go_meet
            case rel => exact ⟨rfl, g.h⟩
      case rest =>
        obtain ⟨rfl, hb2⟩ := hcut
        replace hP := Lib.hid (hP.out.later hb2)
        replace hB := Lib.hid (hB.out.trans (hb2.mono hB.out.size))
        clear hb2
        go_upto_region 22 with (first
          | (go_at_call 21; refine (hSS.out _ hP.out.e).mono ?_; rintro e w5 ⟨hb2, rfl⟩; replace hP := Lib.hid (hP.out.later hb2); replace hB := Lib.hid (hB.out.trans (hb2.mono hB.out.size)); clear hb2)
          | (go_at_call 23; refine (hUS.out _).mono ?_; rintro e w6 ⟨hb2, ao, m, ca, kv, rfl, hzk⟩; replace hP := Lib.hid (hP.out.later hb2); replace hB := Lib.hid (hB.out.trans (hb2.mono hB.out.size)); clear hb2; replace hzk := Lib.hid hzk))
        have hx3 : (iv = 41 ∧ xv = 0) ∨ iv = 0 := hxi.out.imp id And.left
        clear hSS hUS hxi
        obtain ⟨wd, rfl⟩ : ∃ wd, wd = w6 := ⟨w6, rfl⟩
        go_cut [208] from 191 to 208 (fun r wx => r = .bool false ∧ Below wd.heap.size wd wx)
        case first =>
          clear hnm hin
          rcases hyj.out with ⟨rfl, rfl⟩ | ⟨rfl, hmi⟩
          · rcases hzk.out with ⟨rfl, rfl⟩ | ⟨rfl, hqu⟩
            · go_wp2_with fail
              go_meet
              case rel => exact ⟨rfl, Below.refl _ _⟩
            · replace hqu := Lib.hid hqu
              go_wp2_with (go_at_call 9; refine (hqu.out _ (Below.refl _ _)).mono ?_; rintro e w7 ⟨rfl, b7⟩)
              go_meet
              case rel => exact ⟨rfl, b7⟩
          · replace hmi := Lib.hid hmi
            rcases hzk.out with ⟨rfl, rfl⟩ | ⟨rfl, hqu⟩
            · go_wp2_with (go_at_call 22; refine (hmi.out _ hP.out.p).mono ?_; rintro e w7 ⟨rfl, b7⟩)
              go_meet
              case rel => exact ⟨rfl, b7⟩
            · replace hqu := Lib.hid hqu
              go_wp2_with (first
                | (go_at_call 22; refine (hmi.out _ hP.out.p).mono ?_; rintro e w7 ⟨rfl, b7⟩)
                | (go_at_call 9; refine (hqu.out _ b7).mono ?_; rintro e w8 ⟨rfl, b8⟩))
              go_meet
              case rel => exact ⟨rfl, b7.trans (b8.mono b7.size)⟩
        case rest =>
          obtain ⟨rfl, hb2⟩ := hcut
          replace hB := Lib.hid (hB.out.trans (hb2.mono hB.out.size))
          clear hb2
          obtain ⟨we, rfl⟩ : ∃ we, we = wc := ⟨_, rfl⟩
          have hz3 : (kv = 40 ∧ m = 0) ∨ kv = 0 := hzk.out.imp id And.left
          have hy3 : (jv = 41 ∧ yv = 0) ∨ jv = 0 := hyj.out.imp id And.left
          clear hzk hyj hP
          replace hx3 := Lib.hid hx3; replace hy3 := Lib.hid hy3; replace hz3 := Lib.hid hz3
          go_upto_region 24 with fail
          go_cut [231] from 209 to 231 (fun r wx => r = .bool false ∧ wx = we)
          case first =>
            clear hnm hin
            rcases hx3.out with ⟨rfl, rfl⟩ | rfl <;> rcases hy3.out with ⟨rfl, rfl⟩ | rfl <;> rcases hz3.out with ⟨rfl, rfl⟩ | rfl
            all_goals
              go_wp2_with fail
              go_meet
              case rel => exact ⟨rfl, rfl⟩
          case rest =>
            obtain ⟨rfl, hw⟩ := hcut
            subst hw
            clear hx3 hy3 hz3
            cases R with
            | true =>
              go_wp2_with (first
                | (go_at_call 24; refine (hnm.out _).mono ?_; rintro e w8 ⟨rfl, rfl⟩)
                | (go_at_call 25; refine (hin.out _).mono ?_; rintro e w9 ⟨rfl, rfl⟩))
              go_ret
              exact ⟨rfl, hB.out⟩
            | false =>
              go_wp2_with (first
                | (go_at_call 24; refine (hnm.out _).mono ?_; rintro e w8 ⟨rfl, rfl⟩)
                | (go_at_call 25; refine (hin.out _).mono ?_; rintro e w9 ⟨rfl, rfl⟩))
              go_ret
              exact ⟨rfl, hB.out⟩
end Go.Proofs.YtefbogmgcihndaaDoor
