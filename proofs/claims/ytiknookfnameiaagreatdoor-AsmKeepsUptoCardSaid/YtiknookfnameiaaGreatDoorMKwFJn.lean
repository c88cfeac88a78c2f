/- The walk of AsmKeeps. -/
import Derived.Test.YtiknookfnameiaaGreatDoorJn41
import Derived.Test.YtiknookfnameiaaGreatDoorJn46
import Derived.Deep.CutRange
import Derived.Deep.RegionHeld3
namespace Go.Proofs.YtiknookfnameiaaGreatDoor
open Go.RowKit WP
set_option linter.unusedSimpArgs false
set_option linter.unusedVariables false
set_option maxRecDepth 100000 in
set_option maxHeartbeats 4000000 in
theorem keeps_any (v : Value) (l : List UInt32) (base times m : Int) (w : World) (hE : AEnv w) (hM : MaxL w m) (hT : ErrT w) (hP : Pow10P w) (hv : Rd w v (vw l)) (nb : base < 4294967296 ∧ 0 ≤ base) (nt : i64B times) :
    Calls Tryz.prog 7 #[v, .int .u32 base, .int .i64 times] w fun e w' => e = .returned (.bool true) ∧ Below w.heap.size w w' := by
  obtain ⟨ao, cap, rfl, hc1, hc2, hW⟩ := hv.words
  obtain ⟨l1, hl1⟩ : ∃ l1, l.take 2048 = l1 := ⟨_, rfl⟩
  obtain ⟨n, hn⟩ : ∃ n, l1.length = n := ⟨_, rfl⟩
  have hn2 : n = min 2048 l.length := by rw [← hn, ← hl1, List.length_take]
  have hv1 : Rd w (.slice ao n cap) (vw l1) := by
    have := rd_take hv n (by omega)
    rw [vw_take, show l.take n = l1 by rw [hn2, ← List.take_take, hl1.symm]; first | simp | skip] at this
    exact this
  have hn3 : n ≤ 2048 := by omega
  have hvl : (vw l1).length = n := by unfold vw; rw [List.length_map, hn]
  replace hvl := Lib.hid hvl
  have hn4 : n ≤ cap := by omega
  obtain ⟨iu, hiu, hzu0, hzu1, hzu2⟩ := info_parts infoU32
  replace hv := Lib.hid hv; replace hv1 := Lib.hid hv1; replace hE := Lib.hid hE; replace hM := Lib.hid hM; replace hT := Lib.hid hT; replace hP := Lib.hid hP
  clear hW hl1
  go_enter Tryz.func7, Tryz.ntmps7
  go_upto_if 39 with fail
  go_cut [0] from 40 to 41 (fun c wx => c = .slice ao n cap ∧ wx = w)
  case first =>
    by_cases hbig : 2048 < l.length
    · have d1 : decide (2048 < (l.length : Int)) = true := decide_eq_true (by omega)
      have d2 : decide ((l.length : Int) > 2048) = true := decide_eq_true (by omega)
      have e1 : n = 2048 := by omega
      have e2 : (2048 : Int) ≤ (cap : Int) := by omega
      subst e1
      clear hn2 hn3 hn4
      go_wp2_with fail
      go_meet
      case rel => exact ⟨rfl, rfl⟩
    · have d1 : decide (2048 < (l.length : Int)) = false := decide_eq_false (by omega)
      have d2 : decide ((l.length : Int) > 2048) = false := decide_eq_false (by omega)
      have e1 : n = l.length := by omega
      go_wp2_with fail
      go_meet
      case rel => exact ⟨by rw [e1], rfl⟩
  case rest =>
    obtain ⟨rfl, hw⟩ := hcut
    obtain rfl := hw.symm
    clear hv hn2 hc1
    go_wp2_with (at_builtin; refine wpList_append_rdK _ rfl _ _ 24 rfl w.heap.size 22 iu (.int .u32 0) 4 Tryz.underlying24 hiu hzu0 hzu1 hzu2 rfl (.slice none 0 0) 0 [] rfl (World.ownsRow_nil _ _ _ _) _ (vw l1) rfl hv1.out ?a1 ?a2 ?a3 (Nat.le_refl _) ?_)
    case a1 => exact vw_oneCell l1
    case a2 => simp only [maxLen]; omega
    case a3 => omega
    intro v1 w1 ho1 hO1
    have b1 : Below w.heap.size w w1 := hO1.below (Nat.le_refl _) (fun k hk => by simp [Value.ownBlock] at hk)
    clear hO1
    replace ho1 := Lib.hid ho1; replace b1 := Lib.hid b1
    obtain ⟨o1, c1, rfl, q1, q2⟩ := own_shape ho1.out
    go_wp2_with fail
    go_loopw [7, 8] (fun vv iv wr => ∃ k : Nat, k ≤ 300 ∧ iv = .int .i64 k ∧ wr.ownsRow w.heap.size 22 1 vv (n + k) (vw l1 ++ List.replicate k wM) ∧ Below w.heap.size w wr) (fun _ iv _ => 300 - (intOf iv).toNat)
    case atStart => exact ⟨0, by omega, rfl, by simpa using ho1.out, b1.out⟩
    case round =>
      obtain ⟨wo, rfl⟩ : ∃ wo, wo = wr := ⟨wr, rfl⟩
      obtain ⟨k, hk, rfl, oq, bq⟩ := hrel
      clear ho1 b1 q1 q2
      by_cases hlt : k < 300
      · 
        as_aux_lemma =>
          have d1 : decide ((k : Int) < 300) = true := decide_eq_true (by omega)
          have i1 : (k : Int) < 300 := by omega
          replace oq := Lib.hid oq; replace bq := Lib.hid bq
          go_wp2_with (at_builtin; refine wpList_append_onto' _ rfl _ _ 24 rfl w.heap.size 22 iu (.int .u32 0) 1 4 Tryz.underlying24 hiu hzu0 hzu1 hzu2 rfl (by decide) _ _ _ rfl (oq.out.alloc _) ⟨wo.heap.size, 0, none⟩ 1 1 [wM] rfl rfl ?b1 ?b2 ?b3 ?b4 ?b5 ?_)
          case b1 => intro j u hu; rw [add_zero']; exact lit_new rfl (by simpa [wM] using hu)
          case b2 => intro u hu; rw [List.mem_singleton.1 hu]; rfl
          case b3 => simp only [maxLen]; omega
          case b4 => omega
          case b5 => have := bq.out.size; simp; omega
          intro v2 w2 ho2 hO2
          have b2 : Below w.heap.size w w2 := (bq.out.alloc bq.out.size _).trans (hO2.below (by have := bq.out.size; simp; omega) (fun j hj => (oq.out.lt j hj).1))
          rw [← List.replicate_succ', Nat.add_assoc] at ho2
          clear hO2
          replace ho2 := Lib.hid ho2; replace b2 := Lib.hid b2
          go_wp2_with fail
          go_roundw
          case rel => exact ⟨k + 1, by omega, by go_num, ho2.out, b2.out⟩
          case measure => simp [intOf]; omega
      · obtain rfl : k = 300 := by omega
        clear hlt hk
        obtain ⟨N, hN⟩ : ∃ N, n + 300 = N := ⟨_, rfl⟩
        rw [hN] at oq
        obtain ⟨g, c, rfl, hgB, hgS⟩ := oq.form (by omega)
        obtain ⟨_, _, hsv, q1, q2⟩ := own_shape oq
        simp only [Value.slice.injEq, true_and] at hsv
        obtain ⟨rfl, rfl⟩ := hsv
        have hrp := rd_own oq hvl.out
        have hwr : ∀ k, k < 300 → (vw l1 ++ List.replicate 300 wM)[n + k]? = some (.int .u32 4276993775) := by
          intro k hk
          rw [List.getElem?_append_right (by rw [hvl.out]; omega), hvl.out, show n + k - n = k by omega, List.getElem?_replicate, if_pos hk]; rfl
        have hpr := print_all (.slice (some ⟨g, 0, none⟩) n c) l1 base wo (hE.out.later bq).tabs (pow10P_later hP.out bq) hrp
        have e1 : prS l1 = strS (printL l1 (l1.length + 1)) := by unfold prS; rw [if_pos (by omega)]
        have e2 : prE l1 = 0 := by unfold prE; rw [if_pos (by omega)]
        rw [e1, e2] at hpr
        have hbd := print_bd l1 (by omega)
        have hrd := read_print base l1 (by omega) hbd
        obtain ⟨labs, hlabs⟩ : ∃ labs, labsTo l1 (l1.length + 1) = labs := ⟨_, rfl⟩
        obtain ⟨ints, hints⟩ : ∃ ints, (List.range l1.length).map (wAt l1) = ints := ⟨_, rfl⟩
        have hwi : wi ints = vw l1 := by rw [← hints]; exact wi_words l1
        have hil : ints.length = n := by rw [← hints]; simp [hn]
        obtain ⟨P, hPl⟩ : ∃ P, printL l1 (l1.length + 1) = P := ⟨_, rfl⟩
        rw [hlabs, hints] at hrd
        rw [hPl] at hpr hbd hrd
        have hsz : (strS P).size = P.length := by unfold strS; rw [ByteArray.size]; simp
        rw [show (⟨P.toArray⟩ : ByteArray) = strS P from rfl] at hrd
        obtain ⟨S, hS⟩ : ∃ S, strS P = S := ⟨_, rfl⟩
        rw [hS] at hrd hpr hsz
        have hSz : S.size ≤ 65536 := by omega
        have e3 : wordsR (.inl (ints, labs)) = .inl (n, wi ints) := by unfold wordsR; simp only [hil]
        have has := fun (W : World) (hb : Below w.heap.size w W) => assemble_any S base m W (hE.out.later hb) (maxl_later hM.out hb) (hT.out.later hb) (by omega) nb
        rw [hrd, e3] at has
        have j1 : (n : Int) ≤ (c : Int) := by omega
        have j2 : n ≤ c := by omega
        clear hrd hPl hints hlabs e1 e2 e3 hbd hS hsz hrp
        replace hpr := Lib.hid hpr; replace has := Lib.hid has; replace oq := Lib.hid oq; replace bq := Lib.hid bq; replace hwi := Lib.hid hwi; replace hil := Lib.hid hil; replace hSz := Lib.hid hSz; replace hn := Lib.hid hn
        go_wp2_with fail
        refine hpr.out.mono ?_
        rintro e w2 ⟨b2, rfl⟩
        have B2 := bq.out.trans (b2.mono bq.out.size)
        have oq2 := own_below oq.out b2
        replace B2 := Lib.hid B2; replace b2 := Lib.hid b2; replace oq2 := Lib.hid oq2
        clear hpr oq
        go_wp2_with fail
        replace hwr := Lib.hid hwr
        go_loopw [11] (fun iv wr => ∃ k : Nat, k ≤ 300 ∧ iv = .int .i64 ((n + k : Nat) : Int) ∧ Below w2.heap.size w2 wr) (fun iv _ => N - (intOf iv).toNat)
        case atStart => exact ⟨0, by omega, rfl, Below.refl _ _⟩
        case round =>
          obtain ⟨k, hk, rfl, br⟩ := hrel
          obtain ⟨j, hj⟩ : ∃ j, n + k = j := ⟨_, rfl⟩
          rw [hj]
          by_cases hlt : k < 300
          · 
            as_aux_lemma =>
              have hw0 := hwr.out k hlt
              rw [hj] at hw0
              have hcl := ((own_below oq2.out br).cellAt j (by omega)).trans hw0
              clear hw0
              have d1 : decide ((j : Int) < (N : Int)) = true := decide_eq_true (by omega)
              have i1 : (0 : Int) ≤ (j : Int) := by omega
              have i2 : (j : Int) < (N : Int) := by omega
              replace br := Lib.hid br; replace hj := Lib.hid hj; replace hN := Lib.hid hN
              go_wp2_with fail
              go_roundw
              case rel => exact ⟨k + 1, by omega, by have := hj.out; go_num, br.out⟩
              case measure => simp [intOf]; omega
          · have d1 : decide ((j : Int) < (N : Int)) = false := decide_eq_false (by omega)
            have d3 : ¬ ((j : Int) < (N : Int)) := by omega
            obtain ⟨w3, rfl⟩ : ∃ w3, w3 = wr := ⟨wr, rfl⟩
            have B3 := B2.out.trans (br.mono B2.out.size)
            have oq3 := own_below oq2.out br
            have hr3 := rd_own oq3 hvl.out
            rw [← hwi.out] at hr3
            have hv3 : Rd w3 (.slice ao n cap) (wi ints) := by rw [hwi.out]; exact hv1.out.mono B3
            have hsm := asame_any _ _ ints w3 hr3 hv3
            have hfi := fun (W : World) (hb : Below w.heap.size w W) => first_any m W (hE.out.later hb) (maxl_later hM.out hb) (hT.out.later hb)
            clear hr3 hv3 b2 B2 oq2 hwr hlt hk br hj
            replace B3 := Lib.hid B3; replace oq3 := Lib.hid oq3; replace hsm := Lib.hid hsm; replace hfi := Lib.hid hfi; replace hN := Lib.hid hN
            go_wp2_with fail
            refine hsm.out.mono ?_
            rintro e w4 ⟨rfl, b4⟩
            have B4 := B3.out.trans (b4.mono B3.out.size)
            have oq4 := own_below oq3.out b4
            replace B4 := Lib.hid B4; replace oq4 := Lib.hid oq4
            clear b4 hsm oq3 B3
            go_wp2_with fail
            refine (hfi.out w4 B4.out).mono ?_
            rintro e w5 ⟨rfl, b5⟩
            have B5 := B4.out.trans (b5.mono B4.out.size)
            have oq5 := own_below oq4.out b5
            replace B5 := Lib.hid B5; replace oq5 := Lib.hid oq5
            clear b5 hfi oq4 B4
            obtain ⟨bb, hbb⟩ : ∃ bb, decide (0 < n) = bb := ⟨_, rfl⟩
            go_upto_if 91 with fail
            go_cut [12] from 92 to 135 (fun _ wx => Below w.heap.size w wx)
            case first =>
              as_aux_lemma =>
                cases bb
                case true =>
                  have hn0 : 0 < n := of_decide_eq_true hbb
                  clear hbb
                  obtain ⟨h, hh⟩ : ∃ h, n / 2 = h := ⟨_, rfl⟩
                  have i1 : (0 : Int) ≤ (h : Int) := by omega
                  have i2 : (h : Int) < (N : Int) := by have := hN.out; omega
                  have i3 : (n : Int) / 2 = (h : Int) := by omega
                  have i4 : (n : Int).tdiv 2 = (h : Int) := by rw [Int.tdiv_eq_ediv_of_nonneg (by omega)]; exact i3
                  have hcl := oq5.out.cellAt h (by have := hN.out; omega)
                  have hfr := oq5.out.frozenAt h
                  have hx : (vw l1 ++ List.replicate 300 wM)[h]? = some (.int .u32 (wAt l1 h)) := by
                    rw [List.getElem?_append_left (by rw [hvl.out]; omega)]
                    exact vw_get l1 h (by rw [hn.out]; omega)
                  rw [hx] at hcl
                  have hxb := wAt_bd l1 h
                  obtain ⟨x, hxx⟩ : ∃ x, wAt l1 h = x := ⟨_, rfl⟩
                  rw [hxx] at hcl hxb
                  clear hh hxx hx
                  obtain ⟨y, hy⟩ : ∃ y, bits BinOp.xor IntKind.u32 (if IntKind.u32.signed = true then -1 else IntKind.u32.max) x = y := ⟨_, rfl⟩
                  have hyb := bits_within .xor .u32 (if IntKind.u32.signed = true then -1 else IntKind.u32.max) x
                  rw [hy] at hyb
                  obtain ⟨hst, htt⟩ := oq5.out.stored h (.int .u32 y)
                  obtain ⟨l2, hl2⟩ : ∃ l2, l1.set h (UInt32.ofNat y.toNat) = l2 := ⟨_, rfl⟩
                  have hvl2 := vw_set l1 h y hyb.1 hyb.2
                  rw [hl2] at hvl2
                  have hl2n : l2.length = n := by rw [← hl2, List.length_set, hn.out]
                  rw [List.set_append_left _ _ (by rw [hvl.out]; omega), hvl2] at hst
                  have T6 := Touch.grown (S := [.slice (some ⟨g, 0, none⟩) N c]) (v := .slice (some ⟨g, 0, none⟩) N c) htt (by simp)
                  have B6 := B5.out.trans (T6.below B5.out.size (fun v hv k hk => by rw [List.mem_singleton.1 hv] at hk; simp only [Value.ownBlock, Option.some.injEq] at hk; omega))
                  have hr6 := rd_own hst (by unfold vw; rw [List.length_map, hl2n])
                  have hpr := print_all (.slice (some ⟨g, 0, none⟩) n c) l2 base _ (hE.out.later B6).tabs (pow10P_later hP.out B6) hr6
                  have e2 : prE l2 = 0 := by unfold prE; rw [if_pos (by omega)]
                  obtain ⟨Z, hZ⟩ : ∃ Z, prS l2 = Z := ⟨_, rfl⟩
                  rw [e2, hZ] at hpr
                  replace hst := Lib.hid hst; replace B6 := Lib.hid B6; replace hr6 := Lib.hid hr6; replace hpr := Lib.hid hpr; replace hy := Lib.hid hy
                  replace hl2n := Lib.hid hl2n; replace hvl2 := Lib.hid hvl2
                  clear htt T6 hl2
                  go_upto_region 19 with fail
                  rw [hy.out]
                  obtain ⟨w6, hw6⟩ : ∃ w6, w5.setCell ⟨g, h, none⟩ (.int .u32 y) = w6 := ⟨_, rfl⟩
                  rw [hw6] at hst B6 hr6 hpr ⊢
                  clear hw6 hcl hfr
                  go_wp2_with fail
                  refine hpr.out.mono ?_
                  rintro e w7 ⟨b7, rfl⟩
                  have B7 := B6.out.trans (b7.mono B6.out.size)
                  have hr7 := hr6.out.mono b7
                  replace B7 := Lib.hid B7; replace hr7 := Lib.hid hr7
                  clear hpr b7 B6 hr6 hst
                  go_wp2_with (at_builtin; refine wpList_append_rdK _ rfl _ _ 24 rfl w.heap.size 22 iu (.int .u32 0) 4 Tryz.underlying24 hiu hzu0 hzu1 hzu2 rfl (.slice none 0 0) 0 [] rfl (World.ownsRow_nil _ _ _ _) _ (vw l2) rfl hr7.out (vw_oneCell l2) ?c1 ?c2 B7.out.size ?_)
                  case c1 => have := hl2n.out; simp [vw, maxLen]; omega
                  case c2 => have := hl2n.out; simp [vw]; omega
                  intro v8 w8 ho8 hO8
                  have b8 : Below w7.heap.size w7 w8 := hO8.below (Nat.le_refl _) (fun k hk => by simp [Value.ownBlock] at hk)
                  have B8 := B7.out.trans (b8.mono B7.out.size)
                  have hr8 : Rd w8 v8 (vw l2) := by
                    have := ho8
                    first | exact Rd.of_own this | (simp only [List.nil_append] at this; exact Rd.of_own this)
                  have hpr8 := print_all v8 l2 base w8 (hE.out.later B8).tabs (pow10P_later hP.out B8) hr8
                  rw [e2, hZ] at hpr8
                  obtain ⟨o8, c8, rfl, _, _⟩ := own_shape ho8
                  replace B8 := Lib.hid B8; replace hpr8 := Lib.hid hpr8
                  clear ho8 hO8 b8 hr8 B7 hr7 e2 hZ
                  go_wp2_with fail
                  refine hpr8.out.mono ?_
                  rintro e w9 ⟨b9, rfl⟩
                  have B9 := B8.out.trans (b9.mono B8.out.size)
                  replace B9 := Lib.hid B9
                  clear hpr8 b9 B8
                  go_wp2_with fail
                  go_meet
                  case rel => exact B9.out
                case false =>
                  clear hbb
                  go_wp2_with fail
                  go_meet
                  case rel => exact B5.out
            case rest =>
              clear oq5 B5 hbb
              replace hcut := Lib.hid hcut
              obtain ⟨ws, hws⟩ := lab_read
              have hlr : labsR (readM 0 labT) = .inl (4, lab4) := by rw [hws]; rfl
              have hla := fun (W : World) (hb : Below w.heap.size w W) => labels_any labT m W (hE.out.later hb) (maxl_later hM.out hb) (hT.out.later hb) (by decide)
              rw [hlr] at hla
              have hwi2 := fun W => kwithin_any times W nt
              obtain ⟨H, hH⟩ : ∃ H, 2 + md times 5 = H := ⟨_, rfl⟩
              have hH6 : H ≤ 6 := by have := md_lt times 5 (by decide); omega
              rw [hH] at hwi2
              replace hla := Lib.hid hla; replace hwi2 := Lib.hid hwi2
              clear hH hlr hws
              go_wp2_with fail
              go_loopw [17, 18, 19, 20] (fun vB vN vL tv wr => ∃ (r : Nat) (E : List KEnt), 2 * r ≤ H + 1 ∧ tv = .int .i64 ((2 * r : Nat) : Int) ∧ E.length = 2 * r ∧ KBook w.heap.size wr vB vN vL n E ∧ Below w.heap.size w wr) (fun _ _ _ tv _ => H + 2 - (intOf tv).toNat)
              case atStart => exact ⟨0, [], by omega, rfl, rfl, KBook.nil _ _ _, hcut.out⟩
              case round =>
                obtain ⟨wz, rfl⟩ : ∃ wz, wz = wr := ⟨wr, rfl⟩
                obtain ⟨vB, rfl⟩ : ∃ vB, vB = u17 := ⟨u17, rfl⟩
                obtain ⟨vN, rfl⟩ : ∃ vN, vN = u18 := ⟨u18, rfl⟩
                obtain ⟨vL, rfl⟩ : ∃ vL, vL = u19 := ⟨u19, rfl⟩
                obtain ⟨r, E, hr, rfl, hEr, hbk, hbz⟩ := hrel
                clear hcut
                obtain ⟨t, ht⟩ : ∃ t, 2 * r = t := ⟨_, rfl⟩
                rw [ht] at hr hEr ⊢
                have hbzs := hbz.size
                replace hbk := Lib.hid hbk; replace hbz := Lib.hid hbz; replace hEr := Lib.hid hEr; replace ht := Lib.hid ht
                by_cases hlt : t < H
                · have d5 : decide ((t : Int) < (H : Int)) = true := decide_eq_true (by omega)
                  go_upto_region 31 with fail
                  refine (hwi2.out wz).mono ?_
                  rintro e wq ⟨rfl, hwq⟩
                  obtain rfl := hwq.symm
                  go_wp2_with fail
                  clear d5
                  go_loopw [21, 22, 23] (fun vT vA kv wr => ∃ ps : List (Value × Value), ps.length ≤ 2 ∧ kv = .int .i64 (ps.length : Nat) ∧ KTwo wz.heap.size wr vT vA n (vw l1) (lab4) ps ∧ Below wz.heap.size wz wr) (fun _ _ kv _ => 2 - (intOf kv).toNat)
                  case atStart => exact ⟨[], by simp, rfl, KTwo.nil _ _ _ _ _, Below.refl _ _⟩
                  case round =>
                    obtain ⟨wy, rfl⟩ : ∃ wy, wy = wr := ⟨wr, rfl⟩
                    obtain ⟨vT, rfl⟩ : ∃ vT, vT = u21 := ⟨u21, rfl⟩
                    obtain ⟨vA, rfl⟩ : ∃ vA, vA = u22 := ⟨u22, rfl⟩
                    obtain ⟨ps, hp2, rfl, h2, hb2⟩ := hrel
                    obtain ⟨k, hk⟩ : ∃ k, ps.length = k := ⟨_, rfl⟩
                    rw [hk] at hp2 ⊢
                    have hb2s := hb2.size
                    have By := hbz.out.trans (hb2.mono hbzs)
                    replace hk := Lib.hid hk; replace h2 := Lib.hid h2; replace hb2 := Lib.hid hb2; replace By := Lib.hid By
                    by_cases hlt2 : k < 2
                    · 
                      as_aux_lemma =>
                        have d6 : decide ((k : Int) < 2) = true := decide_eq_true (by omega)
                        have hA := has.out wy By.out
                        replace hA := Lib.hid hA
                        go_wp2_with fail
                        refine hA.out.mono ?_
                        rintro e w1 ⟨b1, lv, rfl, ol⟩
                        unfold fltV
                        obtain ⟨w2, hw2, hR2, b2⟩ := flt_new w1 (.int .i64 0) (.int .i64 0) (.int .i64 0)
                        have B2 := By.out.trans ((b1.trans (b2.mono b1.size)).mono By.out.size)
                        have hL := hla.out w2 B2
                        have ol2 := ol.later b2
                        have b12 := b1.trans (b2.mono b1.size)
                        replace hL := Lib.hid hL; replace b12 := Lib.hid b12; replace ol2 := Lib.hid ol2; replace hw2 := Lib.hid hw2; replace hR2 := Lib.hid hR2; replace B2 := Lib.hid B2
                        obtain ⟨al, cl, rfl⟩ := ol.form
                        clear ol hA b1 b2
                        go_upto_region 37 with fail
                        rw [hw2.out]
                        clear hw2
                        go_wp2_with fail
                        refine hL.out.mono ?_
                        rintro e w3 ⟨b3, av, rfl, oa⟩
                        unfold fltV
                        obtain ⟨w4, hw4, hR4, b4⟩ := flt_new w3 (.int .i64 0) (.int .i64 0) (.int .i64 0)
                        have b34 := b3.trans (b4.mono b3.size)
                        have hR24 := (b34.block _ (Array.getElem?_eq_some_iff.1 hR2.out).1).trans hR2.out
                        have ol4 := ol2.out.later b34
                        have oa4 := oa.later b4
                        have b14 := b12.out.trans (b34.mono b12.out.size)
                        have B4 := B2.out.trans (b34.mono B2.out.size)
                        obtain ⟨ga, rfl⟩ := oa4.some (by decide)
                        have hr4 := ol4.rd
                        have hsm := asame_any _ (.slice ao n cap) ints w4 hr4 (by rw [hwi.out]; exact hv1.out.mono B4)
                        replace hsm := Lib.hid hsm; replace hR24 := Lib.hid hR24; replace hR4 := Lib.hid hR4; replace ol4 := Lib.hid ol4; replace oa4 := Lib.hid oa4; replace b14 := Lib.hid b14; replace B4 := Lib.hid B4; replace hw4 := Lib.hid hw4
                        have z0 : w4.cell? ⟨w1.heap.size, 0, none⟩ = some (.int .i64 0) := cell_of_row _ _ _ _ _ _ hR24.out
                        have fla : ∀ kk, (Value.slice al n cl).ownBlock = some kk → kk < w2.heap.size := fun kk h => (ol2.out.lt kk h).2
                        have gaw : w2.heap.size ≤ ga := (oa.lt ga rfl).1
                        replace fla := Lib.hid fla
                        have s12 := b12.out.size
                        clear hL b3 b4 b34 oa hr4 hR2 B2 b12 ol2
                        go_upto_region 38 with fail
                        rw [hw4.out]
                        clear hw4
                        go_wp2_with fail
                        refine hsm.out.mono ?_
                        rintro e w5 ⟨rfl, b5⟩
                        have hR5 := (b5.block _ (Array.getElem?_eq_some_iff.1 hR4.out).1).trans hR4.out
                        have oa5 := oa4.out.later b5
                        have ol5 := ol4.out.later b5
                        have b15 := b14.out.trans (b5.mono b14.out.size)
                        have z1 : w5.cell? ⟨w3.heap.size, 0, none⟩ = some (.int .i64 0) := cell_of_row _ _ _ _ _ _ hR5
                        have y0 : w5.cell? ⟨ga, 0, none⟩ = some (.string ⟨#[112]⟩) := (oa5.cellAt 0 (by decide)).1
                        have y4 : w5.cell? ⟨ga, 4, none⟩ = some (.string ⟨#[114]⟩) := (oa5.cellAt 4 (by decide)).1
                        have y5 : w5.cell? ⟨ga, 5, none⟩ = some (.int .i64 1) := (oa5.cellAt 5 (by decide)).1
                        have y7 : w5.cell? ⟨ga, 7, none⟩ = some (.int .i64 2) := (oa5.cellAt 7 (by decide)).1
                        have h5 := h2.out.below b15
                        have s5 := b15.size
                        replace oa5 := Lib.hid oa5; replace ol5 := Lib.hid ol5; replace b15 := Lib.hid b15; replace h5 := Lib.hid h5
                        clear hsm b5 hR5 hR4 hR24 B4 oa4 ol4 b14 z0
                        go_upto_region 40 with fail
                        clear y0 y4 y5 y7 z1
                        obtain ⟨iw, hiw, hzw0, hzw1, hzw2⟩ := info_parts infoRowW
                        obtain ⟨il, hil2, hzl0, hzl1, hzl2⟩ := info_parts infoRowL
                        go_upto_region 41 with (at_builtin; refine wpList_append_onto' _ rfl _ _ 63 rfl wz.heap.size 24 iw (.slice none 0 0) 1 24 Tryz.underlying63 hiw hzw0 hzw1 hzw2 rfl (by decide) vT k (ps.map (·.1)) rfl (by rw [← hk.out]; exact h5.out.rT.alloc _) ⟨w5.heap.size, 0, none⟩ 1 1 [.slice al n cl] rfl rfl (fun j u hu => by rw [add_zero']; exact lit_new rfl (by simpa using hu)) (fun u hu => by rw [List.mem_singleton.1 hu]; rfl) ?g3 ?g4 ?g5 ?_)
                        case g3 => simp only [maxLen]; omega
                        case g4 => omega
                        case g5 => simp; omega
                        intro vT' w6 ho6 hO6
                        have T6 : Touch [vT] w5 w6 := Touch.alloc1 (Touch.onto hO6 (by simp))
                        have N6 : Near w5 vT vT' := hO6.2.imp id fun h k' hk' => Nat.le_trans (by simp) (h k' hk')
                        have s6 := T6.size
                        have hrA6 : w6.ownsRow wz.heap.size 37 1 vA k (ps.map (·.2)) := by
                          rw [← hk.out]; exact T6.own h5.out.rA (fun s hs => by rw [List.mem_singleton.1 hs]; exact h5.out.fTA.symm)
                        replace hrA6 := Lib.hid hrA6; replace T6 := Lib.hid T6; replace N6 := Lib.hid N6; replace ho6 := Lib.hid ho6
                        clear hO6
                        go_wp2_with (at_builtin; refine wpList_append_onto' _ rfl _ _ 61 rfl wz.heap.size 37 il (.slice none 0 0) 1 24 Tryz.underlying61 hil2 hzl0 hzl1 hzl2 rfl (by decide) vA k (ps.map (·.2)) rfl (hrA6.out.alloc _) ⟨w6.heap.size, 0, none⟩ 1 1 [.slice (some ⟨ga, 0, none⟩) 4 4] rfl rfl (fun j u hu => by rw [add_zero']; exact lit_new rfl (by simpa using hu)) (fun u hu => by rw [List.mem_singleton.1 hu]; rfl) ?h3 ?h4 ?h5 ?_)
                        case h3 => simp only [maxLen]; omega
                        case h4 => omega
                        case h5 => simp; omega
                        intro vA' w7 ho7 hO7
                        have T7 : Touch [vA] w6 w7 := Touch.alloc1 (Touch.onto hO7 (by simp))
                        have N7 : Near w6 vA vA' := hO7.2.imp id fun h k' hk' => Nat.le_trans (by simp) (h k' hk')
                        have hadd := KTwo.add h2.out hb2s b15.out (by have h := ol5.out; rw [hwi.out] at h; exact h) (oa5.out.low (by omega)) (fun kk e1 e2 => by have := fla.out kk e1; simp only [Value.ownBlock, Option.some.injEq] at e2; omega) T6.out (by rw [hk.out]; exact ho6.out) N6.out T7 (by rw [hk.out]; exact ho7) N7
                        have hb7 := hb2.out.trans hadd.2
                        replace hadd := Lib.hid hadd; replace hb7 := Lib.hid hb7
                        clear ho7 hO7 T7 N7 ho6 T6 N6 hrA6 h5 ol5 oa5 b15
                        go_wp2_with fail
                        go_roundw
                        case rel => exact ⟨ps ++ [(.slice al n cl, .slice (some ⟨ga, 0, none⟩) 4 4)], by simp [hk.out]; omega, by simp [hk.out], hadd.out.1, hb7.out⟩
                        case measure => simp [intOf]; omega
                    · obtain rfl : k = 2 := by omega
                      have hbk2 := hbk.out.below hb2.out
                      have htd := KTwo.todo h2.out hbzs hbk.out
                      obtain ⟨gT, cT, rfl, t1, t2⟩ := reads_form htd.rT (by rw [hk.out]; decide)
                      obtain ⟨gA, cA, rfl, t3, t4⟩ := reads_form htd.rA (by rw [hk.out]; decide)
                      rw [hk.out] at t1 t3
                      rw [hk.out] at htd h2 ⊢
                      rw [show ((2 : Nat) : Int) = 2 from rfl]
                      replace hbk2 := Lib.hid hbk2; replace htd := Lib.hid htd
                      clear h2 hlt2 hp2
                      go_wp2_with fail
                      go_loopw [17, 18, 19, 28] (fun yB yN yL kv wr => ∃ (E2 : List KEnt) (k : Nat), k ≤ 2 ∧ kv = .int .i64 (k : Int) ∧ E2.length = t + k ∧ KBook w.heap.size wr yB yN yL n E2 ∧ KTodo w.heap.size wr yB yN yL (.slice (some ⟨gT, 0, none⟩) 2 cT) (.slice (some ⟨gA, 0, none⟩) 2 cA) n E2 (vw l1) (lab4) ps (ps.drop k) ∧ Below w.heap.size w wr) (fun _ _ _ kv _ => 2 - (intOf kv).toNat)
                      case atStart => exact ⟨E, 0, by omega, rfl, by rw [hEr.out]; rfl, hbk2.out, htd.out, By.out⟩
                      case round =>
                        clear htd hbk2 By hb2 hb2s
                        obtain ⟨wx, rfl⟩ : ∃ wx, wx = wr := ⟨wr, rfl⟩
                        obtain ⟨yB, rfl⟩ : ∃ yB, yB = u17 := ⟨u17, rfl⟩
                        obtain ⟨yN, rfl⟩ : ∃ yN, yN = u18 := ⟨u18, rfl⟩
                        obtain ⟨yL, rfl⟩ : ∃ yL, yL = u19 := ⟨u19, rfl⟩
                        obtain ⟨E2, k, hk2, rfl, hE2, hkb, htd, hbx⟩ := hrel
                        have hbxs := hbx.size
                        by_cases hlt3 : k < 2
                        · 
                          as_aux_lemma =>
                            obtain ⟨⟨lv, av⟩, hpr2⟩ : ∃ pr, ps[k]'(by rw [hk.out]; exact hlt3) = pr := ⟨_, rfl⟩
                            have hdrop : ps.drop k = (lv, av) :: ps.drop (k + 1) := by rw [List.drop_eq_getElem_cons (by rw [hk.out]; exact hlt3), hpr2]
                            have hgk : ps[k]? = some (lv, av) := by rw [List.getElem?_eq_getElem (by rw [hk.out]; exact hlt3), hpr2]
                            rw [hdrop] at htd
                            obtain ⟨ol, oa⟩ := htd.own (lv, av) (by simp)
                            dsimp only at ol oa
                            have eT : wx.cell? ⟨gT, k, none⟩ = some lv := reads_cell htd.rT (by rw [List.getElem?_map, hgk]; rfl)
                            have eA : wx.cell? ⟨gA, k, none⟩ = some av := reads_cell htd.rA (by rw [List.getElem?_map, hgk]; rfl)
                            obtain ⟨al, cl, rfl⟩ := ol.form
                            obtain ⟨ga, rfl⟩ := oa.some (by decide)
                            have i1 : (0 : Int) ≤ (k : Int) := by omega
                            have i2 : (k : Int) < 2 := by omega
                            obtain ⟨q, hq⟩ : ∃ q, t + k = q := ⟨_, rfl⟩
                            rw [hq] at hE2
                            have hq2 : (t : Int) + (k : Int) = (q : Int) := by omega
                            have hq8 : q ≤ 8 := by omega
                            obtain ⟨mk, hmk⟩ : ∃ mk : Int, ((q + 7 : Nat) : Int) = mk := ⟨_, rfl⟩
                            have hq3 : (q : Int) + 7 = mk := by omega
                            have hmk2 : 0 ≤ mk ∧ mk < 4294967296 := by omega
                            have hmk3 : IntKind.u32.wrap mk = mk := by rw [IntKind.wrap_u32]; omega
                            replace hpr2 := Lib.hid hpr2; replace hdrop := Lib.hid hdrop; replace htd := Lib.hid htd; replace hkb := Lib.hid hkb; replace hbx := Lib.hid hbx; replace hE2 := Lib.hid hE2; replace hmk := Lib.hid hmk; replace ol := Lib.hid ol; replace oa := Lib.hid oa; replace hgk := Lib.hid hgk; replace hq := Lib.hid hq
                            go_upto_region 48 with fail
                            obtain ⟨w1, hw1⟩ : ∃ w1, wx.alloc (.cells #[.slice al n cl, .slice none 0 0, .int .u32 mk] 65) = w1 := ⟨_, rfl⟩
                            have hH1 : w1.heap[wx.heap.size]? = some (.cells #[.slice al n cl, .slice none 0 0, .int .u32 mk] 65 (0, 0)) := by rw [← hw1]; exact heap_alloc_new _ _
                            have b1 : Below wx.heap.size wx w1 := by rw [← hw1]; exact (Below.refl _ _).alloc (Nat.le_refl _) _
                            have ol1 := ol.out.later b1
                            have hlx : ∀ kk, (Value.slice al n cl).ownBlock = some kk → kk < wx.heap.size := fun kk h => (ol.out.lt kk h).2
                            rw [hw1]
                            replace hw1 := Lib.hid hw1; replace hH1 := Lib.hid hH1; replace hlx := Lib.hid hlx; replace ol1 := Lib.hid ol1
                            clear b1 eT eA hpr2 hgk i1 i2 hq2 hq3 hmk3
                            go_wp2_with fail
                            go_loopw [32] (fun iv wr => ∃ i : Nat, i ≤ n ∧ iv = .int .i64 (i : Int) ∧ OutW wr w.heap.size 22 1 (.slice al n cl) n (List.replicate i (.int .u32 mk) ++ (vw l1).drop i) ∧ Touch [.slice al n cl] w1 wr) (fun iv _ => n - (intOf iv).toNat)
                            case atStart => exact ⟨0, by omega, rfl, by simpa using ol1.out, Touch.refl _ _⟩
                            case round =>
                              clear ol1
                              obtain ⟨wv, rfl⟩ : ∃ wv, wv = wr := ⟨wr, rfl⟩
                              obtain ⟨i, hi, rfl, oi, ti⟩ := hrel
                              by_cases hlt4 : i < n
                              · 
                                as_aux_lemma =>
                                  obtain ⟨gl, hv⟩ := oi.some (by omega)
                                  simp only [Value.slice.injEq, true_and] at hv
                                  obtain ⟨rfl, hcl⟩ := hv
                                  have hcl' := hcl.symm
                                  subst hcl'
                                  have hHi := (ti.block _ (Array.getElem?_eq_some_iff.1 hH1.out).1 (fun v hv e => by rw [List.mem_singleton.1 hv] at e; have := hlx.out _ e; omega)).trans hH1.out
                                  have m2 : wv.cell? ⟨wx.heap.size, 2, none⟩ = some (.int .u32 mk) := cell_of_row _ _ _ _ _ _ hHi
                                  obtain ⟨y, hy⟩ := get_fill (.int .u32 mk) (vw l1) i (by rw [hvl.out]; exact hlt4)
                                  have hcq := (oi.cellAt i (by omega)).1.trans hy
                                  have hfq := (oi.cellAt i (by omega)).2
                                  have hst := oi.stored i (.int .u32 mk)
                                  rw [set_fill _ _ _ (by rw [hvl.out]; exact hlt4)] at hst
                                  have x1 : (0 : Int) ≤ (i : Int) := by omega
                                  have x2 : (i : Int) < (n : Int) := by omega
                                  replace hst := Lib.hid hst; replace ti := Lib.hid ti
                                  clear oi hy hHi
                                  go_wp2_with fail
                                  go_roundw
                                  case rel => exact ⟨i + 1, by omega, by go_num, hst.out.1, ti.out.trans hst.out.2⟩
                                  case measure => simp [intOf]; omega
                              · obtain rfl : n = i := by omega
                                rw [fill_all _ _ _ hvl.out] at oi
                                have hHi := (ti.block _ (Array.getElem?_eq_some_iff.1 hH1.out).1 (fun v hv e => by rw [List.mem_singleton.1 hv] at e; have := hlx.out _ e; omega)).trans hH1.out
                                have m2 : wv.cell? ⟨wx.heap.size, 2, none⟩ = some (.int .u32 mk) := cell_of_row _ _ _ _ _ _ hHi
                                replace oi := Lib.hid oi; replace ti := Lib.hid ti
                                clear hlt4 hHi hi
                                go_upto_region 53 with (at_builtin; refine wpList_append_out _ rfl _ _ 24 rfl w.heap.size 22 iu (.int .u32 0) 1 4 Tryz.underlying24 hiu hzu0 hzu1 hzu2 rfl (by decide) (.slice al n cl) n (List.replicate n (.int .u32 mk)) rfl (oi.out.later ((Below.refl _ _).alloc (Nat.le_refl _) _)) ⟨wv.heap.size, 0, none⟩ 1 1 [.int .u32 mk] rfl rfl (fun j u hu => by rw [add_zero']; exact lit_new rfl (by simpa using hu)) (fun u hu => by rw [List.mem_singleton.1 hu]; rfl) (by decide) ?j3 ?j4 ?_)
                                case j3 => simp only [maxLen]; omega
                                case j4 => omega
                                intro ml w5 hml hb5
                                have hb6 : Below wv.heap.size wv w5 := ((Below.refl _ _).alloc (Nat.le_refl _) _).trans (hb5.mono (by simp))
                                obtain ⟨k1, k2, k3, k4, k5, k6, k7⟩ := mark_done ol.out hw1.out ti.out oi.out hb6 hml (by simp)
                                obtain ⟨om, cm, rfl, _, _⟩ := own_shape hml
                                replace k3 := Lib.hid k3; replace k4 := Lib.hid k4; replace k5 := Lib.hid k5; replace k6 := Lib.hid k6; replace k7 := Lib.hid k7
                                clear hml hb5 hb6 oi ti m2
                                go_upto_region 53 with fail
                                obtain ⟨w6, hw6⟩ : ∃ w6, w5.setCell ⟨wx.heap.size, 1, none⟩ (.slice om (n + 1) cm) = w6 := ⟨_, rfl⟩
                                rw [hw6] at k3 k4 k5 k6 ⊢
                                clear hw6 k1 k2 hw1 hH1
                                have m0 : w6.cell? ⟨wx.heap.size, 0, none⟩ = some (.slice al n cl) := cell_of_row _ _ _ _ _ _ k3.out
                                have m1 : w6.cell? ⟨wx.heap.size, 1, none⟩ = some (.slice om (n + 1) cm) := cell_of_row _ _ _ _ _ _ k3.out
                                have m2 : w6.cell? ⟨wx.heap.size, 2, none⟩ = some (.int .u32 mk) := cell_of_row _ _ _ _ _ _ k3.out
                                obtain ⟨lB, lN, lL, lT, lA, lE⟩ := htd.out.off (.slice al n cl) (by simp [valsT])
                                obtain ⟨aB, aN, aL, aT, aA, aE⟩ := htd.out.off (.slice (some ⟨ga, 0, none⟩) 4 4) (by simp [valsT])
                                have la : Far (.slice al n cl) (.slice (some ⟨ga, 0, none⟩) 4 4) := by
                                  have h := htd.out.far
                                  rw [show valsT ((Value.slice al n cl, Value.slice (some ⟨ga, 0, none⟩) 4 4) :: ps.drop (k + 1)) = (.slice al n cl) :: (.slice (some ⟨ga, 0, none⟩) 4 4) :: valsT (ps.drop (k + 1)) from rfl, List.pairwise_cons] at h
                                  exact h.1 _ (by simp)
                                obtain ⟨ih, hih, hzh0, hzh1, hzh2⟩ := info_parts infoHeld6
                                obtain ⟨il, hil2, hzl0, hzl1, hzl2⟩ := info_parts infoRowL
                                have oB6 : w6.ownsRow w.heap.size 65 3 yB q (rowK E2) := by rw [← hE2.out]; exact k4.out.own hkb.out.rB (far1 lB.symm)
                                have s6 := k4.out.size
                                replace lB := Lib.hid lB; replace lN := Lib.hid lN; replace lL := Lib.hid lL; replace aB := Lib.hid aB; replace aN := Lib.hid aN; replace aL := Lib.hid aL; replace la := Lib.hid la; replace oB6 := Lib.hid oB6
                                clear lT lA lE aT aA aE
                                go_upto_region 54 with (at_builtin; refine wpList_append_onto' _ rfl _ _ 60 rfl w.heap.size 65 ih (.agg #[.slice none 0 0, .slice none 0 0, .int .u32 0]) 3 56 Tryz.underlying60 hih hzh0 hzh1 hzh2 rfl (by decide) yB q (rowK E2) rfl (oB6.out.alloc _) ⟨w6.heap.size, 0, none⟩ 1 1 [.slice al n cl, .slice om (n + 1) cm, .int .u32 mk] rfl rfl (fun j u hu => by rw [add_zero']; exact lit_new rfl (by simpa using hu)) (fun u hu => by simp only [List.mem_cons, List.not_mem_nil, or_false] at hu; rcases hu with rfl | rfl | rfl <;> rfl) ?l3 ?l4 ?l5 ?_)
                                case l3 => simp only [maxLen]; omega
                                case l4 => omega
                                case l5 => simp; omega
                                intro yB' w7 ho7 hO7
                                have T7 : Touch [yB] w6 w7 := Touch.alloc1 (Touch.onto hO7 (by simp))
                                have N7 : Near w6 yB yB' := hO7.2.imp id fun h k' hk' => Nat.le_trans (by simp) (h k' hk')
                                have oa7 := (oa.out.touch k4.out (far1 la.out.symm)).touch T7 (far1 aB.out)
                                have s7 := T7.size
                                replace ho7 := Lib.hid ho7; replace T7 := Lib.hid T7; replace N7 := Lib.hid N7; replace oa7 := Lib.hid oa7
                                clear hO7 oB6 m0 m1 m2 k3
                                go_wp2_with fail
                                go_loopw [33] (fun iv wr => ∃ i : Nat, i ≤ 4 ∧ iv = .int .i64 (i : Int) ∧ OutW wr w.heap.size 44 2 (.slice (some ⟨ga, 0, none⟩) 4 4) 4 (fillL q lab4 i) ∧ Touch [.slice (some ⟨ga, 0, none⟩) 4 4] w7 wr) (fun iv _ => 4 - (intOf iv).toNat)
                                case atStart => exact ⟨0, by omega, rfl, oa7.out, Touch.refl _ _⟩
                                case round =>
                                  clear oa7
                                  obtain ⟨w8, rfl⟩ : ∃ w8, w8 = wr := ⟨wr, rfl⟩
                                  obtain ⟨i, hi, rfl, oi, ti⟩ := hrel
                                  by_cases hlt5 : i < 4
                                  · 
                                    as_aux_lemma =>
                                      obtain ⟨y0, hy0⟩ := get_fillL q lab4 i 0 (by rw [lab4_len]; omega)
                                      obtain ⟨y1, hy1⟩ := get_fillL q lab4 i 1 (by rw [lab4_len]; omega)
                                      have hc0 := (oi.cellAt (i * 2 + 0) (by omega)).1.trans hy0
                                      have hc1 := (oi.cellAt (i * 2 + 1) (by omega)).1.trans hy1
                                      have hf0 := (oi.cellAt (i * 2 + 0) (by omega)).2
                                      have hf1 := (oi.cellAt (i * 2 + 1) (by omega)).2
                                      rw [Nat.add_zero] at hc0 hf0
                                      have hs0 := oi.stored (i * 2) (.string ⟨#[35]⟩)
                                      have hs1 := hs0.1.stored (i * 2 + 1) (.int .i64 (q : Int))
                                      rw [set_fillL q lab4 i (by rw [lab4_len]; omega)] at hs1
                                      have ht2 := ti.trans (hs0.2.trans hs1.2)
                                      have ho2 := hs1.1
                                      have x1 : (0 : Int) ≤ (i : Int) := by omega
                                      have x2 : (i : Int) < 4 := by omega
                                      have hq2 : (t : Int) + (k : Int) = (q : Int) := by have := hq.out; omega
                                      replace ht2 := Lib.hid ht2; replace ho2 := Lib.hid ho2
                                      clear hs0 hs1 oi ti hy0 hy1
                                      go_wp2_with fail
                                      go_roundw
                                      case rel => exact ⟨i + 1, by omega, by go_num, ho2.out, ht2.out⟩
                                      case measure => simp [intOf]; omega
                                  · obtain rfl : i = 4 := by omega
                                    rw [fillL_all q lab4 4 lab4_len] at oi
                                    have oN8 : w8.ownsRow w.heap.size 37 1 yN q (E2.map (·.na)) := by
                                      rw [← hE2.out]
                                      exact ti.own (T7.out.own (k4.out.own hkb.out.rN (far1 lN.out.symm)) (far1 hkb.out.f12.symm)) (far1 aN.out.symm)
                                    have s8 := ti.size
                                    replace oN8 := Lib.hid oN8; replace oi := Lib.hid oi; replace ti := Lib.hid ti
                                    clear hlt5 hi
                                    go_upto_region 59 with (at_builtin; refine wpList_append_onto' _ rfl _ _ 61 rfl w.heap.size 37 il (.slice none 0 0) 1 24 Tryz.underlying61 hil2 hzl0 hzl1 hzl2 rfl (by decide) yN q (E2.map (·.na)) rfl (oN8.out.alloc _) ⟨w8.heap.size, 0, none⟩ 1 1 [.slice (some ⟨ga, 0, none⟩) 4 4] rfl rfl (fun j u hu => by rw [add_zero']; exact lit_new rfl (by simpa using hu)) (fun u hu => by rw [List.mem_singleton.1 hu]; rfl) ?m3 ?m4 ?m5 ?_)
                                    case m3 => simp only [maxLen]; omega
                                    case m4 => omega
                                    case m5 => simp; omega
                                    intro yN' w9 ho9 hO9
                                    have T9 : Touch [yN] w8 w9 := Touch.alloc1 (Touch.onto hO9 (by simp))
                                    have N9 : Near w8 yN yN' := hO9.2.imp id fun h k' hk' => Nat.le_trans (by simp) (h k' hk')
                                    have oa9 := oi.out.touch T9 (far1 aN.out)
                                    have s9 := T9.size
                                    obtain ⟨ib, hib, hzb0, hzb1, hzb2⟩ := info_parts infoLab
                                    replace ho9 := Lib.hid ho9; replace T9 := Lib.hid T9; replace N9 := Lib.hid N9; replace oa9 := Lib.hid oa9
                                    clear hO9 oN8
                                    go_wp2_with fail
                                    go_loopw [30, 34] (fun av iv wr => ∃ i : Nat, i ≤ 40 ∧ iv = .int .i64 (i : Int) ∧ Below w9.heap.size w9 wr ∧ ((i = 0 ∧ av = .slice (some ⟨ga, 0, none⟩) 4 4 ∧ wr = w9) ∨ (0 < i ∧ wr.ownsRow w9.heap.size 44 2 av (4 + i) (labK (4 + i) q)))) (fun _ iv _ => 40 - (intOf iv).toNat)
                                    case atStart => exact ⟨0, by omega, rfl, Below.refl _ _, .inl ⟨rfl, rfl, rfl⟩⟩
                                    case round =>
                                      obtain ⟨w10, rfl⟩ : ∃ w10, w10 = wr := ⟨wr, rfl⟩
                                      obtain ⟨i, hi, rfl, b10, hdis⟩ := hrel
                                      by_cases hlt6 : i < 40
                                      · 
                                        as_aux_lemma =>
                                          have x2 : (i : Int) < 40 := by omega
                                          have hq2 : (t : Int) + (k : Int) = (q : Int) := by have := hq.out; omega
                                          rcases hdis with ⟨rfl, rfl, hw10⟩ | ⟨hi0, hown⟩
                                          · obtain rfl := hw10.symm
                                            clear b10
                                            go_wp2_with (at_builtin; refine wpList_append_out _ rfl _ _ 37 rfl w.heap.size 44 ib (.agg #[.string ⟨#[]⟩, .int .i64 0]) 2 24 Tryz.underlying37 hib hzb0 hzb1 hzb2 rfl (by decide) (.slice (some ⟨ga, 0, none⟩) 4 4) 4 (labK 4 q) rfl (oa9.out.later ((Below.refl _ _).alloc (Nat.le_refl _) _)) ⟨w9.heap.size, 0, none⟩ 1 1 [.string ⟨#[35]⟩, .int .i64 (q : Int)] rfl rfl (fun j u hu => by rw [add_zero']; exact lit_new rfl (by simpa using hu)) (fun u hu => by simp only [List.mem_cons, List.not_mem_nil, or_false] at hu; rcases hu with rfl | rfl <;> rfl) (by decide) ?n3 ?n4 ?_)
                                            case n3 => simp only [maxLen]; omega
                                            try case n4 => omega
                                            intro av2 w11 ho11 hb11
                                            have b11 : Below w9.heap.size w9 w11 := ((Below.refl _ _).alloc (Nat.le_refl _) _).trans (hb11.mono (by simp))
                                            have ho12 := own_base ho11 (show w9.heap.size ≤ _ by simp)
                                            rw [← labK_succ] at ho12
                                            replace b11 := Lib.hid b11; replace ho12 := Lib.hid ho12
                                            clear ho11 hb11
                                            go_wp2_with fail
                                            go_roundw
                                            case rel => exact ⟨1, by omega, by go_num, b11.out, .inr ⟨by omega, ho12.out⟩⟩
                                            case measure => simp [intOf]
                                          · have s10 := b10.size
                                            replace hown := Lib.hid hown; replace b10 := Lib.hid b10
                                            go_wp2_with (at_builtin; refine wpList_append_onto' _ rfl _ _ 37 rfl w9.heap.size 44 ib (.agg #[.string ⟨#[]⟩, .int .i64 0]) 2 24 Tryz.underlying37 hib hzb0 hzb1 hzb2 rfl (by decide) _ (4 + i) (labK (4 + i) q) rfl (hown.out.alloc _) ⟨w10.heap.size, 0, none⟩ 1 1 [.string ⟨#[35]⟩, .int .i64 (q : Int)] rfl rfl (fun j u hu => by rw [add_zero']; exact lit_new rfl (by simpa using hu)) (fun u hu => by simp only [List.mem_cons, List.not_mem_nil, or_false] at hu; rcases hu with rfl | rfl <;> rfl) ?o3 ?o4 ?o5 ?_)
                                            case o3 => simp only [maxLen]; omega
                                            case o4 => omega
                                            case o5 => simp; omega
                                            intro av2 w11 ho11 hO11
                                            have b11 : Below w9.heap.size w9 w11 := (b10.out.alloc s10 _).trans (hO11.below (by simp; omega) (fun j hj => (hown.out.lt j hj).1))
                                            rw [← labK_succ] at ho11
                                            replace b11 := Lib.hid b11; replace ho11 := Lib.hid ho11
                                            clear hO11
                                            go_wp2_with fail
                                            go_roundw
                                            case rel => exact ⟨i + 1, by omega, by go_num, b11.out, .inr ⟨by omega, ho11.out⟩⟩
                                            case measure => simp [intOf]; omega
                                      · obtain rfl : i = 40 := by omega
                                        replace hdis := hdis.resolve_left (fun h => by omega)
                                        obtain ⟨_, hlo⟩ := hdis
                                        obtain ⟨olo, clo, rfl, _, _⟩ := own_shape hlo
                                        have s10 := b10.size
                                        have oL10 : w10.ownsRow w.heap.size 37 1 yL q (E2.map (·.lo)) := by
                                          rw [← hE2.out]
                                          have h9 := T9.out.own (ti.out.own (T7.out.own (k4.out.own hkb.out.rL (far1 lL.out.symm)) (far1 hkb.out.f13.symm)) (far1 aL.out.symm)) (far1 hkb.out.f23.symm)
                                          exact own_below h9 b10
                                        replace oL10 := Lib.hid oL10; replace hlo := Lib.hid hlo; replace b10 := Lib.hid b10
                                        clear hlt6 hi
                                        go_wp2_with (at_builtin; refine wpList_append_onto' _ rfl _ _ 61 rfl w.heap.size 37 il (.slice none 0 0) 1 24 Tryz.underlying61 hil2 hzl0 hzl1 hzl2 rfl (by decide) yL q (E2.map (·.lo)) rfl (oL10.out.alloc _) ⟨w10.heap.size, 0, none⟩ 1 1 [.slice olo 44 clo] rfl rfl (fun j u hu => by rw [add_zero']; exact lit_new rfl (by simpa using hu)) (fun u hu => by rw [List.mem_singleton.1 hu]; rfl) ?p3 ?p4 ?p5 ?_)
                                        case p3 => simp only [maxLen]; omega
                                        case p4 => omega
                                        case p5 => simp; omega
                                        intro yL' w11 ho11 hO11
                                        have T11 : Touch [yL] w10 w11 := Touch.alloc1 (Touch.onto hO11 (by simp))
                                        have N11 : Near w10 yL yL' := hO11.2.imp id fun h k' hk' => Nat.le_trans (by simp) (h k' hk')
                                        have emk : mkV E2.length = .int .u32 mk := by unfold mkV; rw [hE2.out, hmk.out]
                                        have hstep := KBook.step (vB' := yB') (vN' := yN') (vL' := yL') (ml := .slice om (n + 1) cm) (lo := .slice olo 44 clo) hkb.out htd.out hbxs k4.out (by rw [emk]; exact k5.out) (by rw [emk]; exact k6.out) k7.out T7.out (by rw [hE2.out, show mkV q = .int .u32 mk by rw [← hE2.out]; exact emk]; exact ho7.out) N7.out ti.out (by rw [hE2.out]; exact oi.out.reads) T9.out (by rw [hE2.out]; exact ho9.out) N9.out b10.out (by rw [hE2.out]; exact Reads.of_own hlo.out) (fun kk hkk => (hlo.out.lt kk hkk).1) T11 (by rw [hE2.out]; exact ho11) N11
                                        have hbf := hbx.out.trans hstep.2.2
                                        obtain ⟨hS1, hS2, _⟩ := hstep
                                        replace hS1 := Lib.hid hS1; replace hS2 := Lib.hid hS2; replace hbf := Lib.hid hbf
                                        clear emk ho11 hO11 T11 N11 oL10 hlo b10 ho9 T9 N9 oa9 ti oi ho7 T7 N7 k4 k5 k6 k7
                                        go_wp2_with fail
                                        go_roundw
                                        case rel => exact ⟨E2 ++ [⟨.slice al n cl, .slice om (n + 1) cm, .slice (some ⟨ga, 0, none⟩) 4 4, .slice olo 44 clo, E2.length⟩], k + 1, by omega, by go_num, by rw [List.length_append, hE2.out, List.length_singleton]; have := hq.out; omega, hS1.out, hS2.out, hbf.out⟩
                                        case measure => simp [intOf]; omega
                        · obtain rfl : k = 2 := by omega
                          obtain ⟨q, hq⟩ : ∃ q, t + 2 = q := ⟨_, rfl⟩
                          rw [hq] at hE2
                          rw [show ((2 : Nat) : Int) = 2 from rfl]
                          clear htd hlt3 hk2
                          obtain ⟨gB, cB, rfl, _, _⟩ := hkb.rB.form (by omega)
                          obtain ⟨gN, cN, rfl, _, _⟩ := hkb.rN.form (by omega)
                          obtain ⟨gL, cL, rfl, _, _⟩ := hkb.rL.form (by omega)
                          obtain ⟨_, _, hsv, p1, p2⟩ := own_shape hkb.rB
                          simp only [Value.slice.injEq, true_and] at hsv
                          obtain ⟨rfl, rfl⟩ := hsv
                          obtain ⟨_, _, hsv, p3, p4⟩ := own_shape hkb.rN
                          simp only [Value.slice.injEq, true_and] at hsv
                          obtain ⟨rfl, rfl⟩ := hsv
                          obtain ⟨_, _, hsv, p5, p6⟩ := own_shape hkb.rL
                          simp only [Value.slice.injEq, true_and] at hsv
                          obtain ⟨rfl, rfl⟩ := hsv
                          rw [hE2] at p1 p3 p5 hkb ⊢
                          have hq9 : q ≤ 8 := by omega
                          have hqt : (q : Int) = (t : Int) + 2 := by omega
                          replace hkb := Lib.hid hkb; replace hbx := Lib.hid hbx; replace hE2 := Lib.hid hE2; replace hq := Lib.hid hq; replace hqt := Lib.hid hqt
                          go_wp2_with fail
                          go_loopw [35] (fun jv wr => ∃ j : Nat, j ≤ q ∧ jv = .int .i64 (j : Int) ∧ Below wx.heap.size wx wr) (fun jv _ => q - (intOf jv).toNat)
                          case atStart => exact ⟨0, by omega, rfl, Below.refl _ _⟩
                          case round =>
                            obtain ⟨wv, rfl⟩ : ∃ wv, wv = wr := ⟨wr, rfl⟩
                            obtain ⟨j, hj, rfl, bv⟩ := hrel
                            by_cases hlt7 : j < q
                            · have d7 : decide ((j : Int) ≤ (t : Int) + 1) = true := decide_eq_true (by have := hqt.out; omega)
                              have i1 : (0 : Int) ≤ (j : Int) := by omega
                              have i2 : (j : Int) < (q : Int) := by omega
                              have hjE : j < E2.length := by rw [hE2.out]; exact hlt7
                              obtain ⟨hrd, hjk, f0, f1, f2, f3, f4⟩ := KBook.at_ (hkb.out.below bv) j hjE
                              obtain ⟨⟨el, eml, ena, elo, ek⟩, hee⟩ : ∃ ee, E2[j] = ee := ⟨_, rfl⟩
                              rw [hee] at hrd hjk f0 f1 f3 f4
                              dsimp only at hrd hjk f0 f1 f3 f4
                              subst hjk
                              obtain ⟨rl, rml, rna, rlo⟩ := hrd
                              dsimp only at rl rml rna rlo
                              have hst := kstays_any el eml n ek wv rl rml
                              unfold mkV at hst f2
                              obtain ⟨gna, cna, rfl, n1, n2⟩ := reads_form rna (by decide)
                              obtain ⟨glo, clo, rfl, n3, n4⟩ := reads_form rlo (by decide)
                              have hbv := hbx.out.trans (bv.mono hbxs)
                              have hsv := bv.size
                              replace hst := Lib.hid hst; replace rna := Lib.hid rna; replace rlo := Lib.hid rlo; replace bv := Lib.hid bv; replace hbv := Lib.hid hbv; replace hee := Lib.hid hee
                              clear rl rml
                              as_aux_lemma =>
                                go_upto_region 67 with fail
                                go_wp2_with fail
                                refine hst.out.mono ?_
                                rintro e wq ⟨rfl, bs⟩
                                replace bs := Lib.hid bs
                                clear f0 f1 f2 hst d7
                                go_wp2_with fail
                                go_loopw [36] (fun iv wr => ∃ i : Nat, i ≤ 44 ∧ iv = .int .i64 (i : Int) ∧ Below wv.heap.size wv wr) (fun iv _ => 44 - (intOf iv).toNat)
                                case atStart => exact ⟨0, by omega, rfl, bs.out⟩
                                case round =>
                                  clear bs
                                  obtain ⟨wu, rfl⟩ : ∃ wu, wu = wr := ⟨wr, rfl⟩
                                  obtain ⟨i, hi, rfl, bu⟩ := hrel
                                  by_cases hlt8 : i < 44
                                  · have x1 : (0 : Int) ≤ (i : Int) := by omega
                                    have x2 : (i : Int) < 44 := by omega
                                    have g4 := (bu.cell (p := ⟨gL, ek, none⟩) (World.block_lt_of_cell? wv _ f4)).trans f4
                                    have g3 := (bu.cell (p := ⟨gN, ek, none⟩) (World.block_lt_of_cell? wv _ f3)).trans f3
                                    obtain ⟨c0, c1⟩ := kcell rlo.out bu hlt8
                                    by_cases h4 : i < 4
                                    · have x3 : decide ((i : Int) < 4) = true := decide_eq_true (by omega)
                                      have x4 : (i : Int) < 4 := by omega
                                      obtain ⟨c2, c3⟩ := kcell rna.out bu h4
                                      replace bu := Lib.hid bu
                                      go_wp2_with fail
                                      go_roundw
                                      case rel => exact ⟨i + 1, by omega, by go_num, bu.out⟩
                                      case measure => simp [intOf]; omega
                                    · have x3 : decide ((i : Int) < 4) = false := decide_eq_false (by omega)
                                      have x4 : ¬ (i : Int) < 4 := by omega
                                      replace bu := Lib.hid bu
                                      go_wp2_with fail
                                      go_roundw
                                      case rel => exact ⟨i + 1, by omega, by go_num, bu.out⟩
                                      case measure => simp [intOf]; omega
                                  · obtain rfl : i = 44 := by omega
                                    have bq := bv.out.trans (bu.mono hsv)
                                    replace bq := Lib.hid bq
                                    clear hlt8 hi bu
                                    go_wp2_with fail
                                    go_roundw
                                    case rel => exact ⟨ek + 1, by omega, by go_num, bq.out⟩
                                    case measure => simp [intOf]; omega
                            · obtain rfl : j = q := by omega
                              have d7 : decide ((j : Int) ≤ (t : Int) + 1) = false := decide_eq_false (by have := hqt.out; omega)
                              have d8 : ¬ (j : Int) ≤ (t : Int) + 1 := by have := hqt.out; omega
                              have hkz := hkb.out.below bv
                              have hbq := hbx.out.trans (bv.mono hbxs)
                              replace hkz := Lib.hid hkz; replace hbq := Lib.hid hbq; replace bv := Lib.hid bv
                              clear hlt7 hj
                              go_wp2_with fail
                              go_roundw
                              case rel => exact ⟨r + 1, E2, by have := ht.out; omega, by have := ht.out; go_num, by rw [hE2.out]; have := ht.out; have := hq.out; omega, hkz.out, hbq.out⟩
                              case measure => simp [intOf]; omega
                · 
                  as_aux_lemma =>
                    have d5 : decide ((t : Int) < (H : Int)) = false := decide_eq_false (by omega)
                    go_wp2_with fail
                    refine (hwi2.out wz).mono ?_
                    rintro e wq ⟨rfl, hwq⟩
                    obtain rfl := hwq.symm
                    go_wp2_with fail
                    go_ret
                    exact ⟨rfl, hbz.out⟩
end Go.Proofs.YtiknookfnameiaaGreatDoor
