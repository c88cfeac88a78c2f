/- The contract of a digest's end. -/
import Derived.Test.YtemanjahkohcpaaGreatDoorJn05
namespace Go.Proofs.YtemanjahkohcpaaGreatDoor
open Go.RowKit WP
/-- how many zeros behind n words, so that 14 words of a block are full -/
def padK (n : Nat) : Nat := (30 - n % 16) % 16
def endL (L : List UInt32) (x y : Int) : List UInt32 := L ++ [ofI x] ++ List.replicate (padK (L.length + 1)) 0 ++ [ofI (y / 4294967296), ofI (y % 4294967296)]
theorem endL_len (L : List UInt32) (x y : Int) : (endL L x y).length % 16 = 0 := by
  simp only [endL, List.length_append, List.length_cons, List.length_nil, List.length_replicate, padK]
  omega
theorem own_base' {w : World} {base base' : Nat} {e : TypeId} {size n : Nat} {v : Value} {xs : List Value} (h : w.ownsRow base e size v n xs) (hb : base' ≤ base) : w.ownsRow base' e size v n xs := by
  refine ⟨h.1, ?_⟩
  rcases h.2 with hn | ⟨g, cap, cur, rfl, hbg, hgg, rest⟩
  · exact .inl hn
  · exact .inr ⟨g, cap, cur, rfl, Nat.le_trans hb hbg, hgg, rest⟩
theorem own_shape' {w : World} {base : Nat} {e : TypeId} {v : Value} {n : Nat} {xs : List Value} (h : w.ownsRow base e 1 v n xs) : ∃ ao ca, v = .slice ao n ca ∧ n ≤ ca ∧ ca ≤ 9223372036854775807 := by
  rcases h.2 with ⟨rfl, h0⟩ | ⟨g, cap, cur, rfl, _, _, h1, h2, _⟩
  · exact ⟨none, 0, by rw [h0], by omega, by decide⟩
  · exact ⟨_, _, rfl, h1, h2⟩
set_option maxRecDepth 100000 in
set_option maxHeartbeats 4000000 in
theorem end_any (KL S L : List UInt32) (n x y : Int) (v : Value) (g : Nat) (w : World) (hK : Rounds w KL) (hd : Dig w g S n v) (hv : Rd w v (vw L)) (hL : L.length ≤ 4294967296) (hx1 : 0 ≤ x) (hx2 : x ≤ 4294967295) (hy1 : 0 ≤ y) (hy2 : y ≤ 18446744073709551615) :
    Calls Tryz.prog 119 #[.pointer (some ⟨g, 0, none⟩), .int .u32 x, .int .u64 y] w fun e w' => e = .returned (.agg (vw (foldB KL S (endL L x y))).toArray) ∧ Below w.heap.size w w' := by
  obtain ⟨i0, hi, hz0, hz1, hz2⟩ := info_parts info22
  obtain ⟨ov, cv, rfl, v1, v2, v3⟩ := hv.words
  clear v3
  replace hd := Lib.hid hd; replace hK := Lib.hid hK; replace hv := Lib.hid hv
  go_enter Tryz.func119, Tryz.ntmps119
  go_upto_region 1 with fail
  change Code.wp _ _ _ _ (w.alloc (.cells (vw (List.replicate 8 0)).toArray 26))
  obtain ⟨w1, hw1⟩ : ∃ w1, w.alloc (.cells (vw (List.replicate 8 0)).toArray 26) = w1 := ⟨_, rfl⟩
  have aR1 : Arr w1 w.heap.size 26 (List.replicate 8 0) := by rw [← hw1]; exact Arr.new _ _ _
  have hb1 : Below w.heap.size w w1 := by rw [← hw1]; exact (Below.refl _ _).alloc (Nat.le_refl _) _
  have hz : w1.heap.size = w.heap.size + 1 := by rw [← hw1]; simp
  have hd1 := hd.out.below hb1
  have hK1 := hK.out.below hb1
  have hv1 := hv.out.mono hb1
  rw [hw1]
  have hgw := hd.out.lt
  have h3w := hK.out.1
  clear hw1 hd hK hv
  have cw : w1.drew.cell? ⟨g, 9, none⟩ = _ := hd1.cw
  have hvF := hv1.full
  have lL := length_vw L
  have hx : vw [ofI x] = [.int .u32 x] := by simp [vw, ofI_val x hx1 hx2]
  replace lL := Lib.hid lL; replace hd1 := Lib.hid hd1; replace hK1 := Lib.hid hK1; replace hv1 := Lib.hid hv1; replace hvF := Lib.hid hvF; replace aR1 := Lib.hid aR1; replace hb1 := Lib.hid hb1; replace hx := Lib.hid hx; replace hz := Lib.hid hz
  go_cut [7] from 9 to 26 (fun lv wx => wx.ownsRow (w.heap.size + 1) 25 1 lv (L.length + 1) (vw (L ++ [ofI x])) ∧ Below w1.heap.size w1 wx)
  case first =>
    -- BIG
    have cw2 : (w1.alloc (.cells #[.int .u32 x] 25)).drew.cell? ⟨g, 9, none⟩ = some (.slice ov L.length cv) := (hd1.out.alloc _).cw
    have cw3 : (w1.drew.alloc (.cells #[.int .u32 x] 25)).cell? ⟨g, 9, none⟩ = some (.slice ov L.length cv) := (hd1.out.drew.alloc _).cw
    have hrx : Rd ((w1.alloc (.cells #[.int .u32 x] 25)).drew) (.slice (some ⟨w1.heap.size, 0, none⟩) 1 1) [.int .u32 x] := (Rd.new w1 [.int .u32 x] 25 (0, 0) (by simp [maxLen])).kept fun _ _ _ => rfl
    replace hrx := Lib.hid hrx
    go_region_law (refine step_append_fresh _ (by rfl) _ _ _ (by rfl) 25 i0 (.int .u32 0) 4 Tryz.underlying111 hi hz0 hz1 hz2 rfl ov L.length (vw L) (by rfl) ((hvF.out.alloc _).kept fun _ _ _ => rfl) _ [.int .u32 x] (by rfl) hrx.out (by simp [Value.oneCell']) (by simp) (by simp only [maxLen, List.length_cons, List.length_nil]; omega) (by simp only [List.length_cons, List.length_nil]; omega) ?_; intro lv w3 ho3 b3)
    all_goals
      go_wp2_with fail
      go_meet
      case rel => exact ⟨by rw [vw_append, hx.out]; exact own_base' ho3 (by have := hz.out; simp; omega), (((Below.refl _ w1).alloc (Nat.le_refl _) _).drew).trans (b3.mono (by simp))⟩
    -- GIB
  case rest =>
    obtain ⟨ho2, b2⟩ := hcut
    obtain ⟨w2, rfl⟩ : ∃ w2, w2 = wc := ⟨wc, rfl⟩
    have hd2 := hd1.out.below b2
    have hK2 := hK1.out.below b2
    have aR2 := aR1.out.below b2
    have hb2 := hb1.out.trans (b2.mono hb1.out.size)
    have hs2 : w.heap.size + 1 ≤ w2.heap.size := by have := hz.out; have := b2.size; omega
    clear b2 hd1 hK1 aR1 hb1 hv1 hvF lL cw hx hz
    obtain ⟨N, hN⟩ : ∃ N, L.length + 1 = N := ⟨_, rfl⟩
    rw [hN] at ho2
    have hNb : N ≤ 4294967297 := by omega
    have hN1 : 1 ≤ N := by omega
    have hp : padK N ≤ 15 := by unfold padK; omega
    have hpm : (N + padK N) % 16 = 14 := by unfold padK; omega
    have hpl : ∀ k, k < padK N → (N + k) % 16 ≠ 14 := by intro k hk; unfold padK at hk; omega
    have hE : endL L x y = (L ++ ofI x :: List.replicate (padK N) 0) ++ [ofI (y / 4294967296), ofI (y % 4294967296)] := by rw [← hN]; simp [endL]
    generalize padK N = K at *
    replace hd2 := Lib.hid hd2; replace hK2 := Lib.hid hK2; replace aR2 := Lib.hid aR2; replace hb2 := Lib.hid hb2; replace ho2 := Lib.hid ho2; replace hE := Lib.hid hE; replace hN := Lib.hid hN; replace hpl := Lib.hid hpl; replace hpm := Lib.hid hpm
    go_wp2_with fail
    go_loopw [7] (fun lv wr => ∃ k : Nat, k ≤ K ∧ wr.ownsRow (w.heap.size + 1) 25 1 lv (N + k) (vw (L ++ ofI x :: List.replicate k 0)) ∧ Dig wr g S n (.slice ov L.length cv) ∧ Rounds wr KL ∧ Arr wr w.heap.size 26 (List.replicate 8 0) ∧ Below w.heap.size w wr ∧ w.heap.size + 1 ≤ wr.heap.size) (fun lv _ => N + K - sliceLen lv)
    case atStart => exact ⟨0, by omega, by simpa using ho2.out, hd2.out, hK2.out, aR2.out, hb2.out, hs2⟩
    case round =>
      obtain ⟨k, hk, ho, hd, hKr, aR, hb, hs⟩ := hrel
      obtain ⟨gl, cl, rfl, q1, q2⟩ := ho.form (by omega)
      by_cases hlt : k < K
      · have hne : ((((N + k : Nat) : Int) % 16) != 14) = true := by have := hpl.out k hlt; simp; omega
        have hst := Lib.hid (show vw (L ++ ofI x :: List.replicate (k + 1) 0) = vw (L ++ ofI x :: List.replicate k 0) ++ [.int .u32 0] by rw [List.replicate_succ', ← List.cons_append, ← List.append_assoc, vw_append]; rfl)
        replace ho := Lib.hid ho; replace hd := Lib.hid hd; replace hKr := Lib.hid hKr; replace aR := Lib.hid aR; replace hb := Lib.hid hb
        go_wp2_with (at_builtin; refine wpList_append_onto' _ rfl _ _ 111 rfl (w.heap.size + 1) 25 i0 (.int .u32 0) 1 4 Tryz.underlying111 hi hz0 hz1 hz2 rfl (by decide) _ _ _ rfl (ho.out.alloc _) ⟨wr.heap.size, 0, none⟩ 1 1 [.int .u32 0] rfl rfl ?c1 ?c2 ?c3 ?c4 ?c5 ?_)
        try (case c1 => exact cells_new _ _ _ _)
        case c2 => simp [Value.oneCell']
        case c3 => simp only [maxLen]; omega
        case c4 => omega
        case c5 => simp; omega
        intro v1 w3 ho1 hO1
        have hfin : w3.ownsRow (w.heap.size + 1) 25 1 v1 (N + (k + 1)) (vw (L ++ ofI x :: List.replicate (k + 1) 0)) := by rw [hst.out]; exact ho1
        have hO2 := Onto.alloc _ hO1 (fun j hj => (ho.out.lt j hj).2)
        have e1 := hO2.1
        have hd3 := hd.out.grown e1 (by simp [Value.ownBlock]; omega)
        have hK3 := hKr.out.grown e1 (by simp [Value.ownBlock]; omega)
        have aR3 := aR.out.grown e1 (by simp [Value.ownBlock]; omega)
        have hb3 := hb.out.grown e1 hb.out.size (by simp [Value.ownBlock]; omega)
        have hs3 := e1.size
        have hv3 := own_shape' hfin
        obtain ⟨o3, c3, rfl, _, _⟩ := hv3
        clear ho1 hO1 hO2 e1
        replace hfin := Lib.hid hfin; replace hd3 := Lib.hid hd3; replace hK3 := Lib.hid hK3; replace aR3 := Lib.hid aR3; replace hb3 := Lib.hid hb3
        go_wp2
        go_roundw
        case rel => exact ⟨k + 1, by omega, hfin.out, hd3.out, hK3.out, aR3.out, hb3.out, by omega⟩
        case measure => simp [sliceLen]; omega
      · obtain rfl : k = K := by omega
        have hne : ((((N + k : Nat) : Int) % 16) != 14) = false := by have := hpm.out; simp; omega
        have hv := Lib.hid (show vw [ofI (y / 4294967296), ofI (y % 4294967296)] = [.int .u32 (y / 4294967296), .int .u32 (y % 4294967296)] by simp [vw, ofI_val _ (show 0 ≤ y / 4294967296 by omega) (show y / 4294967296 ≤ 4294967295 by omega), ofI_val _ (show 0 ≤ y % 4294967296 by omega) (show y % 4294967296 ≤ 4294967295 by omega)])
        have y1 : y / 4294967296 ≤ 4294967295 := by omega
        have y2 : 0 ≤ y / 4294967296 := by omega
        replace ho := Lib.hid ho; replace hd := Lib.hid hd; replace hKr := Lib.hid hKr; replace aR := Lib.hid aR; replace hb := Lib.hid hb
        go_wp2_with (at_builtin; refine wpList_append_onto' _ rfl _ _ 111 rfl (w.heap.size + 1) 25 i0 (.int .u32 0) 1 4 Tryz.underlying111 hi hz0 hz1 hz2 rfl (by decide) _ _ _ rfl (ho.out.alloc _) ⟨wr.heap.size, 0, none⟩ 2 2 [.int .u32 (y / 4294967296), .int .u32 (y % 4294967296)] rfl rfl ?c1 ?c2 ?c3 ?c4 ?c5 ?_)
        try (case c1 => exact cells_new _ _ _ _)
        case c2 => simp [Value.oneCell']
        case c3 => simp only [maxLen]; omega
        case c4 => omega
        case c5 => simp; omega
        intro v1 w3 ho1 hO1
        have hfin : w3.ownsRow (w.heap.size + 1) 25 1 v1 (N + k + 2) (vw (endL L x y)) := by rw [hE.out, vw_append, hv.out]; exact ho1
        have hO2 := Onto.alloc _ hO1 (fun j hj => (ho.out.lt j hj).2)
        have e1 := hO2.1
        have hd3 := hd.out.grown e1 (by simp [Value.ownBlock]; omega)
        have hK3 := hKr.out.grown e1 (by simp [Value.ownBlock]; omega)
        have aR3 := aR.out.grown e1 (by simp [Value.ownBlock]; omega)
        have hb3 := hb.out.grown e1 hb.out.size (by simp [Value.ownBlock]; omega)
        have hs3 := e1.size
        have hl3 := Rd.of_own hfin
        have hlt3 := hfin.lt
        obtain ⟨o3, c3, rfl, _, _⟩ := own_shape' hfin
        have hEm := endL_len L x y
        have hEl : (endL L x y).length ≤ 8589934592 := by
          have := hfin.1; simp only [length_vw] at this; omega
        obtain ⟨E, hEE⟩ : ∃ E, endL L x y = E := ⟨_, rfl⟩
        rw [hEE] at hl3 hEm hEl
        replace hEE := Lib.hid hEE
        have aN : Arr (w3.alloc (.cells (vw (List.replicate 8 0)).toArray 26)) w3.heap.size 26 (List.replicate 8 0) := Arr.new _ _ _
        have hst := hd3.st
        have lS := hd3.len
        have hvl : ∀ j, (Value.slice o3 (N + k + 2) c3).ownBlock = some j → j < w3.heap.size := fun j hj => (hlt3 j hj).2
        clear ho1 hO1 hO2 e1 hE hfin hlt3 hv hN hpm hpl ho hd hKr aR hb hd3 hne
        replace hK3 := Lib.hid hK3; replace aR3 := Lib.hid aR3; replace hb3 := Lib.hid hb3; replace hl3 := Lib.hid hl3; replace hEm := Lib.hid hEm; replace hEl := Lib.hid hEl; replace aN := Lib.hid aN; replace hst := Lib.hid hst; replace lS := Lib.hid lS; replace hvl := Lib.hid hvl
        go_wp2_with (first
          | (refine wpList_load_mid rfl 26 _ rfl g 0 rfl (vw S) _ hst.out Tryz.underlying26 rfl (by rw [info23]; simp [lS.out]) ?_)
          | (refine wpList_store_arr rfl 26 _ _ rfl w3.heap.size rfl S rfl aN.out info23 (by simp) lS.out ?_; intro w4 aX g4; have hK4 := (hK3.out.below ((Below.refl w3.heap.size w3).alloc (Nat.le_refl _) (.cells (vw (List.replicate 8 0)).toArray 26))).grown g4 (by simp; omega); have aR4 := (aR3.out.alloc (.cells (vw (List.replicate 8 0)).toArray 26)).grown g4 (by simp; omega); have hb4 := (hb3.out.alloc hb3.out.size (.cells (vw (List.replicate 8 0)).toArray 26)).grown g4 (by simp; omega) (by simp; omega); have hvne : (Value.slice o3 (N + k + 2) c3).ownBlock ≠ some w3.heap.size := (fun e => Nat.lt_irrefl _ (hvl.out _ e)); have hl4 := (hl3.out.alloc (.cells (vw (List.replicate 8 0)).toArray 26)).grown g4 (.inr hvne); have hs4 := g4.size; replace aX := Lib.hid aX; replace hK4 := Lib.hid hK4; replace aR4 := Lib.hid aR4; replace hb4 := Lib.hid hb4; replace hl4 := Lib.hid hl4; replace hvne := Lib.hid hvne; clear g4))
        simp only [Act.put]
        go_loopw [7] (fun lv wr => ∃ S' l', Rd wr lv (vw l') ∧ l'.length % 16 = 0 ∧ foldB KL S' l' = foldB KL S E ∧ l'.length ≤ E.length ∧ Arr wr w3.heap.size 26 S' ∧ S'.length = 8 ∧ lv.ownBlock ≠ some w3.heap.size ∧ Rounds wr KL ∧ Arr wr w.heap.size 26 (List.replicate 8 0) ∧ Below w.heap.size w wr) (fun lv _ => sliceLen lv)
        case atStart => exact ⟨S, E, hl4.out, hEm.out, rfl, Nat.le_refl _, aX.out, lS.out, hvne.out, hK4.out, aR4.out, hb4.out⟩
        case round =>
          obtain ⟨S', l', hl, hm, hf, hle, aS, lS', hlg, hK, aR, hb⟩ := hrel
          obtain ⟨lo, lc, rfl, q1, q2, _⟩ := hl.words
          have hll := hEl.out
          by_cases h16 : 0 < l'.length
          · have h16 : 16 ≤ l'.length := by omega
            obtain ⟨b, off, rfl, hl2⟩ := hl.drop 16 h16 (by omega)
            have hrg : wr.drew.rangeAt b off (vw (l'.take 16)) := hl.range 16 h16
            have lt16 : (l'.take 16).length = 16 := by rw [List.length_take]; omega
            rw [foldB_step KL S' l' h16] at hf
            have e16 : vw (l'.drop 16) = (vw l').drop 16 := by simp [vw]
            rw [← e16] at hl2
            have hbg : b ≠ w3.heap.size := fun e => hlg (by rw [e]; rfl)
            have lF := blockF_len KL S' (l'.take 16) lS'
            have hst : wr.drew.rangeAt w3.heap.size 0 (vw S') := by
              have := World.rangeAt_of_block (w := wr.drew) aS 0 8
              simpa [lS', List.take_of_length_le] using this
            have hm' : (l'.drop 16).length % 16 = 0 := by rw [List.length_drop]; omega
            have hKd : Rounds wr.drew KL := hK
            have harr := run_arrayAt (P := Tryz.prog) (w := wr.drew) 171 25 16 (some ⟨b, off, none⟩) l'.length lc Tryz.underlying171 h16
            replace hf := Lib.hid hf; replace hl2 := Lib.hid hl2; replace aS := Lib.hid aS; replace hK := Lib.hid hK; replace aR := Lib.hid aR; replace hb := Lib.hid hb; replace hrg := Lib.hid hrg; replace hst := Lib.hid hst; replace lt16 := Lib.hid lt16; replace lF := Lib.hid lF; replace lS' := Lib.hid lS'; replace hKd := Lib.hid hKd
            clear hl e16 hlg
            go_upto_region 8 with fail
            refine wp_region_still_tail 4 (by kernel_rfl) (by kernel_rfl) ?_
            simp only [List.take_succ_cons, List.take_zero, List.drop_succ_cons, List.drop_zero]
            change wpStill _ _ wr.drew _ _ _
            refine wpStill_load_mid rfl 26 _ rfl w3.heap.size 0 (by rfl) S' hst.out Tryz.underlying26 info23 lS'.out ?_
            iterate 2 still_step
            refine wpStill_load_mid rfl 171 _ rfl b off (by rfl) (l'.take 16) hrg.out Tryz.underlying171 info108 lt16.out ?_
            refine wpStill_nil ?_
            change wpList _ _ _ _ _ wr.drew
            go_wp2_with fail
            refine (block_any KL S' (l'.take 16) wr.drew hKd.out lS'.out lt16.out).mono ?_
            rintro e w5 ⟨rfl, b5⟩
            have aS5 := aS.out.drew.below b5
            have aR5 := aR.out.drew.below b5
            have hK5 := hKd.out.below b5
            have hl5 : Rd w5 _ _ := (hl2.out.kept (w' := wr.drew) fun _ _ _ => rfl).mono b5
            have hb5 := hb.out.drew.trans (b5.mono hb.out.size)
            have hl6' : l'.length = 16 → l'.drop 16 = [] := fun h => List.drop_of_length_le (by omega)
            clear b5 harr hKd hrg hst hl2 aS aR hK hb
            replace aS5 := Lib.hid aS5; replace aR5 := Lib.hid aR5; replace hK5 := Lib.hid hK5; replace hl5 := Lib.hid hl5; replace hb5 := Lib.hid hb5
            go_wp2_with (refine wpList_store_arr rfl 26 _ _ rfl w3.heap.size rfl (blockF KL S' (l'.take 16)) rfl aS5.out info23 lS'.out lF.out ?_; intro w6 a6 g6; have aR6 := aR5.out.grown g6 (by simp; omega); have hK6 := hK5.out.grown g6 (by simp; omega); have hl6 := hl5.out.grown g6 (.inr (by simp [Value.ownBlock]; exact hbg)); have hb6 := hb5.out.grown g6 hb5.out.size (by simp; omega); replace a6 := Lib.hid a6; replace aR6 := Lib.hid aR6; replace hK6 := Lib.hid hK6; replace hl6 := Lib.hid hl6; replace hb6 := Lib.hid hb6; clear g6)
            have hlv : Rd w6 (.slice (if lc = 16 then some ⟨b, off, none⟩ else some ⟨b, off + 16, none⟩) (l'.length - 16) (lc - 16)) (vw (l'.drop 16)) := by
              split
              · rw [hl6' (by omega), show l'.length - 16 = 0 by omega]
                exact ⟨_, _, rfl, by simp [vw], by simp only [maxLen]; omega, .inl rfl⟩
              · exact hl6.out
            refine ⟨⟨_, l'.drop 16, hlv, hm', hf.out, by rw [List.length_drop]; omega, a6.out, lF.out, ?_, hK6.out, aR6.out, hb6.out⟩, by simp [sliceLen]; omega⟩
            split <;> simp [Value.ownBlock] <;> exact hbg
          · obtain rfl : l' = [] := List.eq_nil_of_length_eq_zero (by omega)
            rw [foldB_end KL S' [] (by simp), ← hEE.out] at hf
            subst hf
            replace aS := Lib.hid aS; replace aR := Lib.hid aR; replace hb := Lib.hid hb
            clear hl hK hlg
            go_upto_region 9 with fail
            apply wp_region_lit
            refine wpList_load_arr rfl 26 _ rfl w3.heap.size rfl aS.out Tryz.underlying26 info23 lS' ?_
            refine wpList_store_arr rfl 26 _ _ rfl w.heap.size rfl (foldB KL S (endL L x y)) (by rfl) aR.out info23 (by simp) lS' ?_
            intro w5 a5 g5
            have hb5 := hb.out.grown g5 hb.out.size (by simp)
            clear aS aR hb g5
            go_wp2_with fail
            refine bodyPost_ret (results_arr rfl rfl a5 Tryz.underlying26 info23 lS') rfl ⟨rfl, hb5⟩
end Go.Proofs.YtemanjahkohcpaaGreatDoor
