/- The walk of TextKeeps. -/
import Derived.Test.YtefbogmgcihndaaDoorUAskJn
import Derived.Test.YtefbogmgcihndaaDoorUHanJn
import Derived.Test.YtefbogmgcihndaaDoorJn46
namespace Go.Proofs.YtefbogmgcihndaaDoor
open Go.RowKit WP
attribute [local go_sem ↓] Go.wp_at_zero Go.wp_at_succ
theorem infoHd : (Tryd.prog.info? 50).map (fun i => (i.zero, i.size, i.bytes)) = some (some (.agg #[.slice none 0 0, .slice none 0 0, .slice none 0 0, .slice none 0 0, .slice none 0 0, .slice none 0 0, .int .u8 0]), 7, 152) := by kernel_rfl
theorem hold_ent (base : Nat) (t : Ent) (m : UInt8) (w : World) (h : EntOwn base w t) (f1 : Far t.l t.w) (f2 : Far t.l t.b) (f3 : Far t.w t.b) (hbs : base ≤ w.heap.size) :
    Calls Tryd.prog 17 #[t.l, t.w, t.b, .int .u8 (m.toNat : Int)] w fun e w' => ∃ t' : Ent, e = .returned (.agg t'.cells.toArray) ∧ t'.l = t.l ∧ t'.w = t.w ∧ t'.b = t.b ∧ EntRead w' t' ∧ Touch [t.l, t.w, t.b] w w' ∧ Near w t.l t'.ml ∧ Near w t.w t'.mw ∧ Near w t.b t'.mb := by
  obtain ⟨n, xs, m', ys, z, zs, n1, n2, n3, ol, ow, ob⟩ := h
  exact hold_any base t.l t.w t.b n m' z xs ys zs m w ol ow ob f1 f2 f3 n1 n2 n3 hbs
set_option maxRecDepth 100000 in
set_option maxHeartbeats 16000000 in
theorem keeps_walk (ao : Option Addr) (n cap : Nat) (D : Nat → OpD) (m : Int) (w : World) (_h1 : n ≤ cap) (_h2 : cap ≤ 9223372036854775807) (hn : n ≤ 1048576) (hA : ∀ i, i < n → ∃ blk off, ao = some ⟨blk, off, none⟩ ∧ OpAt w blk (off + i * 7) (D i)) (hP : Pow10 w) (hm : MaxL w m) :
    Calls Tryd.prog 5 #[.slice ao n cap] w fun e w' => e = .returned (.bool true) ∧ Below w.heap.size w w' := by
  obtain ⟨iH, hiH, hzH0, hzH1, hzH2⟩ := info_parts infoHd
  replace hA := Lib.hid hA; replace hP := Lib.hid hP; replace hm := Lib.hid hm
  go_enter Tryd.func5, Tryd.ntmps5
  go_wp2_with fail
  go_loopw [3, 4, 5, 6, 7] (fun b i _ _ _ wr => ∃ (E : List Ent), E.length ≤ 3 * n ∧ i = .int .i64 E.length ∧ Book w.heap.size 50 D wr b E ∧ Below w.heap.size w wr) (fun _ i _ _ _ _ => 3 * n - (intOf i).toNat)
  case atStart => exact ⟨[], by simp, rfl, Book.nil _ _ _ _, Below.refl _ _⟩
  case round =>
    obtain ⟨wo, rfl⟩ : ∃ wo, wo = wr := ⟨wr, rfl⟩
    obtain ⟨b, rfl⟩ : ∃ b, b = u3 := ⟨u3, rfl⟩
    obtain ⟨E, hq, rfl, hbk, hb⟩ := hrel
    obtain ⟨q, hE⟩ : ∃ q, E.length = q := ⟨_, rfl⟩
    rw [hE] at hq ⊢
    have hs0 := hb.size
    by_cases hlt : q < 3 * n
    · obtain ⟨k, hk⟩ : ∃ k : Nat, k = kk q := ⟨_, rfl⟩
      have hk2 := hk
      unfold kk at hk2
      have hkn : k < n := by rw [hk2]; split <;> omega
      obtain ⟨blk, off, rfl, hO⟩ := hA.out k hkn
      have hO2 := hO.later hb
      have hask := asked_any (D k) m wo hO2.ok (MaxL.later hm.out hb)
      have hOk := hO2.ok
      obtain ⟨c0, c1, c2, c3, c4, c5, c6, _⟩ := hO2
      obtain ⟨d, hd⟩ : ∃ d, D k = d := ⟨_, rfl⟩
      rw [hd] at hask c0 c1 c2 c3 c4 c5 c6 hOk
      unfold opV at hask
      have i1 : (0 : Int) ≤ (k : Int) := by omega
      have i2 : (k : Int) < (n : Int) := by omega
      have dq : decide ((q : Int) < 3 * (n : Int)) = true := decide_eq_true (by omega)
      replace hask := Lib.hid hask; replace hbk := Lib.hid hbk; replace hb := Lib.hid hb; replace hk := Lib.hid hk; replace hOk := Lib.hid hOk; replace hE := Lib.hid hE; replace hd := Lib.hid hd
      replace hk2 := Lib.hid hk2
      obtain ⟨dk, dS, dpad, dbv, dB, du, dz, drv, dV, dC, dn⟩ := d
      dsimp only at c0 c1 c2 c3 c4 c5 c6
      generalize hxu : (du : Int) = xu at *
      go_upto_if 24 with fail
      go_cut [5] from 24 to 26 (fun c wx => c = .int .i64 (k : Int) ∧ wx = wo)
      case first =>
        by_cases h3 : q % 3 = 2
        · have h3' : (((q : Int) % 3) == 2) = true := by simp; omega
          go_wp2_with fail
          go_meet
          case rel => exact ⟨by have hk2 := hk2.out; rw [if_pos h3] at hk2; go_num, rfl⟩
        · have h3' : (((q : Int) % 3) == 2) = false := by simp; omega
          go_wp2_with fail
          go_meet
          case rel => exact ⟨by have hk2 := hk2.out; rw [if_neg h3] at hk2; go_num, rfl⟩
      case rest =>
        obtain ⟨rfl, hw⟩ := hcut
        obtain rfl := hw.symm
        go_wp2_with fail
        refine hask.out.mono ?_
        rintro e w1 ⟨l, v, bb, rfl, hT1, hfar, b1⟩
        have s1 := b1.size
        obtain ⟨al, cl, rfl, _, _⟩ := own_shape hT1.hl
        obtain ⟨aw, cw, rfl, _, _⟩ := own_shape hT1.hw
        obtain ⟨ab, cb, rfl, _, _⟩ := own_shape hT1.hb
        dsimp only at hT1
        have e0 := b1.cell (World.block_lt_of_cell? _ _ c0) |>.trans c0
        have e1 := b1.cell (World.block_lt_of_cell? _ _ c1) |>.trans c1
        have e2 := b1.cell (World.block_lt_of_cell? _ _ c2) |>.trans c2
        have e3 := b1.cell (World.block_lt_of_cell? _ _ c3) |>.trans c3
        have e4 := b1.cell (World.block_lt_of_cell? _ _ c4) |>.trans c4
        have e5 := b1.cell (World.block_lt_of_cell? _ _ c5) |>.trans c5
        have e6 := b1.cell (World.block_lt_of_cell? _ _ c6) |>.trans c6
        replace hT1 := Lib.hid hT1; replace hfar := Lib.hid hfar; replace b1 := Lib.hid b1
        clear c0 c1 c2 c3 c4 c5 c6
        go_upto_region 9 with fail
        obtain ⟨w2, hw2⟩ : ∃ w2, w1.alloc (Obj.cells #[Value.slice al (linesG dS).length cl, Value.slice none 0 0, Value.slice aw (wordsL dS).length cw, Value.slice none 0 0, Value.slice ab dB.length cb, Value.slice none 0 0, Value.int IntKind.u8 0] 50) = w2 := ⟨_, rfl⟩
        have b2 : Below w1.heap.size w1 w2 := by rw [← hw2]; exact (Below.refl _ _).alloc (Nat.le_refl _) _
        have hH2 : w2.heap[w1.heap.size]? = some (.cells #[Value.slice al (linesG dS).length cl, Value.slice none 0 0, Value.slice aw (wordsL dS).length cw, Value.slice none 0 0, Value.slice ab dB.length cb, Value.slice none 0 0, Value.int IntKind.u8 0] 50 (0, 0)) := by rw [← hw2]; exact heap_alloc_new _ _
        have s2 : w1.heap.size < w2.heap.size := by rw [← hw2]; simp
        have hbo := b1.out.trans (b2.mono s1)
        have hhan := handed_any ⟨dk, dS, dpad, dbv, dB, du, dz, drv, dV, dC, dn⟩ w2 (hOk.out.later hbo)
        unfold opV at hhan
        dsimp only at hhan
        rw [hxu] at hhan
        have c0 := b2.cell (World.block_lt_of_cell? _ _ e0) |>.trans e0
        have c1 := b2.cell (World.block_lt_of_cell? _ _ e1) |>.trans e1
        have c2 := b2.cell (World.block_lt_of_cell? _ _ e2) |>.trans e2
        have c3 := b2.cell (World.block_lt_of_cell? _ _ e3) |>.trans e3
        have c4 := b2.cell (World.block_lt_of_cell? _ _ e4) |>.trans e4
        have c5 := b2.cell (World.block_lt_of_cell? _ _ e5) |>.trans e5
        have c6 := b2.cell (World.block_lt_of_cell? _ _ e6) |>.trans e6
        rw [hw2]
        clear hw2 e0 e1 e2 e3 e4 e5 e6
        replace hH2 := Lib.hid hH2; replace b2 := Lib.hid b2; replace hbo := Lib.hid hbo; replace hhan := Lib.hid hhan
        go_cut [49] from 35 to 49 (fun c wx => c = .bool false ∧ Below w2.heap.size w2 wx)
        case first =>
          by_cases h3 : q % 3 = 0
          · have h3' : (((q : Int) % 3) == 0) = true := by simp; omega
            go_wp2_with fail
            refine hhan.out.mono ?_
            rintro e w3 ⟨rfl, b3⟩
            go_wp2_with fail
            go_meet
            case rel => exact ⟨rfl, b3⟩
          · have h3' : (((q : Int) % 3) == 0) = false := by simp; omega
            go_wp2_with fail
            go_meet
            case rel => exact ⟨rfl, Below.refl _ _⟩
        case rest =>
          obtain ⟨rfl, b3⟩ := hcut
          have hH3 := (b3.block _ s2).trans hH2.out
          have g0 : wc.cell? ⟨w1.heap.size, 0, none⟩ = _ := cell_of_row wc _ 0 _ _ _ hH3
          have g1 : wc.cell? ⟨w1.heap.size, 1, none⟩ = _ := cell_of_row wc _ 1 _ _ _ hH3
          have g2 : wc.cell? ⟨w1.heap.size, 2, none⟩ = _ := cell_of_row wc _ 2 _ _ _ hH3
          have g3 : wc.cell? ⟨w1.heap.size, 3, none⟩ = _ := cell_of_row wc _ 3 _ _ _ hH3
          have g4 : wc.cell? ⟨w1.heap.size, 4, none⟩ = _ := cell_of_row wc _ 4 _ _ _ hH3
          have g5 : wc.cell? ⟨w1.heap.size, 5, none⟩ = _ := cell_of_row wc _ 5 _ _ _ hH3
          have g6 : wc.cell? ⟨w1.heap.size, 6, none⟩ = _ := cell_of_row wc _ 6 _ _ _ hH3
          simp only [List.getElem?_toArray, List.getElem?_cons_zero, List.getElem?_cons_succ] at g0 g1 g2 g3 g4 g5 g6
          have hboc := hbo.out.trans (b3.mono (by omega))
          have s3 := hboc.size
          have hTc := (hT1.out.below b2.out).below b3
          have hbk1 := hbk.out
          replace hH3 := Lib.hid hH3; replace b3 := Lib.hid b3; replace hboc := Lib.hid hboc; replace hTc := Lib.hid hTc; replace hbk1 := Lib.hid hbk1
          obtain ⟨ob, cbk, rfl, bl1, bl2⟩ := own_shape hbk.out.row
          replace hbk := hbk.out
          rw [hE.out] at hbk bl1 ⊢
          replace hbk := Lib.hid hbk
          go_wp2_with (at_builtin; refine wpList_append_onto' _ rfl _ _ 48 rfl w.heap.size 50 iH _ 7 152 Tryd.underlying48 hiH hzH0 hzH1 hzH2 rfl (by decide) _ q (rowsOf E) rfl (by have h := own_below hbk.out.row hboc.out; rw [hE.out] at h; exact h.alloc _) ⟨wc.heap.size, 0, none⟩ 1 1 [Value.slice al (linesG dS).length cl, Value.slice none 0 0, Value.slice aw (wordsL dS).length cw, Value.slice none 0 0, Value.slice ab dB.length cb, Value.slice none 0 0, Value.int IntKind.u8 0] rfl rfl (cells_new _ _ _ _) ?k2 ?k3 ?k4 ?k5 ?_)
          case k2 => simp [Value.oneCell']
          case k3 => simp only [maxLen]; omega
          case k4 => omega
          case k5 => simp; omega
          intro b' w4 hrow hO4
          have hbal := hboc.out.trans ((Below.refl wc.heap.size wc).alloc (Nat.le_refl _) (.cells #[Value.slice al (linesG dS).length cl, Value.slice none 0 0, Value.slice aw (wordsL dS).length cw, Value.slice none 0 0, Value.slice ab dB.length cb, Value.slice none 0 0, Value.int IntKind.u8 0] 50) |>.mono s3)
          have hadd : Book w.heap.size 50 D w4 b' (E ++ [⟨.slice al (linesG dS).length cl, .slice none 0 0, .slice aw (wordsL dS).length cw, .slice none 0 0, .slice ab dB.length cb, .slice none 0 0, 0⟩]) :=
            Book.add (e := ⟨.slice al (linesG dS).length cl, .slice none 0 0, .slice aw (wordsL dS).length cw, .slice none 0 0, .slice ab dB.length cb, .slice none 0 0, 0⟩) hbk.out hbal (by rw [hE.out, ← hk.out, hd.out]; exact hTc.out.below ((Below.refl wc.heap.size wc).alloc (Nat.le_refl _) _)) (Nat.le_refl _) hs0 hfar.out (by rw [hE.out]; exact hrow) hO4
          have hb4 : Below w.heap.size w w4 := (hb.out.trans (hbal.mono hs0)).trans (hO4.below (by have := hbal.size; omega) fun j hj => (hbk.out.row.lt j hj).1)
          clear hrow hO4 hbal
          replace hadd := Lib.hid hadd; replace hb4 := Lib.hid hb4
          go_wp2_with fail
          go_roundw
          case rel => exact ⟨E ++ [⟨.slice al (linesG dS).length cl, .slice none 0 0, .slice aw (wordsL dS).length cw, .slice none 0 0, .slice ab dB.length cb, .slice none 0 0, 0⟩], by simp [hE.out]; omega, by simp [hE.out], hadd.out, hb4.out⟩
          case measure => simp [intOf]; omega
    · have hqn : q = 3 * n := by omega
      obtain ⟨ob, cbk, rfl, bl1, bl2⟩ := own_shape hbk.row
      rw [hE] at hbk bl1 ⊢
      have dq : decide ((q : Int) < 3 * (n : Int)) = false := decide_eq_false (by omega)
      replace hbk := Lib.hid hbk; replace hb := Lib.hid hb; replace hE := Lib.hid hE; replace hqn := Lib.hid hqn
      go_wp2_with fail
      clear dq
      go_loopw [8, 9] (fun j _ wr => ∃ p : Nat, p ≤ q ∧ j = .int .i64 p ∧ Below wo.heap.size wo wr) (fun j _ _ => q - (intOf j).toNat)
      case atStart => exact ⟨0, by omega, rfl, Below.refl _ _⟩
      case round =>
        obtain ⟨p, hp, rfl, hbr⟩ := hrel
        by_cases hlp : p < q
        · have hbr' := hb.out.trans (hbr.mono hs0)
          obtain ⟨k, hk⟩ : ∃ k : Nat, k = kk p := ⟨_, rfl⟩
          have hk2 := hk
          unfold kk at hk2
          have hkn : k < n := by have := hqn.out; rw [hk2]; split <;> omega
          obtain ⟨blk, off, rfl, hO⟩ := hA.out k hkn
          have hO2 := hO.later hbr'
          have hbkr := hbk.out.below hbr
          have hpE : p < E.length := by rw [hE.out]; exact hlp
          have hTp := hbkr.told p hpE
          rw [← hk] at hTp
          obtain ⟨Bk, cbk', hv, hB1, hB2, _, _, hEA⟩ := book_at (vb := .slice ob q cbk) (by have h := hbkr.row; exact h) p hpE
          simp only [Value.slice.injEq] at hv
          obtain ⟨rfl, hv2, rfl⟩ := hv
          clear hv2
          obtain ⟨et, het⟩ : ∃ et, E[p] = et := ⟨_, rfl⟩
          rw [het] at hTp hEA
          obtain ⟨l, ml, v, mv, bb, mb, km⟩ := et
          obtain ⟨d, hd⟩ : ∃ d, D k = d := ⟨_, rfl⟩
          rw [hd] at hTp hO2
          have htold := fun W (hW : Below wr.heap.size wr W) => told_any l ml v mv bb mb (.int .u8 km) d W (Rd.of_own (hTp.below hW).hl) (WdAt.of_own (hTp.below hW).hw) (Rd.of_own (hTp.below hW).hb) (hO2.later hW).ok
          unfold opV at htold
          have hSof0 : ∀ W, Below wr.heap.size wr W → OpAt W blk (off + k * 7) d ∧ EntAt W Bk (p * 7) ⟨l, ml, v, mv, bb, mb, km⟩ := fun W hW => ⟨hO2.later hW, hEA.later hW⟩
          have i1 : (0 : Int) ≤ (k : Int) := by omega
          have i2 : (k : Int) < (n : Int) := by omega
          have i3 : (0 : Int) ≤ (p : Int) := by omega
          have i4 : (p : Int) < (q : Int) := by omega
          have dp : decide ((p : Int) < (q : Int)) = true := decide_eq_true (by omega)
          obtain ⟨dk, dS, dpad, dbv, dB, du, dz, drv, dV, dC, dn⟩ := d
          dsimp only at htold
          have hSof : ∀ W, Below wr.heap.size wr W → W.cell? ⟨Bk, p * 7, none⟩ = some l ∧ W.cell? ⟨Bk, p * 7 + 1, none⟩ = some ml ∧ W.cell? ⟨Bk, p * 7 + 2, none⟩ = some v ∧ W.cell? ⟨Bk, p * 7 + 3, none⟩ = some mv ∧ W.cell? ⟨Bk, p * 7 + 4, none⟩ = some bb ∧ W.cell? ⟨Bk, p * 7 + 5, none⟩ = some mb ∧ W.cell? ⟨Bk, p * 7 + 6, none⟩ = some (Value.int IntKind.u8 km) ∧
                W.cell? ⟨blk, off + k * 7, none⟩ = some (Value.int IntKind.i64 dk) ∧ W.cell? ⟨blk, off + k * 7 + 1, none⟩ = some (Value.string dS) ∧ W.cell? ⟨blk, off + k * 7 + 2, none⟩ = some (Value.int IntKind.i64 dpad) ∧ W.cell? ⟨blk, off + k * 7 + 3, none⟩ = some dbv ∧ W.cell? ⟨blk, off + k * 7 + 4, none⟩ = some (Value.int IntKind.u32 (du : Int)) ∧ W.cell? ⟨blk, off + k * 7 + 5, none⟩ = some (Value.int IntKind.i32 dz) ∧ W.cell? ⟨blk, off + k * 7 + 6, none⟩ = some drv := fun W hW => by
            obtain ⟨⟨c0, c1, c2, c3, c4, c5, c6, _⟩, ⟨e0, e1, e2, e3, e4, e5, e6⟩⟩ := hSof0 W hW
            exact ⟨e0, e1, e2, e3, e4, e5, e6, c0, c1, c2, c3, c4, c5, c6⟩
          clear hSof0
          generalize hxu : (du : Int) = xu at *
          replace hk2 := Lib.hid hk2; replace hbr := Lib.hid hbr; replace hO := Lib.hid hO; replace hO2 := Lib.hid hO2; replace hTp := Lib.hid hTp; replace hEA := Lib.hid hEA; replace hbkr := Lib.hid hbkr; replace htold := Lib.hid htold; replace hSof := Lib.hid hSof; replace het := Lib.hid het; replace hd := Lib.hid hd; replace hk := Lib.hid hk; replace hxu := Lib.hid hxu; replace hbr' := Lib.hid hbr'
          go_upto_if 64 with fail
          go_cut [9] from 64 to 66 (fun c wx => c = .int .i64 (k : Int) ∧ wx = wr)
          case first =>
            by_cases h3 : p % 3 = 2
            · have h3' : (((p : Int) % 3) == 2) = true := by simp; omega
              go_wp2_with fail
              go_meet
              case rel => exact ⟨by have hk2 := hk2.out; rw [if_pos h3] at hk2; go_num, rfl⟩
            · have h3' : (((p : Int) % 3) == 2) = false := by simp; omega
              go_wp2_with fail
              go_meet
              case rel => exact ⟨by have hk2 := hk2.out; rw [if_neg h3] at hk2; go_num, rfl⟩
          case rest =>
            obtain ⟨rfl, hw⟩ := hcut
            obtain rfl := hw.symm
            have hB : Below wr.heap.size wr wr := Below.refl _ _
            go_upto_region 18 with fail
            go_region_held3 (fun w' => w'.cell? ⟨Bk, p * 7, none⟩ = some l ∧ w'.cell? ⟨Bk, p * 7 + 1, none⟩ = some ml ∧ w'.cell? ⟨Bk, p * 7 + 2, none⟩ = some v ∧ w'.cell? ⟨Bk, p * 7 + 3, none⟩ = some mv ∧ w'.cell? ⟨Bk, p * 7 + 4, none⟩ = some bb ∧ w'.cell? ⟨Bk, p * 7 + 5, none⟩ = some mb ∧ w'.cell? ⟨Bk, p * 7 + 6, none⟩ = some (Value.int IntKind.u8 km) ∧
                w'.cell? ⟨blk, off + k * 7, none⟩ = some (Value.int IntKind.i64 dk) ∧ w'.cell? ⟨blk, off + k * 7 + 1, none⟩ = some (Value.string dS) ∧ w'.cell? ⟨blk, off + k * 7 + 2, none⟩ = some (Value.int IntKind.i64 dpad) ∧ w'.cell? ⟨blk, off + k * 7 + 3, none⟩ = some dbv ∧ w'.cell? ⟨blk, off + k * 7 + 4, none⟩ = some (Value.int IntKind.u32 xu) ∧ w'.cell? ⟨blk, off + k * 7 + 5, none⟩ = some (Value.int IntKind.i32 dz) ∧ w'.cell? ⟨blk, off + k * 7 + 6, none⟩ = some drv)
              (exact hSof.out _ (by first | with_reducible exact hB | with_reducible exact hB.drew))
              (first
                | (go_at_call 16
                   refine (htold.out _ (by first | with_reducible exact hB | with_reducible exact hB.drew)).mono ?_
                   rintro e w7 ⟨rfl, b7⟩
                   replace hB := Below.trans (by first | with_reducible exact hB | with_reducible exact hB.drew) (b7.mono (by exact hB.size))
                   clear b7))
            clear hSof htold
            go_wp2_with fail
            go_roundw
            case rel => exact ⟨p + 1, by omega, by go_num, hbr.out.trans ((by first | with_reducible exact hB | with_reducible exact hB.drew : Below wr.heap.size wr _).mono hbr.out.size)⟩
            case measure => simp [intOf]; omega
        · obtain rfl : p = q := by omega
          have hbr' := hb.out.trans (hbr.mono hs0)
          have hB4 := Book4.start (hbk.out.below hbr)
          obtain ⟨wy, hwy⟩ : ∃ wy, wy = wr := ⟨_, rfl⟩
          rw [← hwy] at hB4 hbr' ⊢
          have dp : decide ((p : Int) < (p : Int)) = false := decide_eq_false (by omega)
          clear hbr hb hbk hwy
          have hEl := hE
          replace hB4 := Lib.hid hB4; replace hbr' := Lib.hid hbr'
          go_wp2_with fail
          clear dp
          go_loopw [10] (fun j wr => ∃ (Dn Td : List Ent), j = .int .i64 (Dn.length : Nat) ∧ Dn.length + Td.length = p ∧ Book4 w.heap.size 50 wr (.slice ob p cbk) Dn Td ∧ Below w.heap.size w wr) (fun j _ => p - (intOf j).toNat)
          case atStart => exact ⟨[], E, rfl, by simpa using hE.out, hB4.out, hbr'.out⟩
          case round =>
            obtain ⟨Dn, Td, rfl, hlen, hB4, hbr⟩ := hrel
            obtain ⟨i, hi⟩ : ∃ i, Dn.length = i := ⟨_, rfl⟩
            rw [hi] at hlen ⊢
            have hsr := hbr.size
            cases Td with
            | nil =>
              have hip : p = i := by simpa using hlen.symm
              obtain ⟨wz, hwz⟩ : ∃ wz, wz = wr := ⟨_, rfl⟩
              rw [← hwz] at hB4 hbr hsr ⊢
              clear hwz hlen
              have hnl : ¬ i < p := by omega
              replace hB4 := Lib.hid hB4; replace hbr := Lib.hid hbr; replace hi := Lib.hid hi; replace hip := Lib.hid hip
              go_wp2_with fail
              go_loopw [11, 12] (fun j _ wr => ∃ r : Nat, r ≤ p ∧ j = .int .i64 r ∧ Below wz.heap.size wz wr) (fun j _ _ => p - (intOf j).toNat)
              case atStart => exact ⟨0, by omega, rfl, Below.refl _ _⟩
              case round =>
                obtain ⟨r, hr, rfl, hbz⟩ := hrel
                by_cases hlr : r < p
                · have hrw := own_below hB4.out.row hbz
                  simp only [List.append_nil] at hrw
                  have hlr2 : r < Dn.length := by have := hi.out; have := hip.out; omega
                  obtain ⟨Bk, cbk', hv, hB1, hB2, hx1, hx2, hEA⟩ := book_at (vb := .slice ob p cbk) hrw r hlr2
                  simp only [Value.slice.injEq] at hv
                  obtain ⟨rfl, hv2, rfl⟩ := hv
                  clear hv2 hx1 hrw
                  have hRd := (hB4.out.done Dn[r] (List.getElem_mem _)).1.later hbz
                  obtain ⟨et, het⟩ : ∃ et, Dn[r] = et := ⟨_, rfl⟩
                  rw [het] at hEA hRd
                  clear het
                  have hst := stays_any et wr hRd
                  obtain ⟨l, ml, v, mv, bb, mb, km⟩ := et
                  replace hst : Calls Tryd.prog 18 #[.agg #[l, ml, v, mv, bb, mb, .int .u8 km]] wr _ := hst
                  obtain ⟨c0, c1, c2, c3, c4, c5, c6⟩ := hEA
                  dsimp only at c0 c1 c2 c3 c4 c5 c6
                  have i1 : (0 : Int) ≤ (r : Int) := by omega
                  have i2 : (r : Int) < (p : Int) := by omega
                  have di : decide ((r : Int) < (p : Int)) = true := decide_eq_true (by omega)
                  replace hst := Lib.hid hst; replace hRd := Lib.hid hRd; replace hbz := Lib.hid hbz
                  go_wp2_with fail
                  refine hst.out.mono ?_
                  rintro e w7 ⟨rfl, b7⟩
                  go_wp2_with fail
                  go_roundw
                  case rel => exact ⟨r + 1, by omega, by go_num, hbz.out.trans (b7.mono hbz.out.size)⟩
                  case measure => simp [intOf]; omega
                · have dr : decide ((r : Int) < (p : Int)) = false := decide_eq_false (by omega)
                  have hbw := hbr.out.trans (hbz.mono hsr)
                  have hP' := pow10_later hP.out hbw
                  replace hP' := Lib.hid hP'; replace hbz := Lib.hid hbz; replace hbw := Lib.hid hbw
                  go_wp2_with fail
                  refine (head_yes _ hP'.out).mono ?_
                  rintro e w8 ⟨rfl, b8⟩
                  go_wp2_with fail
                  go_ret
                  exact ⟨rfl, hbw.out.trans (b8.mono hbw.out.size)⟩
            | cons t Td =>
              rw [List.length_cons] at hlen
              obtain ⟨hOwn, f1, f2, f3, g1, g2, g3⟩ := hB4.mid
              have hll : (Dn ++ t :: Td).length = p := by simp; omega
              have hrow := hB4.row
              rw [hll] at hrow
              obtain ⟨Bk, cbk', hv, hB1, hB2, _, _, hEA⟩ := book_at (vb := .slice ob p cbk) hB4.row i (by rw [hll]; omega)
              rw [hll] at hv
              simp only [Value.slice.injEq] at hv
              obtain ⟨rfl, _, rfl⟩ := hv
              have hget : (Dn ++ t :: Td)[i]'(by rw [hll]; omega) = t := by subst hi; simp
              rw [hget] at hEA
              obtain ⟨tl, tml, tw, tmw, tb, tmb, tk⟩ := t
              obtain ⟨n0, _, m0, _, z0, _, _, _, _, ol, ow, obb⟩ := id hOwn
              dsimp only at ol ow obb f1 f2 f3 g1 g2 g3
              obtain ⟨al, cl, rfl, _, _⟩ := own_shape ol
              obtain ⟨aw, cw, rfl, _, _⟩ := own_shape ow
              obtain ⟨ab, cb, rfl, _, _⟩ := own_shape obb
              clear ol ow obb
              have hhold := fun W (hW : Below wr.heap.size wr W) => hold_ent w.heap.size _ (UInt8.ofNat i) W (hOwn.touch (Touch.of_below (S := []) hW) (by simp) (by simp) (by simp)) f1 f2 f3 (by have := hW.size; omega)
              dsimp only at hhold
              have i1 : (0 : Int) ≤ (i : Int) := by omega
              have i2 : (i : Int) < (p : Int) := by omega
              have di : decide ((i : Int) < (p : Int)) = true := decide_eq_true (by omega)
              have hSof : ∀ W, Below wr.heap.size wr W → W.cell? ⟨Bk, i * 7, none⟩ = some (.slice al n0 cl) ∧ W.cell? ⟨Bk, i * 7 + 2, none⟩ = some (.slice aw m0 cw) ∧ W.cell? ⟨Bk, i * 7 + 4, none⟩ = some (.slice ab z0 cb) := fun W hW => ⟨(hEA.later hW).c0, (hEA.later hW).c2, (hEA.later hW).c4⟩
              have hB : Below wr.heap.size wr wr := Below.refl _ _
              replace hrow := Lib.hid hrow; replace hB4 := Lib.hid hB4; replace hhold := Lib.hid hhold; replace hOwn := Lib.hid hOwn; replace hEA := Lib.hid hEA; replace hSof := Lib.hid hSof; replace hbr := Lib.hid hbr; replace f1 := Lib.hid f1; replace f2 := Lib.hid f2; replace f3 := Lib.hid f3; replace g1 := Lib.hid g1; replace g2 := Lib.hid g2; replace g3 := Lib.hid g3; replace hi := Lib.hid hi; replace hll := Lib.hid hll; replace hlen := Lib.hid hlen
              have hwr : IntKind.u8.wrap (i : Int) = ((UInt8.ofNat i).toNat : Int) := by rw [IntKind.wrap_u8]; simp
              go_upto_region 23 with fail
              go_region_held3 (fun w' => w'.cell? ⟨Bk, i * 7, none⟩ = some (.slice al n0 cl) ∧ w'.cell? ⟨Bk, i * 7 + 2, none⟩ = some (.slice aw m0 cw) ∧ w'.cell? ⟨Bk, i * 7 + 4, none⟩ = some (.slice ab z0 cb))
                (first | (with_reducible exact ⟨x0, x2, x4⟩) | (with_reducible exact hAf.out) | (exact hSof.out _ (by first | with_reducible exact hB | with_reducible exact hB.drew)))
                (first
                  | (go_at_call 17
                     refine (hhold.out _ (by first | with_reducible exact hB | with_reducible exact hB.drew)).mono ?_
                     rintro e w7 ⟨⟨l', ml', v', mv', b', mb', k'⟩, rfl, e1, e2, e3, hR7, T7, m1, m2, m3⟩
                     dsimp only at e1 e2 e3 m1 m2 m3
                     subst e1; subst e2; subst e3
                     obtain ⟨_, _, _, _, _, _, r2, _, r4, _, r6⟩ := hR7.at_
                     dsimp only at r2 r4 r6
                     obtain ⟨al', cl', rfl, _, _⟩ := r2.shape
                     obtain ⟨aw', cw', rfl, _, _⟩ := r4.shape
                     obtain ⟨ab', cb', rfl, _, _⟩ := r6.shape
                     clear r2 r4 r6
                     obtain ⟨⟨x0, x1, x2, x3, x4, x5, x6⟩, fz, hAf, hbk', hbl'⟩ := after_hold hB4.out hi.out hll.out hR7 T7 m1 m2 m3
                     replace hAf := Lib.hid hAf; replace hR7 := Lib.hid hR7; replace T7 := Lib.hid T7; replace m1 := Lib.hid m1; replace m2 := Lib.hid m2; replace m3 := Lib.hid m3; replace hbk' := Lib.hid hbk'; replace hbl' := Lib.hid hbl'
                     simp only [Ent.cells]
                     clear hhold))
              go_wp2_with fail
              go_roundw
              case rel => exact ⟨Dn ++ [_], Td, by simp [hi.out], by have := hi.out; have := hlen.out; simp; omega, hbk'.out, hbr.out.trans hbl'.out⟩
              case measure => have := hlen.out; simp [intOf]; omega
end Go.Proofs.YtefbogmgcihndaaDoor
