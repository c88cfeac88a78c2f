/- WordKeeps, the walk. -/
import Derived.Test.YtedhinekkmoheaaKeepC
import Derived.Test.YtedhinekkmoheaaKeepH
import Derived.Deep.DeepCutAuto
import Derived.Deep.CutBlock
namespace Go.Proofs.Ytedhinekkmoheaa
open Go.RowKit WP
theorem info50 : (Try.prog.info? 50).map (fun i => (i.zero, i.size, i.bytes)) = some (some (.agg #[.slice none 0 0, .slice none 0 0, .slice none 0 0, .slice none 0 0, .int .i64 0]), 5, 104) := by kernel_rfl
theorem own_oneCell {w : World} {base : Nat} {e : TypeId} {size n : Nat} {v : Value} {xs : List Value} (h : w.ownsRow base e size v n xs) : v.oneCell' = true := by
  rcases h.2 with ⟨rfl, _⟩ | ⟨_, _, _, rfl, _⟩ <;> rfl
theorem book_form {w : World} {base : Nat} {t : TypeId} {b : Value} {E : List Ent} (h : w.ownsRow base t 5 b E.length (rowsOf E)) : ∃ ao ca, b = .slice ao E.length ca ∧ E.length ≤ ca ∧ ca ≤ 9223372036854775807 := by
  rcases h.2 with ⟨rfl, h0⟩ | ⟨g, cap, cur, rfl, _, _, h1, h2, _⟩
  · exact ⟨none, 0, by rw [h0], by omega, by decide⟩
  · exact ⟨_, _, rfl, h1, h2⟩
/-- the lists that are handed in -/
def Lists (w : World) (ao : Option Addr) (n : Nat) (A : Nat → Value) (Ls : Nat → List UInt32) : Prop :=
  n = 0 ∨ ∃ blk off, ao = some ⟨blk, off, none⟩ ∧ blk < w.heap.size ∧ ∀ k, k < n → w.cell? ⟨blk, off + k, none⟩ = some (A k) ∧ Rd w (A k) (vw (Ls k))
theorem Lists.mono {w w' : World} {ao : Option Addr} {n : Nat} {A : Nat → Value} {Ls : Nat → List UInt32} (h : Lists w ao n A Ls) (hb : Below w.heap.size w w') : Lists w' ao n A Ls := by
  rcases h with h | ⟨blk, off, rfl, hlt, hc⟩
  · exact .inl h
  · exact .inr ⟨blk, off, rfl, Nat.lt_of_lt_of_le hlt hb.size, fun k hk => ⟨(hb.cell (p := ⟨blk, off + k, none⟩) hlt).trans (hc k hk).1, (hc k hk).2.mono hb⟩⟩
set_option maxRecDepth 100000 in
set_option maxHeartbeats 16000000 in
theorem keeps_walk (ao : Option Addr) (n cap : Nat) (A : Nat → Value) (Ls : Nat → List UInt32) (w : World) (h1 : n ≤ cap) (h2 : cap ≤ 9223372036854775807) (hn : n ≤ 1048576) (hL : Lists w ao n A Ls) :
    Calls Try.prog 5 #[.slice ao n cap] w fun e w' => e = .returned (.bool true) ∧ Below w.heap.size w w' := by
  obtain ⟨iH, hiH, hzH0, hzH1, hzH2⟩ := info_parts info50
  obtain ⟨i0, hi0, hz0, hz1, hz2⟩ := info_parts info22
  obtain ⟨i8, hi8, hy0, hy1, hy2⟩ := info_parts info5
  replace hL := Lib.hid hL
  go_enter Try.func5, Try.ntmps5
  go_wp2_with fail
  go_loopw [3, 4, 5, 6, 7] (fun b i _ _ _ wr => ∃ (q : Nat) (E : List Ent), q ≤ 3 * n ∧ i = .int .i64 q ∧ E.length ≤ 2 * q ∧ Book w.heap.size 50 wr b E ∧ (∀ e ∈ E, EntTold w.heap.size Ls n wr e) ∧ Below w.heap.size w wr) (fun _ i _ _ _ _ => 3 * n - (intOf i).toNat)
  case atStart => exact ⟨0, [], by omega, rfl, by simp, ⟨World.ownsRow_nil _ _ _ _, List.Pairwise.nil, by simp [vals]⟩, by simp, Below.refl _ _⟩
  case round =>
    obtain ⟨wo, rfl⟩ : ∃ wo, wo = wr := ⟨wr, rfl⟩
    obtain ⟨b, rfl⟩ : ∃ b, b = u3 := ⟨u3, rfl⟩
    obtain ⟨q, E, hq, rfl, hEl, hbk, hE, hb⟩ := hrel
    by_cases hlt : q < 3 * n
    · obtain ⟨blk, off, rfl, hblk, hA⟩ := hL.out.resolve_left (by omega)
      obtain ⟨k, hk⟩ : ∃ k : Nat, k = if q % 3 = 2 then q / 3 / 2 else q / 3 := ⟨_, rfl⟩
      have hkn : k < n := by rw [hk]; split <;> omega
      have hck := (hb.cell (p := ⟨blk, off + k, none⟩) hblk).trans (hA k hkn).1
      have hrk := (hA k hkn).2.mono hb
      obtain ⟨oA, cA, hAk, ca1, ca2, ca3⟩ := hrk.words
      rw [hAk] at hck hrk
      replace hk := Lib.hid hk
      replace hA := Lib.hid hA
      replace hbk := Lib.hid hbk; replace hE := Lib.hid hE; replace hb := Lib.hid hb
      clear ca3 hAk
      go_upto_if 26 with fail
      go_cut [5] from 27 to 28 (fun c wx => c = .int .i64 (k : Int) ∧ wx = wo)
      case first =>
        have := hk.out
        by_cases h2 : q % 3 = 2
        · have h2' : (((q : Int) % 3) == 2) = true := by simp; omega
          go_wp2_with fail
          go_meet
          case rel => exact ⟨by rw [if_pos h2] at this; go_num, rfl⟩
        · have h2' : (((q : Int) % 3) == 2) = false := by simp; omega
          go_wp2_with fail
          go_meet
          case rel => exact ⟨by rw [if_neg h2] at this; go_num, rfl⟩
      case rest =>
        obtain ⟨rfl, hw⟩ := hcut
        obtain rfl := hw.symm
        by_cases hlong : 262144 < (Ls k).length
        · go_wp2_with fail
          go_roundw
          case rel => exact ⟨q + 1, E, by omega, by go_num, by omega, hbk.out, hE.out, hb.out⟩
          case measure => simp [intOf]; omega
        · go_wp2_with fail
          refine (told_any _ (Ls k) _ hrk (by omega)).mono ?_
          rintro e w1 ⟨g, v1, u1, v2, u2, rfl, hg, hcs, o1, o2, o3, o4, hfar, hng, b1⟩
          have hblk1 := Nat.lt_of_lt_of_le hblk hb.out.size
          have hck1 := (b1.cell (p := ⟨blk, off + k, none⟩) hblk1).trans hck
          have hrk1 := hrk.mono b1
          clear hck hrk
          replace hcs := Lib.hid hcs; replace o1 := Lib.hid o1; replace o2 := Lib.hid o2; replace o3 := Lib.hid o3; replace o4 := Lib.hid o4; replace hfar := Lib.hid hfar; replace hng := Lib.hid hng; replace b1 := Lib.hid b1
          go_upto_region 10 with fail
          go_cut [57] from 43 to 57 (fun c wx => c = .bool false ∧ Below w1.heap.size w1 wx)
          case first =>
            by_cases h3 : q % 3 = 0
            · have h3' : (((q : Int) % 3) == 0) = true := by simp; omega
              go_wp2_with fail
              refine (turned_any _ (Ls k) _ hrk1 (by omega)).mono ?_
              rintro e w2 ⟨rfl, b2⟩
              go_wp2_with fail
              go_meet
              case rel => exact ⟨rfl, b2⟩
            · have h3' : (((q : Int) % 3) == 0) = false := by simp; omega
              go_wp2_with fail
              go_meet
              case rel => exact ⟨rfl, Below.refl _ _⟩
          case rest =>
            obtain ⟨rfl, b2⟩ := hcut
            obtain ⟨cs, hcd⟩ : ∃ cs : Array Value, cs = #[v1, .slice none 0 0, u1, .slice none 0 0, .int .i64 0, v2, .slice none 0 0, u2, .slice none 0 0, .int .i64 0] := ⟨_, rfl⟩
            have hcs2 : wc.heap[g]? = some (.cells cs 50 (0, 0)) := by rw [b2.block g (Array.getElem?_eq_some_iff.1 hcs.out).1, hcd]; exact hcs.out
            have hc4 : wc.cell? ⟨g, 4, none⟩ = some (.int .i64 0) := by rw [cell_of_row wc g 4 cs _ _ hcs2, hcd]; rfl
            have hf4 : wc.frozen? ⟨g, 4, none⟩ = false := frozen_of_row wc g 4 cs _ hcs2
            have hd1 := heap_setCell_same wc g 4 cs _ (.int .i64 (k : Int)) hcs2
            have hc9 : (wc.setCell ⟨g, 4, none⟩ (.int .i64 (k : Int))).cell? ⟨g, 9, none⟩ = some (.int .i64 0) := by rw [cell_of_row _ g 9 _ _ _ hd1, hcd]; rfl
            have hf9 : (wc.setCell ⟨g, 4, none⟩ (.int .i64 (k : Int))).frozen? ⟨g, 9, none⟩ = false := frozen_of_row _ g 9 _ _ hd1
            have hd2 := heap_setCell_same _ g 9 _ _ (.int .i64 (k : Int)) hd1
            have hg3 : wc.grownBy ((wc.setCell ⟨g, 4, none⟩ (.int .i64 (k : Int))).setCell ⟨g, 9, none⟩ (.int .i64 (k : Int))) (some g) :=
              ⟨rfl, rfl, rfl, by simp, fun j _ hj => by rw [heap_setCell_other _ ⟨g, 9, none⟩ j _ (fun e => hj (by simp [e])), heap_setCell_other _ ⟨g, 4, none⟩ j _ (fun e => hj (by simp [e]))]⟩
            replace hcs2 := Lib.hid hcs2; replace hd1 := Lib.hid hd1; replace hd2 := Lib.hid hd2; replace b2 := Lib.hid b2; replace hcd := Lib.hid hcd; replace hg3 := Lib.hid hg3
            go_upto_region 14 with fail
            obtain ⟨w3, hw3⟩ : ∃ w3, (wc.setCell ⟨g, 4, none⟩ (.int .i64 (k : Int))).setCell ⟨g, 9, none⟩ (.int .i64 (k : Int)) = w3 := ⟨_, rfl⟩
            have hd3 : w3.heap[g]? = some (.cells #[v1, .slice none 0 0, u1, .slice none 0 0, .int .i64 (k : Int), v2, .slice none 0 0, u2, .slice none 0 0, .int .i64 (k : Int)] 50 (0, 0)) := by
              rw [← hw3, hd2.out, hcd.out]; rfl
            have hg3 := hg3.out
            rw [hw3] at hg3 ⊢
            have hbk2 := (hbk.out.below b1.out).below b2.out
            have hE2 : ∀ e ∈ E, EntTold w.heap.size Ls n wc e := fun e he => ((hE.out e he).below b1.out).below b2.out
            have hbs := hb.out.size
            have hold : ∀ v ∈ vals E, ∀ j, v.ownBlock = some j → j < wo.heap.size := fun v hv j hj => by
              obtain ⟨e, he, hev⟩ := mem_vals.1 hv
              exact ((hE.out e he).own.lt v hev j hj).2
            have hbB : ∀ j, b.ownBlock = some j → j < wo.heap.size := fun j hj => (hbk.out.row.lt j hj).2
            have ngE : ∀ v ∈ vals E, v.ownBlock = none ∨ v.ownBlock ≠ some g := fun v hv => by
              cases hvb : v.ownBlock with
              | none => exact .inl rfl
              | some j => exact .inr fun e => by have := hold v hv j hvb; simp at e; omega
            have ngb : b.ownBlock = none ∨ b.ownBlock ≠ some g := by
              cases hvb : b.ownBlock with
              | none => exact .inl rfl
              | some j => exact .inr fun e => by have := hbB j hvb; simp at e; omega
            have hbk3 := hbk2.grown hg3 ngb
            have hE3 : ∀ e ∈ E, EntTold w.heap.size Ls n w3 e := fun e he => (hE2 e he).grown hg3 (ngE _ (mem_vals.2 ⟨e, he, .inl rfl⟩)) (ngE _ (mem_vals.2 ⟨e, he, .inr rfl⟩))
            have ng1 := hng.out v1 (by simp)
            have ng2 := hng.out u1 (by simp)
            have ng3 := hng.out v2 (by simp)
            have ng4 := hng.out u2 (by simp)
            have hF3 : ∀ e ∈ [(⟨v1, .slice none 0 0, u1, .slice none 0 0, (k : Int)⟩ : Ent), ⟨v2, .slice none 0 0, u2, .slice none 0 0, (k : Int)⟩], EntTold w.heap.size Ls n w3 e := by
              intro e he
              simp only [List.mem_cons, List.not_mem_nil, or_false] at he
              rcases he with rfl | rfl
              · exact ⟨k, hkn, rfl, rfl, rfl, by omega, own_base ((own_below o1.out b2.out).kept hg3 (.inr ng1)) hbs, own_base ((own_below o2.out b2.out).kept hg3 (.inr ng2)) hbs⟩
              · exact ⟨k, hkn, rfl, rfl, rfl, by omega, own_base ((own_below o3.out b2.out).kept hg3 (.inr ng3)) hbs, own_base ((own_below o4.out b2.out).kept hg3 (.inr ng4)) hbs⟩
            have hnew : ∀ v ∈ vals [(⟨v1, .slice none 0 0, u1, .slice none 0 0, (k : Int)⟩ : Ent), ⟨v2, .slice none 0 0, u2, .slice none 0 0, (k : Int)⟩], ∀ j, v.ownBlock = some j → wo.heap.size ≤ j := by
              intro v hv j hj
              simp only [vals, List.flatMap_cons, List.flatMap_nil, List.append_nil, List.cons_append, List.nil_append, List.mem_cons, List.not_mem_nil, or_false] at hv
              rcases hv with rfl | rfl | rfl | rfl
              · exact (o1.out.lt j hj).1
              · exact (o2.out.lt j hj).1
              · exact (o3.out.lt j hj).1
              · exact (o4.out.lt j hj).1
            have hb3 : Below w.heap.size w w3 := (((hb.out.trans (b1.out.mono hbs)).trans (b2.out.mono (Nat.le_trans hbs b1.out.size)))).grown hg3 (Nat.le_trans hbs (Nat.le_trans b1.out.size b2.out.size)) (by intro j hj; simp at hj; omega)
            have hfar' : (vals [(⟨v1, .slice none 0 0, u1, .slice none 0 0, (k : Int)⟩ : Ent), ⟨v2, .slice none 0 0, u2, .slice none 0 0, (k : Int)⟩]).Pairwise Far := hfar.out
            replace hE3 := Lib.hid hE3; replace hF3 := Lib.hid hF3; replace hnew := Lib.hid hnew; replace hold := Lib.hid hold; replace hbB := Lib.hid hbB; replace hb3 := Lib.hid hb3; replace hbk3 := Lib.hid hbk3; replace hfar' := Lib.hid hfar'
            have hnews := World.news_of_block hd3
            have oc1 := own_oneCell o1.out
            have oc2 := own_oneCell o2.out
            have oc3 := own_oneCell o3.out
            have oc4 := own_oneCell o4.out
            clear hbk2 hE2 ngE ngb ng1 ng2 ng3 ng4 hg3 hw3 hd2 hd1 hcs2 hc4 hf4 hc9 hf9 o1 o2 o3 o4 b1 b2 hcs hfar hng hd3 hrk1 hck1
            go_wp2_with (at_builtin; refine wpList_append_onto' _ rfl _ _ 44 rfl w.heap.size 50 iH _ 5 104 Try.underlying44 hiH hzH0 hzH1 hzH2 rfl (by decide) _ _ _ rfl hbk3.out.row ⟨g, 0, none⟩ 2 2 _ rfl rfl hnews ?c2 ?c3 ?c4 ?c5 ?_)
            case c2 => simp [Value.oneCell']
            case c3 => simp only [maxLen]; omega
            case c4 => omega
            case c5 => exact hb3.out.size
            intro b' w4 hrow hO
            have hrow' : w4.ownsRow w.heap.size 50 5 b' (E ++ [(⟨v1, .slice none 0 0, u1, .slice none 0 0, (k : Int)⟩ : Ent), ⟨v2, .slice none 0 0, u2, .slice none 0 0, (k : Int)⟩]).length (rowsOf (E ++ [(⟨v1, .slice none 0 0, u1, .slice none 0 0, (k : Int)⟩ : Ent), ⟨v2, .slice none 0 0, u2, .slice none 0 0, (k : Int)⟩])) := by
              rw [rowsOf_append, List.length_append]; exact hrow
            obtain ⟨hbk4, hof⟩ := book_add hbk3.out (fun e he => (hE3.out e he).own) (fun e he => (hF3.out e he).own) wo.heap.size hold.out hnew.out hbB.out hfar'.out hrow' hO
            have hE4 : ∀ e ∈ E ++ [(⟨v1, .slice none 0 0, u1, .slice none 0 0, (k : Int)⟩ : Ent), ⟨v2, .slice none 0 0, u2, .slice none 0 0, (k : Int)⟩], EntTold w.heap.size Ls n w4 e := fun e he => by
              rcases List.mem_append.1 he with h | h
              · exact (hE3.out e h).grown hO.1 (hof e he).1 (hof e he).2
              · exact (hF3.out e h).grown hO.1 (hof e he).1 (hof e he).2
            have hb4 : Below w.heap.size w w4 := hb3.out.trans (hO.below hb3.out.size fun j hj => (hbk3.out.row.lt j hj).1)
            clear hO hrow hrow' hof hnews hbk3 hE3 hF3 hnew hold hbB hfar' hb3
            replace hbk4 := Lib.hid hbk4; replace hE4 := Lib.hid hE4; replace hb4 := Lib.hid hb4
            go_wp2_with fail
            go_roundw
            case rel => exact ⟨q + 1, E ++ [(⟨v1, .slice none 0 0, u1, .slice none 0 0, (k : Int)⟩ : Ent), ⟨v2, .slice none 0 0, u2, .slice none 0 0, (k : Int)⟩], by omega, by go_num, by simp; omega, hbk4.out, hE4.out, hb4.out⟩
            case measure => simp [intOf]; omega
    · obtain rfl : q = 3 * n := by omega
      obtain ⟨bo, bc, rfl, bl1, bl2⟩ := book_form hbk.row
      have ar : ∀ k, alikeB (Ls k) (Ls k) = true := fun k => alike_refl _
      clear hlt hq
      replace hbk := Lib.hid hbk; replace hE := Lib.hid hE; replace hb := Lib.hid hb; replace ar := Lib.hid ar
      go_wp2_with fail
      go_loopw [8, 9] (fun j _ wr => ∃ p : Nat, p ≤ E.length ∧ j = .int .i64 p ∧ Below wo.heap.size wo wr) (fun j _ _ => E.length - (intOf j).toNat)
      case atStart => exact ⟨0, by omega, rfl, Below.refl _ _⟩
      case round =>
        obtain ⟨p, hp, rfl, hbr⟩ := hrel
        by_cases hlt : p < E.length
        · obtain ⟨k, hkn, ek, em, ex, hlk, ov, ou⟩ := (hE.out E[p] (List.getElem_mem hlt)).below hbr
          obtain ⟨B, cap', hv, hB1, hB2, hc1, hc2, c0, c1, c2, c3, c4⟩ := book_at (own_below hbk.out.row hbr) p hlt
          simp only [Value.slice.injEq] at hv
          obtain ⟨rfl, hx, rfl⟩ := hv
          clear hx c1 c3
          obtain ⟨blk, off, rfl, hblk, hA⟩ := hL.out.resolve_left (by omega)
          have hbw := hb.out.trans (hbr.mono hb.out.size)
          have hck := (hbw.cell (p := ⟨blk, off + k, none⟩) hblk).trans (hA k hkn).1
          have hrk := (hA k hkn).2.mono hbw
          obtain ⟨oA, cA, hAk, ca1, ca2, ca3⟩ := hrk.words
          rw [hAk] at hck hrk
          have rv := Rd.of_own ov
          have ru := Rd.of_own ou
          obtain ⟨o1, p1, hv1, l1, q1, s1⟩ := rv.words
          obtain ⟨o2, p2, hv2, l2, q2, s2⟩ := ru.bytes
          rw [hv1] at c0 rv
          rw [hv2] at c2 ru
          rw [ek] at c4
          clear s1 s2 ca3 hAk hv1 hv2 ov ou ek em ex hbw
          rw [length_bytesL] at c2 ru l2
          have c0d : wr.drew.cell? ⟨B, p * 5, none⟩ = _ := c0
          have c2d : wr.drew.cell? ⟨B, p * 5 + 2, none⟩ = _ := c2
          have rvd : Rd wr.drew _ _ := rv.kept fun _ _ _ => rfl
          have rud : Rd wr.drew _ _ := ru.kept fun _ _ _ => rfl
          have rkd : Rd wr.drew _ _ := hrk.kept fun _ _ _ => rfl
          have bd : Below wr.heap.size wr wr.drew := (Below.refl _ _).drew
          clear rv ru hrk
          replace hA := Lib.hid hA
          replace hbr := Lib.hid hbr
          have arK := ar.out k
          go_upto_region 19 with fail
          go_cut [102] from 83 to 102 (fun c wx => c = .bool false ∧ Below wr.heap.size wr wx)
          case first =>
            -- BIG
            go_region_with (first
              | (go_at_call 23; refine (lsame_any _ _ (Ls k) (Ls k) _ rvd rkd).mono ?_; rintro e w5 ⟨rfl, n5, h5⟩; rw [arK]; have b5 : Below wr.drew.heap.size wr.drew w5 := (by rw [h5]; exact below_drewN (Below.refl _ _) _); have c2e := (b5.cell (p := ⟨B, p * 5 + 2, none⟩) hB2).trans c2d; have hcv1 := conv_bytes (P := Try.prog) (rud.mono b5) 48 5 9 Try.underlying48 Try.underlying5 Try.underlying9; clear h5)
              | (go_at_call 24; refine (rbytes_any _ (Ls k) _ (rkd.mono b5) (by omega)).mono ?_; rintro e w6 ⟨v6, rfl, o6, b6⟩; have b56 := b5.trans (b6.mono b5.size); have c2f := (b56.cell (p := ⟨B, p * 5 + 2, none⟩) hB2).trans c2d; have hcv2 := conv_bytes (P := Try.prog) (rud.mono b56) 48 5 9 Try.underlying48 Try.underlying5 Try.underlying9; have hcv3 := conv_bytes (P := Try.prog) (Rd.of_own o6) 48 5 9 Try.underlying48 Try.underlying5 Try.underlying9; clear o6 b6))
            all_goals
              go_wp2_with fail
              go_meet
              case rel => exact ⟨by simp, bd.trans b56⟩
            -- GIB
          case rest =>
            obtain ⟨rfl, b2⟩ := hcut
            go_wp2_with fail
            go_roundw
            case rel => exact ⟨p + 1, by omega, by go_num, hbr.out.trans (b2.mono hbr.out.size)⟩
            case measure => simp [intOf]; omega
        · obtain rfl : p = E.length := by omega
          have hb2 := hb.out.trans (hbr.mono hb.out.size)
          have hbk2 := hbk.out.below hbr
          have hO2 : ∀ e ∈ E, EntOwn w.heap.size wr e := fun e he => ((hE.out e he).below hbr).own
          obtain ⟨w2, rfl⟩ : ∃ w2, w2 = wr := ⟨wr, rfl⟩
          obtain ⟨N, hN⟩ : ∃ N, E.length = N := ⟨_, rfl⟩
          rw [hN] at bl1 hbk2 ⊢
          clear hbr hbk hE hb hlt hp ar
          replace hb2 := Lib.hid hb2; replace hbk2 := Lib.hid hbk2; replace hO2 := Lib.hid hO2
          have hN6 : N ≤ 6291456 := by omega
          replace hN := Lib.hid hN
          clear hEl
          go_wp2_with fail
          go_loopw [10, 11, 12] (fun j _ _ wr => ∃ D T : List Ent, j = .int .i64 (D.length : Int) ∧ (D ++ T).length = N ∧ Book w.heap.size 50 wr (.slice bo N bc) (D ++ T) ∧ (∀ e ∈ D, EntMark w.heap.size wr e) ∧ (∀ e ∈ T, EntOwn w.heap.size wr e) ∧ Below w.heap.size w wr) (fun j _ _ _ => N - (intOf j).toNat)
          case atStart => exact ⟨[], E, rfl, hN.out, hbk2.out, by simp, hO2.out, hb2.out⟩
          case round =>
            obtain ⟨wa, rfl⟩ : ∃ wa, wa = wr := ⟨wr, rfl⟩
            obtain ⟨D, T, rfl, hDT, hbk, hD, hT, hb⟩ := hrel
            obtain ⟨i, hi⟩ : ∃ i, D.length = i := ⟨_, rfl⟩
            rw [hi]
            cases T with
            | nil =>
              rw [List.append_nil] at hDT hbk
              obtain rfl : i = N := by omega
              have h4 := Book4.start hbk hD
              have hb3 := hb
              clear hbk hD hT hi hN hO2 hbk2 hb2 hb
              replace hDT := Lib.hid hDT
              replace h4 := Lib.hid h4; replace hb3 := Lib.hid hb3
              go_wp2_with fail
              go_loopw [13] (fun j wr => ∃ D' T' : List Ent, j = .int .i64 (D'.length : Int) ∧ (D' ++ T').length = i ∧ Book4 w.heap.size 50 wr (.slice bo i bc) D' T' ∧ Below w.heap.size w wr) (fun j _ => i - (intOf j).toNat)
              case atStart => exact ⟨[], D, rfl, hDT.out, h4.out, hb3.out⟩
              case round =>
                obtain ⟨wd, rfl⟩ : ∃ wd, wd = wr := ⟨wr, rfl⟩
                obtain ⟨D', T', rfl, hDT, h5, hb⟩ := hrel
                obtain ⟨q, hq⟩ : ∃ q, D'.length = q := ⟨_, rfl⟩
                rw [hq]
                cases T' with
                | nil =>
                  have hrd : ∀ d ∈ D', EntRead wd d := fun d hd => (h5.done d hd).1
                  have hrow := h5.row
                  rw [List.append_nil] at hDT hrow
                  obtain rfl : q = i := by omega
                  rw [hDT] at hrow
                  clear h5 h4 hb3
                  replace hrd := Lib.hid hrd; replace hrow := Lib.hid hrow; replace hDT := Lib.hid hDT; replace hb := Lib.hid hb
                  go_wp2_with fail
                  have rn := Rd.new wd [.int .u32 16909060] 22 (0, 0) (by decide)
                  refine (bytes_any _ [16909060] _ rn (by decide)).mono ?_
                  rintro e w7 ⟨vo, rfl, oo, b7⟩
                  have b7' : Below wd.heap.size wd w7 := ((Below.refl wd.heap.size wd).alloc (Nat.le_refl _) _).trans (b7.mono (by simp))
                  have hrow7 := own_below hrow.out b7'
                  have hrd7 : ∀ d ∈ D', EntRead w7 d := fun d hd => (hrd.out d hd).mono b7'
                  have hb7 := hb.out.trans (b7'.mono hb.out.size)
                  have ro := Rd.of_own oo
                  have hlt0 := oo.lt
                  clear rn b7 b7' oo
                  obtain ⟨og, oc, rfl, og1, og2, og3⟩ := ro.bytes
                  go_wp2_with fail
                  refine (marked_any _ D' _ w.heap.size (by rw [hDT.out]; exact hrow7) hrd7).mono ?_
                  rintro e w8 ⟨rfl, b8⟩
                  have ro8 := ro.mono b8
                  have hb8 := hb7.trans (b8.mono hb7.size)
                  obtain ⟨_, _, hve, _, _, hce⟩ := ro8.bytes
                  simp only [Value.slice.injEq] at hve
                  obtain ⟨rfl, _, rfl⟩ := hve
                  obtain ⟨bb, fb, rfl, hbb, hcb⟩ := hce.resolve_left (by decide)
                  have e0 := hcb 0 (by decide)
                  have e3 := hcb 3 (by decide)
                  rw [show bAt (bytesL [16909060]) 0 = 1 by decide, Nat.add_zero] at e0
                  rw [show bAt (bytesL [16909060]) 3 = 4 by decide] at e3
                  have e4 : (bytesL [16909060]).length = 4 := by decide
                  rw [e4] at og1 ⊢
                  clear hcb hce hrow7 hrd7 ro ro8 hlt0 og3
                  go_wp2_with fail
                  go_ret
                  exact ⟨ret_bool (by simp), hb8⟩
                | cons t T' =>
                  -- BIG
                  obtain ⟨B, cap', hv, hB1, hB2, c0, c1, c2, c3, c4, hfz⟩ := h5.mid
                  rw [hDT] at hv
                  simp only [Value.slice.injEq, true_and] at hv
                  obtain ⟨rfl, rfl⟩ := hv
                  obtain ⟨n1, nb, hn1, hnb, k1, k2, ov, ou⟩ := h5.todo t (by simp)
                  obtain ⟨fvb, fub, fvu, _⟩ := h5.tfar
                  obtain ⟨v, m, u, x, kk⟩ := t
                  dsimp only at c0 c1 c2 c3 c4 fvb fub fvu ov ou k1 k2
                  rw [hq] at c0 c1 c2 c3 c4
                  have hqi : q < i := by rw [← hDT, ← hq]; simp
                  have hf1 := hfz (q * 5 + 1)
                  have hv := Lib.hid fun j => (fun h => (ov.lt j h).2 : v.ownBlock = some j → j < wd.heap.size)
                  have hu := Lib.hid fun j => (fun h => (ou.lt j h).2 : u.ownBlock = some j → j < wd.heap.size)
                  obtain ⟨o1, p1, rfl, q1, r1⟩ := own_shape ov
                  obtain ⟨o2, p2, rfl, q2, r2⟩ := own_shape ou
                  replace h5 := Lib.hid h5; replace hb := Lib.hid hb; replace hDT := Lib.hid hDT; replace hq := Lib.hid hq
                  replace fvb := Lib.hid fvb; replace fub := Lib.hid fub; replace fvu := Lib.hid fvu; replace ov := Lib.hid ov; replace ou := Lib.hid ou
                  clear hfz h4 hb3
                  go_upto_region 36 with fail
                  go_cut [] from 161 to 177 (fun wx => ∃ (v' : Value) (wm : World), Onto wd (.slice o1 n1 p1) wm v' ∧ wm.ownsRow w.heap.size 22 1 v' (n1 + 1) (List.replicate (n1 + 1) (mk32 kk)) ∧ Rd wm (.slice o1 n1 p1) (List.replicate n1 (mk32 kk)) ∧ wx = wm.setCell ⟨B, q * 5 + 1, none⟩ v')
                  case first =>
                    have hw32 : IntKind.u32.wrap kk = kk % 4294967296 := IntKind.wrap_u32 _
                    go_region_law (refine step_append_keep _ (by rfl) _ _ _ (by rfl) w.heap.size 22 i0 (.int .u32 0) 4 Try.underlying39 hi0 hz0 hz1 hz2 rfl _ _ _ (by rfl) ((ov.out.alloc _).drew) ⟨wd.heap.size, 0, none⟩ 1 1 [.int .u32 (kk % 4294967296)] (by rfl) (by rfl) (World.news_of_block (cs := #[.int .u32 (kk % 4294967296)]) (fr := (0, 0)) (heap_alloc_new wd _)) (by simp [Value.oneCell']) (by simp only [maxLen]; omega) (by omega) (by simp; omega) ?_; intro v' wm ho hO hR; have hO1 := Onto.alloc _ (Onto.of_drew hO) hv.out; have c1m := hO1.1.cell c1 (fun e => fvb.out B e.symm rfl); have f1m := (row_frozen (h5.out.row.kept hO1.1 (far_ne (Far.symm fvb.out))) (q * 5 + 1)); obtain ⟨o', p', rfl, _, _⟩ := own_shape ho; clear hO)
                    all_goals
                      go_wp2_with fail
                      go_meet
                      case rel => exact ⟨_, _, hO1, by rw [List.replicate_succ']; exact ho, hR, rfl⟩
                  case rest =>
                    obtain ⟨v', wm, hO1, ho1, hR1, hw⟩ := hcut
                    obtain ⟨o', p', rfl, _, _⟩ := own_shape ho1
                    have hrow := h5.out.row
                    rw [hDT.out] at hrow
                    obtain ⟨row2, g2⟩ := row_set (t' := ⟨.slice o1 n1 p1, .slice o' (n1 + 1) p', .slice o2 nb p2, x, kk⟩) (hrow.kept hO1.1 (far_ne (Far.symm fvb.out))) 1 (.slice o' (n1 + 1) p') (by decide) rfl
                    rw [hq.out, ← hw] at g2
                    rw [hq.out, ← hw] at row2
                    obtain ⟨d2, d3, d4, dfz⟩ := row_mid row2 (by have := hDT.out; simp at this ⊢; exact this)
                    rw [hq.out] at d2 d3 d4
                    dsimp only at d2 d3 d4
                    have ou2 := (ou.out.kept hO1.1 (far_ne (Far.symm fvu.out))).kept g2 (far_ne fub.out)
                    have hb2 : Below w.heap.size w wc := (hb.out.grown hO1.1 hb.out.size fun j hj => (ov.out.lt j hj).1).grown g2 (Nat.le_trans hb.out.size hO1.1.size) (by intro j hj; simp at hj; omega)
                    have df3 := dfz (q * 5 + 3)
                    have hcB : B < wc.heap.size := Nat.lt_of_lt_of_le hB2 (Nat.le_trans hO1.1.size g2.size)
                    have hbs2 := hb2.size
                    have hu2 := Lib.hid fun j => (fun h => (ou2.lt j h).2 : (Value.slice o2 nb p2).ownBlock = some j → j < wc.heap.size)
                    replace ho1 := Lib.hid ho1; replace hR1 := Lib.hid hR1; replace hO1 := Lib.hid hO1; replace hw := Lib.hid hw; replace row2 := Lib.hid row2; replace ou2 := Lib.hid ou2; replace hb2 := Lib.hid hb2
                    clear hrow g2 dfz c0 c1 c2 c3 c4 hf1
                    go_upto_region 37 with fail
                    have hw8 : IntKind.u8.wrap kk = kk % 256 := IntKind.wrap_u8 _
                    go_region_law (refine step_append_keep _ (by rfl) _ _ _ (by rfl) w.heap.size 5 i8 (.int .u8 0) 1 Try.underlying48 hi8 hy0 hy1 hy2 rfl _ _ _ (by rfl) ((ou2.out.alloc _).drew) ⟨wc.heap.size, 0, none⟩ 1 1 [.int .u8 (kk % 256)] (by rfl) (by rfl) (World.news_of_block (cs := #[.int .u8 (kk % 256)]) (fr := (0, 0)) (heap_alloc_new wc _)) (by simp [Value.oneCell']) (by simp only [maxLen]; omega) (by omega) (by simp; omega) ?_; intro u' wn ho hO hR; have hO3 := Onto.alloc _ (Onto.of_drew hO) hu2.out; have c3m := hO3.1.cell d3 (fun e => fub.out B e.symm rfl); have f3m := (row_frozen (row2.out.kept hO3.1 (far_ne (Far.symm fub.out))) (q * 5 + 3)); obtain ⟨o3, p3, rfl, _, _⟩ := own_shape ho; clear hO)
                    all_goals
                      have hfin : Book4 w.heap.size 50 (wn.setCell ⟨B, D'.length * 5 + 3, none⟩ (.slice o3 (nb + 1) p3)) (.slice (some ⟨B, 0, none⟩) i bc) (D' ++ [⟨.slice o1 n1 p1, .slice o' (n1 + 1) p', .slice o2 nb p2, .slice o3 (nb + 1) p3, kk⟩]) T' :=
                        h5.out.step hDT.out hB2 k1 k2 hu.out hv.out hO1.out ho1.out hR1.out (by rw [hq.out, ← hw.out]; exact hO3) (by rw [List.replicate_succ']; exact ho) hR
                      rw [hq.out] at hfin
                      have hb5 : Below w.heap.size w (wn.setCell ⟨B, q * 5 + 3, none⟩ (.slice o3 (nb + 1) p3)) := by
                        have gx := ((row2.out.kept hO3.1 (far_ne (Far.symm fub.out))).stored (q * 5 + 3) (.slice o3 (nb + 1) p3)).2
                        exact (hb2.out.grown hO3.1 hb2.out.size fun j hj => (ou2.out.lt j hj).1).grown gx (Nat.le_trans hb2.out.size hO3.1.size) (by intro j hj; simp at hj; omega)
                      clear ho hR hO3 c3m f3m
                      replace hfin := Lib.hid hfin; replace hb5 := Lib.hid hb5
                      go_wp2_with fail
                      go_roundw
                      case rel => exact ⟨D' ++ [⟨.slice o1 n1 p1, .slice o' (n1 + 1) p', .slice o2 nb p2, .slice o3 (nb + 1) p3, kk⟩], by simp [hq.out], T', by have := hDT.out; simp at this ⊢; omega, hfin.out, hb5.out⟩
                      case measure => simp [intOf]; omega
                  -- GIB
            | cons t T =>
              -- BIG
              obtain ⟨B, cap', hv, hB1, hB2, c0, c1, c2, c3, c4, hfz⟩ := book_mid hbk
              rw [hDT] at hv
              simp only [Value.slice.injEq, true_and] at hv
              obtain ⟨rfl, rfl⟩ := hv
              obtain ⟨hfm, hvu, _⟩ := far_mid hbk.far
              obtain ⟨hfo, hvb, hub⟩ := book_offs hbk
              obtain ⟨n1, xs, nb, ys, hn1, hnb, ov, ou⟩ := hT t (by simp)
              have hs := book_set (t' := { t with k := 1000 + (i : Int) }) hbk hDT.symm 4 (.int .i64 (1000 + (i : Int))) (by decide) rfl rfl rfl
              obtain ⟨v, m, u, x, kk⟩ := t
              dsimp only at c0 c1 c2 c3 c4 hfm hvu hvb hub ov ou hs
              rw [hi] at c0 c1 c2 c3 c4 hs
              have hbw : Below w.heap.size w (wa.setCell ⟨B, i * 5 + 4, none⟩ (.int .i64 (1000 + (i : Int)))) := hb.grown hs.2 hb.size (by intro j hj; simp at hj; omega)
              have hf4 := hfz (i * 5 + 4)
              have hiN : i < N := by rw [← hDT, ← hi]; simp
              replace hs := Lib.hid hs; replace ov := Lib.hid ov; replace ou := Lib.hid ou; replace hD := Lib.hid hD; replace hT := Lib.hid hT; replace hbw := Lib.hid hbw
              replace hDT := Lib.hid hDT; replace hi := Lib.hid hi; replace hvb := Lib.hid hvb; replace hub := Lib.hid hub; replace hfm := Lib.hid hfm; replace hfo := Lib.hid hfo; replace hvu := Lib.hid hvu
              clear hbk hfz hb hN hO2 hbk2 hb2
              go_upto_region 25 with fail
              obtain ⟨wb, hwb⟩ : ∃ wb, wa.setCell ⟨B, i * 5 + 4, none⟩ (.int .i64 (1000 + (i : Int))) = wb := ⟨_, rfl⟩
              rw [hwb]
              have hs := hs.out
              rw [hwb] at hs
              have hbw := hbw.out
              rw [hwb] at hbw
              obtain ⟨hbk, hgb⟩ := hs
              have hDb := ents_grown (P := EntMark w.heap.size) (v := .slice (some ⟨B, 0, none⟩) N bc) EntMark.grown hD.out hgb fun e he => hfo.out e (.inl he)
              have hTb := ents_grown (P := EntOwn w.heap.size) (v := .slice (some ⟨B, 0, none⟩) N bc) EntOwn.grown (fun e he => hT.out e (List.mem_cons_of_mem _ he)) hgb fun e he => hfo.out e (.inr he)
              have ov := ov.out.kept hgb (far_ne hvb.out)
              have ou := ou.out.kept hgb (far_ne hub.out)
              obtain ⟨_, _, hv, _, hB2, c0, c1, c2, c3, c4, hfz⟩ := book_mid hbk
              simp only [Value.slice.injEq, Option.some.injEq, Addr.mk.injEq, and_true] at hv
              obtain ⟨rfl, hx⟩ := hv
              clear hx
              dsimp only at c0 c1 c2 c3 c4
              rw [hi.out] at c0 c1 c2 c3 c4
              obtain ⟨o1, p1, rfl, q1, r1⟩ := own_shape ov
              obtain ⟨o2, p2, rfl, q2, r2⟩ := own_shape ou
              have hxl : xs.length = n1 := by simpa using ov.1
              have hyl : ys.length = nb := by simpa using ou.1
              replace hxl := Lib.hid hxl; replace hyl := Lib.hid hyl
              replace hbk := Lib.hid hbk; replace ov := Lib.hid ov; replace ou := Lib.hid ou; replace hDb := Lib.hid hDb; replace hTb := Lib.hid hTb; clear hD hT; replace hbw := Lib.hid hbw
              clear hgb hwb hf4 hfz c1 c3 c4
              have hm32 : mk32 (1000 + (i : Int)) = .int .u32 (1000 + (i : Int)) := by unfold mk32; congr 1; omega
              replace hm32 := Lib.hid hm32
              go_wp2_with fail
              go_loopw [11] (fun j wr => ∃ q : Nat, q ≤ n1 ∧ j = .int .i64 q ∧ wr.ownsRow w.heap.size 22 1 (.slice o1 n1 p1) n1 (List.replicate q (mk32 (1000 + (i : Int))) ++ xs.drop q) ∧ wb.grownBy wr (Value.ownBlock (.slice o1 n1 p1))) (fun j _ => n1 - (intOf j).toNat)
              case atStart => exact ⟨0, by omega, rfl, by simpa using ov.out, World.grownBy.refl _ _⟩
              case round =>
                obtain ⟨q, hq, rfl, oq, gq⟩ := hrel
                have c0r := gq.cell c0 (fun e => hvb.out B e.symm rfl)
                by_cases hlt : q < n1
                · obtain ⟨g1, _, hv, _, _⟩ := oq.form (by omega)
                  simp only [Value.slice.injEq, true_and] at hv
                  obtain ⟨rfl, rfl⟩ := hv
                  obtain ⟨y, hy⟩ := get_fill (mk32 (1000 + (i : Int))) xs q (by rw [hxl.out]; exact hlt)
                  have hcq := (oq.cellAt q (by omega)).trans hy
                  have hfq := oq.frozenAt q
                  have hst := oq.stored q (mk32 (1000 + (i : Int)))
                  rw [set_fill _ _ _ (by rw [hxl.out]; exact hlt)] at hst
                  replace hst := Lib.hid hst; replace gq := Lib.hid gq
                  clear oq hy
                  go_wp2_with fail
                  refine ⟨⟨q + 1, by omega, by go_num, ?_, ?_⟩, by simp [intOf]; omega⟩
                  · rw [← hm32.out]; exact hst.out.1
                  · rw [← hm32.out]; exact grownBy_trans gq.out hst.out.2 (.inl rfl)
                · obtain rfl : q = n1 := by omega
                  rw [fill_all _ _ _ hxl.out] at oq
                  obtain ⟨w4, rfl⟩ : ∃ w4, w4 = wr := ⟨wr, rfl⟩
                  have hbk := hbk.out.grown gq (far_ne (Far.symm hvb.out))
                  have hDc := ents_grown (P := EntMark w.heap.size) (v := .slice o1 q p1) EntMark.grown hDb.out gq fun e he => ⟨(hfm.out e (.inl he)).1, (hfm.out e (.inl he)).2.1⟩
                  have hTc := ents_grown (P := EntOwn w.heap.size) (v := .slice o1 q p1) EntOwn.grown hTb.out gq fun e he => ⟨(hfm.out e (.inr he)).1, (hfm.out e (.inr he)).2.1⟩
                  have ou := ou.out.kept gq (far_ne (Far.symm hvu.out))
                  have hbw4 := hbw.out.grown gq hbw.out.size fun j hj => (ov.out.lt j hj).1
                  have c2 := gq.cell c2 (fun e => hvb.out B e.symm rfl)
                  clear gq c0 hbw ov
                  replace hbk := Lib.hid hbk; replace oq := Lib.hid oq; replace ou := Lib.hid ou; replace hDc := Lib.hid hDc; replace hTc := Lib.hid hTc; clear hDb hTb; replace hbw4 := Lib.hid hbw4
                  go_wp2_with fail
                  go_loopw [12] (fun j wr => ∃ q : Nat, q ≤ nb ∧ j = .int .i64 q ∧ wr.ownsRow w.heap.size 5 1 (.slice o2 nb p2) nb (List.replicate q (mk8 (1000 + (i : Int))) ++ ys.drop q) ∧ w4.grownBy wr (Value.ownBlock (.slice o2 nb p2))) (fun j _ => nb - (intOf j).toNat)
                  case atStart => exact ⟨0, by omega, rfl, by simpa using ou.out, World.grownBy.refl _ _⟩
                  case round =>
                    obtain ⟨z, hz, rfl, oz, gz⟩ := hrel
                    have c2r := gz.cell c2 (fun e => hub.out B e.symm rfl)
                    by_cases hlz : z < nb
                    · obtain ⟨g2, _, hv, _, _⟩ := oz.form (by omega)
                      simp only [Value.slice.injEq, true_and] at hv
                      obtain ⟨rfl, rfl⟩ := hv
                      obtain ⟨y, hy⟩ := get_fill (mk8 (1000 + (i : Int))) ys z (by rw [hyl.out]; exact hlz)
                      have hcq := (oz.cellAt z (by omega)).trans hy
                      have hfq := oz.frozenAt z
                      have hst := oz.stored z (mk8 (1000 + (i : Int)))
                      rw [set_fill _ _ _ (by rw [hyl.out]; exact hlz)] at hst
                      replace hst := Lib.hid hst; replace gz := Lib.hid gz
                      clear oz hy
                      go_wp2_with fail
                      refine ⟨⟨z + 1, by omega, by go_num, hst.out.1, grownBy_trans gz.out hst.out.2 (.inl rfl)⟩, by simp [intOf]; omega⟩
                    · obtain rfl : z = nb := by omega
                      rw [fill_all _ _ _ hyl.out] at oz
                      have hbk := hbk.out.grown gz (far_ne (Far.symm hub.out))
                      have hDd := ents_grown (P := EntMark w.heap.size) (v := .slice o2 z p2) EntMark.grown hDc.out gz fun e he => ⟨(hfm.out e (.inl he)).2.2.1, (hfm.out e (.inl he)).2.2.2⟩
                      have hTd := ents_grown (P := EntOwn w.heap.size) (v := .slice o2 z p2) EntOwn.grown hTc.out gz fun e he => ⟨(hfm.out e (.inr he)).2.2.1, (hfm.out e (.inr he)).2.2.2⟩
                      have oq := oq.out.kept gz (far_ne hvu.out)
                      have hbw5 := hbw4.out.grown gz hbw4.out.size fun j hj => (ou.out.lt j hj).1
                      have hmine : EntMark w.heap.size wr ⟨.slice o1 q p1, m, .slice o2 z p2, x, 1000 + (i : Int)⟩ := ⟨q, z, hn1, hnb, by simp; omega, by simp; omega, oq, oz⟩
                      clear gz c2 hbw4 ou
                      replace hbk := Lib.hid hbk; replace hDd := Lib.hid hDd; replace hTd := Lib.hid hTd; replace hbw5 := Lib.hid hbw5; replace hmine := Lib.hid hmine
                      clear oq oz
                      go_wp2_with fail
                      go_roundw
                      case rel =>
                        refine ⟨D ++ [⟨.slice o1 q p1, m, .slice o2 z p2, x, 1000 + (i : Int)⟩], T, by simp [hi.out], ?_, ?_, ?_, hTd.out, hbw5.out⟩
                        · have := hDT.out; simp at this ⊢; omega
                        · rw [List.append_assoc]; exact hbk.out
                        · intro e he
                          rcases List.mem_append.1 he with he | he
                          · exact hDd.out e he
                          · rw [List.mem_singleton.1 he]; exact hmine.out
                      case measure => simp [intOf]; omega
              -- GIB
end Go.Proofs.Ytedhinekkmoheaa
