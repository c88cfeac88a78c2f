/- The reference's Columns. -/
import Derived.Test.YtefbogmgcihndaaDoorTRcl
import Derived.Test.YtefbogmgcihndaaDoorTColGJn
import Derived.Test.YtefbogmgcihndaaDoorTRd
namespace Go.Proofs.YtefbogmgcihndaaDoor
open Go.RowKit WP
/-- the text so far and the line that is made, in two rows of the call's own -/
structure RC (B Bk : Nat) (w0 wx : World) (va : Value) (A : List UInt8) (vl : Value) (b : List UInt8) : Prop where
  a : wx.ownsRow B 5 1 va A.length (vb A)
  b : wx.ownsRow Bk 5 1 vl b.length (vb b)
  alt : ∀ k, va.ownBlock = some k → k < Bk
  hb : Below B w0 wx
  le : B ≤ Bk
  size : Bk ≤ wx.heap.size
namespace RC
variable {B Bk : Nat} {w0 wx w2 : World} {va vl vl' : Value} {A b b' : List UInt8}
theorem line (h : RC B Bk w0 wx va A vl b) (hg : wx.grownBy w2 vl.ownBlock) (ho : w2.ownsRow Bk 5 1 vl' b'.length (vb b')) : RC B Bk w0 w2 va A vl' b' :=
  ⟨h.a.kept hg (by
    cases hv : va.ownBlock with
    | none => exact .inl rfl
    | some k =>
      refine .inr fun e => ?_
      have h1 := h.alt k hv
      have h2 := (h.b.lt k e.symm).1
      omega), ho, h.alt, h.hb.grown hg (Nat.le_trans h.le h.size) (fun k hk => Nat.le_trans h.le (h.b.lt k hk).1), h.le, Nat.le_trans h.size hg.size⟩
theorem lineA (h : RC B Bk w0 wx va A vl b) (ob : Obj) (hg : (wx.alloc ob).grownBy w2 vl.ownBlock) (ho : w2.ownsRow Bk 5 1 vl' b'.length (vb b')) : RC B Bk w0 w2 va A vl' b' :=
  h.line (grownBy_trans (World.grownBy_alloc wx ob _) hg (.inl rfl)) ho
end RC
set_option maxRecDepth 100000 in
set_option maxHeartbeats 1600000 in
theorem rcolumns_any (v : Value) (V : Nat → Value) (C : Nat → List ByteArray) (n : Nat) (w : World) (hG : Grid w v V C n) (M N : Nat) (hS : ((List.range n).map fun i => (C i).length).sum ≤ N) (hn : n ≤ N) (hM : ∀ i, i < n → (C i).length ≤ N ∧ ∀ j, (nthB (C i) j).size ≤ M) (hN : N ≤ 1048576) (hMb : M ≤ 1048576) :
    Calls Tryd.prog 40 #[v] w fun e w' => e = .returned (.string ⟨(textG (wK C n) C n).toArray⟩) ∧ Below w.heap.size w w' := by
  obtain ⟨j0, hj, ey0, ey1, ey2⟩ := info_parts infoBr
  obtain ⟨ao, ca, hv, a1, a2, a3⟩ := hG.form
  have hwd : ∀ W, Below w.heap.size w W → ∀ j : Nat, j ≤ 1048576 → Calls Tryd.prog 59 #[v, .int .i64 (j : Int)] W fun e w' => e = .returned (.int .i64 (((wK C n).getD j 0 : Nat) : Int)) ∧ w' = W := fun W hW j hj => rwidth_any v V C n j W (hG.later hW) hj (by omega) (fun i hi => ⟨by have := (hM i hi).1; omega, by have := (hM i hi).2 j; omega⟩)
  subst hv
  have hge := wK_ge C n
  have hMx := wK_le C M n (fun i hi j _ => (hM i hi).2 j)
  have hTl := textK_len (wK C n) C M n hMx (fun i hi => (hge i hi).2)
  have hPl := fun i (hi : i < n) => padK_len (wK C n) (C i) M hMx (fun j => by
    by_cases hj : j < (C i).length
    · exact .inl ((hge i hi).2 j hj)
    · exact .inr (by omega))
  generalize hX : wK C n = X at *
  replace hX := Lib.hid hX
  have hTk : ∀ i, i ≤ n → (textG X C i).length ≤ 1099514773504 := by
    intro i hi
    have h0 := textG_len X C i
    have h1 := hTl i hi
    have h2 : ((List.range i).map fun i => (C i).length).sum ≤ ((List.range n).map fun i => (C i).length).sum := by
      obtain ⟨d, rfl⟩ : ∃ d, n = i + d := ⟨n - i, by omega⟩
      rw [List.range_add, List.map_append, List.sum_append]; omega
    have h3 : ((List.range i).map fun i => (C i).length).sum * (M + 2) ≤ 1048576 * 1048578 := Nat.mul_le_mul (by omega) (by omega)
    omega
  have hPk : ∀ i, i < n → ∀ j, j ≤ (C i).length → (padK X (C i) j).length ≤ 1099513724928 := by
    intro i hi j hj
    have h1 := hPl i hi j hj
    have h2 := (hM i hi).1
    have h3 : j * (M + 2) ≤ 1048576 * 1048578 := Nat.mul_le_mul (by omega) (by omega)
    omega
  clear hTl hPl
  replace hG := Lib.hid hG; replace hM := Lib.hid hM; replace a3 := Lib.hid a3
  replace hge := Lib.hid hge; replace hMx := Lib.hid hMx; replace hTk := Lib.hid hTk; replace hPk := Lib.hid hPk; replace hS := Lib.hid hS; replace hwd := Lib.hid hwd
  go_enter Tryd.func40, Tryd.ntmps40
  go_wp2_with fail
  go_loopw [3, 4] (fun va i wr => ∃ (m : Nat), m ≤ n ∧ i = .int .i64 m ∧ wr.ownsRow w.heap.size 5 1 va (textG X C m).length (vb (textG X C m)) ∧ Below w.heap.size w wr) (fun _ i _ => n - (intOf i).toNat)
  case atStart => exact ⟨0, by omega, rfl, World.ownsRow_nil _ _ _ _, Below.refl _ _⟩
  case round =>
    obtain ⟨wo, rfl⟩ : ∃ wo, wo = wr := ⟨wr, rfl⟩
    obtain ⟨va, rfl⟩ : ∃ b, b = u3 := ⟨u3, rfl⟩
    obtain ⟨m, hm, rfl, oa, hb⟩ := hrel
    have hTm := hTk.out m hm
    by_cases hlt : m < n
    · obtain ⟨b, off, rfl, hc⟩ := a3.out m hlt
      have hbw := World.block_lt_of_cell? w _ hc
      obtain ⟨ai, ci, hV, b1, b2, b3⟩ := hG.out.line m hlt
      obtain ⟨hCN, hCM⟩ := hM.out m hlt
      have hgm := (hge.out m hlt).2
      have hcl := (hge.out m hlt).1
      have hPm := hPk.out m hlt
      have hst : textG X C (m + 1) = textG X C m ++ trimR (padK X (C m) (C m).length) ++ [10] := rfl
      have hR0 : RC w.heap.size wo.heap.size w wo va (textG X C m) (.slice none 0 0) [] := ⟨oa, World.ownsRow_nil _ _ _ _, fun k hk => (oa.lt k hk).2, hb, hb.size, Nat.le_refl _⟩
      obtain ⟨Bk, hBk⟩ : ∃ Bk, wo.heap.size = Bk := ⟨_, rfl⟩
      rw [hBk] at hR0
      rw [hV] at hc
      generalize textG X C m = T at *
      generalize C m = cs at *
      have i1 : (0 : Int) ≤ (m : Int) := by omega
      have i2 : (m : Int) < (n : Int) := by omega
      have dm : decide ((m : Int) < (n : Int)) = true := decide_eq_true i2
      clear oa hb hV hBk
      replace b3 := Lib.hid b3; replace hCM := Lib.hid hCM; replace hgm := Lib.hid hgm; replace hPm := Lib.hid hPm; replace hst := Lib.hid hst; replace hR0 := Lib.hid hR0; replace hc := Lib.hid hc; replace hbw := Lib.hid hbw
      go_wp2_with fail
      go_loopw [5, 6] (fun vl j wr => ∃ (i : Nat), i ≤ cs.length ∧ j = .int .i64 i ∧ RC w.heap.size Bk w wr va T vl (padK X cs i)) (fun _ j _ => cs.length - (intOf j).toNat)
      case atStart => exact ⟨0, by omega, rfl, hR0.out⟩
      case round =>
        clear hR0
        obtain ⟨wi, rfl⟩ : ∃ wo, wo = wr := ⟨wr, rfl⟩
        obtain ⟨vl, rfl⟩ : ∃ b, b = u5 := ⟨u5, rfl⟩
        obtain ⟨i, hi', rfl, hR⟩ := hrel
        have d0 := (hR.hb.cell (p := ⟨b, off + m, none⟩) hbw.out).trans hc.out
        by_cases hil : i < cs.length
        · obtain ⟨bb, oo, rfl, hc2⟩ := b3.out i hil
          have hbw2 := World.block_lt_of_cell? w _ hc2
          have d1 := (hR.hb.cell (p := ⟨bb, oo + i, none⟩) hbw2).trans hc2
          have hsz := hCM.out i
          have hxs := hgm.out i hil
          have hpi := hPm.out i hi'
          have hss : padK X cs (i + 1) = padK X cs i ++ (nthB cs i).data.toList ++ (if i + 1 < cs.length then List.replicate (X.getD i 0 + 2 - (nthB cs i).size) 32 else []) := rfl
          generalize padK X cs i = D at *
          generalize nthB cs i = cell at *
          have hMi := hMx.out i
          have hcv : Lib.strCells cell = vb cell.data.toList := rfl
          have hcsz := size_list cell
          obtain ⟨al, cl, rfl⟩ := slice_form hR.b
          have k1 : (0 : Int) ≤ (i : Int) := by omega
          have k2 : (i : Int) < (cs.length : Int) := by omega
          have dk : decide ((i : Int) < (cs.length : Int)) = true := decide_eq_true k2
          replace hss := Lib.hid hss; replace hR := Lib.hid hR; replace hcv := Lib.hid hcv
          go_wp2_with (at_builtin; refine Lib.wpList_append_own_string _ rfl _ _ 24 9 rfl Bk 5 j0 Tryd.underlying24 Tryd.underlying9 hj ey0 ey1 ey2 _ _ _ rfl hR.out.b _ rfl ?h3 ?h4 ?h5 ?_)
          case h3 => unfold maxLen; omega
          case h4 => omega
          case h5 => exact hR.out.size
          intro v4 w4 ho4 hg4 _
          have hR4 := hR.out.line hg4 (b' := D ++ cell.data.toList) (by rw [List.length_append, vb_append, ← hcv.out, hcsz]; exact ho4)
          clear ho4 hg4 hR d0 d1
          have d0 := (hR4.hb.cell (p := ⟨b, off + m, none⟩) hbw.out).trans hc.out
          have d1 := (hR4.hb.cell (p := ⟨bb, oo + i, none⟩) hbw2).trans hc2
          have hDl : (D ++ cell.data.toList).length = D.length + cell.size := by rw [List.length_append, hcsz]
          by_cases hlast : i + 1 < cs.length
          · have dl : decide ((i : Int) + 1 < (cs.length : Int)) = true := decide_eq_true (by omega)
            obtain ⟨y, hy⟩ : ∃ y, X.getD i 0 = cell.size + y := ⟨X.getD i 0 - cell.size, by omega⟩
            replace hss := hss.out
            rw [if_pos hlast, hy, show cell.size + y + 2 - cell.size = y + 2 by omega] at hss
            have hsub : (((cell.size + y : Nat) : Int) - (cell.size : Int)) = (y : Int) := by omega
            have hw2 := fun W hW => hwd.out W hW i (by omega)
            rw [hy] at hw2 hMi
            have hb4 := Lib.hid hR4.hb
            replace hss := Lib.hid hss; replace hy := Lib.hid hy; replace hw2 := Lib.hid hw2; replace hR4 := Lib.hid hR4; replace hDl := Lib.hid hDl
            go_upto_region 11 with fail
            go_quiet ((go_at_call 59; exact Calls.quiet_of_same (hw2.out _ (below_drewN hb4.out _))))
            obtain ⟨w5, hw5⟩ : ∃ w5, w4.drewN nq = w5 := ⟨_, rfl⟩
            have hR5 : RC w.heap.size Bk w w5 va T v4 (D ++ cell.data.toList) := by
              rw [← hw5]
              exact ⟨hR4.out.a, hR4.out.b, hR4.out.alt, below_drewN hR4.out.hb _, hR4.out.le, hR4.out.size⟩
            rw [hw5]
            clear hw5 hR4 d0 d1 hb4
            replace hR5 := Lib.hid hR5
            go_wp2_with fail
            go_loopw [5, 7] (fun vl t wr => ∃ (q : Nat), q ≤ y + 2 ∧ t = .int .i64 ((y + 2 - q : Nat) : Int) ∧ RC w.heap.size Bk w wr va T vl (D ++ cell.data.toList ++ List.replicate q 32)) (fun _ t _ => (intOf t).toNat)
            case atStart => exact ⟨0, by omega, by simp; omega, by simpa using hR5.out⟩
            case round =>
              clear hR5
              obtain ⟨wj, rfl⟩ : ∃ wo, wo = wr := ⟨wr, rfl⟩
              obtain ⟨vx, rfl⟩ : ∃ b, b = u5 := ⟨u5, rfl⟩
              obtain ⟨q, hq, rfl, hR⟩ := hrel
              obtain ⟨o1, ho⟩ : ∃ o1, D ++ cell.data.toList ++ List.replicate q (32 : UInt8) = o1 := ⟨_, rfl⟩
              have hol1 : o1.length = D.length + cell.size + q := by rw [← ho, List.length_append, List.length_append, hcsz, List.length_replicate]
              rw [ho] at hR
              obtain ⟨p, hp⟩ : ∃ p, y + 2 - q = p := ⟨_, rfl⟩
              rw [hp]
              have hs1 := Nat.le_trans hR.le hR.size
              have hs2 := hR.size
              obtain ⟨al, cl, rfl⟩ := slice_form hR.b
              have hpb : p ≤ 1048578 := by omega
              by_cases hqy : q < y + 2
              · have dt : decide ((p : Int) > 0) = true := decide_eq_true (by omega)
                have dn : 0 < p := by omega
                replace ho := Lib.hid ho; replace hR := Lib.hid hR; replace hp := Lib.hid hp; replace hol1 := Lib.hid hol1
                go_wp2_with (at_builtin; refine wpList_append_onto' _ rfl _ _ 24 rfl Bk 5 j0 (.int .u8 0) 1 1 Tryd.underlying24 hj ey0 ey1 ey2 rfl (by decide) _ _ _ rfl (hR.out.b.alloc _) ⟨wj.heap.size, 0, none⟩ 1 1 [.int .u8 32] rfl rfl ?d1 ?d2 ?d3 ?d4 ?d5 ?_)
                all_goals try exact cell_one_new _ _ _
                case d2 => simp [Value.oneCell']
                case d3 => have := hol1.out; simp only [maxLen]; omega
                case d4 => have := hol1.out; omega
                case d5 => first | omega | (simp; omega)
                intro v6 w6 ho1 hO1
                have hM2 := hR.out.lineA (b' := o1 ++ [32]) _ hO1.1 (by rw [List.length_append, vb_append]; exact ho1)
                rw [← ho.out, List.append_assoc, ← List.replicate_succ'] at hM2
                clear ho1 hO1
                have hp1 : (p : Int) - 1 = ((y + 2 - (q + 1) : Nat) : Int) := by have := hp.out; omega
                replace hM2 := Lib.hid hM2; replace hp1 := Lib.hid hp1
                go_wp2_with fail
                go_roundw
                case rel => (repeat apply Exists.intro); exact ⟨⟨q + 1, by omega, by rw [hp1.out], hM2.out⟩, rfl⟩
                case measure => simp [intOf]; omega
              · obtain rfl : q = y + 2 := by omega
                obtain rfl : p = 0 := by omega
                have hF : padK X cs (i + 1) = o1 := by rw [hss.out, ← ho]
                have hR2 : RC w.heap.size Bk w wj va T (.slice al o1.length cl) (padK X cs (i + 1)) := by rw [hF]; exact hR
                replace hR2 := Lib.hid hR2
                clear hF ho hR
                go_wp2_with fail
                refine ⟨⟨i + 1, by omega, by go_num, hR2.out⟩, by simp [intOf]; omega⟩
          · have dl : decide ((i : Int) + 1 < (cs.length : Int)) = false := decide_eq_false (by omega)
            replace hss := hss.out
            rw [if_neg hlast, List.append_nil] at hss
            rw [← hss] at hR4
            replace hR4 := Lib.hid hR4; replace hDl := Lib.hid hDl
            clear hss
            go_wp2_with fail
            refine ⟨⟨i + 1, by omega, by go_num, hR4.out⟩, by simp [intOf]; omega⟩
        · obtain rfl : i = cs.length := by omega
          have dk : decide ((cs.length : Int) < (cs.length : Int)) = false := decide_eq_false (by omega)
          obtain ⟨row, hrow⟩ : ∃ row, padK X cs cs.length = row := ⟨_, rfl⟩
          replace hst := hst.out
          rw [hrow] at hR hst
          have hrl := hPm.out cs.length hi'
          rw [hrow] at hrl
          obtain ⟨R, hRr⟩ : ∃ R, trimR row = R := ⟨_, rfl⟩
          rw [hRr] at hst
          replace hst := Lib.hid hst; replace hRr := Lib.hid hRr; replace hrow := Lib.hid hrow; replace hR := Lib.hid hR
          go_wp2_with fail
          go_loopw [5] (fun vx wr => ∃ c : List UInt8, c.length ≤ row.length ∧ trimR c = R ∧ RC w.heap.size Bk w wr va T vx c) (fun vx _ => lenOfS vx)
          case atStart => exact ⟨row, Nat.le_refl _, hRr.out, hR.out⟩
          case round =>
            clear hR d0
            obtain ⟨wj, rfl⟩ : ∃ wo, wo = wr := ⟨wr, rfl⟩
            obtain ⟨vx, rfl⟩ : ∃ b, b = u5 := ⟨u5, rfl⟩
            obtain ⟨c, hcl2, hcR, hR⟩ := hrel
            have hs1 := Nat.le_trans hR.le hR.size
            by_cases h0 : c = []
            · obtain ⟨o1, ho⟩ : ∃ o1, c = o1 := ⟨_, rfl⟩
              have hst := hst.out
              have htc : trimR c = c := by rw [h0]; rfl
              rw [← hcR, htc, ho] at hst
              rw [ho] at hR hcl2
              have hz : o1.length = 0 := by rw [← ho, h0]; rfl
              have db : decide ((o1.length : Int) > 0) = false := decide_eq_false (by omega)
              have dn : ¬ 0 < o1.length := by omega
              obtain ⟨al, cl, rfl⟩ := slice_form hR.b
              clear ho h0 hcR htc
              replace hst := Lib.hid hst; replace hR := Lib.hid hR; replace hz := Lib.hid hz
              obtain ⟨ao2, ca2, rfl⟩ := slice_form hR.out.a
              go_wp2_with (at_builtin; refine wpList_append_rd _ rfl _ _ 24 rfl w.heap.size 5 j0 (.int .u8 0) 1 Tryd.underlying24 hj ey0 ey1 ey2 rfl _ _ _ rfl hR.out.a _ (vb o1) rfl (Rd.of_own hR.out.b) (vb_oneCell o1) ?p3 ?p4 ?p5 ?_)
              case p3 => rw [length_vb]; unfold maxLen; omega
              case p4 => rw [length_vb]; omega
              case p5 => exact hs1
              intro v6 w6 ho1 hO1
              have oa6 : w6.ownsRow w.heap.size 5 1 v6 (T.length + o1.length) (vb (T ++ o1)) := by rw [vb_append]; exact ho1
              have hb6 : Below w.heap.size w w6 := hR.out.hb.grown hO1.1 hs1 (fun k hk => (hR.out.a.lt k hk).1)
              have hs6 := hb6.size
              have hlT : T.length + o1.length ≤ 2199028498432 := by omega
              obtain ⟨ao7, ca7, rfl⟩ := slice_form oa6
              clear ho1 hO1 hR
              replace oa6 := Lib.hid oa6; replace hb6 := Lib.hid hb6
              go_wp2_with (at_builtin; refine wpList_append_onto' _ rfl _ _ 24 rfl w.heap.size 5 j0 (.int .u8 0) 1 1 Tryd.underlying24 hj ey0 ey1 ey2 rfl (by decide) _ _ _ rfl (oa6.out.alloc _) ⟨w6.heap.size, 0, none⟩ 1 1 [.int .u8 10] rfl rfl ?q1 ?q2 ?q3 ?q4 ?q5 ?_)
              all_goals try exact cell_one_new _ _ _
              case q2 => simp [Value.oneCell']
              case q3 => unfold maxLen; omega
              case q4 => omega
              case q5 => first | omega | (simp; omega)
              intro v8 w8 ho8 hO8
              have oa8 : w8.ownsRow w.heap.size 5 1 v8 (T ++ o1 ++ [10]).length (vb (T ++ o1 ++ [10])) := by rw [@List.length_append _ (T ++ o1) [10], List.length_append, vb_append (T ++ o1)]; exact ho8
              have hb8 : Below w.heap.size w w8 := (hb6.out.alloc hs6 _).grown hO8.1 (by simp; omega) (fun k hk => (oa6.out.lt k hk).1)
              rw [← hst.out] at oa8
              clear ho8 hO8
              replace oa8 := Lib.hid oa8; replace hb8 := Lib.hid hb8
              go_wp2_with fail
              go_roundw
              case rel => exact ⟨m + 1, by omega, by go_num, oa8.out, hb8.out⟩
              case measure => simp [intOf]; omega
            · obtain ⟨a, x, rfl⟩ := snoc_form c h0
              obtain ⟨o1, ho⟩ : ∃ o1, a ++ [x] = o1 := ⟨_, rfl⟩
              have e2 : o1.length = a.length + 1 := by rw [← ho]; simp
              have hob : o1.length ≤ 1099513724928 := by rw [ho] at hcl2; omega
              rw [ho] at hR
              obtain ⟨g, cg, rfl, q1, q2⟩ := hR.b.form (by omega)
              have hcg := own_cap hR.b
              have c0 : wj.cell? ⟨g, o1.length - 1, none⟩ = some (.int .u8 (x.toNat : Int)) := by
                refine (hR.b.cellAt (o1.length - 1) (by omega)).trans ?_
                rw [vb_get _ _ (by omega), e2, ← ho]
                simp [bAt]
              have em : (o1.length : Int) - 1 = ((o1.length - 1 : Nat) : Int) := by omega
              have elt : o1.length - 1 < o1.length := by omega
              have db : decide ((o1.length : Int) > 0) = true := decide_eq_true (by omega)
              have dn : 0 < o1.length := by omega
              by_cases hx : x = 32
              · have dx : ((x.toNat : Int) == 32) = true := by rw [hx]; rfl
                have hoo2 := own_fewer (a := a) (b := [x]) (m := o1.length - 1) (by rw [ho]; exact hR.b) (by rw [ho]) (by omega)
                have hR2 : RC w.heap.size Bk w wj va T (.slice (some ⟨g, 0, none⟩) (o1.length - 1) cg) a := ⟨hR.a, by rw [show a.length = o1.length - 1 by omega]; exact hoo2, hR.alt, hR.hb, hR.le, hR.size⟩
                have hcR2 : trimR a = R := by rw [← hcR, hx, trimR_blank]
                have ec : o1.length - 1 ≤ cg := by omega
                have hal : a.length ≤ row.length := by rw [ho] at hcl2; omega
                clear hoo2 hcR ho e2 hcl2
                replace hR2 := Lib.hid hR2; replace hcR2 := Lib.hid hcR2; replace hx := Lib.hid hx; replace hR := Lib.hid hR
                go_wp2_with fail
                go_roundw
                case rel => exact ⟨a, hal, hcR2.out, hR2.out⟩
                case measure => simp only [lenOfS]; omega
              · have dx : ((x.toNat : Int) == 32) = false := by
                  rw [beq_eq_false_iff_ne]; intro h; exact hx (UInt8.toNat.inj (by show x.toNat = 32; omega))
                have hst := hst.out
                rw [← hcR, trimR_other a x hx, ho] at hst
                clear e2 hcl2 hcR ho
                replace hst := Lib.hid hst; replace hR := Lib.hid hR; replace hx := Lib.hid hx
                obtain ⟨ao2, ca2, rfl⟩ := slice_form hR.out.a
                go_wp2_with (at_builtin; refine wpList_append_rd _ rfl _ _ 24 rfl w.heap.size 5 j0 (.int .u8 0) 1 Tryd.underlying24 hj ey0 ey1 ey2 rfl _ _ _ rfl hR.out.a _ (vb o1) rfl (Rd.of_own hR.out.b) (vb_oneCell o1) ?h3 ?h4 ?h5 ?_)
                case h3 => rw [length_vb]; unfold maxLen; omega
                case h4 => rw [length_vb]; omega
                case h5 => exact hs1
                intro v6 w6 ho1 hO1
                have oa6 : w6.ownsRow w.heap.size 5 1 v6 (T.length + o1.length) (vb (T ++ o1)) := by rw [vb_append]; exact ho1
                have hb6 : Below w.heap.size w w6 := hR.out.hb.grown hO1.1 hs1 (fun k hk => (hR.out.a.lt k hk).1)
                have hs6 := hb6.size
                have hlT : T.length + o1.length ≤ 2199028498432 := by omega
                obtain ⟨ao7, ca7, rfl⟩ := slice_form oa6
                clear ho1 hO1 hR
                replace oa6 := Lib.hid oa6; replace hb6 := Lib.hid hb6
                go_wp2_with (at_builtin; refine wpList_append_onto' _ rfl _ _ 24 rfl w.heap.size 5 j0 (.int .u8 0) 1 1 Tryd.underlying24 hj ey0 ey1 ey2 rfl (by decide) _ _ _ rfl (oa6.out.alloc _) ⟨w6.heap.size, 0, none⟩ 1 1 [.int .u8 10] rfl rfl ?f1 ?f2 ?f3 ?f4 ?f5 ?_)
                all_goals try exact cell_one_new _ _ _
                case f2 => simp [Value.oneCell']
                case f3 => unfold maxLen; omega
                case f4 => omega
                case f5 => first | omega | (simp; omega)
                intro v8 w8 ho8 hO8
                have oa8 : w8.ownsRow w.heap.size 5 1 v8 (T ++ o1 ++ [10]).length (vb (T ++ o1 ++ [10])) := by rw [@List.length_append _ (T ++ o1) [10], List.length_append, vb_append (T ++ o1)]; exact ho8
                have hb8 : Below w.heap.size w w8 := (hb6.out.alloc hs6 _).grown hO8.1 (by simp; omega) (fun k hk => (oa6.out.lt k hk).1)
                rw [← hst.out] at oa8
                clear ho8 hO8
                replace oa8 := Lib.hid oa8; replace hb8 := Lib.hid hb8
                go_wp2_with fail
                go_roundw
                case rel => exact ⟨m + 1, by omega, by go_num, oa8.out, hb8.out⟩
                case measure => simp [intOf]; omega
    · obtain rfl : m = n := by omega
      obtain ⟨al, cl, rfl⟩ := slice_form oa
      have dm : decide ((m : Int) < (m : Int)) = false := decide_eq_false (by omega)
      have hcv := conv_bytes (P := Tryd.prog) (Rd.of_own oa) 24 5 9 Tryd.underlying24 Tryd.underlying5 Tryd.underlying9
      replace oa := Lib.hid oa
      go_wp2_with fail
      go_ret
      exact ⟨rfl, hb⟩
end Go.Proofs.YtefbogmgcihndaaDoor
