/- The contract of text's Columns, for any cells. -/
import Derived.Test.YtefbogmgcihndaaDoorTCols
import Derived.Test.YtefbogmgcihndaaDoorJn41
namespace Go.Proofs.YtefbogmgcihndaaDoor
open Go.RowKit WP
theorem own_fewer {w : World} {B g n m cap : Nat} {e : TypeId} {a b : List UInt8} (h : w.ownsRow B e 1 (.slice (some ⟨g, 0, none⟩) n cap) n (vb (a ++ b))) (hn : n = (a ++ b).length) (hm : m = a.length) :
    w.ownsRow B e 1 (.slice (some ⟨g, 0, none⟩) m cap) m (vb a) := by
  have hl : (vb a).length = a.length := by simp [vb]
  refine ⟨by rw [hl]; omega, ?_⟩
  rcases h.2 with ⟨hv, _⟩ | ⟨g', cap', cur, hv, h1, h2, h3, h4, h5, h6⟩
  · simp at hv
  · simp only [Value.slice.injEq, Option.some.injEq, Addr.mk.injEq, and_true, true_and] at hv
    obtain ⟨rfl, rfl⟩ := hv
    rw [List.length_append] at hn
    refine .inr ⟨g, cap, cur, rfl, h1, h2, by omega, h4, h5, ?_⟩
    have h7 : (cur.toList.take (n * 1)).take (m * 1) = (vb (a ++ b)).take (m * 1) := by rw [h6]
    rw [List.take_take, Nat.min_eq_left (by omega), vb_append, Nat.mul_one, hm, ← hl, List.take_left] at h7
    rw [hm, Nat.mul_one, ← hl]; exact h7
theorem own_cap {w : World} {B s n cap : Nat} {e : TypeId} {ao : Option Addr} {xs : List Value} (h : w.ownsRow B e s (.slice ao n cap) n xs) : n ≤ cap := by
  rcases h.2 with ⟨hv, hn⟩ | ⟨g, cap', cur, hv, h1, h2, h3, _⟩
  · rw [hn]; exact Nat.zero_le _
  · simp only [Value.slice.injEq] at hv
    rw [hv.2.2]; exact h3
def lenOfS : Value → Nat
  | .slice _ n _ => n
  | _ => 0
set_option maxRecDepth 100000 in
set_option maxHeartbeats 1600000 in
theorem columnsG_any (v : Value) (V : Nat → Value) (C : Nat → List ByteArray) (n : Nat) (w : World) (hG : Grid w v V C n) (M N : Nat) (hS : ((List.range n).map fun i => (C i).length).sum ≤ N) (hn : n ≤ N) (hM : ∀ i, i < n → (C i).length ≤ N ∧ ∀ j, j < (C i).length → (nthB (C i) j).size ≤ M) (hN : N ≤ 1048576) (hMb : M ≤ 1048576) :
    Calls Tryd.prog 13 #[v] w fun e w' => e = .returned (.string ⟨(textG (wK C n) C n).toArray⟩) ∧ Below w.heap.size w w' := by
  obtain ⟨i0, hi, hz0, hz1, hz2⟩ := info_parts infoI
  obtain ⟨j0, hj, ey0, ey1, ey2⟩ := info_parts infoBr
  obtain ⟨ao, ca, rfl, a1, a2, a3⟩ := hG.form
  have hWN : ∀ k, k ≤ n → (wK C k).length ≤ N := by
    intro k
    induction k with
    | zero => intro _; simp [wK]
    | succ k ih =>
      intro h
      have := ih (by omega)
      have := (hM k (by omega)).1
      simp only [wK]; rw [wRow_length]; omega
  replace hG := Lib.hid hG; replace hM := Lib.hid hM; replace a3 := Lib.hid a3
  go_enter Tryd.func13, Tryd.ntmps13
  go_wp2_with fail
  go_loopw [3, 16] (fun vw i wr => ∃ (k : Nat), k ≤ n ∧ i = .int .i64 k ∧ wr.ownsRow w.heap.size 3 1 vw (wK C k).length (vi (wK C k)) ∧ Below w.heap.size w wr) (fun _ i _ => n - (intOf i).toNat)
  case atStart => exact ⟨0, by omega, rfl, World.ownsRow_nil _ _ _ _, Below.refl _ _⟩
  case round =>
    obtain ⟨wo, rfl⟩ : ∃ wo, wo = wr := ⟨wr, rfl⟩
    obtain ⟨vw, rfl⟩ : ∃ b, b = u3 := ⟨u3, rfl⟩
    obtain ⟨k, hk, rfl, ow, hb⟩ := hrel
    replace ow := Lib.hid ow; replace hb := Lib.hid hb
    by_cases hlt : k < n
    · obtain ⟨b, off, rfl, hc⟩ := a3.out k hlt
      have d0 := (hb.out.cell (p := ⟨b, off + k, none⟩) (World.block_lt_of_cell? w _ hc)).trans hc
      obtain ⟨ai, ci, hV, b1, b2, b3⟩ := hG.out.line k hlt
      replace b3 := Lib.hid b3
      rw [hV] at d0
      obtain ⟨hCN, hCM⟩ := hM.out k hlt
      replace hCM := Lib.hid hCM
      have hWk := hWN k hk
      go_wp2_with fail
      go_loopw [3, 22] (fun vx j wr => ∃ (i : Nat), i ≤ (C k).length ∧ j = .int .i64 i ∧ wr.ownsRow w.heap.size 3 1 vx (wRow (wK C k) ((C k).take i)).length (vi (wRow (wK C k) ((C k).take i))) ∧ Below w.heap.size w wr) (fun _ j _ => (C k).length - (intOf j).toNat)
      case atStart => exact ⟨0, by omega, rfl, by simpa [wRow_nil] using ow.out, hb.out⟩
      case round =>
        clear d0 ow hb
        obtain ⟨wi, rfl⟩ : ∃ wo, wo = wr := ⟨wr, rfl⟩
        obtain ⟨vx, rfl⟩ : ∃ b, b = u3 := ⟨u3, rfl⟩
        obtain ⟨i, hi', rfl, ow, hb⟩ := hrel
        by_cases hil : i < (C k).length
        · obtain ⟨bb, oo, rfl, hc2⟩ := b3.out i hil
          have d1 := (hb.cell (p := ⟨bb, oo + i, none⟩) (World.block_lt_of_cell? w _ hc2)).trans hc2
          have hsz := hCM.out i hil
          have hst := wRow_take (wK C k) (C k) i hil
          have hWl : (wRow (wK C k) ((C k).take i)).length = max (wK C k).length i := by rw [wRow_length, List.length_take, Nat.min_eq_left hi']
          generalize wRow (wK C k) ((C k).take i) = X at *
          generalize nthB (C k) i = cell at *
          have hs1 := hb.size
          have hXN : X.length ≤ 1048577 := by omega
          have hXi : i ≤ X.length := by omega
          replace hWl := Lib.hid hWl
          obtain ⟨al, cl, rfl⟩ := slice_form ow
          by_cases he : i = X.length
          · have dd : ((i : Int) == (X.length : Int)) = true := by simp; omega
            rw [if_pos he] at hst
            have x0 : X.getD i 0 = 0 := by rw [List.getD_eq_getElem?_getD, List.getElem?_eq_none (by omega)]; rfl
            rw [x0, Nat.zero_max] at hst
            replace hst := Lib.hid hst; replace he := Lib.hid he
            go_wp2_with (at_builtin; refine wpList_append_onto' _ rfl _ _ 38 rfl w.heap.size 3 i0 (.int .i64 0) 1 8 Tryd.underlying38 hi hz0 hz1 hz2 rfl (by decide) _ _ _ rfl (ow.alloc _) ⟨wi.heap.size, 0, none⟩ 1 1 [.int .i64 0] rfl rfl ?c1 ?c2 ?c3 ?c4 ?c5 ?_)
            all_goals try exact cell_one_new _ _ _
            case c2 => simp [Value.oneCell']
            case c3 => simp only [maxLen]; omega
            case c4 => omega
            case c5 => first | omega | (simp; omega)
            intro v1 w2 ho1 hO1
            have hb2 : Below w.heap.size w w2 := ((hb.alloc hs1 _).grown hO1.1 (by simp; omega) (fun k hk => (ow.lt k hk).1))
            have ho2 : w2.ownsRow w.heap.size 3 1 v1 (X.length + 1) (vi (X ++ [0])) := by
              unfold vi; rw [List.map_append]; exact ho1
            clear ho1 hO1 ow hb
            obtain ⟨g, cg, rfl, q1, q2⟩ := ho2.form (by omega)
            have c0 := (ho2.cellAt i (by omega)).trans (vi_get (X ++ [0]) i (by simp; omega))
            have x1 : (X ++ [0]).getD i 0 = 0 := by rw [he.out]; simp [List.getD_eq_getElem?_getD]
            rw [x1] at c0
            have fz := ho2.frozenAt i
            have hil2 : (i : Int) < ((X.length + 1 : Nat) : Int) := by omega
            obtain ⟨s1, s2⟩ := ho2.stored i (.int .i64 (cell.size : Int))
            have hb3 := hb2.grown s2 hb2.size (fun k hk => (ho2.lt k hk).1)
            replace hb3 := Lib.hid hb3; replace s1 := Lib.hid s1; replace hb2 := Lib.hid hb2; replace ho2 := Lib.hid ho2
            clear s2
            go_wp2_with fail
            refine ⟨⟨i + 1, by omega, by go_num, ?_, hb3.out⟩, by simp [intOf]; omega⟩
            rw [hst.out, vi_set, List.length_set, List.length_append]
            exact s1.out
          · have he' : i < X.length := by omega
            have dd : ((i : Int) == (X.length : Int)) = false := by simp; omega
            rw [if_neg he] at hst
            replace hst := Lib.hid hst
            obtain ⟨g, cg, e1, q1, q2⟩ := ow.form (by omega)
            simp only [Value.slice.injEq] at e1
            obtain ⟨rfl, _, rfl⟩ := e1
            have c0 := (ow.cellAt i (by omega)).trans (vi_get X i he')
            have fz := ow.frozenAt i
            have hil2 : (i : Int) < (X.length : Int) := by omega
            generalize X.getD i 0 = x at *
            have hmx : max (x : Int) (cell.size : Int) = ((max x cell.size : Nat) : Int) := by omega
            obtain ⟨s1, s2⟩ := ow.stored i (.int .i64 ((max x cell.size : Nat) : Int))
            have hb3 := hb.grown s2 hb.size (fun k hk => (ow.lt k hk).1)
            replace hb3 := Lib.hid hb3; replace s1 := Lib.hid s1; replace hb := Lib.hid hb; replace ow := Lib.hid ow
            clear s2
            go_wp2_with fail
            refine ⟨⟨i + 1, by omega, by go_num, ?_, hb3.out⟩, by simp [intOf]; omega⟩
            rw [hst.out, vi_set, List.length_set]
            exact s1.out
        · obtain rfl : i = (C k).length := by omega
          rw [List.take_length] at ow
          replace hb := Lib.hid hb; replace ow := Lib.hid ow
          go_wp2_with fail
          go_roundw
          case rel => exact ⟨k + 1, by omega, by go_num, ow.out, hb.out⟩
          case measure => simp [intOf]; omega
    · obtain rfl : k = n := by omega
      have hge := wK_ge C k
      have hMx := wK_le C M k (fun i hi => (hM.out i hi).2)
      have hTl := textK_len (wK C k) C M k hMx (fun i hi => (hge i hi).2)
      have hPl := fun i (hi : i < k) => padK_len (wK C k) (C i) M hMx (fun j => by
        by_cases hj : j < (C i).length
        · exact .inl ((hge i hi).2 j hj)
        · exact .inr (by omega))
      have hWk := hWN k hk
      generalize hX : wK C k = X at *
      replace hX := Lib.hid hX
      have hTk : ∀ i, i ≤ k → (textK X C i).length ≤ 1099514773504 := by
        intro i hi
        have h1 := hTl i hi
        have h2 : ((List.range i).map fun i => (C i).length).sum ≤ ((List.range k).map fun i => (C i).length).sum := by
          obtain ⟨d, rfl⟩ : ∃ d, k = i + d := ⟨k - i, by omega⟩
          rw [List.range_add, List.map_append, List.sum_append]; omega
        have h3 : ((List.range i).map fun i => (C i).length).sum * (M + 2) ≤ 1048576 * 1048578 := Nat.mul_le_mul (by omega) (by omega)
        omega
      have hPk : ∀ i, i < k → ∀ j, j ≤ (C i).length → (padK X (C i) j).length ≤ 1099513724928 := by
        intro i hi j hj
        have h1 := hPl i hi j hj
        have h2 := (hM.out i hi).1
        have h3 : j * (M + 2) ≤ 1048576 * 1048578 := Nat.mul_le_mul (by omega) (by omega)
        omega
      have hM0 : Co w.heap.size w wo (.slice none 0 0) [] vw X := ⟨World.ownsRow_nil _ _ _ _, ow.out, hb.out, hb.out.size⟩
      clear hTl hPl ow hb
      replace hge := Lib.hid hge; replace hMx := Lib.hid hMx; replace hTk := Lib.hid hTk; replace hPk := Lib.hid hPk; replace hM0 := Lib.hid hM0
      replace hS := Lib.hid hS; replace hWN := Lib.hid hWN
      go_wp2_with fail
      go_loopw [8, 48] (fun vo i wr => ∃ (m : Nat), m ≤ k ∧ i = .int .i64 m ∧ Co w.heap.size w wr vo (textG X C m) vw X) (fun _ i _ => k - (intOf i).toNat)
      case atStart => exact ⟨0, by omega, rfl, hM0.out⟩
      case round =>
        clear hM0
        obtain ⟨wo, rfl⟩ : ∃ wo, wo = wr := ⟨wr, rfl⟩
        obtain ⟨vo, rfl⟩ : ∃ b, b = u8 := ⟨u8, rfl⟩
        obtain ⟨m, hm, rfl, hC⟩ := hrel
        replace hC := Lib.hid hC
        by_cases hlt : m < k
        · obtain ⟨b, off, rfl, hc⟩ := a3.out m hlt
          have d0 := (hC.out.hb.cell (p := ⟨b, off + m, none⟩) (World.block_lt_of_cell? w _ hc)).trans hc
          obtain ⟨ai, ci, hV, b1, b2, b3⟩ := hG.out.line m hlt
          rw [hV] at d0
          obtain ⟨hCN, hCM⟩ := hM.out m hlt
          have hgm := (hge.out m hlt).2
          have hcl := (hge.out m hlt).1
          have hTm := hTk.out m hm
          have hPm := hPk.out m hlt
          have hst : textG X C (m + 1) = textG X C m ++ trimR (padK X (C m) (C m).length) ++ [10] := rfl
          have hTm := Nat.le_trans (textG_len X C m) hTm
          generalize textG X C m = T at *
          generalize C m = cs at *
          obtain ⟨al, cl, rfl⟩ := slice_form hC.out.oo
          replace b3 := Lib.hid b3; replace hCM := Lib.hid hCM; replace hgm := Lib.hid hgm; replace hPm := Lib.hid hPm; replace hst := Lib.hid hst
          go_wp2_with fail
          go_loopw [8, 56] (fun vx j wr => ∃ (i : Nat), i ≤ cs.length ∧ j = .int .i64 i ∧ Co w.heap.size w wr vx (T ++ padK X cs i) vw X) (fun _ j _ => cs.length - (intOf j).toNat)
          case atStart => exact ⟨0, by omega, rfl, by simpa [padK] using hC.out⟩
          case round =>
            clear d0 hC
            obtain ⟨wi, rfl⟩ : ∃ wo, wo = wr := ⟨wr, rfl⟩
            obtain ⟨vx, rfl⟩ : ∃ b, b = u8 := ⟨u8, rfl⟩
            obtain ⟨i, hi', rfl, hC⟩ := hrel
            by_cases hil : i < cs.length
            · obtain ⟨bb, oo, rfl, hc2⟩ := b3.out i hil
              have d1 := (hC.hb.cell (p := ⟨bb, oo + i, none⟩) (World.block_lt_of_cell? w _ hc2)).trans hc2
              have hsz := hCM.out i hil
              have hxs := hgm.out i hil
              have hpi := hPm.out i hi'
              have hss : padK X cs (i + 1) = padK X cs i ++ (nthB cs i).data.toList ++ (if i + 1 < cs.length then List.replicate (X.getD i 0 + 2 - (nthB cs i).size) 32 else []) := rfl
              generalize padK X cs i = D at *
              generalize nthB cs i = cell at *
              have hMi := hMx.out i
              obtain ⟨vo, hvo⟩ : ∃ vo, T ++ D = vo := ⟨_, rfl⟩
              have hol : vo.length ≤ 2199028498432 := by rw [← hvo, List.length_append]; omega
              rw [hvo] at hC
              have hcv : Lib.strCells cell = vb cell.data.toList := rfl
              have hcsz := size_list cell
              obtain ⟨al, cl, rfl⟩ := slice_form hC.oo
              replace hss := Lib.hid hss; replace hvo := Lib.hid hvo; replace hC := Lib.hid hC; replace hcv := Lib.hid hcv
              by_cases hlast : i + 1 < cs.length
              · have dl : decide ((i : Int) + 1 < (cs.length : Int)) = true := decide_eq_true (by omega)
                go_wp2_with (at_builtin; refine Lib.wpList_append_own_string _ rfl _ _ 24 9 rfl w.heap.size 5 j0 Tryd.underlying24 Tryd.underlying9 hj ey0 ey1 ey2 _ _ _ rfl hC.out.oo _ rfl ?h3 ?h4 ?h5 ?_)
                case h3 => unfold maxLen; omega
                case h4 => omega
                case h5 => exact hC.out.size
                intro v4 w4 ho4 hg4 _
                have hC4 := hC.out.out hg4 (o' := vo ++ cell.data.toList) (by rw [List.length_append, vb_append, ← hcv.out, hcsz]; exact ho4)
                clear ho4 hg4 hC
                obtain ⟨g, cg, rfl, q1, q2⟩ := hC4.ow.form (by omega)
                have c0 := (hC4.ow.cellAt i (by omega)).trans (vi_get X i (by omega))
                have hiX : (i : Int) < (X.length : Int) := by omega
                obtain ⟨y, hy⟩ : ∃ y, X.getD i 0 = cell.size + y := ⟨X.getD i 0 - cell.size, by omega⟩
                rw [hy] at c0 hMi
                replace hss := hss.out
                rw [hy, if_pos hlast, show cell.size + y + 2 - cell.size = y + 2 by omega] at hss
                have hsub : (((cell.size + y : Nat) : Int) - (cell.size : Int)) = (y : Int) := by omega
                replace hC4 := Lib.hid hC4; replace hss := Lib.hid hss; replace hy := Lib.hid hy
                go_wp2_with fail
                go_loopw [8, 77] (fun vx j wr => ∃ (t : Nat), t ≤ y + 2 ∧ j = .int .i64 t ∧ Co w.heap.size w wr vx (vo ++ cell.data.toList ++ List.replicate t 32) (.slice (some ⟨g, 0, none⟩) X.length cg) X) (fun _ j _ => y + 2 - (intOf j).toNat)
                case atStart => exact ⟨0, by omega, rfl, by simpa using hC4.out⟩
                case round =>
                  clear c0 d1 hC4
                  obtain ⟨wi, rfl⟩ : ∃ wo, wo = wr := ⟨wr, rfl⟩
                  obtain ⟨vx, rfl⟩ : ∃ b, b = u8 := ⟨u8, rfl⟩
                  obtain ⟨t, ht, rfl, hC⟩ := hrel
                  by_cases hty : t < y + 2
                  · have dt : decide ((t : Int) < (y : Int) + 2) = true := decide_eq_true (by omega)
                    have hs1 := hC.size
                    obtain ⟨o1, ho⟩ : ∃ o1, vo ++ cell.data.toList ++ List.replicate t (32 : UInt8) = o1 := ⟨_, rfl⟩
                    have hol1 : o1.length ≤ 2199030700000 := by rw [← ho]; simp; omega
                    rw [ho] at hC
                    replace ho := Lib.hid ho
                    replace hC := Lib.hid hC
                    go_wp2_with (at_builtin; refine wpList_append_onto' _ rfl _ _ 24 rfl w.heap.size 5 j0 (.int .u8 0) 1 1 Tryd.underlying24 hj ey0 ey1 ey2 rfl (by decide) _ _ _ rfl (hC.out.oo.alloc _) ⟨wi.heap.size, 0, none⟩ 1 1 [.int .u8 32] rfl rfl ?d1 ?d2 ?d3 ?d4 ?d5 ?_)
                    all_goals try exact cell_one_new _ _ _
                    case d2 => simp [Value.oneCell']
                    case d3 => unfold maxLen; omega
                    case d4 => omega
                    case d5 => first | omega | (simp; omega)
                    intro v1 w2 ho1 hO1
                    have hM2 := hC.out.outA (o' := o1 ++ [32]) _ hO1.1 (by rw [List.length_append, vb_append]; exact ho1)
                    rw [← ho.out, List.append_assoc, ← List.replicate_succ'] at hM2
                    clear ho1 hO1
                    replace hM2 := Lib.hid hM2
                    go_wp2_with fail
                    go_roundw
                    case rel => exact ⟨t + 1, by omega, by go_num, hM2.out⟩
                    case measure => simp [intOf]; omega
                  · obtain rfl : t = y + 2 := by omega
                    have dt : decide ((y : Int) + 2 < (y : Int) + 2) = false := decide_eq_false (by omega)
                    have hF : T ++ padK X cs (i + 1) = vo ++ cell.data.toList ++ List.replicate (y + 2) 32 := by rw [hss.out, ← hvo.out]; simp
                    rw [← hF] at hC
                    replace hC := Lib.hid hC
                    clear hF
                    go_wp2_with fail
                    refine ⟨⟨i + 1, by omega, by go_num, hC.out⟩, by simp [intOf]; omega⟩
              · have dl : decide ((i : Int) + 1 < (cs.length : Int)) = false := decide_eq_false (by omega)
                replace hss := hss.out
                rw [if_neg hlast] at hss
                replace hss := Lib.hid hss
                go_wp2_with (at_builtin; refine Lib.wpList_append_own_string _ rfl _ _ 24 9 rfl w.heap.size 5 j0 Tryd.underlying24 Tryd.underlying9 hj ey0 ey1 ey2 _ _ _ rfl hC.out.oo _ rfl ?h3 ?h4 ?h5 ?_)
                case h3 => unfold maxLen; omega
                case h4 => omega
                case h5 => exact hC.out.size
                intro v4 w4 ho4 hg4 _
                have hC4 := hC.out.out hg4 (o' := T ++ padK X cs (i + 1)) (by rw [hss.out, List.append_nil, ← List.append_assoc, hvo.out, List.length_append, vb_append, ← hcv.out, hcsz]; exact ho4)
                clear ho4 hg4 hC
                replace hC4 := Lib.hid hC4
                go_wp2_with fail
                refine ⟨⟨i + 1, by omega, by go_num, hC4.out⟩, by simp [intOf]; omega⟩
            · obtain rfl : i = cs.length := by omega
              obtain ⟨row, hrow⟩ : ∃ row, padK X cs cs.length = row := ⟨_, rfl⟩
              replace hst := hst.out
              rw [hrow] at hC hst
              have hrl := hPm.out cs.length hi'
              rw [hrow] at hrl
              obtain ⟨R, hR⟩ : ∃ R, trimR row = R := ⟨_, rfl⟩
              rw [hR] at hst
              replace hst := Lib.hid hst; replace hR := Lib.hid hR; replace hrow := Lib.hid hrow; replace hC := Lib.hid hC
              go_wp2_with fail
              go_loopw [8] (fun vx wr => ∃ c : List UInt8, c.length ≤ row.length ∧ trimR c = R ∧ Co w.heap.size w wr vx (T ++ c) vw X) (fun vx _ => lenOfS vx)
              case atStart => exact ⟨row, Nat.le_refl _, hR.out, hC.out⟩
              case round =>
                clear hC
                obtain ⟨wi, rfl⟩ : ∃ wo, wo = wr := ⟨wr, rfl⟩
                obtain ⟨vx, rfl⟩ : ∃ b, b = u8 := ⟨u8, rfl⟩
                obtain ⟨c, hcl2, hcR, hC⟩ := hrel
                obtain ⟨o1, ho⟩ : ∃ o1, T ++ c = o1 := ⟨_, rfl⟩
                have hol1 : o1.length = T.length + c.length := by rw [← ho, List.length_append]
                have hob : o1.length ≤ 2199028498432 := by omega
                rw [ho] at hC
                have hs1 := hC.size
                obtain ⟨al, cl, rfl⟩ := slice_form hC.oo
                by_cases h0 : c = []
                · subst h0
                  have hst := hst.out
                  rw [← hcR, trimR_nil, ho] at hst
                  have db : decide ((o1.length : Int) > (T.length : Int)) = false := decide_eq_false (by simp at hol1; omega)
                  have dn : ¬ T.length < o1.length := by simp at hol1; omega
                  replace hst := Lib.hid hst; replace ho := Lib.hid ho; replace hC := Lib.hid hC; replace hol1 := Lib.hid hol1
                  go_wp2_with (at_builtin; refine wpList_append_onto' _ rfl _ _ 24 rfl w.heap.size 5 j0 (.int .u8 0) 1 1 Tryd.underlying24 hj ey0 ey1 ey2 rfl (by decide) _ _ _ rfl (hC.out.oo.alloc _) ⟨wi.heap.size, 0, none⟩ 1 1 [.int .u8 10] rfl rfl ?g1 ?g2 ?g3 ?g4 ?g5 ?_)
                  all_goals try exact cell_one_new _ _ _
                  case g2 => simp [Value.oneCell']
                  case g3 => unfold maxLen; omega
                  case g4 => omega
                  case g5 => first | omega | (simp; omega)
                  intro v1 w2 ho1 hO1
                  have hM2 := hC.out.outA (o' := o1 ++ [10]) _ hO1.1 (by rw [List.length_append, vb_append]; exact ho1)
                  rw [← hst.out] at hM2
                  clear ho1 hO1
                  replace hM2 := Lib.hid hM2
                  go_wp2_with fail
                  go_roundw
                  case rel => exact ⟨m + 1, by omega, by go_num, hM2.out⟩
                  case measure => simp [intOf]; omega
                · obtain ⟨a, x, rfl⟩ := snoc_form c h0
                  have e2 : o1.length = (T ++ a).length + 1 := by rw [← ho]; simp; omega
                  obtain ⟨g, cg, ev, q1, q2⟩ := hC.oo.form (by omega)
                  simp only [Value.slice.injEq] at ev
                  obtain ⟨rfl, _, rfl⟩ := ev
                  have c0 : wi.cell? ⟨g, o1.length - 1, none⟩ = some (.int .u8 (x.toNat : Int)) := by
                    refine (hC.oo.cellAt (o1.length - 1) (by omega)).trans ?_
                    rw [vb_get _ _ (by omega), e2, ← ho, ← List.append_assoc]
                    simp [bAt]
                  have em : (o1.length : Int) - 1 = ((o1.length - 1 : Nat) : Int) := by omega
                  have elt : o1.length - 1 < o1.length := by omega
                  have hal : (T ++ a).length = T.length + a.length := List.length_append
                  have db : decide ((o1.length : Int) > (T.length : Int)) = true := decide_eq_true (by omega)
                  have dn : T.length < o1.length := by omega
                  have hca : a.length + 1 ≤ row.length := by simpa using hcl2
                  by_cases hx : x = 32
                  · have dx : ((x.toNat : Int) == 32) = true := by rw [hx]; rfl
                    have hoo2 := own_fewer (a := T ++ a) (b := [x]) (m := o1.length - 1) (by rw [List.append_assoc, ho]; exact hC.oo) (by rw [List.append_assoc, ho]) (by omega)
                    have hC2 : Co w.heap.size w wi (.slice (some ⟨g, 0, none⟩) (o1.length - 1) cl) (T ++ a) vw X := ⟨by rw [show (T ++ a).length = o1.length - 1 by omega]; exact hoo2, hC.ow, hC.hb, hC.size⟩
                    have hcR2 : trimR a = R := by rw [← hcR, hx, trimR_blank]
                    have ec : o1.length - 1 ≤ cl := by have := own_cap hC.oo; omega
                    clear hoo2 hcR ho e2 hal hcl2
                    replace hC2 := Lib.hid hC2; replace hcR2 := Lib.hid hcR2; replace hx := Lib.hid hx; replace hC := Lib.hid hC; replace hol1 := Lib.hid hol1
                    go_wp2_with fail
                    go_roundw
                    case rel => exact ⟨a, by omega, hcR2.out, hC2.out⟩
                    case measure => simp only [lenOfS]; omega
                  · have dx : ((x.toNat : Int) == 32) = false := by
                      rw [beq_eq_false_iff_ne]; intro h; exact hx (UInt8.toNat.inj (by show x.toNat = 32; omega))
                    have hst := hst.out
                    rw [← hcR, trimR_other a x hx, ho] at hst
                    clear e2 hal hcl2 hcR
                    replace hst := Lib.hid hst; replace ho := Lib.hid ho; replace hC := Lib.hid hC; replace hol1 := Lib.hid hol1; replace hx := Lib.hid hx
                    go_wp2_with (at_builtin; refine wpList_append_onto' _ rfl _ _ 24 rfl w.heap.size 5 j0 (.int .u8 0) 1 1 Tryd.underlying24 hj ey0 ey1 ey2 rfl (by decide) _ _ _ rfl (hC.out.oo.alloc _) ⟨wi.heap.size, 0, none⟩ 1 1 [.int .u8 10] rfl rfl ?f1 ?f2 ?f3 ?f4 ?f5 ?_)
                    all_goals try exact cell_one_new _ _ _
                    case f2 => simp [Value.oneCell']
                    case f3 => unfold maxLen; omega
                    case f4 => omega
                    case f5 => first | omega | (simp; omega)
                    intro v1 w2 ho1 hO1
                    have hM2 := hC.out.outA (o' := o1 ++ [10]) _ hO1.1 (by rw [List.length_append, vb_append]; exact ho1)
                    rw [← hst.out] at hM2
                    clear ho1 hO1
                    replace hM2 := Lib.hid hM2
                    go_wp2_with fail
                    go_roundw
                    case rel => exact ⟨m + 1, by omega, by go_num, hM2.out⟩
                    case measure => simp [intOf]; omega
        · obtain rfl : m = k := by omega
          obtain ⟨al, cl, rfl⟩ := slice_form hC.out.oo
          have hcv := conv_bytes (P := Tryd.prog) (Rd.of_own hC.out.oo) 24 5 9 Tryd.underlying24 Tryd.underlying5 Tryd.underlying9
          go_wp2_with fail
          go_ret
          exact ⟨by rw [hX.out]; rfl, hC.out.hb⟩
end Go.Proofs.YtefbogmgcihndaaDoor
