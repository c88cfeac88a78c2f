/- The walk of AttestBack. -/
import Derived.Test.YtemanjahkohcpaaDoorJn30
namespace Go.Proofs.YtemanjahkohcpaaDoor
open Go.RowKit WP
set_option maxRecDepth 100000
theorem parse_yes (s : ByteArray) (u : TypeId) (x : Value) (m : Int) (w : World) (q0 q1 q2 : List UInt32) (hs : s.size ≤ 2097152) (hE : w.cell? ⟨0, 0, none⟩ = some (.iface u x)) (hM : MaxL w m) (h : fmtL q0 q1 q2 = strL s) (l0 : q0.length = 8) (l1 : q1.length = 8) (l2 : q2.length = 8) :
    Calls Tryd.prog 18 #[.string s] w fun e w' => e = .returned (.tuple #[.agg (vw q0 ++ vw q1 ++ vw q2).toArray, .int .i64 0]) ∧ Below w.heap.size w w' := by
  refine (parse_all s u x m w hs hE hM).mono ?_
  rintro e w' ⟨hb, ⟨a0, a1, a2, _, _, _, hf, rfl⟩ | ⟨hN, _⟩⟩
  · obtain ⟨rfl, rfl, rfl⟩ := fmt_inj _ _ _ _ _ _ (hf.trans h.symm)
    exact ⟨rfl, hb⟩
  · exact absurd h (hN q0 q1 q2 l0 l1 l2)
theorem parse_no (s : ByteArray) (u : TypeId) (x : Value) (m : Int) (w : World) (hs : s.size ≤ 2097152) (hE : w.cell? ⟨0, 0, none⟩ = some (.iface u x)) (hM : MaxL w m) (h : NoQuote s) :
    Calls Tryd.prog 18 #[.string s] w fun e w' => e = .returned (.tuple #[.agg zero24.toArray, .int .i64 160]) ∧ Below w.heap.size w w' := by
  refine (parse_all s u x m w hs hE hM).mono ?_
  rintro e w' ⟨hb, ⟨a0, a1, a2, e0, e1, e2, hf, _⟩ | ⟨_, rfl⟩⟩
  · exact absurd hf (h a0 a1 a2 e0 e1 e2)
  · exact ⟨rfl, hb⟩
theorem place_is (at_ : Int) : ∃ k : Nat, k < 224 ∧ (wrap64 (at_.tmod 224 + 224)).tmod 224 = (k : Int) := by
  have h1 := Int.tmod_lt_of_pos at_ (show (0 : Int) < 224 by decide)
  have h2 : -224 < at_.tmod 224 := Int.lt_tmod_of_pos at_ (by decide)
  have e : wrap64 (at_.tmod 224 + 224) = at_.tmod 224 + 224 := by unfold wrap64; omega
  rw [e, Int.tmod_eq_emod_of_nonneg (by omega)]
  exact ⟨((at_.tmod 224 + 224) % 224).toNat, by omega, by omega⟩
section
variable {P : Program}
theorem wpList_load_mid_g {ops : Array Oper} {rest : List Oper} {op : Oper} {a : Act} {w : World} {Q : Exit → Act → World → Prop} (hw : Region.wanted op (yielded ops a.tmps) = true) (ty : TypeId) (x : Operand) (ho : op.op = .load ty x)
    (b o : Nat) (hx : a.eval x = .pointer (some ⟨b, o, none⟩)) (cs : List Value) (d : TypeDesc) (hc : w.rangeAt b o cs)
    (hu : P.underlying ty = some d) (hd : d.isRow = true) (hi : (P.info? ty).map (·.size) = some cs.length)
    (h : wpList P ops Q rest (a.put op.dst (.agg cs.toArray)) w) : wpList P ops Q (op :: rest) a w :=
  wpList_step fun K hK => by rw [if_pos hw]; exact wp_load_mid ty x ho b o hx cs d hc hu hd hi (hK _ _ h)
end
theorem new_at (w : World) (o1 o2 : Obj) : ((w.alloc o1).alloc o2).heap[w.heap.size + 1]? = some o2 := by
  have := heap_alloc_new (w.alloc o1) o2
  rwa [show (w.alloc o1).heap.size = w.heap.size + 1 by simp] at this
theorem setCell_id {w : World} {b i : Nat} {cs : Array Value} {t : TypeId} {fr : Nat × Nat} {v : Value} (h : w.heap[b]? = some (.cells cs t fr)) (hv : cs[i]? = some v) : w.setCell ⟨b, i, none⟩ v = w := by
  have hh : (w.setCell ⟨b, i, none⟩ v).heap = w.heap := by
    apply Array.ext_getElem?
    intro k
    by_cases hk : k = b
    · subst hk
      have e : cs.setIfInBounds i v = cs := by
        apply Array.ext_getElem?
        intro j
        rw [Array.getElem?_setIfInBounds]
        split
        · rename_i e; subst e
          rw [hv, if_pos (Array.getElem?_eq_some_iff.1 hv).1]
        · rfl
      unfold World.setCell
      simp only [Array.getElem?_modify, if_true, h, Option.map_some]
      simp [e]
    · exact heap_setCell_other w ⟨b, i, none⟩ k _ (by simpa using hk)
  show { w with heap := (w.setCell ⟨b, i, none⟩ v).heap } = w
  rw [hh]
theorem setCells_id {w : World} {b : Nat} {cs : Array Value} {t : TypeId} {fr : Nat × Nat} (h : w.heap[b]? = some (.cells cs t fr)) : ∀ (vs : List Value) (o : Nat), (∀ j v, vs[j]? = some v → cs[o + j]? = some v) → w.setCells b o vs = w
  | [], _, _ => rfl
  | v :: r, o, hv => by
    have h0 := hv 0 v rfl
    rw [Nat.add_zero] at h0
    rw [World.setCells, setCell_id h h0]
    exact setCells_id h r (o + 1) fun j u hu => by
      have := hv (j + 1) u (by simpa using hu)
      rwa [show o + 1 + j = o + (j + 1) by omega]
theorem zst {w : World} {g : Nat} (h : w.heap[g]? = some (.cells zero24.toArray 38)) : (storeCells ⟨g, 0, none⟩ zero24).run Tryd.prog w = .ok () w := by
  have e := setCells_id h zero24 0 (fun j v hv => by rw [Nat.zero_add]; simpa using hv)
  have := storeCells_arr (P := Tryd.prog) (List.replicate 24 0) (w := w) (b := g) (n := 24) (fun j hj => by
    refine ⟨?_, frozen_of_row w g _ _ _ h⟩
    rw [cell_of_row w g _ _ _ _ h]
    have : j < zero24.length := hj
    simp only [Nat.zero_add, List.getElem?_toArray, List.getElem?_eq_getElem this]; rfl) rfl
  have e2 : vw (List.replicate 24 0) = zero24 := rfl
  rw [e2, e] at this
  exact this
theorem vw8lit (l : List UInt32) (h : l.length = 8) : vw l = [.int .u32 (wAt l 0), .int .u32 (wAt l 1), .int .u32 (wAt l 2), .int .u32 (wAt l 3), .int .u32 (wAt l 4), .int .u32 (wAt l 5), .int .u32 (wAt l 6), .int .u32 (wAt l 7)] := by
  match l, h with
  | [_, _, _, _, _, _, _, _], _ => rfl
theorem quote_one (a0 a1 a2 : List UInt32) : ∀ v ∈ vw a0 ++ vw a1 ++ vw a2, v.oneCell' = true := by
  intro v hv
  rcases List.mem_append.1 hv with hv | hv
  · rcases List.mem_append.1 hv with hv | hv
    · exact vw_oneCell _ v hv
    · exact vw_oneCell _ v hv
  · exact vw_oneCell _ v hv
theorem quote_lit (q0 q1 q2 : List UInt32) (l0 : q0.length = 8) (l1 : q1.length = 8) (l2 : q2.length = 8) : (vw q0 ++ vw q1 ++ vw q2).toArray = #[Value.int IntKind.u32 (wAt q0 0), Value.int IntKind.u32 (wAt q0 1), Value.int IntKind.u32 (wAt q0 2), Value.int IntKind.u32 (wAt q0 3), Value.int IntKind.u32 (wAt q0 4), Value.int IntKind.u32 (wAt q0 5), Value.int IntKind.u32 (wAt q0 6), Value.int IntKind.u32 (wAt q0 7), Value.int IntKind.u32 (wAt q1 0), Value.int IntKind.u32 (wAt q1 1), Value.int IntKind.u32 (wAt q1 2), Value.int IntKind.u32 (wAt q1 3), Value.int IntKind.u32 (wAt q1 4), Value.int IntKind.u32 (wAt q1 5), Value.int IntKind.u32 (wAt q1 6), Value.int IntKind.u32 (wAt q1 7), Value.int IntKind.u32 (wAt q2 0), Value.int IntKind.u32 (wAt q2 1), Value.int IntKind.u32 (wAt q2 2), Value.int IntKind.u32 (wAt q2 3), Value.int IntKind.u32 (wAt q2 4), Value.int IntKind.u32 (wAt q2 5), Value.int IntKind.u32 (wAt q2 6), Value.int IntKind.u32 (wAt q2 7)] := by
  rw [vw8lit q0 l0, vw8lit q1 l1, vw8lit q2 l2]; rfl
set_option maxHeartbeats 4000000 in
theorem back_any (q0 q1 q2 : List UInt32) (s : ByteArray) (at_ : Int) (b : UInt8) (u : TypeId) (x : Value) (m : Int) (w : World) (l0 : q0.length = 8) (l1 : q1.length = 8) (l2 : q2.length = 8) (hs : s.size ≤ 2097152)
    (hE : w.cell? ⟨0, 0, none⟩ = some (.iface u x)) (hM : MaxL w m) :
    Calls Tryd.prog 5 #[.agg (vw q0 ++ vw q1 ++ vw q2).toArray, .string s, .int .i64 at_, .int .u8 b.toNat] w fun e w' => e = .returned (.bool true) ∧ Below w.heap.size w w' := by
  have hlit := quote_lit q0 q1 q2 l0 l1 l2
  obtain ⟨qc, hqc⟩ : ∃ qc, vw q0 ++ vw q1 ++ vw q2 = qc := ⟨_, rfl⟩
  have lqc : qc.length = 24 := by rw [← hqc]; simp [l0, l1, l2]
  have oqc : ∀ v ∈ qc, v.oneCell' = true := by
    rw [← hqc]; intro v hv
    rcases List.mem_append.1 hv with hv | hv
    · rcases List.mem_append.1 hv with hv | hv
      · exact vw_oneCell _ v hv
      · exact vw_oneCell _ v hv
    · exact vw_oneCell _ v hv
  rw [hqc] at hlit ⊢
  obtain ⟨w1, hw1⟩ : ∃ w1, w.alloc (.cells qc.toArray 38) = w1 := ⟨_, rfl⟩
  have hQ1 : w1.heap[w.heap.size]? = some (.cells qc.toArray 38) := by rw [← hw1]; exact heap_alloc_new w _
  have hb1 : Below w.heap.size w w1 := by rw [← hw1]; exact (Below.refl _ _).alloc (Nat.le_refl _) _
  have hgE : 0 < w.heap.size := World.block_lt_of_cell? w _ hE
  have hgM : 4 < w.heap.size := World.block_lt_of_cell? w _ hM
  have l1w : w.heap.size < w1.heap.size := (Array.getElem?_eq_some_iff.1 hQ1).1
  have hF : ∀ w' : World, Below w1.heap.size w1 w' → (w'.cell? ⟨0, 0, none⟩ = some (.iface u x) ∧ MaxL w' m ∧ w'.rangeAt w.heap.size 0 qc ∧ Below w.heap.size w w') := fun w' h => by
    have bw := hb1.trans (h.mono hb1.size)
    refine ⟨?_, ?_, rangeAt_kept (range_block hQ1) (h.block _ l1w), bw⟩
    · rw [cell_kept (bw.block _ hgE)]; exact hE
    · show w'.cell? _ = _; rw [cell_kept (bw.block _ hgM)]; exact hM
  have hwh1 : w1.rangeAt w.heap.size 0 qc := range_block hQ1
  obtain ⟨ft, hft⟩ : ∃ ft : ByteArray, ⟨(fmtL q0 q1 q2).toArray⟩ = ft := ⟨_, rfl⟩
  have hst : fmtL q0 q1 q2 = strL ft := by rw [← hft]; rfl
  have hsz : ft.size = 224 := by rw [← strL_length, ← hst]; exact fmt_len q0 q1 q2 l0 l1 l2
  replace hF := Lib.hid hF; replace hwh1 := Lib.hid hwh1; replace hqc := Lib.hid hqc; replace lqc := Lib.hid lqc; replace oqc := Lib.hid oqc; replace hlit := Lib.hid hlit; replace hft := Lib.hid hft; replace hst := Lib.hid hst; replace hsz := Lib.hid hsz
  clear hQ1 hb1 hE hM
  go_enter Tryd.func5, Tryd.ntmps5
  go_upto_region 1 with fail
  try (change Code.wp _ _ _ _ (w.alloc (.cells qc.toArray 38)); rw [hw1])
  clear hw1
  go_wp2_with (refine wpList_load_mid rfl 38 _ rfl w.heap.size 0 rfl qc _ hwh1.out Tryd.underlying38 rfl (by rw [lqc.out]; exact info38) ?_)
  rw [← hqc.out]
  refine (format_any q0 q1 q2 _ l0 l1 l2).mono ?_
  rintro e w2 ⟨rfl, b12⟩
  rw [hqc.out, hft.out]
  obtain ⟨cE2, cM2, hwh2, _⟩ := hF.out w2 b12
  replace b12 := Lib.hid b12; replace cE2 := Lib.hid cE2; replace cM2 := Lib.hid cM2
  clear hwh2
  go_wp2_with fail
  refine (parse_yes ft u x m _ q0 q1 q2 (by rw [hsz.out]; decide) cE2.out cM2.out hst.out l0 l1 l2).mono ?_
  rintro e w3 ⟨rfl, b23⟩
  rw [hqc.out]
  have b13 := b12.out.trans (b23.mono b12.out.size)
  clear b12 b23 cE2 cM2
  replace b13 := Lib.hid b13
  go_upto_region 3 with (refine wpList_store_blk rfl 38 _ _ rfl w3.heap.size qc rfl rfl 38 _ (heap_alloc_new _ _) (by rw [lqc.out]; exact info38) (by rw [lqc.out]; rfl) oqc.out ?_; intro w4 hB4 g4)
  have b34 := below_new g4
  have b14 := b13.out.trans (b34.mono b13.out.size)
  have hp4 : w4.rangeAt w3.heap.size 0 qc := range_block hB4
  obtain ⟨cE4, cM4, hwh4, bw4⟩ := hF.out w4 b14
  clear b34 g4 hB4 b13
  replace b14 := Lib.hid b14; replace cE4 := Lib.hid cE4; replace cM4 := Lib.hid cM4; replace hwh4 := Lib.hid hwh4; replace hp4 := Lib.hid hp4; replace bw4 := Lib.hid bw4
  have hEq : ∀ w' : World, (Op.equalIn 10000 38 (.agg qc.toArray) (.agg qc.toArray)).run Tryd.prog w' = .ok true w' := fun w' => by
    rw [← hqc.out, eq_quote q0 q1 q2 q0 q1 q2 w' l0 l1 l2 l0 l1 l2]; simp
  have hsz' := hsz.out
  go_wp2_with (first
    | (refine wpList_load_mid rfl 38 _ rfl w3.heap.size 0 rfl qc _ hp4.out Tryd.underlying38 rfl (by rw [lqc.out]; exact info38) ?_)
    | (refine wpList_load_mid rfl 38 _ rfl w.heap.size 0 rfl qc _ hwh4.out Tryd.underlying38 rfl (by rw [lqc.out]; exact info38) ?_))
  refine (num_any _ _).mono ?_
  rintro e w5 ⟨rfl, hw5⟩
  rw [hw5]
  clear hp4 hw5
  go_upto_region 6 with fail
  obtain ⟨k, hk1, hk2⟩ := place_is at_
  simp only [hk2]
  clear hk2 hEq
  have i1 : (0 : Int) ≤ (k : Int) := by omega
  have i2 : (k : Int) ≤ 224 := by omega
  have i3 : (k : Int) + 1 ≤ 224 := by omega
  have i4 : (0 : Int) ≤ (k : Int) + 1 := by omega
  have i5 : IntKind.i64.wrap ((k : Int) + 1) = (k : Int) + 1 := by rw [IntKind.wrap_i64]; omega
  have hRd : ∀ w' : World, Rd (w'.alloc (.cells #[.int .u8 b.toNat] 5)) (.slice (some ⟨w'.heap.size, 0, none⟩) 1 1) (vb [b]) := fun w' => Rd.new w' [.int .u8 b.toNat] 5 (0, 0) (by simp [maxLen])
  have cv1 : (convert 30 9 (.slice (some ⟨w4.heap.size, 0, none⟩) 1 1)).run Tryd.prog (w4.alloc (.cells #[.int .u8 b.toNat] 5)) = .ok (.string ⟨#[b]⟩) (w4.alloc (.cells #[.int .u8 b.toNat] 5)) := conv_bytes (hRd w4) _ _ _ Tryd.underlying30 Tryd.underlying5 Tryd.underlying9
  have cv2 : (convert 30 9 (.slice (some ⟨w4.heap.size, 0, none⟩) 1 1)).run Tryd.prog (w4.alloc (.cells #[.int .u8 b.toNat] 5)).drew = .ok (.string ⟨#[b]⟩) (w4.alloc (.cells #[.int .u8 b.toNat] 5)).drew := conv_bytes (w := (w4.alloc (.cells #[.int .u8 b.toNat] 5)).drew) ((hRd w4).kept fun _ _ _ => rfl) _ _ _ Tryd.underlying30 Tryd.underlying5 Tryd.underlying9
  replace hRd := Lib.hid hRd
  have c6 : ¬ 9223372036854775807 < min k 224 + 1 := by omega
  have c7 : ¬ 9223372036854775807 < min k 224 + 1 + (223 - k) := by omega
  go_cut [13] from 46 to 57 (fun r wx => ∃ U : ByteArray, r = .string U ∧ U.size ≤ 2097152 ∧ Below w1.heap.size w1 wx)
  case first =>
    go_region_with (fail)
    all_goals
      go_wp2_with fail
      go_meet
      case rel =>
        refine ⟨_, rfl, ?_, (b14.out.alloc b14.out.size _).drew⟩
        simp only [ByteArray.size_append, ByteArray.size_extract, hsz.out]
        have : (⟨#[b]⟩ : ByteArray).size = 1 := rfl
        omega
  case rest =>
    clear c6 c7
    obtain ⟨U, rfl, zU, b16⟩ := hcut
    obtain ⟨w6, rfl⟩ : ∃ w6, w6 = wc := ⟨wc, rfl⟩
    clear cv1 cv2 b14 cE4 cM4 hwh4 bw4
    obtain ⟨cE6, cM6, _, _⟩ := hF.out w6 b16
    replace b16 := Lib.hid b16; replace cE6 := Lib.hid cE6; replace cM6 := Lib.hid cM6
    go_upto_region 7 with fail
    go_cut [14, 15] from 58 to 62 (fun p f wx => ∃ g : Nat, p = .pointer (some ⟨g, 0, none⟩) ∧ Below w1.heap.size w1 wx ∧ ((f = .int .i64 0 ∧ ∃ a0 a1 a2 : List UInt32, a0.length = 8 ∧ a1.length = 8 ∧ a2.length = 8 ∧ fmtL a0 a1 a2 = strL U ∧ wx.rangeAt g 0 (vw a0 ++ vw a1 ++ vw a2)) ∨ f = .int .i64 160))
    case first =>
      by_cases hy : ∃ a0 a1 a2 : List UInt32, a0.length = 8 ∧ a1.length = 8 ∧ a2.length = 8 ∧ fmtL a0 a1 a2 = strL U
      · obtain ⟨a0, a1, a2, e0, e1, e2, he⟩ := hy
        replace he := Lib.hid he
        go_wp2_with fail
        refine (parse_yes U u x m _ a0 a1 a2 zU cE6.out cM6.out he.out e0 e1 e2).mono ?_
        rintro e w7 ⟨rfl, b67⟩
        obtain ⟨qa, hqa⟩ : ∃ qa, vw a0 ++ vw a1 ++ vw a2 = qa := ⟨_, rfl⟩
        have lqa : qa.length = 24 := by rw [← hqa]; simp [e0, e1, e2]
        have oqa : ∀ v ∈ qa, v.oneCell' = true := by rw [← hqa]; exact quote_one a0 a1 a2
        rw [hqa]
        have b17 := b16.out.trans (b67.mono b16.out.size)
        clear b67 b16
        replace b17 := Lib.hid b17; replace lqa := Lib.hid lqa; replace oqa := Lib.hid oqa; replace hqa := Lib.hid hqa
        go_wp2_with (refine wpList_store_blk rfl 38 _ _ rfl w7.heap.size qa rfl rfl 38 _ (heap_alloc_new _ _) (by rw [lqa.out]; exact info38) (by rw [lqa.out]; rfl) oqa.out ?_; intro w8 hB8 g8; have b18 := b17.out.trans ((below_new g8).mono b17.out.size); have r8 := range_block hB8; clear g8 hB8; replace b18 := Lib.hid b18; replace r8 := Lib.hid r8)
        go_meet
        case rel => exact ⟨w7.heap.size, rfl, b18.out, .inl ⟨rfl, a0, a1, a2, e0, e1, e2, he.out, by rw [hqa.out]; exact r8.out⟩⟩
      · have hN : NoQuote U := fun a0 a1 a2 e0 e1 e2 he => hy ⟨a0, a1, a2, e0, e1, e2, he⟩
        clear hy
        replace hN := Lib.hid hN
        go_wp2_with fail
        refine (parse_no U u x m _ zU cE6.out cM6.out hN.out).mono ?_
        rintro e w7 ⟨rfl, b67⟩
        have b17 := b16.out.trans (b67.mono b16.out.size)
        clear b67 b16
        replace b17 := Lib.hid b17
        go_wp2_with (refine wpList_store_blk rfl 38 _ _ rfl w7.heap.size zero24 rfl rfl 38 _ (heap_alloc_new _ _) info38 rfl zero24_one ?_; intro w8 hB8 g8; have b18 := b17.out.trans ((below_new g8).mono b17.out.size); clear g8 hB8; replace b18 := Lib.hid b18)
        go_meet
        case rel => exact ⟨w7.heap.size, rfl, b18.out, .inr rfl⟩
    case rest =>
      obtain ⟨g, rfl, b17, hk7⟩ := hcut
      obtain ⟨w7, rfl⟩ : ∃ w7, w7 = wc := ⟨wc, rfl⟩
      clear b16 cE6 cM6
      obtain ⟨cE7, cM7, hwh7, bw7⟩ := hF.out w7 b17
      replace b17 := Lib.hid b17; replace cE7 := Lib.hid cE7; replace cM7 := Lib.hid cM7; replace bw7 := Lib.hid bw7
      go_upto_region 8 with fail
      go_cut [74] from 63 to 73 (fun r wx => r = .bool false ∧ wx = w7)
      case first =>
        rcases hk7 with ⟨rfl, a0, a1, a2, e0, e1, e2, he, hr⟩ | rfl
        · obtain ⟨qa, hqa⟩ : ∃ qa, vw a0 ++ vw a1 ++ vw a2 = qa := ⟨_, rfl⟩
          have lqa : qa.length = 24 := by rw [← hqa]; simp [e0, e1, e2]
          rw [hqa] at hr
          replace lqa := Lib.hid lqa; replace hqa := Lib.hid hqa; replace hr := Lib.hid hr; replace hwh7 := Lib.hid hwh7
          by_cases heq : strL U = strL ft
          · have hq : (U.toList == ft.toList) = true := by rw [toList_eq_iff]; simp [heq]
            have hE : ∀ w' : World, (Op.equalIn 10000 38 (.agg qa.toArray) (.agg qc.toArray)).run Tryd.prog w' = .ok true w' := fun w' => by
              rw [← hqa.out, ← hqc.out, eq_quote a0 a1 a2 q0 q1 q2 w' e0 e1 e2 l0 l1 l2, decide_eq_true (fmt_inj _ _ _ _ _ _ (he.trans (heq.trans hst.out.symm)))]
            replace he := Lib.hid he; replace heq := Lib.hid heq
            go_wp2_with fail
            refine (num_any _ _).mono ?_
            rintro e w9 ⟨rfl, hw9⟩
            rw [hw9]
            clear hw9
            go_wp2_with (first
              | (refine wpList_load_mid_g (by rfl) 38 _ rfl g 0 rfl qa _ hr.out Tryd.underlying38 rfl (by rw [lqa.out]; exact info38) ?_)
              | (refine wpList_load_mid_g (by rfl) 38 _ rfl w.heap.size 0 rfl qc _ hwh7.out Tryd.underlying38 rfl (by rw [lqc.out]; exact info38) ?_))
            go_meet
            case rel => exact ⟨rfl, rfl⟩
          · have hq : (U.toList == ft.toList) = false := by rw [toList_eq_iff]; simp [heq]
            have hE : ∀ w' : World, (Op.equalIn 10000 38 (.agg qa.toArray) (.agg qc.toArray)).run Tryd.prog w' = .ok false w' := fun w' => by
              rw [← hqa.out, ← hqc.out, eq_quote a0 a1 a2 q0 q1 q2 w' e0 e1 e2 l0 l1 l2, decide_eq_false (fun h => heq (by rw [← he, ← hst.out, h.1, h.2.1, h.2.2]))]
            replace he := Lib.hid he; replace heq := Lib.hid heq
            go_wp2_with fail
            refine (num_any _ _).mono ?_
            rintro e w9 ⟨rfl, hw9⟩
            rw [hw9]
            clear hw9
            go_wp2_with (first
              | (refine wpList_load_mid_g (by rfl) 38 _ rfl g 0 rfl qa _ hr.out Tryd.underlying38 rfl (by rw [lqa.out]; exact info38) ?_)
              | (refine wpList_load_mid_g (by rfl) 38 _ rfl w.heap.size 0 rfl qc _ hwh7.out Tryd.underlying38 rfl (by rw [lqc.out]; exact info38) ?_))
            go_meet
            case rel => exact ⟨rfl, rfl⟩
        · clear hwh7
          go_wp2_with fail
          refine (num_any _ _).mono ?_
          rintro e w9 ⟨rfl, hw9⟩
          rw [hw9]
          clear hw9
          go_wp2_with fail
          go_meet
          case rel => exact ⟨rfl, rfl⟩
      case rest =>
        obtain ⟨rfl, hwc⟩ := hcut
        subst hwc
        clear hk7 hwh7
        have hz24 : zero24.length = 24 := rfl
        have zsA : ∀ w' : World, (storeCells ⟨w'.heap.size, 0, none⟩ zero24).run Tryd.prog (w'.alloc (.cells #[.int .u32 0, .int .u32 0, .int .u32 0, .int .u32 0, .int .u32 0, .int .u32 0, .int .u32 0, .int .u32 0, .int .u32 0, .int .u32 0, .int .u32 0, .int .u32 0, .int .u32 0, .int .u32 0, .int .u32 0, .int .u32 0, .int .u32 0, .int .u32 0, .int .u32 0, .int .u32 0, .int .u32 0, .int .u32 0, .int .u32 0, .int .u32 0] 38)) = .ok () (w'.alloc (.cells #[.int .u32 0, .int .u32 0, .int .u32 0, .int .u32 0, .int .u32 0, .int .u32 0, .int .u32 0, .int .u32 0, .int .u32 0, .int .u32 0, .int .u32 0, .int .u32 0, .int .u32 0, .int .u32 0, .int .u32 0, .int .u32 0, .int .u32 0, .int .u32 0, .int .u32 0, .int .u32 0, .int .u32 0, .int .u32 0, .int .u32 0, .int .u32 0] 38)) := fun w' => zst (heap_alloc_new w' _)
        have z10 : (ft.extract 0 k ++ ft.extract (k + 1) 224).size = 223 := by simp only [ByteArray.size_append, ByteArray.size_extract, hsz.out]; omega
        have hN10 : NoQuote (ft.extract 0 k ++ ft.extract (k + 1) 224) := noQuote_size _ (by rw [z10]; decide)
        have c10 : ¬ 9223372036854775807 < min k 224 + (223 - k) := by omega
        have hS : ∀ w' : World, Below wc.heap.size wc w' → (Below wc.heap.size wc w' ∧ w'.cell? ⟨0, 0, none⟩ = some (.iface u x) ∧ MaxL w' m) := fun w' h => ⟨h, by rw [cell_kept (h.block _ (by have := bw7.out.size; omega))]; exact cE7.out, by show w'.cell? _ = _; rw [cell_kept (h.block _ (by have := bw7.out.size; omega))]; exact cM7.out⟩
        replace hS := Lib.hid hS; replace hN10 := Lib.hid hN10; replace z10 := Lib.hid z10
        go_upto_region 10 with fail
        go_cut [16, 17] from 75 to 86 (fun _ f wx => f = .int .i64 160 ∧ Below w1.heap.size w1 wx)
        case first =>
          go_region_held3 (fun w' => Below wc.heap.size wc w' ∧ w'.cell? ⟨0, 0, none⟩ = some (.iface u x) ∧ MaxL w' m)
            (first
              | exact hS.out _ (Below.refl _ _)
              | exact hS.out _ (Below.drew (Below.refl _ _))
              | assumption
              | exact hS.out _ (Below.drew (And.left (by assumption)))
              | exact hS.out _ (bX.trans (b2.mono bX.size))
              | exact hS.out _ (Below.drew ((Below.refl _ _).alloc (Nat.le_refl _) _))
              | exact hS.out _ ((And.left (by assumption : Below wc.heap.size wc _ ∧ _)).alloc (And.left (by assumption : Below wc.heap.size wc _ ∧ _)).size _))
            (first
              | (go_at_call 18; obtain ⟨bX, cX, mX⟩ := (by assumption : Below wc.heap.size wc _ ∧ _ ∧ _); refine (parse_no (ft.extract 0 k ++ ft.extract (k + 1) 224) u x m _ (by rw [z10.out]; decide) cX mX hN10.out).mono ?_; rintro e w8 ⟨rfl, b2⟩; clear cX mX; try (have zs3 := zst (w := w8) (g := wc.heap.size) ((b2.block wc.heap.size (by simp <;> omega)).trans (heap_alloc_new wc (.cells #[.int .u32 0, .int .u32 0, .int .u32 0, .int .u32 0, .int .u32 0, .int .u32 0, .int .u32 0, .int .u32 0, .int .u32 0, .int .u32 0, .int .u32 0, .int .u32 0, .int .u32 0, .int .u32 0, .int .u32 0, .int .u32 0, .int .u32 0, .int .u32 0, .int .u32 0, .int .u32 0, .int .u32 0, .int .u32 0, .int .u32 0, .int .u32 0] 38))))))
          all_goals
            go_wp2_with fail
            go_meet
            case rel => exact ⟨rfl, b17.out.trans ((And.left (by assumption : Below wc.heap.size wc _ ∧ _)).mono b17.out.size)⟩
        case rest =>
          obtain ⟨rfl, b18⟩ := hcut
          obtain ⟨cE8, cM8, _, bw8⟩ := hF.out wc b18
          clear b17 cE7 cM7 bw7 hS hN10 z10 c10
          replace b18 := Lib.hid b18; replace cE8 := Lib.hid cE8; replace cM8 := Lib.hid cM8; replace bw8 := Lib.hid bw8
          have z11 : (ft.extract 0 k ++ (⟨#[b]⟩ : ByteArray) ++ ft.extract k 224).size = 225 := by
            have e1 : (⟨#[b]⟩ : ByteArray).size = 1 := rfl
            simp only [ByteArray.size_append, ByteArray.size_extract, hsz.out, e1]; omega
          have hN11 : NoQuote (ft.extract 0 k ++ (⟨#[b]⟩ : ByteArray) ++ ft.extract k 224) := noQuote_size _ (by rw [z11]; decide)
          have c11 : ¬ 9223372036854775807 < min k 224 + 1 := by omega
          have c12 : ¬ 9223372036854775807 < min k 224 + 1 + (224 - k) := by omega
          have hS : ∀ w' : World, Below wc.heap.size wc w' → (Below wc.heap.size wc w' ∧ w'.cell? ⟨0, 0, none⟩ = some (.iface u x) ∧ MaxL w' m) := fun w' h => ⟨h, by rw [cell_kept (h.block _ (by have := bw8.out.size; omega))]; exact cE8.out, by show w'.cell? _ = _; rw [cell_kept (h.block _ (by have := bw8.out.size; omega))]; exact cM8.out⟩
          have cxa : (convert 30 9 (.slice (some ⟨wc.heap.size, 0, none⟩) 1 1)).run Tryd.prog (wc.alloc (.cells #[.int .u8 b.toNat] 5)) = .ok (.string ⟨#[b]⟩) (wc.alloc (.cells #[.int .u8 b.toNat] 5)) := conv_bytes (w := wc.alloc (.cells #[.int .u8 b.toNat] 5)) (hRd.out wc) _ _ _ Tryd.underlying30 Tryd.underlying5 Tryd.underlying9
          have cxb : (convert 30 9 (.slice (some ⟨wc.heap.size, 0, none⟩) 1 1)).run Tryd.prog (wc.alloc (.cells #[.int .u8 b.toNat] 5)).drew = .ok (.string ⟨#[b]⟩) (wc.alloc (.cells #[.int .u8 b.toNat] 5)).drew := conv_bytes (w := (wc.alloc (.cells #[.int .u8 b.toNat] 5)).drew) ((hRd.out wc : Rd (wc.alloc (.cells #[.int .u8 b.toNat] 5)) (.slice (some ⟨wc.heap.size, 0, none⟩) 1 1) (vb [b])).kept fun _ _ _ => rfl) _ _ _ Tryd.underlying30 Tryd.underlying5 Tryd.underlying9
          have cya : (convert 30 9 (.slice (some ⟨wc.heap.size + 1, 0, none⟩) 1 1)).run Tryd.prog ((wc.alloc (.cells #[.int .u32 0, .int .u32 0, .int .u32 0, .int .u32 0, .int .u32 0, .int .u32 0, .int .u32 0, .int .u32 0, .int .u32 0, .int .u32 0, .int .u32 0, .int .u32 0, .int .u32 0, .int .u32 0, .int .u32 0, .int .u32 0, .int .u32 0, .int .u32 0, .int .u32 0, .int .u32 0, .int .u32 0, .int .u32 0, .int .u32 0, .int .u32 0] 38)).alloc (.cells #[.int .u8 b.toNat] 5)) = .ok (.string ⟨#[b]⟩) ((wc.alloc (.cells #[.int .u32 0, .int .u32 0, .int .u32 0, .int .u32 0, .int .u32 0, .int .u32 0, .int .u32 0, .int .u32 0, .int .u32 0, .int .u32 0, .int .u32 0, .int .u32 0, .int .u32 0, .int .u32 0, .int .u32 0, .int .u32 0, .int .u32 0, .int .u32 0, .int .u32 0, .int .u32 0, .int .u32 0, .int .u32 0, .int .u32 0, .int .u32 0] 38)).alloc (.cells #[.int .u8 b.toNat] 5)) := conv_bytes (w := (wc.alloc (.cells #[.int .u32 0, .int .u32 0, .int .u32 0, .int .u32 0, .int .u32 0, .int .u32 0, .int .u32 0, .int .u32 0, .int .u32 0, .int .u32 0, .int .u32 0, .int .u32 0, .int .u32 0, .int .u32 0, .int .u32 0, .int .u32 0, .int .u32 0, .int .u32 0, .int .u32 0, .int .u32 0, .int .u32 0, .int .u32 0, .int .u32 0, .int .u32 0] 38)).alloc (.cells #[.int .u8 b.toNat] 5)) (by have := hRd.out (wc.alloc (.cells #[.int .u32 0, .int .u32 0, .int .u32 0, .int .u32 0, .int .u32 0, .int .u32 0, .int .u32 0, .int .u32 0, .int .u32 0, .int .u32 0, .int .u32 0, .int .u32 0, .int .u32 0, .int .u32 0, .int .u32 0, .int .u32 0, .int .u32 0, .int .u32 0, .int .u32 0, .int .u32 0, .int .u32 0, .int .u32 0, .int .u32 0, .int .u32 0] 38)); simpa using this) _ _ _ Tryd.underlying30 Tryd.underlying5 Tryd.underlying9
          have cyb : (convert 30 9 (.slice (some ⟨wc.heap.size + 1, 0, none⟩) 1 1)).run Tryd.prog ((wc.alloc (.cells #[.int .u32 0, .int .u32 0, .int .u32 0, .int .u32 0, .int .u32 0, .int .u32 0, .int .u32 0, .int .u32 0, .int .u32 0, .int .u32 0, .int .u32 0, .int .u32 0, .int .u32 0, .int .u32 0, .int .u32 0, .int .u32 0, .int .u32 0, .int .u32 0, .int .u32 0, .int .u32 0, .int .u32 0, .int .u32 0, .int .u32 0, .int .u32 0] 38)).alloc (.cells #[.int .u8 b.toNat] 5)).drew = .ok (.string ⟨#[b]⟩) ((wc.alloc (.cells #[.int .u32 0, .int .u32 0, .int .u32 0, .int .u32 0, .int .u32 0, .int .u32 0, .int .u32 0, .int .u32 0, .int .u32 0, .int .u32 0, .int .u32 0, .int .u32 0, .int .u32 0, .int .u32 0, .int .u32 0, .int .u32 0, .int .u32 0, .int .u32 0, .int .u32 0, .int .u32 0, .int .u32 0, .int .u32 0, .int .u32 0, .int .u32 0] 38)).alloc (.cells #[.int .u8 b.toNat] 5)).drew := conv_bytes (w := ((wc.alloc (.cells #[.int .u32 0, .int .u32 0, .int .u32 0, .int .u32 0, .int .u32 0, .int .u32 0, .int .u32 0, .int .u32 0, .int .u32 0, .int .u32 0, .int .u32 0, .int .u32 0, .int .u32 0, .int .u32 0, .int .u32 0, .int .u32 0, .int .u32 0, .int .u32 0, .int .u32 0, .int .u32 0, .int .u32 0, .int .u32 0, .int .u32 0, .int .u32 0] 38)).alloc (.cells #[.int .u8 b.toNat] 5)).drew) ((by have := hRd.out (wc.alloc (.cells #[.int .u32 0, .int .u32 0, .int .u32 0, .int .u32 0, .int .u32 0, .int .u32 0, .int .u32 0, .int .u32 0, .int .u32 0, .int .u32 0, .int .u32 0, .int .u32 0, .int .u32 0, .int .u32 0, .int .u32 0, .int .u32 0, .int .u32 0, .int .u32 0, .int .u32 0, .int .u32 0, .int .u32 0, .int .u32 0, .int .u32 0, .int .u32 0] 38)); simpa using this : Rd ((wc.alloc (.cells #[.int .u32 0, .int .u32 0, .int .u32 0, .int .u32 0, .int .u32 0, .int .u32 0, .int .u32 0, .int .u32 0, .int .u32 0, .int .u32 0, .int .u32 0, .int .u32 0, .int .u32 0, .int .u32 0, .int .u32 0, .int .u32 0, .int .u32 0, .int .u32 0, .int .u32 0, .int .u32 0, .int .u32 0, .int .u32 0, .int .u32 0, .int .u32 0] 38)).alloc (.cells #[.int .u8 b.toNat] 5)) (.slice (some ⟨wc.heap.size + 1, 0, none⟩) 1 1) (vb [b])).kept fun _ _ _ => rfl) _ _ _ Tryd.underlying30 Tryd.underlying5 Tryd.underlying9
          have cza : (convert 30 9 (.slice (some ⟨wc.heap.size, 0, none⟩) 1 1)).run Tryd.prog ((wc.alloc (.cells #[.int .u8 b.toNat] 5)).alloc (.cells #[.int .u32 0, .int .u32 0, .int .u32 0, .int .u32 0, .int .u32 0, .int .u32 0, .int .u32 0, .int .u32 0, .int .u32 0, .int .u32 0, .int .u32 0, .int .u32 0, .int .u32 0, .int .u32 0, .int .u32 0, .int .u32 0, .int .u32 0, .int .u32 0, .int .u32 0, .int .u32 0, .int .u32 0, .int .u32 0, .int .u32 0, .int .u32 0] 38)) = .ok (.string ⟨#[b]⟩) ((wc.alloc (.cells #[.int .u8 b.toNat] 5)).alloc (.cells #[.int .u32 0, .int .u32 0, .int .u32 0, .int .u32 0, .int .u32 0, .int .u32 0, .int .u32 0, .int .u32 0, .int .u32 0, .int .u32 0, .int .u32 0, .int .u32 0, .int .u32 0, .int .u32 0, .int .u32 0, .int .u32 0, .int .u32 0, .int .u32 0, .int .u32 0, .int .u32 0, .int .u32 0, .int .u32 0, .int .u32 0, .int .u32 0] 38)) := conv_bytes (w := (wc.alloc (.cells #[.int .u8 b.toNat] 5)).alloc (.cells #[.int .u32 0, .int .u32 0, .int .u32 0, .int .u32 0, .int .u32 0, .int .u32 0, .int .u32 0, .int .u32 0, .int .u32 0, .int .u32 0, .int .u32 0, .int .u32 0, .int .u32 0, .int .u32 0, .int .u32 0, .int .u32 0, .int .u32 0, .int .u32 0, .int .u32 0, .int .u32 0, .int .u32 0, .int .u32 0, .int .u32 0, .int .u32 0] 38)) ((hRd.out wc).kept fun j hj hl => heap_alloc_old _ _ hl) _ _ _ Tryd.underlying30 Tryd.underlying5 Tryd.underlying9
          have czb : (convert 30 9 (.slice (some ⟨wc.heap.size, 0, none⟩) 1 1)).run Tryd.prog ((wc.alloc (.cells #[.int .u8 b.toNat] 5)).alloc (.cells #[.int .u32 0, .int .u32 0, .int .u32 0, .int .u32 0, .int .u32 0, .int .u32 0, .int .u32 0, .int .u32 0, .int .u32 0, .int .u32 0, .int .u32 0, .int .u32 0, .int .u32 0, .int .u32 0, .int .u32 0, .int .u32 0, .int .u32 0, .int .u32 0, .int .u32 0, .int .u32 0, .int .u32 0, .int .u32 0, .int .u32 0, .int .u32 0] 38)).drew = .ok (.string ⟨#[b]⟩) ((wc.alloc (.cells #[.int .u8 b.toNat] 5)).alloc (.cells #[.int .u32 0, .int .u32 0, .int .u32 0, .int .u32 0, .int .u32 0, .int .u32 0, .int .u32 0, .int .u32 0, .int .u32 0, .int .u32 0, .int .u32 0, .int .u32 0, .int .u32 0, .int .u32 0, .int .u32 0, .int .u32 0, .int .u32 0, .int .u32 0, .int .u32 0, .int .u32 0, .int .u32 0, .int .u32 0, .int .u32 0, .int .u32 0] 38)).drew := conv_bytes (w := ((wc.alloc (.cells #[.int .u8 b.toNat] 5)).alloc (.cells #[.int .u32 0, .int .u32 0, .int .u32 0, .int .u32 0, .int .u32 0, .int .u32 0, .int .u32 0, .int .u32 0, .int .u32 0, .int .u32 0, .int .u32 0, .int .u32 0, .int .u32 0, .int .u32 0, .int .u32 0, .int .u32 0, .int .u32 0, .int .u32 0, .int .u32 0, .int .u32 0, .int .u32 0, .int .u32 0, .int .u32 0, .int .u32 0] 38)).drew) (((hRd.out wc).kept fun j hj hl => heap_alloc_old _ _ hl : Rd ((wc.alloc (.cells #[.int .u8 b.toNat] 5)).alloc (.cells #[.int .u32 0, .int .u32 0, .int .u32 0, .int .u32 0, .int .u32 0, .int .u32 0, .int .u32 0, .int .u32 0, .int .u32 0, .int .u32 0, .int .u32 0, .int .u32 0, .int .u32 0, .int .u32 0, .int .u32 0, .int .u32 0, .int .u32 0, .int .u32 0, .int .u32 0, .int .u32 0, .int .u32 0, .int .u32 0, .int .u32 0, .int .u32 0] 38)) (.slice (some ⟨wc.heap.size, 0, none⟩) 1 1) (vb [b])).kept fun _ _ _ => rfl) _ _ _ Tryd.underlying30 Tryd.underlying5 Tryd.underlying9
          replace hS := Lib.hid hS; replace hN11 := Lib.hid hN11; replace z11 := Lib.hid z11
          go_upto_region 11 with fail
          go_cut [18, 19] from 87 to 101 (fun _ f wx => f = .int .i64 160 ∧ Below w1.heap.size w1 wx)
          case first =>
            go_region_with (go_at_call 18; refine (parse_no (ft.extract 0 k ++ (⟨#[b]⟩ : ByteArray) ++ ft.extract k 224) u x m _ (by rw [z11.out]; decide) (hS.out _ (by first | exact Below.drew ((Below.refl _ _).alloc (Nat.le_refl _) _) | exact Below.drew (((Below.refl _ _).alloc (Nat.le_refl _) _).alloc (by simp) _))).2.1 (hS.out _ (by first | exact Below.drew ((Below.refl _ _).alloc (Nat.le_refl _) _) | exact Below.drew (((Below.refl _ _).alloc (Nat.le_refl _) _).alloc (by simp) _))).2.2 hN11.out).mono ?_; rintro e w8 ⟨rfl, b2⟩; have bX : Below wc.heap.size wc w8 := (by first | exact (Below.drew ((Below.refl _ _).alloc (Nat.le_refl _) _)).trans (b2.mono (by simp <;> omega)) | exact (Below.drew (((Below.refl _ _).alloc (Nat.le_refl _) _).alloc (by simp) _)).trans (b2.mono (by simp <;> omega))); (try (have zs3 := zst (w := w8) (g := wc.heap.size) ((b2.block wc.heap.size (by simp <;> omega)).trans (by exact (heap_alloc_old _ _ (by simp <;> omega)).trans (heap_alloc_new wc (.cells #[.int .u32 0, .int .u32 0, .int .u32 0, .int .u32 0, .int .u32 0, .int .u32 0, .int .u32 0, .int .u32 0, .int .u32 0, .int .u32 0, .int .u32 0, .int .u32 0, .int .u32 0, .int .u32 0, .int .u32 0, .int .u32 0, .int .u32 0, .int .u32 0, .int .u32 0, .int .u32 0, .int .u32 0, .int .u32 0, .int .u32 0, .int .u32 0] 38)))))); (try (have zs4 := zst (w := w8) (g := wc.heap.size + 1) ((b2.block (wc.heap.size + 1) (by simp <;> omega)).trans (new_at wc (.cells #[.int .u8 b.toNat] 5) (.cells #[.int .u32 0, .int .u32 0, .int .u32 0, .int .u32 0, .int .u32 0, .int .u32 0, .int .u32 0, .int .u32 0, .int .u32 0, .int .u32 0, .int .u32 0, .int .u32 0, .int .u32 0, .int .u32 0, .int .u32 0, .int .u32 0, .int .u32 0, .int .u32 0, .int .u32 0, .int .u32 0, .int .u32 0, .int .u32 0, .int .u32 0, .int .u32 0] 38))))))
            all_goals
              go_wp2_with fail
              go_meet
              case rel => exact ⟨rfl, b18.out.trans (Below.mono (by first | exact bX | exact bX.alloc bX.size _ | exact (bX.alloc bX.size _).drew | exact bX.drew) b18.out.size)⟩
          case rest =>
            obtain ⟨rfl, b19⟩ := hcut
            obtain ⟨cE9, cM9, _, bw9⟩ := hF.out wc b19
            clear b18 cE8 cM8 bw8 hS hN11 z11 c11 c12 cxa cxb cya cyb cza czb zsA hz24
            replace b19 := Lib.hid b19; replace cE9 := Lib.hid cE9; replace cM9 := Lib.hid cM9; replace bw9 := Lib.hid bw9
            by_cases hy : ∃ a0 a1 a2 : List UInt32, a0.length = 8 ∧ a1.length = 8 ∧ a2.length = 8 ∧ fmtL a0 a1 a2 = strL s
            · obtain ⟨a0, a1, a2, e0, e1, e2, he⟩ := hy
              replace he := Lib.hid he
              go_wp2_with fail
              refine (parse_yes s u x m _ a0 a1 a2 hs cE9.out cM9.out he.out e0 e1 e2).mono ?_
              rintro e w10 ⟨rfl, b910⟩
              obtain ⟨qa, hqa⟩ : ∃ qa, vw a0 ++ vw a1 ++ vw a2 = qa := ⟨_, rfl⟩
              have lqa : qa.length = 24 := by rw [← hqa]; simp [e0, e1, e2]
              have oqa : ∀ v ∈ qa, v.oneCell' = true := by rw [← hqa]; exact quote_one a0 a1 a2
              rw [hqa]
              have bw10 := bw9.out.trans (b910.mono bw9.out.size)
              clear b910 b19 cE9 cM9
              replace bw10 := Lib.hid bw10; replace lqa := Lib.hid lqa; replace oqa := Lib.hid oqa; replace hqa := Lib.hid hqa
              go_upto_region 13 with (refine wpList_store_blk rfl 38 _ _ rfl w10.heap.size qa rfl rfl 38 _ (heap_alloc_new _ _) (by rw [lqa.out]; exact info38) (by rw [lqa.out]; rfl) oqa.out ?_; intro w11 hB11 g11)
              have bw11 := bw10.out.trans ((below_new g11).mono bw10.out.size)
              have r11 := range_block hB11
              clear g11 hB11 bw10
              replace bw11 := Lib.hid bw11; replace r11 := Lib.hid r11
              go_wp2_with fail
              refine (num_any _ _).mono ?_
              rintro e w9 ⟨rfl, hw9⟩
              rw [hw9]
              clear hw9
              go_wp2_with (refine wpList_load_mid rfl 38 _ rfl w10.heap.size 0 rfl qa _ r11.out Tryd.underlying38 rfl (by rw [lqa.out]; exact info38) ?_)
              rw [← hqa.out]
              refine (format_any a0 a1 a2 _ e0 e1 e2).mono ?_
              rintro e w12 ⟨rfl, b12⟩
              obtain ⟨fs, hfs⟩ : ∃ fs : ByteArray, ⟨(fmtL a0 a1 a2).toArray⟩ = fs := ⟨_, rfl⟩
              rw [hqa.out, hfs]
              have hq : (fs.toList == s.toList) = true := by
                rw [toList_eq_iff, decide_eq_true_iff, ← he.out, ← hfs]; rfl
              have bw12 := bw11.out.trans (b12.mono bw11.out.size)
              clear b12 bw11 r11 hfs
              replace bw12 := Lib.hid bw12
              go_wp2_with fail
              refine (num_any _ _).mono ?_
              rintro e w9 ⟨rfl, hw9⟩
              rw [hw9]
              clear hw9
              go_wp2_with fail
              refine (num_any _ _).mono ?_
              rintro e w9 ⟨rfl, hw9⟩
              rw [hw9]
              clear hw9
              go_wp2_with fail
              go_ret
              exact ⟨rfl, bw12.out⟩
            · have hN : NoQuote s := fun a0 a1 a2 e0 e1 e2 he => hy ⟨a0, a1, a2, e0, e1, e2, he⟩
              clear hy
              replace hN := Lib.hid hN
              have hE : ∀ w' : World, (Op.equalIn 10000 38 (.agg zero24.toArray) (.agg #[.int .u32 0, .int .u32 0, .int .u32 0, .int .u32 0, .int .u32 0, .int .u32 0, .int .u32 0, .int .u32 0, .int .u32 0, .int .u32 0, .int .u32 0, .int .u32 0, .int .u32 0, .int .u32 0, .int .u32 0, .int .u32 0, .int .u32 0, .int .u32 0, .int .u32 0, .int .u32 0, .int .u32 0, .int .u32 0, .int .u32 0, .int .u32 0])).run Tryd.prog w' = .ok true w' := fun w' => by
                have := eq_quote (List.replicate 8 0) (List.replicate 8 0) (List.replicate 8 0) (List.replicate 8 0) (List.replicate 8 0) (List.replicate 8 0) w' (by simp) (by simp) (by simp) (by simp) (by simp) (by simp)
                rw [← zero24_vw] at this
                show (Op.equalIn 10000 38 (.agg zero24.toArray) (.agg zero24.toArray)).run Tryd.prog w' = _
                rw [this]; simp
              go_wp2_with fail
              refine (parse_no s u x m _ hs cE9.out cM9.out hN.out).mono ?_
              rintro e w10 ⟨rfl, b910⟩
              have bw10 := bw9.out.trans (b910.mono bw9.out.size)
              clear b910 b19 cE9 cM9
              replace bw10 := Lib.hid bw10
              go_upto_region 13 with (refine wpList_store_blk rfl 38 _ _ rfl w10.heap.size zero24 rfl rfl 38 _ (heap_alloc_new _ _) info38 rfl zero24_one ?_; intro w11 hB11 g11)
              have bw11 := bw10.out.trans ((below_new g11).mono bw10.out.size)
              have r11 := range_block hB11
              clear g11 hB11 bw10
              replace bw11 := Lib.hid bw11; replace r11 := Lib.hid r11
              go_wp2_with fail
              refine (num_any _ _).mono ?_
              rintro e w9 ⟨rfl, hw9⟩
              rw [hw9]
              clear hw9
              go_wp2_with fail
              refine (num_any _ _).mono ?_
              rintro e w9 ⟨rfl, hw9⟩
              rw [hw9]
              clear hw9
              go_wp2_with (refine wpList_load_mid_g (by rfl) 38 _ rfl w10.heap.size 0 rfl zero24 _ r11.out Tryd.underlying38 rfl info38 ?_)
              refine (num_any _ _).mono ?_
              rintro e w9 ⟨rfl, hw9⟩
              rw [hw9]
              clear hw9
              go_wp2_with fail
              refine (num_any _ _).mono ?_
              rintro e w9 ⟨rfl, hw9⟩
              rw [hw9]
              clear hw9
              go_wp2_with fail
              go_ret
              exact ⟨rfl, bw11.out⟩
end Go.Proofs.YtemanjahkohcpaaDoor
