/- The contract of mac's TagBytes. The contract of wardenref03's padded, for a key of at most 64 bytes. The contracts of the reference's turn and First. -/
import Derived.Test.YtemanjahkohcpaaDoorJn36
import Derived.Test.YtemanjahkohcpaaDoorADig
namespace Go.Proofs.YtemanjahkohcpaaDoor
open Go.RowKit WP
section
variable {P : Program} (w : World)
theorem run_append_rd (base : Nat) (t ty e : TypeId) (i : TypeInfo) (z : Value) (bytes : Nat) (ht : P.underlying t = some (.slice e)) (hi : P.info? e = some i) (hz : i.zero = some z)
    (hsize : i.size = 1) (hby : i.bytes = bytes) (hzs : z.cells.size = 1)
    (v : Value) (n : Nat) (xs : List Value) (hown : w.ownsRow base e 1 v n xs)
    (u : Value) (news : List Value) (hr : Rd w u news) (h1 : ∀ u ∈ news, u.oneCell' = true)
    (h63 : n + news.length ≤ maxLen) (hbytes : (n + news.length) * bytes ≤ 140737488355328) (hbase : base ≤ w.heap.size) :
    ∃ v' w', (Builtin.append_ #[t, t] ty #[v, u]).run P w = .ok v' w' ∧ w'.ownsRow base e 1 v' (n + news.length) (xs ++ news) ∧ Onto w v w' v' := by
  obtain ⟨ao, c, rfl, hc1, hc2, hr⟩ := hr
  rcases hr with rfl | ⟨b, off, rfl, hcell⟩
  · cases ao with
    | none =>
      refine ⟨v, w, ?_, by simpa using hown, Onto.refl _ _⟩
      rcases hown.2 with ⟨rfl, rfl⟩ | ⟨g, cap, cur, rfl, _, _, hnc, _⟩
      · simp [Builtin.append_, run_underlying ht, sizeOf, typeInfo, hi, Builtin.lenOf, Builtin.firstCells]
      · simp [Builtin.append_, run_underlying ht, sizeOf, typeInfo, hi, Builtin.lenOf, Builtin.firstCells, hnc, storeCells]
    | some ad =>
      exact run_append_onto (P := P) w base t ty e i z 1 bytes ht hi hz hsize hby hzs (by omega) v n xs hown ad 0 c [] rfl (by intro j u hu; simp at hu) (by simp) h63 hbytes hbase
  · refine run_append_onto (P := P) w base t ty e i z 1 bytes ht hi hz hsize hby hzs (by omega) v n xs hown ⟨b, off, none⟩ news.length c news (by omega) (fun j u hu => ?_) h1 h63 hbytes hbase
    have hadd : (⟨b, off, none⟩ : Addr).add j = ⟨b, off + j, none⟩ := by unfold Addr.add; split <;> simp_all
    rw [hadd]; exact hcell j u hu
theorem wpList_append_rd {ops : Array Oper} {rest : List Oper} {o : Oper} {a : Act} {Q : Exit → Act → World → Prop} (hgd : o.guard = none) (s x : Operand) (t : TypeId)
    (ho : o.op = .call { callee := .builtin .append, args := #[s, x], argTypes := #[t, t] })
    (base : Nat) (e : TypeId) (i : TypeInfo) (z : Value) (bytes : Nat) (ht : P.underlying t = some (.slice e)) (hi : P.info? e = some i) (hz : i.zero = some z)
    (hsize : i.size = 1) (hby : i.bytes = bytes) (hzs : z.cells.size = 1)
    (v : Value) (n : Nat) (xs : List Value) (hs : a.eval s = v) (hown : w.ownsRow base e 1 v n xs)
    (u : Value) (news : List Value) (hx : a.eval x = u) (hr : Rd w u news) (h1 : ∀ u ∈ news, u.oneCell' = true)
    (h63 : n + news.length ≤ maxLen) (hbytes : (n + news.length) * bytes ≤ 140737488355328) (hbase : base ≤ w.heap.size)
    (h : ∀ v' w', w'.ownsRow base e 1 v' (n + news.length) (xs ++ news) → Onto w v w' v' → wpList P ops Q rest (a.put o.dst v') w') : wpList P ops Q (o :: rest) a w := by
  refine wpList_plain hgd fun K hK => ?_
  obtain ⟨v', w', hr, h2, h3⟩ := run_append_rd (P := P) w base t o.type e i z bytes ht hi hz hsize hby hzs v n xs hown u news hr h1 h63 hbytes hbase
  unfold Oper.wp execOp
  simp only [ho, resolve, invoke, builtin, Sem.run_bind, Sem.run_pure, Result.andThen_ok, List.map_toArray, List.map_cons, List.map_nil, hs, hx, hr]
  exact hK _ _ (h v' w' h2 h3)
theorem step_append_rd {ops : Array Oper} {o : Oper} {a : Act} {K : Act → World → Prop} {Q : Exit → Act → World → Prop} {E : Prop} (hgd : o.guard = none) (s x : Operand) (t : TypeId)
    (ho : o.op = .call { callee := .builtin .append, args := #[s, x], argTypes := #[t, t] })
    (base : Nat) (e : TypeId) (i : TypeInfo) (z : Value) (bytes : Nat) (ht : P.underlying t = some (.slice e)) (hi : P.info? e = some i) (hz : i.zero = some z)
    (hsize : i.size = 1) (hby : i.bytes = bytes) (hzs : z.cells.size = 1)
    (v : Value) (n : Nat) (xs : List Value) (hs : a.eval s = v) (hown : w.ownsRow base e 1 v n xs)
    (u : Value) (news : List Value) (hx : a.eval x = u) (hr : Rd w u news) (h1 : ∀ u ∈ news, u.oneCell' = true)
    (h63 : n + news.length ≤ maxLen) (hbytes : (n + news.length) * bytes ≤ 140737488355328) (hbase : base ≤ w.heap.size)
    (h : ∀ v' w', w'.ownsRow base e 1 v' (n + news.length) (xs ++ news) → Onto w v w' v' → K (a.put o.dst v') w') :
    if Region.wanted o (yielded ops a.tmps) = true then Oper.wp P o a w K Q else E := by
  have hw : Region.wanted o (yielded ops a.tmps) = true := by simp [Region.wanted, hgd]
  rw [if_pos hw]
  obtain ⟨v', w', hr, h2, h3⟩ := run_append_rd (P := P) w base t o.type e i z bytes ht hi hz hsize hby hzs v n xs hown u news hr h1 h63 hbytes hbase
  unfold Oper.wp execOp
  simp only [ho, resolve, invoke, builtin, Sem.run_bind, Sem.run_pure, Result.andThen_ok, List.map_toArray, List.map_cons, List.map_nil, hs, hx, hr]
  exact h v' w' h2 h3
end
theorem own_belowA {w w' : World} {base : Nat} {e : TypeId} {size n : Nat} {v : Value} {xs : List Value} (h : w.ownsRow base e size v n xs) (hb : Below w.heap.size w w') : w'.ownsRow base e size v n xs := by
  refine ⟨h.1, ?_⟩
  rcases h.2 with hn | ⟨g, cap, cur, rfl, hbg, hgg, rest⟩
  · exact .inl hn
  · refine .inr ⟨g, cap, cur, rfl, hbg, ?_, rest⟩
    rw [hb.block g (Array.getElem?_eq_some_iff.1 hgg).1]
    exact hgg
theorem if_pos_keep {c : Prop} [Decidable c] {a b : Prop} (h : if c then a else b) : if c then a else b := h
set_option maxRecDepth 100000 in
set_option maxHeartbeats 4000000 in
theorem tagbytes_any (KL : List UInt32) (va vm : Value) (key m : List UInt8) (w : World) (hK : Rounds w KL) (ha : Rd w va (vb key)) (hm : Rd w vm (vb m)) (hk : key.length ≤ 64) (hl : m.length ≤ 524288) (h4 : m.length % 4 = 0) :
    Calls Tryd.prog 12 #[va, vm] w fun e w' => e = .returned (.agg (vw (tagBytesF KL key m)).toArray) ∧ Below w.heap.size w w' := by
  obtain ⟨i0, hi, hz0, hz1, hz2⟩ := info_parts info5
  obtain ⟨oa, ca, rfl, a1, a2, a3⟩ := ha.bytes
  obtain ⟨om, cm, rfl, m1, m2, m3⟩ := hm.bytes
  clear a3 m3
  have aN : Arr (w.alloc (.cells (vw (List.replicate 8 0)).toArray 23)) w.heap.size 23 (List.replicate 8 0) := Arr.new _ _ _
  have hb1 : Below w.heap.size w (w.alloc (.cells (vw (List.replicate 8 0)).toArray 23)) := (Below.refl _ _).alloc (Nat.le_refl _) _
  obtain ⟨w1, hw1⟩ : ∃ w1, w.alloc (.cells (vw (List.replicate 8 0)).toArray 23) = w1 := ⟨_, rfl⟩
  rw [hw1] at aN hb1
  have h3 := hK.1
  have hK1 := hK.below hb1
  have ha1 := ha.mono hb1
  have hm1 := hm.mono hb1
  have lO := tagBytesF_len KL key m
  have lvm := length_vb m
  have lp := padL_len key 54 hk
  have lq := padL_len key 92 hk
  replace aN := Lib.hid aN; replace hb1 := Lib.hid hb1; replace hK1 := Lib.hid hK1; replace ha1 := Lib.hid ha1; replace hm1 := Lib.hid hm1; replace lO := Lib.hid lO; replace lvm := Lib.hid lvm; replace lp := Lib.hid lp; replace lq := Lib.hid lq
  clear hK ha hm
  go_enter Tryd.func12, Tryd.ntmps12
  go_upto_region 1 with fail
  change Code.wp _ _ _ _ (w.alloc (.cells (vw (List.replicate 8 0)).toArray 23))
  rw [hw1]
  clear hw1
  go_wp2_with fail
  refine (padded_any _ key 54 _ ha1.out hk (by omega) (by omega)).mono ?_
  rintro e w2 ⟨v2, rfl, o2, b2⟩
  have hm2 := hm1.out.mono b2
  have hs1 := b2.size
  replace o2 := Lib.hid o2; replace hm2 := Lib.hid hm2; replace b2 := Lib.hid b2
  go_wp2_with (at_builtin; refine wpList_append_rd _ rfl _ _ 30 rfl w1.heap.size 5 i0 (.int .u8 0) 1 Tryd.underlying30 hi hz0 hz1 hz2 rfl _ _ _ rfl o2.out _ (vb m) rfl hm2.out (vb_oneCell m) (by rw [lvm.out]; simp only [maxLen]; omega) (by rw [lvm.out]; omega) hs1 ?_; intro v3 w3 o3 O3; have b13 := b2.out.trans (O3.below hs1 (fun j hj => (o2.out.lt j hj).1)); rw [← vb_append, lvm.out] at o3; replace o3 := Lib.hid o3; replace b13 := Lib.hid b13; clear O3)
  refine (sumbytes_any KL _ (padL key 54 ++ m) _ (hK1.out.below b13.out) (Rd.of_own o3.out) (by rw [List.length_append, lp.out]; omega) (by rw [List.length_append, lp.out]; omega)).mono ?_
  rintro e w4 ⟨rfl, b4⟩
  obtain ⟨s, hs⟩ : ∃ s, sumBytesF KL (padL key 54 ++ m) = s := ⟨_, rfl⟩
  have ls : s.length = 8 := by rw [← hs]; exact sumBytesF_len _ _
  have hT : tagBytesF KL key m = sumBytesF KL (padL key 92 ++ bytesL s) := by rw [← hs]; rfl
  have b14 := b13.out.trans (b4.mono b13.out.size)
  have hb4 := hb1.out.trans (b14.mono hb1.out.size)
  have aR4 := aN.out.below b14
  have hK4 := hK1.out.below b14
  have ha4 := ha1.out.mono b14
  have hs4 := hb4.size
  have hR4 := aR4.lt
  have aS0 : Arr (w4.alloc (.cells (vw (List.replicate 8 0)).toArray 23)) w4.heap.size 23 (List.replicate 8 0) := Arr.new _ _ _
  rw [hs]
  clear b4 b14 b13 b2 o3 o2 hm2 hm1 aN hb1 hK1 ha1 hs
  replace hT := Lib.hid hT; replace hb4 := Lib.hid hb4; replace aR4 := Lib.hid aR4; replace hK4 := Lib.hid hK4; replace ha4 := Lib.hid ha4; replace aS0 := Lib.hid aS0; replace ls := Lib.hid ls
  go_upto_region 2 with (refine wpList_store_arr rfl 23 _ _ rfl w4.heap.size rfl s rfl aS0.out info23 (by simp) ls.out ?_; intro w5 a5 g5)
  have b45 := below_new g5
  have hb5 := hb4.out.trans (b45.mono hb4.out.size)
  have aR5 := aR4.out.below b45
  have hK5 : Rounds w5.drew KL := hK4.out.below b45.drew
  have ha5 : Rd w5.drew _ _ := (ha4.out.mono b45).kept fun _ _ _ => rfl
  have aS5 : Arr w5.drew w4.heap.size 23 s := a5
  have hrs : Rd w5.drew (.slice (some ⟨w4.heap.size, 0, none⟩) 8 8) (vw s) := by
    have := aS5.rd 8 (by rw [ls.out]; exact Nat.le_refl _) (by simp [maxLen])
    rwa [ls.out] at this
  have hb5d : Below w.heap.size w w5.drew := hb5.drew
  have aR5d : Arr w5.drew w.heap.size 23 (List.replicate 8 0) := aR5
  have lbs := Lib.hid (length_bytesL s)
  clear g5 b45 hb4 aR4 hK4 ha4 aS0 a5 aS5 aR5 hb5
  replace hb5d := Lib.hid hb5d; replace aR5d := Lib.hid aR5d; replace hK5 := Lib.hid hK5; replace ha5 := Lib.hid ha5; replace hrs := Lib.hid hrs
  go_region_held3 (fun _ => True) (first | trivial)
    (first
      | (go_at_call 35; refine (padded_any _ key 92 _ ha5.out hk (by omega) (by omega)).mono ?_; rintro e w6 ⟨v6, rfl, o6, b6⟩; replace o6 := Lib.hid o6; replace b6 := Lib.hid b6)
      | (go_at_call 13; refine (bytes_any _ s _ (hrs.out.mono b6.out) (by rw [ls.out]; omega)).mono ?_; rintro e w7 ⟨v7, rfl, o7, b7⟩; have b67 := b6.out.trans (b7.mono b6.out.size); have o67 := own_belowA o6.out b7; have r7 := Rd.of_own o7; have l7 : (vb (bytesL s)).length = 32 := (by rw [length_vb, lbs.out, ls.out]); have h67 := b67.size; clear o6 o7 b7 b6; replace o67 := Lib.hid o67; replace r7 := Lib.hid r7; replace b67 := Lib.hid b67; replace l7 := Lib.hid l7)
      | (have ho7 := o67; with_reducible (refine (if_pos_keep ?_)); refine step_append_rd _ (by rfl) _ _ _ (by rfl) w5.drew.heap.size 5 i0 (.int .u8 0) 1 Tryd.underlying30 hi hz0 hz1 hz2 rfl v6 64 (vb (padL key 92)) (by simp [Act.eval]) o67.out v7 (vb (bytesL s)) (by simp [Act.eval]) r7.out (vb_oneCell _) (by rw [l7.out]; simp [maxLen]) (by rw [l7.out]; omega) h67 ?_; intro v8 w8 o8 O8; have b58 := b67.out.trans (O8.below h67 (fun j hj => (o67.out.lt j hj).1)); rw [← vb_append, l7.out] at o8; replace o8 := Lib.hid o8; replace b58 := Lib.hid b58; clear O8 o67 r7 ho7)
      | (go_at_call 34; refine (sumbytes_any KL _ (padL key 92 ++ bytesL s) _ (hK5.out.below b58.out) (Rd.of_own o8.out) (by rw [List.length_append, lq.out, lbs.out, ls.out]; omega) (by rw [List.length_append, lq.out, lbs.out, ls.out])).mono ?_; rintro e w9 ⟨rfl, b9⟩; rw [← hT.out]; have b59 := b58.out.trans (b9.mono b58.out.size); have aR9 := aR5d.out.below b59; have hb9 := hb5d.out.trans (b59.mono hb5d.out.size); have hsc := storeCells_arr (P := Tryd.prog) (tagBytesF KL key m) (w := w9) (b := w.heap.size) (n := 8) (fun j hj => ⟨by rw [Nat.zero_add, aR9.cell j (by simpa using hj)]; rfl, by rw [Nat.zero_add]; exact aR9.frozen j⟩) lO.out; clear b67 o8 b58 b9 b59; replace aR9 := Lib.hid aR9; replace hb9 := Lib.hid hb9; have lO9 := lO.out))
  all_goals
    have hrg := World.rangeAt_setCells_same w9 w.heap.size 0 (vw (tagBytesF KL key m)) (fun j hj => ⟨by rw [Nat.zero_add, aR9.out.cell j (by simp only [length_vw, lO.out] at hj; simpa using hj)]; rfl, by rw [Nat.zero_add]; exact aR9.out.frozen j⟩)
    have hbf := hb9.out.grown (grownBy_setCells w9 w.heap.size 0 (vw (tagBytesF KL key m))) hb9.out.size (by simp)
    replace hrg := Lib.hid hrg; replace hbf := Lib.hid hbf
    go_wp2_with fail
    refine bodyPost_ret (results_rng rfl rfl hrg.out Tryd.underlying23 info23 lO.out) rfl ⟨rfl, hbf.out⟩
end Go.Proofs.YtemanjahkohcpaaDoor

namespace Go.Proofs.YtemanjahkohcpaaDoor
open Go.RowKit WP
theorem below_onto {w wr w1 : World} {o : Obj} {v v' : Value} (hb : Below w.heap.size w wr) (hO : Onto (wr.alloc o) v w1 v') (hv : ∀ g, v.ownBlock = some g → w.heap.size ≤ g) : Below w.heap.size w w1 :=
  (hb.alloc hb.size o).grown hO.1 (Nat.le_trans hb.size (by simp)) hv
theorem slice_formP {w : World} {B s n : Nat} {e : TypeId} {v : Value} {xs : List Value} (h : w.ownsRow B e s v n xs) : ∃ ao ca, v = .slice ao n ca := by
  rcases h.2 with ⟨rfl, rfl⟩ | ⟨g, cap, cur, rfl, _⟩
  · exact ⟨_, _, rfl⟩
  · exact ⟨_, _, rfl⟩
set_option maxRecDepth 100000 in
set_option maxHeartbeats 1000000 in
theorem rpadded_any (va : Value) (key : List UInt8) (p : Int) (w : World) (ha : Rd w va (vb key)) (hl : key.length ≤ 64) (_p1 : 0 ≤ p) (_p2 : p ≤ 255) :
    Calls Tryd.prog 86 #[va, .int .u8 p] w fun e w' => ∃ v', e = .returned v' ∧ w'.ownsRow w.heap.size 5 1 v' 64 (vb (padL key p)) ∧ Below w.heap.size w w' := by
  obtain ⟨i0, hi, hz0, hz1, hz2⟩ := info_parts info5
  obtain ⟨ao, ca, rfl, a1, a2, a3⟩ := ha.bytes
  have hPL := Lib.hid (padT_full key p hl)
  replace a3 := Lib.hid a3
  clear ha
  obtain ⟨L, hL⟩ : ∃ L, key.length = L := ⟨_, rfl⟩
  rw [hL] at hl a1 ⊢
  replace hL := Lib.hid hL
  go_enter Tryd.func86, Tryd.ntmps86
  go_upto_if 13 with fail
  rw [show decide ((64 : Int) < (L : Int)) = false by simp; omega]
  go_wp2_with fail
  go_loopw [7, 8, 9] (fun lv i _ wr => ∃ m : Nat, m ≤ 64 ∧ i = .int .i64 (m : Int) ∧ wr.ownsRow w.heap.size 5 1 lv m (vb (padT key p m)) ∧ Below w.heap.size w wr) (fun _ i _ _ => 64 - (intOf i).toNat)
  case atStart => exact ⟨0, by omega, rfl, World.ownsRow_nil _ _ _ _, Below.refl _ _⟩
  case round =>
    obtain ⟨m, hm, rfl, ho, hb⟩ := hrel
    obtain ⟨o3, c3, rfl⟩ := slice_formP ho
    have hs := hb.size
    by_cases h64 : m < 64
    · have h64i : (m : Int) < 64 := by omega
      have hsu := padT_succ key p m
      have hsv : vb (padT key p m ++ [UInt8.ofNat (bits .xor .u8 (bAt key m) p).toNat]) = vb (padT key p m) ++ [.int .u8 (bits .xor .u8 (bAt key m) p)] := by
        rw [vb_append]; congr 1
        unfold vb; simp
        have a1 := bits_lo_u8 .xor (bAt key m) p; have a2 := bits_hi_u8 .xor (bAt key m) p
        omega
      rw [← hsu] at hsv
      have hnone : L ≤ m → bAt key m = 0 := fun h => by
        unfold bAt
        rw [List.getD_eq_getElem?_getD, List.getElem?_eq_none (by rw [hL.out]; exact h)]; rfl
      have hx := bAt_bd key m
      have hcell : m < L → ∃ bb ob, ao = some ⟨bb, ob, none⟩ ∧ wr.cell? ⟨bb, ob + m, none⟩ = some (.int .u8 (bAt key m)) := fun h => by
        obtain ⟨bb, ob, e, hbb, hc⟩ := a3.out.resolve_left (by intro h'; have := hL.out; rw [h'] at this; simp at this; omega)
        exact ⟨bb, ob, e, (hb.cell (p := ⟨bb, ob + m, none⟩) hbb).trans (hc m (by rw [hL.out]; exact h))⟩
      generalize bAt key m = x at *
      replace ho := Lib.hid ho; replace hb := Lib.hid hb; replace hsu := Lib.hid hsu; replace hsv := Lib.hid hsv; replace hnone := Lib.hid hnone; replace hcell := Lib.hid hcell
      by_cases hmL : m < L
      · obtain ⟨bb, ob, rfl, d0⟩ := hcell.out hmL
        have hmLi : (m : Int) < (L : Int) := by omega
        go_wp2_with (at_builtin; refine wpList_append_onto' _ rfl _ _ 30 rfl w.heap.size 5 i0 (.int .u8 0) 1 1 Tryd.underlying30 hi hz0 hz1 hz2 rfl (by decide) _ _ _ rfl (ho.out.alloc _) ⟨wr.heap.size, 0, none⟩ 1 1 [.int .u8 (bits .xor .u8 x p)] rfl rfl ?a1 ?a2 ?a3 ?a4 ?a5 ?_)
        all_goals try exact cell_one_new _ _ _
        case a2 => simp [Value.oneCell']
        case a3 => unfold maxLen; omega
        case a4 => omega
        case a5 => first | omega | (simp; omega)
        intro v3 w3 ho3 hO3
        rw [← hsv.out] at ho3
        have hb3 := below_onto hb.out hO3 (fun j hj => (ho.out.lt j hj).1)
        obtain ⟨o4, c4, rfl⟩ := slice_formP ho3
        clear hO3 ho hb
        replace ho3 := Lib.hid ho3; replace hb3 := Lib.hid hb3
        go_wp2_with fail
        go_roundw
        case rel => exact ⟨m + 1, by omega, by go_num, ho3.out, hb3.out⟩
        case measure => simp [intOf]; omega
      · obtain rfl := (hnone.out (by omega)).symm
        have hmLi : ¬ (m : Int) < (L : Int) := by omega
        go_wp2_with (at_builtin; refine wpList_append_onto' _ rfl _ _ 30 rfl w.heap.size 5 i0 (.int .u8 0) 1 1 Tryd.underlying30 hi hz0 hz1 hz2 rfl (by decide) _ _ _ rfl (ho.out.alloc _) ⟨wr.heap.size, 0, none⟩ 1 1 [.int .u8 (bits .xor .u8 0 p)] rfl rfl ?b1 ?b2 ?b3 ?b4 ?b5 ?_)
        all_goals try exact cell_one_new _ _ _
        case b2 => simp [Value.oneCell']
        case b3 => unfold maxLen; omega
        case b4 => omega
        case b5 => first | omega | (simp; omega)
        intro v3 w3 ho3 hO3
        rw [← hsv.out] at ho3
        have hb3 := below_onto hb.out hO3 (fun j hj => (ho.out.lt j hj).1)
        obtain ⟨o4, c4, rfl⟩ := slice_formP ho3
        clear hO3 ho hb
        replace ho3 := Lib.hid ho3; replace hb3 := Lib.hid hb3
        go_wp2_with fail
        go_roundw
        case rel => exact ⟨m + 1, by omega, by go_num, ho3.out, hb3.out⟩
        case measure => simp [intOf]; omega
    · obtain rfl : m = 64 := by omega
      have h64i : ¬ ((64 : Nat) : Int) < 64 := by omega
      rw [hPL.out] at ho
      replace ho := Lib.hid ho; replace hb := Lib.hid hb
      go_wp2_with fail
      go_ret
      exact ⟨_, rfl, ho.out, hb.out⟩
end Go.Proofs.YtemanjahkohcpaaDoor

namespace Go.Proofs.YtemanjahkohcpaaDoor
open Go.RowKit WP
theorem turn_calc (x n : Int) (h1 : 0 ≤ x) (h2 : x ≤ 4294967295) (h3 : 1 ≤ n) (h4 : n ≤ 31) :
    bits .or .u32 (x / 2 ^ n.toNat) (x * 2 ^ (32 - n).toNat % 4294967296) = sr x n := by
  obtain ⟨x, rfl⟩ := Int.eq_ofNat_of_zero_le h1
  obtain ⟨n, rfl⟩ := Int.eq_ofNat_of_zero_le (show 0 ≤ n by omega)
  have e1 : (-(n : Int) % 32).toNat = 32 - n := by omega
  have e2 : ((2 : Int) ^ n) = ((2 ^ n : Nat) : Int) := by simp
  have e3 : ((2 : Int) ^ (32 - n)) = ((2 ^ (32 - n) : Nat) : Int) := by simp
  have e4 : ((32 : Int) - (n : Int)).toNat = 32 - n := by omega
  simp only [e4, Int.toNat_natCast, e2, e3, sr, rotI, rotN, e1]
  have e5 : ((x : Int) / ((2 ^ n : Nat) : Int)) = ((x / 2 ^ n : Nat) : Int) := (Int.natCast_ediv x _).symm
  have e6 : ((x : Int) * ((2 ^ (32 - n) : Nat) : Int) % 4294967296) = ((x * 2 ^ (32 - n) % 4294967296 : Nat) : Int) := by rw [← Int.natCast_mul]; omega
  rw [e5, e6, u32_or_nat _ _ (Nat.lt_of_le_of_lt (Nat.div_le_self _ _) (by omega)) (by omega), Nat.or_comm, show 32 - (32 - n) = n by omega]
theorem rturn_any (x n : Int) (w : World) (h1 : 0 ≤ x) (h2 : x ≤ 4294967295) (h3 : 1 ≤ n) (h4 : n ≤ 31) :
    Calls Tryd.prog 111 #[.int .u32 x, .int .u64 n] w fun e w' => e = .returned (.int .u32 (sr x n)) ∧ w' = w := by
  have hc := turn_calc x n h1 h2 h3 h4
  go_enter Tryd.func111, Tryd.ntmps111
  go_wp2
  go_ret
  exact ⟨rfl, rfl⟩
theorem rfirst_any (w : World) : Calls Tryd.prog 102 #[] w fun e w' => e = .returned (.agg (vw firstL).toArray) ∧ Below w.heap.size w w' := by
  go_enter Tryd.func102, Tryd.ntmps102
  have a0 : Arr (w.alloc (.cells (vw (List.replicate 8 0)).toArray 23)) w.heap.size 23 (List.replicate 8 0) := Arr.new _ _ _
  have hb0 : Below w.heap.size w (w.alloc (.cells (vw (List.replicate 8 0)).toArray 23)) := (Below.refl _ _).alloc (Nat.le_refl _) _
  go_wp2_with (refine wpList_store_arr rfl 23 _ _ rfl w.heap.size rfl firstL (by rw [firstL_vals]; rfl) a0 info23 (by simp) (by rfl) ?_; intro w2 a2 g2; have hb2 := hb0.grown g2 hb0.size (by simp))
  refine bodyPost_ret (results_arr rfl rfl a2 Tryd.underlying23 info23 (by rfl)) rfl ⟨rfl, hb2⟩
end Go.Proofs.YtemanjahkohcpaaDoor
