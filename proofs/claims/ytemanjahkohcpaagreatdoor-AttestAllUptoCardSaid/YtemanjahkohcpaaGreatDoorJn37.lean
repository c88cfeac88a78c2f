/- The reference's padding of a key, and its sums, as plain laws. The contract of mac's TagBytes. The contract of wardenref03's padded, for a key of at most 64 bytes. The contracts of the reference's turn and First. -/
import Derived.Test.YtemanjahkohcpaaGreatDoorJn36
import Derived.Test.YtemanjahkohcpaaGreatDoorJn05
namespace Go.Proofs.YtemanjahkohcpaaGreatDoor
open Go.RowKit
/-- the key's bytes with the mask, the first ones -/
def padT (key : List UInt8) (p : Int) (m : Nat) : List UInt8 := (List.range m).map fun i => UInt8.ofNat (bits .xor .u8 (bAt key i) p).toNat
theorem padT_len (key : List UInt8) (p : Int) (m : Nat) : (padT key p m).length = m := by simp [padT]
theorem padT_succ (key : List UInt8) (p : Int) (m : Nat) : padT key p (m + 1) = padT key p m ++ [UInt8.ofNat (bits .xor .u8 (bAt key m) p).toNat] := by
  unfold padT; rw [List.range_succ, List.map_append]; rfl
theorem padN_at (B : List UInt8) (p : Int) : ∀ (k i : Nat), i < B.length → (padN B p k)[i]? = some (if i < k then UInt8.ofNat (bits .xor .u8 (bAt B i) p).toNat else B.getD i 0)
  | 0, i, h => by
    rw [if_neg (by omega)]
    show B[i]? = _
    rw [List.getD_eq_getElem?_getD, List.getElem?_eq_getElem h]; rfl
  | k + 1, i, h => by
    have ih := padN_at B p k i h
    show ((padN B p k).set k _)[i]? = _
    rw [List.getElem?_set, padN_len]
    by_cases e : k = i
    · subst e
      rw [if_pos rfl, if_pos h, if_pos (by omega)]
      have hb : bAt (padN B p k) k = bAt B k := by
        unfold bAt
        rw [List.getD_eq_getElem?_getD, ih, if_neg (by omega)]; rfl
      rw [hb]
    · rw [if_neg e, ih]
      by_cases h1 : i < k
      · rw [if_pos h1, if_pos (by omega)]
      · rw [if_neg h1, if_neg (by omega)]
theorem bAt_fill (key : List UInt8) (n i : Nat) : bAt (key ++ List.replicate n 0) i = bAt key i := by
  unfold bAt
  rw [List.getD_eq_getElem?_getD, List.getD_eq_getElem?_getD]
  by_cases h : i < key.length
  · rw [List.getElem?_append_left h]
  · rw [List.getElem?_append_right (by omega), List.getElem?_replicate, List.getElem?_eq_none (by omega : key.length ≤ i)]
    split <;> rfl
theorem padT_full (key : List UInt8) (p : Int) (h : key.length ≤ 64) : padT key p 64 = padL key p := by
  apply List.ext_getElem?
  intro i
  unfold padT padL
  rw [List.getElem?_map]
  by_cases hi : i < 64
  · rw [List.getElem?_range hi, padN_at _ _ _ _ (by rw [List.length_append, List.length_replicate]; omega), if_pos hi, bAt_fill]; rfl
  · rw [List.getElem?_eq_none (by rw [List.length_range]; omega), List.getElem?_eq_none (by rw [padN_len, List.length_append, List.length_replicate]; omega)]; rfl
/-- what SumBytes sums, told by blocks -/
theorem sum_blocks (KL : List UInt32) (b : List UInt8) (h : b.length % 4 = 0) : foldB KL (stN KL firstL (wordsL b) (b.length / 64)) (endL (wordsL (b.drop (64 * (b.length / 64)))) 2147483648 ((8 * b.length : Nat) : Int)) = sumBytesF KL b := by
  have l := wordsL_len b
  have h1 : b.length / 64 = (wordsL b).length / 16 := by rw [l]; omega
  unfold sumBytesF
  rw [← stN_fold KL firstL (wordsL b), ← h1]
  have h2 : 64 * (b.length / 64) = 4 * (16 * (b.length / 64)) := by omega
  rw [h2, wordsL_drop b _ h (by omega)]
  unfold remB
  rw [← h1, Nat.mul_comm 16, Int.natCast_mul]
  rfl
end Go.Proofs.YtemanjahkohcpaaGreatDoor

namespace Go.Proofs.YtemanjahkohcpaaGreatDoor
open Go.RowKit WP
section
variable {P : Program} (w : World)
theorem run_append_rd (base : Nat) (t ty e : TypeId) (i : TypeInfo) (z : Value) (bytes : Nat) (ht : P.underlying t = some (.slice e)) (hi : P.info? e = some i) (hz : i.zero = some z)
    (hsize : i.size = 1) (hby : i.bytes = bytes) (hzs : z.cells.size = 1)
    (v : Value) (n : Nat) (xs : List Value) (hown : w.ownsRow base e 1 v n xs)
    (u : Value) (news : List Value) (hr : Rd w u news) (h1 : ∀ u ∈ news, u.oneCell' = true)
    (h63 : n + news.length ≤ maxLen) (hbytes : (n + news.length) * bytes ≤ 140737488355328) (hbase : base ≤ w.heap.size) :
    ∃ v' w', (Builtin.append_ #[t, t] ty #[v, u]).run P w = .ok v' w' ∧ w'.ownsRow base e 1 v' (n + news.length) (xs ++ news) ∧ Onto w v w' v' := by
  obtain ⟨ao, c, rfl, hc1, hc2, hr⟩ := hr
  rcases hr with rfl | ⟨b, off, rfl, hcell⟩
  · cases ao with
    | none =>
      refine ⟨v, w, ?_, by simpa using hown, Onto.refl _ _⟩
      rcases hown.2 with ⟨rfl, rfl⟩ | ⟨g, cap, cur, rfl, _, _, hnc, _⟩
      · simp [Builtin.append_, run_underlying ht, sizeOf, typeInfo, hi, Builtin.lenOf, Builtin.firstCells]
      · simp [Builtin.append_, run_underlying ht, sizeOf, typeInfo, hi, Builtin.lenOf, Builtin.firstCells, hnc, storeCells]
    | some ad =>
      exact run_append_onto (P := P) w base t ty e i z 1 bytes ht hi hz hsize hby hzs (by omega) v n xs hown ad 0 c [] rfl (by intro j u hu; simp at hu) (by simp) h63 hbytes hbase
  · refine run_append_onto (P := P) w base t ty e i z 1 bytes ht hi hz hsize hby hzs (by omega) v n xs hown ⟨b, off, none⟩ news.length c news (by omega) (fun j u hu => ?_) h1 h63 hbytes hbase
    have hadd : (⟨b, off, none⟩ : Addr).add j = ⟨b, off + j, none⟩ := by unfold Addr.add; split <;> simp_all
    rw [hadd]; exact hcell j u hu
theorem wpList_append_rd {ops : Array Oper} {rest : List Oper} {o : Oper} {a : Act} {Q : Exit → Act → World → Prop} (hgd : o.guard = none) (s x : Operand) (t : TypeId)
    (ho : o.op = .call { callee := .builtin .append, args := #[s, x], argTypes := #[t, t] })
    (base : Nat) (e : TypeId) (i : TypeInfo) (z : Value) (bytes : Nat) (ht : P.underlying t = some (.slice e)) (hi : P.info? e = some i) (hz : i.zero = some z)
    (hsize : i.size = 1) (hby : i.bytes = bytes) (hzs : z.cells.size = 1)
    (v : Value) (n : Nat) (xs : List Value) (hs : a.eval s = v) (hown : w.ownsRow base e 1 v n xs)
    (u : Value) (news : List Value) (hx : a.eval x = u) (hr : Rd w u news) (h1 : ∀ u ∈ news, u.oneCell' = true)
    (h63 : n + news.length ≤ maxLen) (hbytes : (n + news.length) * bytes ≤ 140737488355328) (hbase : base ≤ w.heap.size)
    (h : ∀ v' w', w'.ownsRow base e 1 v' (n + news.length) (xs ++ news) → Onto w v w' v' → wpList P ops Q rest (a.put o.dst v') w') : wpList P ops Q (o :: rest) a w := by
  refine wpList_plain hgd fun K hK => ?_
  obtain ⟨v', w', hr, h2, h3⟩ := run_append_rd (P := P) w base t o.type e i z bytes ht hi hz hsize hby hzs v n xs hown u news hr h1 h63 hbytes hbase
  unfold Oper.wp execOp
  simp only [ho, resolve, invoke, builtin, Sem.run_bind, Sem.run_pure, Result.andThen_ok, List.map_toArray, List.map_cons, List.map_nil, hs, hx, hr]
  exact hK _ _ (h v' w' h2 h3)
theorem step_append_rd {ops : Array Oper} {o : Oper} {a : Act} {K : Act → World → Prop} {Q : Exit → Act → World → Prop} {E : Prop} (hgd : o.guard = none) (s x : Operand) (t : TypeId)
    (ho : o.op = .call { callee := .builtin .append, args := #[s, x], argTypes := #[t, t] })
    (base : Nat) (e : TypeId) (i : TypeInfo) (z : Value) (bytes : Nat) (ht : P.underlying t = some (.slice e)) (hi : P.info? e = some i) (hz : i.zero = some z)
    (hsize : i.size = 1) (hby : i.bytes = bytes) (hzs : z.cells.size = 1)
    (v : Value) (n : Nat) (xs : List Value) (hs : a.eval s = v) (hown : w.ownsRow base e 1 v n xs)
    (u : Value) (news : List Value) (hx : a.eval x = u) (hr : Rd w u news) (h1 : ∀ u ∈ news, u.oneCell' = true)
    (h63 : n + news.length ≤ maxLen) (hbytes : (n + news.length) * bytes ≤ 140737488355328) (hbase : base ≤ w.heap.size)
    (h : ∀ v' w', w'.ownsRow base e 1 v' (n + news.length) (xs ++ news) → Onto w v w' v' → K (a.put o.dst v') w') :
    if Region.wanted o (yielded ops a.tmps) = true then Oper.wp P o a w K Q else E := by
  have hw : Region.wanted o (yielded ops a.tmps) = true := by simp [Region.wanted, hgd]
  rw [if_pos hw]
  obtain ⟨v', w', hr, h2, h3⟩ := run_append_rd (P := P) w base t o.type e i z bytes ht hi hz hsize hby hzs v n xs hown u news hr h1 h63 hbytes hbase
  unfold Oper.wp execOp
  simp only [ho, resolve, invoke, builtin, Sem.run_bind, Sem.run_pure, Result.andThen_ok, List.map_toArray, List.map_cons, List.map_nil, hs, hx, hr]
  exact h v' w' h2 h3
end
theorem own_belowA {w w' : World} {base : Nat} {e : TypeId} {size n : Nat} {v : Value} {xs : List Value} (h : w.ownsRow base e size v n xs) (hb : Below w.heap.size w w') : w'.ownsRow base e size v n xs := by
  refine ⟨h.1, ?_⟩
  rcases h.2 with hn | ⟨g, cap, cur, rfl, hbg, hgg, rest⟩
  · exact .inl hn
  · refine .inr ⟨g, cap, cur, rfl, hbg, ?_, rest⟩
    rw [hb.block g (Array.getElem?_eq_some_iff.1 hgg).1]
    exact hgg
theorem if_pos_keep {c : Prop} [Decidable c] {a b : Prop} (h : if c then a else b) : if c then a else b := h
end Go.Proofs.YtemanjahkohcpaaGreatDoor

namespace Go.Proofs.YtemanjahkohcpaaGreatDoor
open Go.RowKit WP
theorem below_onto {w wr w1 : World} {o : Obj} {v v' : Value} (hb : Below w.heap.size w wr) (hO : Onto (wr.alloc o) v w1 v') (hv : ∀ g, v.ownBlock = some g → w.heap.size ≤ g) : Below w.heap.size w w1 :=
  (hb.alloc hb.size o).grown hO.1 (Nat.le_trans hb.size (by simp)) hv
theorem slice_formP {w : World} {B s n : Nat} {e : TypeId} {v : Value} {xs : List Value} (h : w.ownsRow B e s v n xs) : ∃ ao ca, v = .slice ao n ca := by
  rcases h.2 with ⟨rfl, rfl⟩ | ⟨g, cap, cur, rfl, _⟩
  · exact ⟨_, _, rfl⟩
  · exact ⟨_, _, rfl⟩
set_option maxRecDepth 100000 in
set_option maxHeartbeats 1000000 in
theorem rpadded_any (va : Value) (key : List UInt8) (p : Int) (w : World) (ha : Rd w va (vb key)) (hl : key.length ≤ 64) (_p1 : 0 ≤ p) (_p2 : p ≤ 255) :
    Calls Tryz.prog 89 #[va, .int .u8 p] w fun e w' => ∃ v', e = .returned v' ∧ w'.ownsRow w.heap.size 5 1 v' 64 (vb (padL key p)) ∧ Below w.heap.size w w' := by
  obtain ⟨i0, hi, hz0, hz1, hz2⟩ := info_parts info5
  obtain ⟨ao, ca, rfl, a1, a2, a3⟩ := ha.bytes
  have hPL := Lib.hid (padT_full key p hl)
  replace a3 := Lib.hid a3
  clear ha
  obtain ⟨L, hL⟩ : ∃ L, key.length = L := ⟨_, rfl⟩
  rw [hL] at hl a1 ⊢
  replace hL := Lib.hid hL
  go_enter Tryz.func89, Tryz.ntmps89
  go_upto_if 13 with fail
  rw [show decide ((64 : Int) < (L : Int)) = false by simp; omega]
  go_wp2_with fail
  go_loopw [7, 8, 9] (fun lv i _ wr => ∃ m : Nat, m ≤ 64 ∧ i = .int .i64 (m : Int) ∧ wr.ownsRow w.heap.size 5 1 lv m (vb (padT key p m)) ∧ Below w.heap.size w wr) (fun _ i _ _ => 64 - (intOf i).toNat)
  case atStart => exact ⟨0, by omega, rfl, World.ownsRow_nil _ _ _ _, Below.refl _ _⟩
  case round =>
    obtain ⟨m, hm, rfl, ho, hb⟩ := hrel
    obtain ⟨o3, c3, rfl⟩ := slice_formP ho
    have hs := hb.size
    by_cases h64 : m < 64
    · have h64i : (m : Int) < 64 := by omega
      have hsu := padT_succ key p m
      have hsv : vb (padT key p m ++ [UInt8.ofNat (bits .xor .u8 (bAt key m) p).toNat]) = vb (padT key p m) ++ [.int .u8 (bits .xor .u8 (bAt key m) p)] := by
        rw [vb_append]; congr 1
        unfold vb; simp
        have a1 := bits_lo_u8 .xor (bAt key m) p; have a2 := bits_hi_u8 .xor (bAt key m) p
        omega
      rw [← hsu] at hsv
      have hnone : L ≤ m → bAt key m = 0 := fun h => by
        unfold bAt
        rw [List.getD_eq_getElem?_getD, List.getElem?_eq_none (by rw [hL.out]; exact h)]; rfl
      have hx := bAt_bd key m
      have hcell : m < L → ∃ bb ob, ao = some ⟨bb, ob, none⟩ ∧ wr.cell? ⟨bb, ob + m, none⟩ = some (.int .u8 (bAt key m)) := fun h => by
        obtain ⟨bb, ob, e, hbb, hc⟩ := a3.out.resolve_left (by intro h'; have := hL.out; rw [h'] at this; simp at this; omega)
        exact ⟨bb, ob, e, (hb.cell (p := ⟨bb, ob + m, none⟩) hbb).trans (hc m (by rw [hL.out]; exact h))⟩
      generalize bAt key m = x at *
      replace ho := Lib.hid ho; replace hb := Lib.hid hb; replace hsu := Lib.hid hsu; replace hsv := Lib.hid hsv; replace hnone := Lib.hid hnone; replace hcell := Lib.hid hcell
      by_cases hmL : m < L
      · obtain ⟨bb, ob, rfl, d0⟩ := hcell.out hmL
        have hmLi : (m : Int) < (L : Int) := by omega
        go_wp2_with (at_builtin; refine wpList_append_onto' _ rfl _ _ 72 rfl w.heap.size 5 i0 (.int .u8 0) 1 1 Tryz.underlying72 hi hz0 hz1 hz2 rfl (by decide) _ _ _ rfl (ho.out.alloc _) ⟨wr.heap.size, 0, none⟩ 1 1 [.int .u8 (bits .xor .u8 x p)] rfl rfl ?a1 ?a2 ?a3 ?a4 ?a5 ?_)
        all_goals try exact cell_one_new _ _ _
        case a2 => simp [Value.oneCell']
        case a3 => unfold maxLen; omega
        case a4 => omega
        case a5 => first | omega | (simp; omega)
        intro v3 w3 ho3 hO3
        rw [← hsv.out] at ho3
        have hb3 := below_onto hb.out hO3 (fun j hj => (ho.out.lt j hj).1)
        obtain ⟨o4, c4, rfl⟩ := slice_formP ho3
        clear hO3 ho hb
        replace ho3 := Lib.hid ho3; replace hb3 := Lib.hid hb3
        go_wp2_with fail
        go_roundw
        case rel => exact ⟨m + 1, by omega, by go_num, ho3.out, hb3.out⟩
        case measure => simp [intOf]; omega
      · obtain rfl := (hnone.out (by omega)).symm
        have hmLi : ¬ (m : Int) < (L : Int) := by omega
        go_wp2_with (at_builtin; refine wpList_append_onto' _ rfl _ _ 72 rfl w.heap.size 5 i0 (.int .u8 0) 1 1 Tryz.underlying72 hi hz0 hz1 hz2 rfl (by decide) _ _ _ rfl (ho.out.alloc _) ⟨wr.heap.size, 0, none⟩ 1 1 [.int .u8 (bits .xor .u8 0 p)] rfl rfl ?b1 ?b2 ?b3 ?b4 ?b5 ?_)
        all_goals try exact cell_one_new _ _ _
        case b2 => simp [Value.oneCell']
        case b3 => unfold maxLen; omega
        case b4 => omega
        case b5 => first | omega | (simp; omega)
        intro v3 w3 ho3 hO3
        rw [← hsv.out] at ho3
        have hb3 := below_onto hb.out hO3 (fun j hj => (ho.out.lt j hj).1)
        obtain ⟨o4, c4, rfl⟩ := slice_formP ho3
        clear hO3 ho hb
        replace ho3 := Lib.hid ho3; replace hb3 := Lib.hid hb3
        go_wp2_with fail
        go_roundw
        case rel => exact ⟨m + 1, by omega, by go_num, ho3.out, hb3.out⟩
        case measure => simp [intOf]; omega
    · obtain rfl : m = 64 := by omega
      have h64i : ¬ ((64 : Nat) : Int) < 64 := by omega
      rw [hPL.out] at ho
      replace ho := Lib.hid ho; replace hb := Lib.hid hb
      go_wp2_with fail
      go_ret
      exact ⟨_, rfl, ho.out, hb.out⟩
end Go.Proofs.YtemanjahkohcpaaGreatDoor

namespace Go.Proofs.YtemanjahkohcpaaGreatDoor
open Go.RowKit WP
theorem turn_calc (x n : Int) (h1 : 0 ≤ x) (h2 : x ≤ 4294967295) (h3 : 1 ≤ n) (h4 : n ≤ 31) :
    bits .or .u32 (x / 2 ^ n.toNat) (x * 2 ^ (32 - n).toNat % 4294967296) = sr x n := by
  obtain ⟨x, rfl⟩ := Int.eq_ofNat_of_zero_le h1
  obtain ⟨n, rfl⟩ := Int.eq_ofNat_of_zero_le (show 0 ≤ n by omega)
  have e1 : (-(n : Int) % 32).toNat = 32 - n := by omega
  have e2 : ((2 : Int) ^ n) = ((2 ^ n : Nat) : Int) := by simp
  have e3 : ((2 : Int) ^ (32 - n)) = ((2 ^ (32 - n) : Nat) : Int) := by simp
  have e4 : ((32 : Int) - (n : Int)).toNat = 32 - n := by omega
  simp only [e4, Int.toNat_natCast, e2, e3, sr, rotI, rotN, e1]
  have e5 : ((x : Int) / ((2 ^ n : Nat) : Int)) = ((x / 2 ^ n : Nat) : Int) := (Int.natCast_ediv x _).symm
  have e6 : ((x : Int) * ((2 ^ (32 - n) : Nat) : Int) % 4294967296) = ((x * 2 ^ (32 - n) % 4294967296 : Nat) : Int) := by rw [← Int.natCast_mul]; omega
  rw [e5, e6, u32_or_nat _ _ (Nat.lt_of_le_of_lt (Nat.div_le_self _ _) (by omega)) (by omega), Nat.or_comm, show 32 - (32 - n) = n by omega]
theorem rturn_any (x n : Int) (w : World) (h1 : 0 ≤ x) (h2 : x ≤ 4294967295) (h3 : 1 ≤ n) (h4 : n ≤ 31) :
    Calls Tryz.prog 106 #[.int .u32 x, .int .u64 n] w fun e w' => e = .returned (.int .u32 (sr x n)) ∧ w' = w := by
  have hc := turn_calc x n h1 h2 h3 h4
  go_enter Tryz.func106, Tryz.ntmps106
  go_wp2
  go_ret
  exact ⟨rfl, rfl⟩
theorem rfirst_any (w : World) : Calls Tryz.prog 98 #[] w fun e w' => e = .returned (.agg (vw firstL).toArray) ∧ Below w.heap.size w w' := by
  go_enter Tryz.func98, Tryz.ntmps98
  have a0 : Arr (w.alloc (.cells (vw (List.replicate 8 0)).toArray 26)) w.heap.size 26 (List.replicate 8 0) := Arr.new _ _ _
  have hb0 : Below w.heap.size w (w.alloc (.cells (vw (List.replicate 8 0)).toArray 26)) := (Below.refl _ _).alloc (Nat.le_refl _) _
  go_wp2_with (refine wpList_store_arr rfl 26 _ _ rfl w.heap.size rfl firstL (by rw [firstL_vals]; rfl) a0 info23 (by simp) (by rfl) ?_; intro w2 a2 g2; have hb2 := hb0.grown g2 hb0.size (by simp))
  refine bodyPost_ret (results_arr rfl rfl a2 Tryz.underlying26 info23 (by rfl)) rfl ⟨rfl, hb2⟩
end Go.Proofs.YtemanjahkohcpaaGreatDoor
