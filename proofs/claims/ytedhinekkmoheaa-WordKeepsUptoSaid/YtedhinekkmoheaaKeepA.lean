/- A law: an append of a list that is only read (nil, empty or not) to a row of the call's own; the contracts of the law's lent and raw. -/
import Derived.Test.YtedhinekkmoheaaLawD
namespace Go.Proofs.Ytedhinekkmoheaa
open Go.RowKit WP
section
variable {P : Program} (w : World)
theorem run_append_rd (base : Nat) (t ty e : TypeId) (i : TypeInfo) (z : Value) (bytes : Nat) (ht : P.underlying t = some (.slice e)) (hi : P.info? e = some i) (hz : i.zero = some z)
    (hsize : i.size = 1) (hby : i.bytes = bytes) (hzs : z.cells.size = 1)
    (v : Value) (n : Nat) (xs : List Value) (hown : w.ownsRow base e 1 v n xs)
    (u : Value) (news : List Value) (hr : Rd w u news) (h1 : ∀ u ∈ news, u.oneCell' = true)
    (h63 : n + news.length ≤ maxLen) (hbytes : (n + news.length) * bytes ≤ 140737488355328) (hbase : base ≤ w.heap.size) :
    ∃ v' w', (Builtin.append_ #[t, t] ty #[v, u]).run P w = .ok v' w' ∧ w'.ownsRow base e 1 v' (n + news.length) (xs ++ news) ∧ Onto w v w' v' := by
  obtain ⟨ao, c, rfl, hc1, hc2, hr⟩ := hr
  rcases hr with rfl | ⟨b, off, rfl, hcell⟩
  · cases ao with
    | none =>
      refine ⟨v, w, ?_, by simpa using hown, Onto.refl _ _⟩
      rcases hown.2 with ⟨rfl, rfl⟩ | ⟨g, cap, cur, rfl, _, _, hnc, _⟩
      · simp [Builtin.append_, run_underlying ht, sizeOf, typeInfo, hi, Builtin.lenOf, Builtin.firstCells]
      · simp [Builtin.append_, run_underlying ht, sizeOf, typeInfo, hi, Builtin.lenOf, Builtin.firstCells, hnc, storeCells]
    | some ad =>
      exact run_append_onto (P := P) w base t ty e i z 1 bytes ht hi hz hsize hby hzs (by omega) v n xs hown ad 0 c [] rfl (by intro j u hu; simp at hu) (by simp) h63 hbytes hbase
  · refine run_append_onto (P := P) w base t ty e i z 1 bytes ht hi hz hsize hby hzs (by omega) v n xs hown ⟨b, off, none⟩ news.length c news (by omega) (fun j u hu => ?_) h1 h63 hbytes hbase
    have hadd : (⟨b, off, none⟩ : Addr).add j = ⟨b, off + j, none⟩ := by unfold Addr.add; split <;> simp_all
    rw [hadd]; exact hcell j u hu
theorem wpList_append_rd {ops : Array Oper} {rest : List Oper} {o : Oper} {a : Act} {Q : Exit → Act → World → Prop} (hgd : o.guard = none) (s x : Operand) (t : TypeId)
    (ho : o.op = .call { callee := .builtin .append, args := #[s, x], argTypes := #[t, t] })
    (base : Nat) (e : TypeId) (i : TypeInfo) (z : Value) (bytes : Nat) (ht : P.underlying t = some (.slice e)) (hi : P.info? e = some i) (hz : i.zero = some z)
    (hsize : i.size = 1) (hby : i.bytes = bytes) (hzs : z.cells.size = 1)
    (v : Value) (n : Nat) (xs : List Value) (hs : a.eval s = v) (hown : w.ownsRow base e 1 v n xs)
    (u : Value) (news : List Value) (hx : a.eval x = u) (hr : Rd w u news) (h1 : ∀ u ∈ news, u.oneCell' = true)
    (h63 : n + news.length ≤ maxLen) (hbytes : (n + news.length) * bytes ≤ 140737488355328) (hbase : base ≤ w.heap.size)
    (h : ∀ v' w', w'.ownsRow base e 1 v' (n + news.length) (xs ++ news) → Onto w v w' v' → wpList P ops Q rest (a.put o.dst v') w') : wpList P ops Q (o :: rest) a w := by
  refine wpList_plain hgd fun K hK => ?_
  obtain ⟨v', w', hr, h2, h3⟩ := run_append_rd (P := P) w base t o.type e i z bytes ht hi hz hsize hby hzs v n xs hown u news hr h1 h63 hbytes hbase
  unfold Oper.wp execOp
  simp only [ho, resolve, invoke, builtin, Sem.run_bind, Sem.run_pure, Result.andThen_ok, List.map_toArray, List.map_cons, List.map_nil, hs, hx, hr]
  exact hK _ _ (h v' w' h2 h3)
end
/-- a list and 300 marks behind it -/
def lentL (l : List UInt32) (k : Nat) : List UInt32 := l ++ (List.range k).map fun i => UInt32.ofNat i
theorem lentL_zero (l : List UInt32) : lentL l 0 = l := by simp [lentL]
theorem lentL_len (l : List UInt32) (k : Nat) : (lentL l k).length = l.length + k := by simp [lentL]
theorem lentL_succ (l : List UInt32) (k : Nat) (h : k < 300) : vw (lentL l (k + 1)) = vw (lentL l k) ++ [.int .u32 k] := by
  unfold lentL
  rw [List.range_succ, List.map_append, ← List.append_assoc, vw_append]
  congr 1
  simp [vw]; omega
set_option maxRecDepth 100000 in
set_option maxHeartbeats 1000000 in
theorem lent_any (va : Value) (l : List UInt32) (w : World) (ha : Rd w va (vw l)) (hl : l.length ≤ 4294967296) :
    Calls Try.prog 37 #[va] w fun e w' => ∃ v', e = .returned v' ∧ w'.ownsRow w.heap.size 22 1 v' (l.length + 300) (vw (lentL l 300)) ∧ Below w.heap.size w w' := by
  obtain ⟨i0, hi, hz0, hz1, hz2⟩ := info_parts info22
  have lv := length_vw l
  go_enter Try.func37, Try.ntmps37
  go_wp2_with (at_builtin; refine wpList_append_rd _ rfl _ _ 39 rfl w.heap.size 22 i0 (.int .u32 0) 4 Try.underlying39 hi hz0 hz1 hz2 rfl _ _ _ rfl (World.ownsRow_nil _ _ _ _) _ (vw l) rfl ha (vw_oneCell l) ?c1 ?c2 ?c3 ?_)
  case c1 => rw [lv]; simp only [maxLen]; omega
  case c2 => rw [lv]; omega
  case c3 => exact Nat.le_refl _
  intro v1 w1 ho hO
  have hb := hO.below (Nat.le_refl w.heap.size) (by simp [Value.ownBlock])
  clear hO ha lv
  have ho := Lib.hid ho; have hb := Lib.hid hb
  go_wp2_with fail
  go_loopw [3, 4] (fun b i wr => ∃ k : Nat, k ≤ 300 ∧ i = .int .i64 k ∧ wr.ownsRow w.heap.size 22 1 b (l.length + k) (vw (lentL l k)) ∧ Below w.heap.size w wr) (fun _ i _ => 300 - (intOf i).toNat)
  case atStart => exact ⟨0, by omega, rfl, by rw [lentL_zero]; exact ho.out, hb.out⟩
  case round =>
    obtain ⟨k, hk, rfl, ho, hb⟩ := hrel
    have hs := hb.size
    by_cases hlt : k < 300
    · have hst := Lib.hid (lentL_succ l k hlt)
      have ho := Lib.hid ho; have hb := Lib.hid hb
      go_wp2_with (at_builtin; refine wpList_append_onto' _ rfl _ _ 39 rfl w.heap.size 22 i0 (.int .u32 0) 1 4 Try.underlying39 hi hz0 hz1 hz2 rfl (by decide) _ _ _ rfl (ho.out.alloc _) ⟨wr.heap.size, 0, none⟩ 1 1 [.int .u32 (k : Int)] rfl rfl ?c1 ?c2 ?c3 ?c4 ?c5 ?_)
      try (case c1 => exact cells_new _ _ _ _)
      case c2 => simp [Value.oneCell']
      case c3 => simp only [maxLen]; omega
      case c4 => omega
      case c5 => first | omega | (simp; omega)
      intro v1 w2 ho1 hO1
      have hfin : w2.ownsRow w.heap.size 22 1 v1 (l.length + (k + 1)) (vw (lentL l (k + 1))) := by
        rw [hst.out]; exact ho1
      have hb2 := hb.out.trans ((Onto.alloc _ hO1 (fun g hg => (ho.out.lt g hg).2)).below (B := w.heap.size) hs (fun g hg => (ho.out.lt g hg).1))
      clear ho1 hO1
      have hfin := Lib.hid hfin
      have hb2 := Lib.hid hb2
      go_wp2
      go_roundw
      case rel => exact ⟨k + 1, by omega, by go_num, hfin.out, hb2.out⟩
      case measure => simp [intOf]; omega
    · obtain rfl : k = 300 := by omega
      go_wp2_with fail
      go_ret
      exact ⟨_, rfl, ho, hb⟩
/-! ### raw -/
def rawL (l : List UInt8) (k : Nat) : List UInt8 := l ++ (List.range k).map fun i => UInt8.ofNat i
theorem rawL_zero (l : List UInt8) : rawL l 0 = l := by simp [rawL]
theorem rawL_len (l : List UInt8) (k : Nat) : (rawL l k).length = l.length + k := by simp [rawL]
theorem rawL_succ (l : List UInt8) (k : Nat) : vb (rawL l (k + 1)) = vb (rawL l k) ++ [.int .u8 ((k : Int) % 256)] := by
  unfold rawL
  rw [List.range_succ, List.map_append, ← List.append_assoc, vb_append]
  congr 1
set_option maxRecDepth 100000 in
set_option maxHeartbeats 1000000 in
theorem raw_any (va : Value) (l : List UInt8) (w : World) (ha : Rd w va (vb l)) (hl : l.length ≤ 17179869184) :
    Calls Try.prog 38 #[va] w fun e w' => ∃ v', e = .returned v' ∧ w'.ownsRow w.heap.size 5 1 v' (l.length + 300) (vb (rawL l 300)) ∧ Below w.heap.size w w' := by
  obtain ⟨i0, hi, hz0, hz1, hz2⟩ := info_parts info5
  have lv := length_vb l
  go_enter Try.func38, Try.ntmps38
  go_wp2_with (at_builtin; refine wpList_append_rd _ rfl _ _ 48 rfl w.heap.size 5 i0 (.int .u8 0) 1 Try.underlying48 hi hz0 hz1 hz2 rfl _ _ _ rfl (World.ownsRow_nil _ _ _ _) _ (vb l) rfl ha (vb_oneCell l) ?c1 ?c2 ?c3 ?_)
  case c1 => rw [lv]; simp only [maxLen]; omega
  case c2 => rw [lv]; omega
  case c3 => exact Nat.le_refl _
  intro v1 w1 ho hO
  have hb := hO.below (Nat.le_refl w.heap.size) (by simp [Value.ownBlock])
  clear hO ha lv
  have ho := Lib.hid ho; have hb := Lib.hid hb
  go_wp2_with fail
  go_loopw [3, 4] (fun b i wr => ∃ k : Nat, k ≤ 300 ∧ i = .int .i64 k ∧ wr.ownsRow w.heap.size 5 1 b (l.length + k) (vb (rawL l k)) ∧ Below w.heap.size w wr) (fun _ i _ => 300 - (intOf i).toNat)
  case atStart => exact ⟨0, by omega, rfl, by rw [rawL_zero]; exact ho.out, hb.out⟩
  case round =>
    obtain ⟨k, hk, rfl, ho, hb⟩ := hrel
    have hs := hb.size
    by_cases hlt : k < 300
    · have hst := Lib.hid (rawL_succ l k)
      have ho := Lib.hid ho; have hb := Lib.hid hb
      go_wp2_with (at_builtin; refine wpList_append_onto' _ rfl _ _ 48 rfl w.heap.size 5 i0 (.int .u8 0) 1 1 Try.underlying48 hi hz0 hz1 hz2 rfl (by decide) _ _ _ rfl (ho.out.alloc _) ⟨wr.heap.size, 0, none⟩ 1 1 [.int .u8 ((k : Int) % 256)] rfl rfl ?c1 ?c2 ?c3 ?c4 ?c5 ?_)
      try (case c1 => exact cells_new _ _ _ _)
      case c2 => simp [Value.oneCell']
      case c3 => simp only [maxLen]; omega
      case c4 => omega
      case c5 => first | omega | (simp; omega)
      intro v1 w2 ho1 hO1
      have hfin : w2.ownsRow w.heap.size 5 1 v1 (l.length + (k + 1)) (vb (rawL l (k + 1))) := by
        rw [hst.out]; exact ho1
      have hb2 := hb.out.trans ((Onto.alloc _ hO1 (fun g hg => (ho.out.lt g hg).2)).below (B := w.heap.size) hs (fun g hg => (ho.out.lt g hg).1))
      clear ho1 hO1
      have hfin := Lib.hid hfin
      have hb2 := Lib.hid hb2
      go_wp2
      go_roundw
      case rel => exact ⟨k + 1, by omega, by go_num, hfin.out, hb2.out⟩
      case measure => simp [intOf]; omega
    · obtain rfl : k = 300 := by omega
      go_wp2_with fail
      go_ret
      exact ⟨_, rfl, ho, hb⟩
end Go.Proofs.Ytedhinekkmoheaa
