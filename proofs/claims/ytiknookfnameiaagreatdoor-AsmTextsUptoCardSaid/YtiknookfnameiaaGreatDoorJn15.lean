/- The contracts of asm's at, room, count; operands as they lie. errors.As at a *asm.broken: the worked example ToyasAs, turned to this program. -/
import Derived.Test.YtiknookfnameiaaGreatDoorJn14
import Derived.WalkKit
import Derived.LaidEql
import Derived.Stop.Asserts
namespace Go.Proofs.YtiknookfnameiaaGreatDoor
open Go.RowKit WP
set_option linter.unusedSimpArgs false
/-- words of a line as they lie in a block of words -/
def WsAt (w : World) (v : Value) (ops : List W) : Prop :=
 ∃ ao cap, v = .slice ao ops.length cap ∧ ops.length ≤ cap ∧ cap ≤ 9223372036854775807 ∧ (ops = [] ∨ ∃ b off cs, ao = some ⟨b, off, none⟩ ∧ w.heap[b]? = some (Obj.cells cs 152 (0, 0)) ∧
  ∀ i x, ops[i]? = some x → cs[off + i * 3]? = some (.string x.1) ∧ cs[off + i * 3 + 1]? = some (.bool x.2.1) ∧ cs[off + i * 3 + 2]? = some (.int .i64 (x.2.2 : Int)))
theorem WsAt.keep {w w' : World} {v : Value} {ops : List W} (h : WsAt w v ops) (hk : Keep w w') : WsAt w' v ops := by
 obtain ⟨ao, cap, rfl, h1, h2, h3⟩ := h
 refine ⟨ao, cap, rfl, h1, h2, ?_⟩
 rcases h3 with h | ⟨b, off, cs, e, hb, hc⟩
 ·exact .inl h
 ·exact .inr ⟨b, off, cs, e, hk.at_ hb (.inr (.inl rfl)), hc⟩
theorem WsAt.later {w w' : World} {v : Value} {ops : List W} (h : WsAt w v ops) (hb : Below w.heap.size w w') : WsAt w' v ops := h.keep (Keep.below hb)
/-- the word at a place -/
theorem WsAt.get {w : World} {v : Value} {ops : List W} (h : WsAt w v ops) (i : Nat) (x : W) (hi : ops[i]? = some x) : ∃ b off cap, v = .slice (some ⟨b, off, none⟩) ops.length cap ∧ ops.length ≤ cap ∧ cap ≤ 9223372036854775807 ∧ w.cell? ⟨b, off + i * 3, none⟩ = some (.string x.1) ∧ w.cell? ⟨b, off + i * 3 + 1, none⟩ = some (.bool x.2.1) ∧ w.cell? ⟨b, off + i * 3 + 2, none⟩ = some (.int .i64 (x.2.2 : Int)) := by
 obtain ⟨ao, cap, rfl, h1, h2, h3⟩ := h
 rcases h3 with rfl | ⟨b, off, cs, rfl, hb, hc⟩
 ·simp at hi
 ·obtain ⟨c0, c1, c2⟩ := hc i x hi
  exact ⟨b, off, cap, rfl, h1, h2, (cell_of_row _ _ _ _ _ _ hb).trans c0, (cell_of_row _ _ _ _ _ _ hb).trans c1, (cell_of_row _ _ _ _ _ _ hb).trans c2⟩
theorem WsAt.of_own {w : World} {B n : Nat} {v : Value} {ws : List W} (h : w.ownsRow B 152 3 v n (ww ws)) (hn : n = ws.length) : WsAt w v ws := by
 subst hn
 rcases h.2 with ⟨rfl, h0⟩ | ⟨g, cap, cur, rfl, _, hg, h1, h2, hcs, htake⟩
 ·refine ⟨none, 0, by rw [h0], by omega, by decide, .inl (List.eq_nil_of_length_eq_zero h0)⟩
 ·refine ⟨some ⟨g, 0, none⟩, cap, rfl, h1, h2, .inr ⟨g, 0, cur, rfl, hg, ?_⟩⟩
  have hw : ∀ (L : List W) (i : Nat) (x : W), L[i]? = some x → (ww L)[i * 3]? = some (.string x.1) ∧ (ww L)[i * 3 + 1]? = some (.bool x.2.1) ∧ (ww L)[i * 3 + 2]? = some (.int .i64 (x.2.2 : Int)) := by
   intro L
   induction L with
   | nil => intro i x hi; simp at hi
   | cons y L ih =>
    intro i x hi
    have e : ww (y :: L) = [.string y.1, .bool y.2.1, .int .i64 (y.2.2 : Int)] ++ ww L := rfl
    cases i with
    | zero => simp only [List.getElem?_cons_zero, Option.some.injEq] at hi; subst hi; rw [e]; exact ⟨rfl, rfl, rfl⟩
    | succ i =>
     simp only [List.getElem?_cons_succ] at hi
     obtain ⟨a, b, c⟩ := ih i x hi
     rw [e]
     refine ⟨?_, ?_, ?_⟩
     ·rw [List.getElem?_append_right (by simp; omega)]; rw [← a]; congr 1; simp; omega
     ·rw [List.getElem?_append_right (by simp; omega)]; rw [← b]; congr 1; simp; omega
     ·rw [List.getElem?_append_right (by simp; omega)]; rw [← c]; congr 1; simp; omega
  have hcell : ∀ (j : Nat) (u : Value), (ww ws)[j]? = some u → cur[j]? = some u := by
   intro j u hj
   have hlt := (List.getElem?_eq_some_iff.1 hj).1
   have hl := h.1
   rw [← htake] at hj
   rw [List.getElem?_take_of_lt (by rw [← hl]; exact hlt)] at hj
   rw [← hj, Array.getElem?_toList]
  intro i x hi
  obtain ⟨a, b, c⟩ := hw ws i x hi
  simp only [Nat.zero_add]
  exact ⟨hcell _ _ a, hcell _ _ b, hcell _ _ c⟩
set_option maxRecDepth 100000 in
theorem at_any (R ln col : Nat) (e : Int) (w : World) (hl : w.cell? ⟨R, 1, none⟩ = some (.int .i64 (ln : Int))) :
  Calls Tryz.prog 39 #[ptr R, .int .i64 e, .int .i64 (col : Int)] w fun en w' => ∃ v, en = .returned v ∧ FltAt w' v (e, ln, col) ∧ Below w.heap.size w w' := by
 have hb := (Below.refl w.heap.size w).alloc (Nat.le_refl _) (.cells #[.int .i64 e, .int .i64 (ln : Int), .int .i64 (col : Int)] 112)
 have hn := heap_alloc_new w (.cells #[.int .i64 e, .int .i64 (ln : Int), .int .i64 (col : Int)] 112)
 replace hb := Lib.hid hb; replace hn := Lib.hid hn
 go_enter Tryz.func39, Tryz.ntmps39
 go_wp2_with fail
 go_ret
 exact ⟨_, rfl, ⟨_, rfl, hn.out⟩, hb.out⟩
/-- what a check answers -/
def ErrRes (w' : World) (e : Ending) : Option Flt → Prop
 | none => e = .returned .nilIface
 | some f => ∃ v, e = .returned v ∧ FltAt w' v f
set_option maxRecDepth 100000 in
theorem room_any {B : Nat} {w0 w : World} {R : Nat} {base : Int} {ln : Nat} {st : Asm} {vw vl : Value} {mb : Nat} {vf : Value} {fs : List Value} {bs : List Nat} {ml : List (ByteArray × Nat)} (h : RSt B w0 w R base ln st vw vl mb vf fs bs ml) (name : W) (n : Nat) (hn : n ≤ 4096) (hst : st.ws.length ≤ 4096) :
  Calls Tryz.prog 110 #[ptr R, wV name, .int .i64 (n : Int)] w fun e w' => ErrRes w' e (roomM ln name st n) ∧ Below w.heap.size w w' := by
 obtain ⟨s, q, c⟩ := name
 obtain ⟨aw, cw, rfl, _, _⟩ := own_shape h.ws
 obtain ⟨w1, hw1⟩ : ∃ w1, w.alloc (.cells #[.string s, .bool q, .int .i64 (c : Int)] 152) = w1 := ⟨_, rfl⟩
 have b1 : Below w.heap.size w w1 := by rw [← hw1]; exact (Below.refl w.heap.size w).alloc (Nat.le_refl _) _
 have c2 : w1.cell? ⟨w.heap.size, 2, none⟩ = some (.int .i64 (c : Int)) := by rw [← hw1]; exact cell_of_row _ _ 2 _ _ _ (heap_alloc_new w _)
 have h1 := h.later b1
 obtain ⟨_, hl, hv, _⟩ := h1.c
 obtain ⟨L, hL⟩ : ∃ L, st.ws.length = L := ⟨_, rfl⟩
 unfold wV roomM
 dsimp only
 rw [hL] at hv hst ⊢
 clear h h1
 by_cases hr : 2048 < L + n
 ·rw [if_pos hr]
  have d1 : decide ((L : Int) + (n : Int) > 2048) = true := decide_eq_true (by omega)
  have d2 : (2048 : Int) < (L : Int) + (n : Int) := by omega
  have hat := at_any R ln c 66 w1 hl
  replace b1 := Lib.hid b1; replace hat := Lib.hid hat
  go_enter Tryz.func110, Tryz.ntmps110
  go_upto_region 1 with fail
  try rw [hw1]
  clear hw1
  go_wp2_with fail
  refine hat.out.mono ?_
  rintro e w2 ⟨v, rfl, hf, b2⟩
  go_wp2_with fail
  go_ret
  exact ⟨⟨v, rfl, hf⟩, b1.out.trans (b2.mono b1.out.size)⟩
 ·rw [if_neg hr]
  have d1 : decide ((L : Int) + (n : Int) > 2048) = false := decide_eq_false (by omega)
  have d2 : ¬ (2048 : Int) < (L : Int) + (n : Int) := by omega
  replace b1 := Lib.hid b1
  go_enter Tryz.func110, Tryz.ntmps110
  go_upto_region 1 with fail
  try rw [hw1]
  clear hw1
  go_wp2_with fail
  go_ret
  exact ⟨rfl, b1.out⟩
set_option maxRecDepth 100000 in
theorem count_any (R ln : Nat) (name : W) (v : Value) (ops : List W) (n : Nat) (w : World) (hl : w.cell? ⟨R, 1, none⟩ = some (.int .i64 (ln : Int))) (ho : WsAt w v ops) (hn : n ≤ 4096) :
  Calls Tryz.prog 112 #[ptr R, wV name, v, .int .i64 (n : Int)] w fun e w' => ErrRes w' e (countM ln name ops n) ∧ Below w.heap.size w w' := by
 obtain ⟨s, q, c⟩ := name
 obtain ⟨w1, hw1⟩ : ∃ w1, w.alloc (.cells #[.string s, .bool q, .int .i64 (c : Int)] 152) = w1 := ⟨_, rfl⟩
 have b1 : Below w.heap.size w w1 := by rw [← hw1]; exact (Below.refl w.heap.size w).alloc (Nat.le_refl _) _
 have c2 : w1.cell? ⟨w.heap.size, 2, none⟩ = some (.int .i64 (c : Int)) := by rw [← hw1]; exact cell_of_row _ _ 2 _ _ _ (heap_alloc_new w _)
 have hl1 : w1.cell? ⟨R, 1, none⟩ = some (.int .i64 (ln : Int)) := (b1.cell (World.block_lt_of_cell? _ _ hl)).trans hl
 have ho1 := ho.later b1
 unfold wV countM
 dsimp only
 by_cases h1 : ops.length < n
 ·rw [if_pos h1]
  obtain ⟨ao, cap, rfl, p1, p2, _⟩ := id ho1
  obtain ⟨L, hL⟩ : ∃ L, ops.length = L := ⟨_, rfl⟩
  rw [hL] at h1 ⊢
  have d1 : decide ((L : Int) < (n : Int)) = true := decide_eq_true (by omega)
  have d2 : (L : Int) < (n : Int) := by omega
  have hat := at_any R ln c 62 w1 hl1
  clear ho ho1 hl hl1
  replace b1 := Lib.hid b1; replace hat := Lib.hid hat
  go_enter Tryz.func112, Tryz.ntmps112
  go_upto_region 1 with fail
  try rw [hw1]
  clear hw1
  go_wp2_with fail
  refine hat.out.mono ?_
  rintro e w2 ⟨v, rfl, hf, b2⟩
  go_wp2_with fail
  go_ret
  exact ⟨⟨v, rfl, hf⟩, b1.out.trans (b2.mono b1.out.size)⟩
 ·rw [if_neg h1]
  by_cases h2 : n < ops.length
  ·rw [if_pos h2]
   obtain ⟨x, hx⟩ : ∃ x, ops[n]? = some x := ⟨_, List.getElem?_eq_getElem h2⟩
   obtain ⟨b, off, cap, rfl, p1, p2, _, _, k2⟩ := ho1.get n x hx
   have ex : (ops.getD n (⟨#[]⟩, false, 0)).2.2 = x.2.2 := by rw [List.getD_eq_getElem?_getD, hx]; rfl
   rw [ex]
   obtain ⟨L, hL⟩ : ∃ L, ops.length = L := ⟨_, rfl⟩
   rw [hL] at h1 h2 p1 ⊢
   have d1 : decide ((L : Int) < (n : Int)) = false := decide_eq_false (by omega)
   have d2 : ¬ (L : Int) < (n : Int) := by omega
   have d3 : decide ((L : Int) > (n : Int)) = true := decide_eq_true (by omega)
   have d4 : (n : Int) < (L : Int) := by omega
   have d5 : (0 : Int) ≤ (n : Int) := by omega
   have hat := at_any R ln x.2.2 62 w1 hl1
   clear ho ho1 hl hl1 ex hx hL
   replace b1 := Lib.hid b1; replace hat := Lib.hid hat
   go_enter Tryz.func112, Tryz.ntmps112
   go_upto_region 1 with fail
   try rw [hw1]
   clear hw1
   go_wp2_with fail
   refine hat.out.mono ?_
   rintro e w2 ⟨v, rfl, hf, b2⟩
   go_wp2_with fail
   go_ret
   exact ⟨⟨v, rfl, hf⟩, b1.out.trans (b2.mono b1.out.size)⟩
  ·rw [if_neg h2]
   obtain ⟨ao, cap, rfl, p1, p2, _⟩ := id ho1
   obtain ⟨L, hL⟩ : ∃ L, ops.length = L := ⟨_, rfl⟩
   rw [hL] at h1 h2 ⊢
   have d1 : decide ((L : Int) < (n : Int)) = false := decide_eq_false (by omega)
   have d2 : ¬ (L : Int) < (n : Int) := by omega
   have d3 : decide ((L : Int) > (n : Int)) = false := decide_eq_false (by omega)
   have d4 : ¬ (n : Int) < (L : Int) := by omega
   clear ho ho1 hl hl1
   replace b1 := Lib.hid b1
   go_enter Tryz.func112, Tryz.ntmps112
   go_upto_region 1 with fail
   try rw [hw1]
   clear hw1
   go_wp2_with fail
   go_ret
   exact ⟨rfl, b1.out⟩
end Go.Proofs.YtiknookfnameiaaGreatDoor

namespace Go.Proofs.YtiknookfnameiaaGreatDoor
open Go.RowKit Go.Extern.Stop Go.Stop Go.Extern WP
set_option linter.unusedSimpArgs false
set_option linter.unusedVariables false
theorem Bro.valueOf27 (t : Addr) (w : World) : (ReflectliteValue.unpack (.iface 120 (.pointer (some t)))).run Tryz.prog w
  = .ok (.agg #[.pointer (some ⟨14, 120, none⟩), .pointer (some ⟨w.heap.size, 0, none⟩), .int .u64 150]) (w.alloc (.cells #[.pointer (some t)] 120)) := by kernel_rfl
theorem Bro.type27 (a : Addr) (w : World) : (ReflectliteValue.methodAny (ReflectliteValue.valueError "reflectlite.Value.Type" 0) (fun t _ _ _ => ReflectliteType.toType t) #[.agg #[.pointer (some ⟨14, 120, none⟩), .pointer (some a), .int .u64 150]]).run Tryz.prog w
  = .ok (.iface 190 (.agg #[.pointer (some ⟨14, 120, none⟩)])) w := by kernel_rfl
theorem Bro.methodKind (h : Value) (w : World) : (Go.method 416 190 (.agg #[h]) "Kind").run Tryz.prog w = .ok (199, h) w := by kernel_rfl
theorem Bro.kind27 (w : World) : ((ReflectliteType.abiMethod fun t => (fun a : Nat => Value.int IntKind.u8 (a : Int)) <$> Rtype.kind t) #[.pointer (some ⟨14, 120, none⟩)]).run Tryz.prog w = .ok (.int .u8 22) w := by kernel_rfl
theorem Bro.kind25 (w : World) : ((ReflectliteType.abiMethod fun t => (fun a : Nat => Value.int IntKind.u8 (a : Int)) <$> Rtype.kind t) #[.pointer (some ⟨14, 110, none⟩)]).run Tryz.prog w = .ok (.int .u8 22) w := by kernel_rfl


theorem bro_rlm (z : Sem Value) (f : TypeId → Addr → Nat → Nat → Sem Value) (v : Value) :
  ReflectliteValue.method z f #[v] = (do match ← ReflectliteValue.parts v with | none => z | some (t, a, fl) => f t a fl (fl % 32)) := rfl
theorem Bro.parts27 (a : Addr) (w : World) : (ReflectliteValue.parts (.agg #[.pointer (some ⟨14, 120, none⟩), .pointer (some a), .int .u64 150])).run Tryz.prog w = .ok (some (120, a, 150)) w := by kernel_rfl
/-- (Value).IsNil at the Value of a **p.E that is not nil. -/
theorem Bro.isNil27 (a p : Addr) (W : World) (ha : W.cell? a = some (.pointer (some p))) :
  (ReflectliteValue.method (ReflectliteValue.valueError "reflectlite.Value.IsNil" 0) ReflectliteValue.isNil #[.agg #[.pointer (some ⟨14, 120, none⟩), .pointer (some a), .int .u64 150]]).run Tryz.prog W = .ok (.bool false) W := by
 rw [bro_rlm]
 simp only [Sem.run_bind, Bro.parts27, Result.andThen]
 simp [ReflectliteValue.isNil, loadVar, isAgg, underlying, Tryz.underlying120, ha, Result.andThen]

theorem Bro.methodElem (h : Value) (w : World) : (Go.method 416 190 (.agg #[h]) "Elem").run Tryz.prog w = .ok (210, .agg #[h]) w := by kernel_rfl
theorem Bro.methodImplements (h : Value) (w : World) : (Go.method 416 190 (.agg #[h]) "Implements").run Tryz.prog w = .ok (211, .agg #[h]) w := by kernel_rfl
theorem Bro.methodAssignableTo (h : Value) (w : World) : (Go.method 416 190 (.agg #[h]) "AssignableTo").run Tryz.prog w = .ok (208, .agg #[h]) w := by kernel_rfl
theorem Bro.elem27 (w : World) : (ReflectliteType.method ReflectliteType.elem #[.agg #[.pointer (some ⟨14, 120, none⟩)]]).run Tryz.prog w = .ok (.iface 190 (.agg #[.pointer (some ⟨14, 110, none⟩)])) w := by kernel_rfl
theorem Bro.implements25 (w : World) : (ReflectliteType.relation "Implements" ReflectliteType.implements_ #[.agg #[.pointer (some ⟨14, 110, none⟩)], .iface 190 (.agg #[.pointer (some ⟨14, 70, none⟩)])]).run Tryz.prog w = .ok (.bool true) w := by kernel_rfl
theorem Bro.typeOf25 (v : Value) (w : World) : (ReflectliteType.typeOf #[.iface 110 v]).run Tryz.prog w = .ok (.iface 190 (.agg #[.pointer (some ⟨14, 110, none⟩)])) w := by kernel_rfl
theorem Bro.assignable25 (w : World) : (ReflectliteType.relation "AssignableTo" ReflectliteType.assignableTo #[.agg #[.pointer (some ⟨14, 110, none⟩)], .iface 190 (.agg #[.pointer (some ⟨14, 110, none⟩)])]).run Tryz.prog w = .ok (.bool true) w := by kernel_rfl
theorem Bro.valueOf25 (e : Addr) (w : World) : (ReflectliteValue.unpack (.iface 110 (.pointer (some e)))).run Tryz.prog w
  = .ok (.agg #[.pointer (some ⟨14, 110, none⟩), .pointer (some ⟨w.heap.size, 0, none⟩), .int .u64 150]) (w.alloc (.cells #[.pointer (some e)] 110)) := by kernel_rfl

theorem Bro.elemOf27 (w : World) : (Rtype.elem? 120).run Tryz.prog w = .ok (some 110) w := by kernel_rfl
theorem Bro.mk25 (p : Addr) (w : World) : (ReflectliteValue.mk 110 p ReflectliteValue.flagAddr).run Tryz.prog w = .ok (.agg #[.pointer (some ⟨14, 110, none⟩), .pointer (some p), .int .u64 406]) w := by kernel_rfl
/-- (Value).Elem at the Value of a **p.E that is not nil: the Value of the *p.E variable that it points to, addressable. -/
theorem Bro.elemV27 (a p : Addr) (W : World) (ha : W.cell? a = some (.pointer (some p))) :
  (ReflectliteValue.method (ReflectliteValue.valueError "reflectlite.Value.Elem" 0) ReflectliteValue.elem #[.agg #[.pointer (some ⟨14, 120, none⟩), .pointer (some a), .int .u64 150]]).run Tryz.prog W
   = .ok (.agg #[.pointer (some ⟨14, 110, none⟩), .pointer (some p), .int .u64 406]) W := by
 rw [bro_rlm]
 simp only [Sem.run_bind, Bro.parts27, Result.andThen]
 simp [ReflectliteValue.elem, loadVar, isAgg, underlying, Tryz.underlying120, ha, Result.andThen, Bro.elemOf27, Bro.mk25]
theorem bro_rls (v x : Value) : ReflectliteValue.set #[v, x] = (do
  let (some (dst, a, fl), some (src, b, _)) := (← ReflectliteValue.parts v, ← ReflectliteValue.parts x)
   | unsupported (.noEntry "extern/(internal/reflectlite.Value).Set.zeroValue")
  if fl / ReflectliteValue.flagAddr % 2 == 0 then unsupported (.noEntry "extern/(internal/reflectlite.Value).Set.unaddressable")
  let val ← loadVar src b
  if ← Rtype.directlyAssignable dst src then storeVar dst a val
  else if ← Rtype.implements dst src then
   if (← Rtype.kind src) == 20 then
    match val with
    | .nilIface => unsupported (.noEntry "extern/reflectlite: a nil value of one interface type handed on as a value of another")
    | _ => storeVar dst a val
   else storeVar dst a (.iface src val)
  else panicString ("reflectlite.Set: value of type " ++ (← Rtype.spelt src) ++ " is not assignable to type " ++ (← Rtype.spelt dst))
  pure (.tuple #[])) := rfl
theorem Bro.parts25a (a : Addr) (w : World) : (ReflectliteValue.parts (.agg #[.pointer (some ⟨14, 110, none⟩), .pointer (some a), .int .u64 406])).run Tryz.prog w = .ok (some (110, a, 406)) w := by kernel_rfl
theorem Bro.parts25 (a : Addr) (w : World) : (ReflectliteValue.parts (.agg #[.pointer (some ⟨14, 110, none⟩), .pointer (some a), .int .u64 150])).run Tryz.prog w = .ok (some (110, a, 150)) w := by kernel_rfl
theorem Bro.direct25 (w : World) : (Rtype.directlyAssignable 110 110).run Tryz.prog w = .ok true w := by kernel_rfl
/-- (Value).Set: the *p.E variable at 'ta' gets what the Value's own variable 'b' holds. -/
theorem Bro.set25 (ta b e : Addr) (old : Value) (W : World) (hb : W.cell? b = some (.pointer (some e))) (ht : W.cell? ta = some old) (hf : W.frozen? ta = false) :
  (ReflectliteValue.set #[.agg #[.pointer (some ⟨14, 110, none⟩), .pointer (some ta), .int .u64 406], .agg #[.pointer (some ⟨14, 110, none⟩), .pointer (some b), .int .u64 150]]).run Tryz.prog W
   = .ok (.tuple #[]) (W.setCell ta (.pointer (some e))) := by
 rw [bro_rls]
 simp only [Sem.run_bind, Bro.parts25a, Bro.parts25, Result.andThen]
 simp [ReflectliteValue.flagAddr, loadVar, isAgg, underlying, Tryz.underlying110, hb, Result.andThen, Bro.direct25, storeVar, Value.cells, storeCells, Addr.add]
 rw [run_store Tryz.prog W ta _ _ (by rfl)]
 simp [ht, hf]

set_option maxHeartbeats 4000000 in
theorem as_hit (e t : Addr) (old : Value) (w : World) (hg : w.cell? ⟨1, 0, none⟩ = some (.iface 190 (.agg #[.pointer (some ⟨14, 70, none⟩)]))) (ht0 : w.cell? t = some old) (hf0 : w.frozen? t = false) :
  Calls Tryz.prog 41 #[.iface 110 (.pointer (some e)), .iface 120 (.pointer (some t))] w fun ev w' => ev = .returned (.bool true) ∧ w' = ((((w.alloc (.cells #[.pointer (some t)] 120)).alloc (.cells #[.pointer (some ⟨14, 120, none⟩), .pointer (some ⟨w.heap.size, 0, none⟩), .int .u64 150] 160)).alloc (.cells #[.pointer (some ⟨14, 120, none⟩), .pointer (some ⟨w.heap.size, 0, none⟩), .int .u64 150] 160)).alloc (.cells #[.pointer (some e)] 110)).setCell t (.pointer (some e)) := by
 have h6 := @run_callFunc_extern Tryz.prog 65 _ (fun args => ReflectliteValue.unpack (args.getD 0 (.tuple #[]))) Tryz.func65 (by kernel_rfl) (by kernel_rfl) (by kernel_rfl) (by kernel_rfl)
 have h7 := @run_callFunc_extern Tryz.prog 66 _ (ReflectliteValue.methodAny (ReflectliteValue.valueError "reflectlite.Value.Type" 0) (fun t _ _ _ => ReflectliteType.toType t)) Tryz.func66 (by kernel_rfl) (by kernel_rfl) (by kernel_rfl) (by kernel_rfl)
 have h8 := @run_callFunc_extern Tryz.prog 67 _ (ReflectliteValue.method (ReflectliteValue.valueError "reflectlite.Value.IsNil" 0) ReflectliteValue.isNil) Tryz.func67 (by kernel_rfl) (by kernel_rfl) (by kernel_rfl) (by kernel_rfl)
 have h27 := @run_callFunc_extern Tryz.prog 199 _ (ReflectliteType.abiMethod fun t => do pure (.int .u8 (← Rtype.kind t))) Tryz.func199 (by kernel_rfl) (by kernel_rfl) (by kernel_rfl) (by kernel_rfl)
 have h37 := @run_callFunc_extern Tryz.prog 210 _ (ReflectliteType.method ReflectliteType.elem) Tryz.func210 (by kernel_rfl) (by kernel_rfl) (by kernel_rfl) (by kernel_rfl)
 have h38 := @run_callFunc_extern Tryz.prog 211 _ (ReflectliteType.relation "Implements" ReflectliteType.implements_) Tryz.func211 (by kernel_rfl) (by kernel_rfl) (by kernel_rfl) (by kernel_rfl)
 have h10 := @run_callFunc_extern Tryz.prog 90 _ ReflectliteType.typeOf Tryz.func90 (by kernel_rfl) (by kernel_rfl) (by kernel_rfl) (by kernel_rfl)
 have h35 := @run_callFunc_extern Tryz.prog 208 _ (ReflectliteType.relation "AssignableTo" ReflectliteType.assignableTo) Tryz.func208 (by kernel_rfl) (by kernel_rfl) (by kernel_rfl) (by kernel_rfl)
 have h11 := @run_callFunc_extern Tryz.prog 91 _ (ReflectliteValue.method (ReflectliteValue.valueError "reflectlite.Value.Elem" 0) ReflectliteValue.elem) Tryz.func91 (by kernel_rfl) (by kernel_rfl) (by kernel_rfl) (by kernel_rfl)
 have h12 := @run_callFunc_extern Tryz.prog 92 _ ReflectliteValue.set Tryz.func92 (by kernel_rfl) (by kernel_rfl) (by kernel_rfl) (by kernel_rfl)
 have tO := Bro.typeOf25
 have mA := Bro.methodAssignableTo
 have a25 := Bro.assignable25
 have v25 := Bro.valueOf25
 have f6 := Bro.valueOf27
 have f7 := Bro.type27
 have mK := Bro.methodKind
 have mE := Bro.methodElem
 have mI := Bro.methodImplements
 have k27 := Bro.kind27
 have k25 := Bro.kind25
 have e27 := Bro.elem27
 have i25 := Bro.implements25
 have n8 := Bro.isNil27 ⟨w.heap.size, 0, none⟩ t ((w.alloc (.cells #[.pointer (some t)] 120)).alloc (.cells #[.pointer (some ⟨14, 120, none⟩), .pointer (some ⟨w.heap.size, 0, none⟩), .int .u64 150] 160)) (by simp)
 have hlt : 1 < w.heap.size := by
  rcases Nat.lt_or_ge 1 w.heap.size with h | h
  ·exact h
  ·simp [World.cell?, Array.getElem?_eq_none h] at hg
 have hg2 : ((w.alloc (.cells #[.pointer (some t)] 120)).alloc (.cells #[.pointer (some ⟨14, 120, none⟩), .pointer (some ⟨w.heap.size, 0, none⟩), .int .u64 150] 160)).cell? ⟨1, 0, none⟩ = some (.iface 190 (.agg #[.pointer (some ⟨14, 70, none⟩)])) := by
  rw [World.cell?_alloc_lt _ _ ⟨1, 0, none⟩ (by simp; omega), World.cell?_alloc_lt _ _ ⟨1, 0, none⟩ hlt]; exact hg
 have htl : t.block < w.heap.size := by
  rcases Nat.lt_or_ge t.block w.heap.size with h | h
  ·exact h
  ·simp [World.cell?, Array.getElem?_eq_none h] at ht0
 have el := Bro.elemV27 ⟨w.heap.size, 0, none⟩ t (((w.alloc (.cells #[.pointer (some t)] 120)).alloc (.cells #[.pointer (some ⟨14, 120, none⟩), .pointer (some ⟨w.heap.size, 0, none⟩), .int .u64 150] 160)).alloc (.cells #[.pointer (some ⟨14, 120, none⟩), .pointer (some ⟨w.heap.size, 0, none⟩), .int .u64 150] 160)) (by rw [World.cell?_alloc_lt _ _ ⟨w.heap.size, 0, none⟩ (by simp; omega)]; simp)
 have st := Bro.set25 t ⟨w.heap.size + 1 + 1 + 1, 0, none⟩ e old ((((w.alloc (.cells #[.pointer (some t)] 120)).alloc (.cells #[.pointer (some ⟨14, 120, none⟩), .pointer (some ⟨w.heap.size, 0, none⟩), .int .u64 150] 160)).alloc (.cells #[.pointer (some ⟨14, 120, none⟩), .pointer (some ⟨w.heap.size, 0, none⟩), .int .u64 150] 160)).alloc (.cells #[.pointer (some e)] 110))
  (by rw [World.cell?_alloc_at _ _ _ _ (by simp)]; rfl)
  (by rw [World.cell?_alloc_lt _ _ t (by simp; omega), World.cell?_alloc_lt _ _ t (by simp; omega), World.cell?_alloc_lt _ _ t (by simp; omega), World.cell?_alloc_lt _ _ t htl]; exact ht0)
  (by rw [World.frozen?_alloc_old _ _ t (by simp; omega), World.frozen?_alloc_old _ _ t (by simp; omega), World.frozen?_alloc_old _ _ t (by simp; omega), World.frozen?_alloc_old _ _ t (Nat.ne_of_lt htl)]; exact hf0)
 go_enter Tryz.func41, Tryz.ntmps41
 go_wp2
 refine wp_loop_rounds 1 ?_
 rw [rounds_succ]
 go_wp2
 go_ret
 exact ⟨rfl, rfl⟩
end Go.Proofs.YtiknookfnameiaaGreatDoor
