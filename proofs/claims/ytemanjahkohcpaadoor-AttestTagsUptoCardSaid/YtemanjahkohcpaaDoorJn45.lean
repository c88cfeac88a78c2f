/- Quotes of the reference compared. A region that draws, whose operations only read, walked once: one lemma for each kind of operation. -/
import Derived.Test.YtemanjahkohcpaaDoorJn30
import Derived.Test.YtemanjahkohcpaaDoorADigP
import Derived.Deep.Quiet
namespace Go.Proofs.YtemanjahkohcpaaDoor
open Go.RowKit WP
theorem fields55 : (Tryd.prog.fieldsOf 55).toList.map (fun f => (f.name, f.type, f.offset)) = [("Measurement", 23, 0), ("Data", 23, 8), ("Tag", 23, 16)] := by kernel_rfl
theorem struct55 : Tryd.prog.underlying 55 = some (.struct (Tryd.prog.fieldsOf 55)) := by kernel_rfl
theorem stood55 : Tryd.prog.stoodInHeld 55 = false := by kernel_rfl
theorem eq_quoteR (a0 a1 a2 b0 b1 b2 : List UInt32) (w : World) (l0 : a0.length = 8) (l1 : a1.length = 8) (l2 : a2.length = 8) (m0 : b0.length = 8) (m1 : b1.length = 8) (m2 : b2.length = 8) :
    (Op.equalIn 10000 55 (.agg (vw a0 ++ vw a1 ++ vw a2).toArray) (.agg (vw b0 ++ vw b1 ++ vw b2).toArray)).run Tryd.prog w = .ok (decide (a0 = b0 ∧ a1 = b1 ∧ a2 = b2)) w := by
  obtain ⟨f0, f1, f2, hf, h0, h1, h2⟩ := three_of fields55
  simp only [Prod.mk.injEq] at h0 h1 h2
  obtain ⟨n0, t0, o0⟩ := h0
  obtain ⟨n1, t1, o1⟩ := h1
  obtain ⟨n2, t2, o2⟩ := h2
  obtain ⟨p0, p1, p2⟩ := quoteParts a0 a1 a2 l0 l1 l2
  obtain ⟨q0, q1, q2⟩ := quoteParts b0 b1 b2 m0 m1 m2
  rw [show (10000 : Nat) = 9999 + 1 from rfl, run_equalIn_struct w 9999 _ _ _ struct55 stood55, hf]
  have x0 := eq_wordsD 9997 a0 b0 w l0 m0
  have x1 := eq_wordsD 9997 a1 b1 w l1 m1
  have x2 := eq_wordsD 9997 a2 b2 w l2 m2
  simp only [Op.eqFields, n0, n1, n2, t0, t1, t2, o0, o1, o2]
  rw [if_pos (by decide), if_pos (by decide), if_pos (by decide)]
  have y0 := part_words _ 0 a0 w p0
  have z0 := part_words _ 0 b0 w q0
  have y1 := part_words _ 8 a1 w p1
  have z1 := part_words _ 8 b1 w q1
  have y2 := part_words _ 16 a2 w p2
  have z2 := part_words _ 16 b2 w q2
  clear p0 p1 p2 q0 q1 q2
  simp only [Sem.run_bind, y0, z0, Result.andThen_ok]
  rw [show (9999 : Nat) = 9997 + 1 + 1 from rfl, x0]
  simp only [Result.andThen_ok]
  by_cases c0 : a0 = b0
  · rw [decide_eq_true c0, if_neg (by decide)]
    simp only [Sem.run_bind, y1, z1, Result.andThen_ok]
    rw [x1]
    simp only [Result.andThen_ok]
    by_cases c1 : a1 = b1
    · rw [decide_eq_true c1, if_neg (by decide)]
      simp only [Sem.run_bind, y2, z2, Result.andThen_ok]
      rw [x2]
      simp only [Result.andThen_ok]
      by_cases c2 : a2 = b2
      · rw [decide_eq_true c2, if_neg (by decide), decide_eq_true ⟨c0, c1, c2⟩]; rfl
      · rw [decide_eq_false c2, if_pos (by decide), decide_eq_false (fun h => c2 h.2.2)]; rfl
    · rw [decide_eq_false c1, if_pos (by decide), decide_eq_false (fun h => c1 h.2.1)]; rfl
  · rw [decide_eq_false c0, if_pos (by decide), decide_eq_false (fun h => c0 h.1)]; rfl
end Go.Proofs.YtemanjahkohcpaaDoor

namespace Go.Proofs.YtemanjahkohcpaaDoor
open Go.RowKit WP
section
variable {P : Program} {ops : Array Oper} {C : World → Prop}
theorem wp_region_quiet_C {id : Nat} {Q : Exit → Act → World → Prop} {a : Act} {w : World} {l : List Oper} (hm : P.follows .mixedOrders = true) (hB : Region.lexB .any l.toArray = true) (hC : C w.drew)
    (h : wpQuiet P l.toArray C (fun a' => ∀ w', C w' → Q .normal a' w') l a) : (Code.region id l.toArray true).wp P Q a w :=
  wp_region_quiet hm hB hC (by simpa using h)
theorem wpQuiet_val {Q : Act → Prop} {a : Act} {o : Oper} {rest : List Oper} (v : Value) (hw : Region.wanted o (yielded ops a.tmps) = true) (h : ∀ w, C w → (execOp a.eval o).run P w = .ok (.value v) w)
    (k : wpQuiet P ops C Q rest (a.put o.dst v)) : wpQuiet P ops C Q (o :: rest) a := by
  unfold wpQuiet
  rw [if_pos hw]
  exact ⟨v, fun w hC => by unfold Oper.quietAt; rw [h w hC]; exact ⟨rfl, rfl⟩, k⟩
theorem wpQuiet_load {Q : Act → Prop} {a : Act} {o : Oper} {rest : List Oper} (hw : Region.wanted o (yielded ops a.tmps) = true) (ty : TypeId) (x : Operand) (ho : o.op = .load ty x)
    (b off : Nat) (hx : a.eval x = .pointer (some ⟨b, off, none⟩)) (cs : List Value) (d : TypeDesc) (hc : ∀ w, C w → w.rangeAt b off cs)
    (hu : P.underlying ty = some d) (hd : d.isRow = true) (hi : (P.info? ty).map (·.size) = some cs.length)
    (k : wpQuiet P ops C Q rest (a.put o.dst (.agg cs.toArray))) : wpQuiet P ops C Q (o :: rest) a := by
  refine wpQuiet_val _ hw (fun w hC => ?_) k
  unfold execOp
  simp only [ho, hx, Instr.loadAt, Instr.sureAddr, Sem.run_bind, Sem.run_pure, Result.andThen_ok, run_loadVar_mid w b off ty cs d (hc w hC) hu hd hi]
theorem wpQuiet_enter {Q : Act → Prop} {a : Act} {o : Oper} {rest : List Oper} (v : Value) (f : FuncId) (args : Array Value) (hw : Region.wanted o (yielded ops a.tmps) = true) (h : ∀ w, C w → (execOp a.eval o).run P w = .ok (.enter f args) w)
    (hc : ∀ w, C w → Calls P f args w fun e w'' => e = .returned v ∧ C w'') (k : wpQuiet P ops C Q rest (a.put o.dst v)) : wpQuiet P ops C Q (o :: rest) a := by
  unfold wpQuiet
  rw [if_pos hw]
  exact ⟨v, fun w hC => by unfold Oper.quietAt; rw [h w hC]; exact ⟨rfl, hc w hC⟩, k⟩
end
/-- a contract that ends in Below, in the class of what grows behind a world -/
theorem Calls.class_of {P : Program} {f : FuncId} {args : Array Value} {w0 : World} {v : Value} (h : ∀ w, Calls P f args w fun e w' => e = .returned v ∧ Below w.heap.size w w') : ∀ w, Below w0.heap.size w0 w → Calls P f args w fun e w' => e = .returned v ∧ Below w0.heap.size w0 w' :=
  fun w hb => (h w).mono fun _ _ ⟨he, h2⟩ => ⟨he, hb.trans (h2.mono hb.size)⟩
end Go.Proofs.YtemanjahkohcpaaDoor
