/- Quotes compared. -/
import Derived.Test.YtemanjahkohcpaaDoorBParseJn
namespace Go.Proofs.YtemanjahkohcpaaDoor
open Go.RowKit WP
set_option maxRecDepth 100000
theorem eqItems_wordsD (d : Nat) (a b : List UInt32) (w : World) : ∀ is : List Nat, (∀ i ∈ is, i < a.length ∧ i < b.length) →
    (Op.eqItems (d + 1) 22 (Tryd.prog.cellsOf 22) (vw a).toArray (vw b).toArray is).run Tryd.prog w = .ok (decide (∀ i ∈ is, wAt a i = wAt b i)) w
  | [], _ => by simp [Op.eqItems]
  | i :: is, h => by
    obtain ⟨ha, hb⟩ := h i (by simp)
    have ih := eqItems_wordsD d a b w is (fun j hj => h j (by simp [hj]))
    have p1 := run_part_plain (P := Tryd.prog) w plainW (vw_getD a i ha)
    have p2 := run_part_plain (P := Tryd.prog) w plainW (vw_getD b i hb)
    have p3 := run_equalIn_int (P := Tryd.prog) w d 22 .u32 .u32 (wAt a i) (wAt b i) Tryd.underlying22
    simp only [Op.eqItems, Sem.run_bind]
    rw [cellsW, Nat.mul_one, p1]
    simp only [Result.andThen_ok]
    rw [p2]
    simp only [Result.andThen_ok]
    rw [p3]
    simp only [Result.andThen_ok]
    by_cases he : wAt a i = wAt b i
    · rw [if_neg (by simp [he])]
      rw [cellsW] at ih
      rw [ih]
      simp [he]
    · rw [if_pos (by simp [he])]
      simp [he]
theorem eq_wordsD (d : Nat) (a b : List UInt32) (w : World) (la : a.length = 8) (lb : b.length = 8) :
    (Op.equalIn (d + 1 + 1) 23 (.agg (vw a).toArray) (.agg (vw b).toArray)).run Tryd.prog w = .ok (decide (a = b)) w := by
  obtain ⟨i, hi, _⟩ := info_parts info22
  rw [run_equalIn_array (P := Tryd.prog) w (d + 1) _ _ Tryd.underlying23 hi, eqItems_wordsD d a b w _ (fun i hi => by simp at hi; omega)]
  refine congrArg (fun c => Result.ok c w) (decide_eq_decide.2 ?_)
  constructor
  · intro h
    apply List.ext_getElem (by omega)
    intro i h1 h2
    exact (wAt_inj a b i h1 h2).1 (h i (by simp; omega))
  · rintro rfl i _; rfl
theorem part_words (cs : List Value) (off : Nat) (l : List UInt32) (w : World) (h : (cs.drop off).take 8 = vw l) : (part 23 cs.toArray off).run Tryd.prog w = .ok (.agg (vw l).toArray) w := by
  have h1 := Tryd.isAgg23 w
  have h2 := Tryd.sizeOf23 w
  unfold part
  simp only [Sem.run_bind, h1, Result.andThen_ok, if_true, h2, Sem.run_pure]
  rw [List.extract_toArray, List.extract_eq_take_drop, Nat.add_sub_cancel_left, h]
theorem fields38 : (Tryd.prog.fieldsOf 38).toList.map (fun f => (f.name, f.type, f.offset)) = [("Measurement", 23, 0), ("Data", 23, 8), ("Tag", 23, 16)] := by kernel_rfl
theorem struct38 : Tryd.prog.underlying 38 = some (.struct (Tryd.prog.fieldsOf 38)) := by kernel_rfl
theorem stood38 : Tryd.prog.stoodInHeld 38 = false := by kernel_rfl
theorem three_of {α β : Type} {f : α → β} {l : List α} {x y z : β} (h : l.map f = [x, y, z]) : ∃ a b c, l = [a, b, c] ∧ f a = x ∧ f b = y ∧ f c = z := by
  match l, h with
  | [a, b, c], h => simp at h; exact ⟨a, b, c, rfl, h.1, h.2.1, h.2.2⟩
theorem quoteParts (a0 a1 a2 : List UInt32) (l0 : a0.length = 8) (l1 : a1.length = 8) (l2 : a2.length = 8) :
    ((vw a0 ++ vw a1 ++ vw a2).drop 0).take 8 = vw a0 ∧ ((vw a0 ++ vw a1 ++ vw a2).drop 8).take 8 = vw a1 ∧ ((vw a0 ++ vw a1 ++ vw a2).drop 16).take 8 = vw a2 := by
  have e0 : (vw a0).length = 8 := by simp [l0]
  have e1 : (vw a1).length = 8 := by simp [l1]
  have e2 : (vw a2).length = 8 := by simp [l2]
  have e01 : (vw a0 ++ vw a1).length = 16 := by rw [List.length_append, e0, e1]
  refine ⟨?_, ?_, ?_⟩
  · rw [List.drop_zero, List.append_assoc, List.take_left' e0]
  · rw [List.append_assoc, List.drop_left' e0, List.take_left' e1]
  · rw [List.drop_left' e01, List.take_of_length_le (by omega)]
theorem eq_quote (a0 a1 a2 b0 b1 b2 : List UInt32) (w : World) (l0 : a0.length = 8) (l1 : a1.length = 8) (l2 : a2.length = 8) (m0 : b0.length = 8) (m1 : b1.length = 8) (m2 : b2.length = 8) :
    (Op.equalIn 10000 38 (.agg (vw a0 ++ vw a1 ++ vw a2).toArray) (.agg (vw b0 ++ vw b1 ++ vw b2).toArray)).run Tryd.prog w = .ok (decide (a0 = b0 ∧ a1 = b1 ∧ a2 = b2)) w := by
  obtain ⟨f0, f1, f2, hf, h0, h1, h2⟩ := three_of fields38
  simp only [Prod.mk.injEq] at h0 h1 h2
  obtain ⟨n0, t0, o0⟩ := h0
  obtain ⟨n1, t1, o1⟩ := h1
  obtain ⟨n2, t2, o2⟩ := h2
  obtain ⟨p0, p1, p2⟩ := quoteParts a0 a1 a2 l0 l1 l2
  obtain ⟨q0, q1, q2⟩ := quoteParts b0 b1 b2 m0 m1 m2
  rw [show (10000 : Nat) = 9999 + 1 from rfl, run_equalIn_struct w 9999 _ _ _ struct38 stood38, hf]
  have x0 := eq_wordsD 9997 a0 b0 w l0 m0
  have x1 := eq_wordsD 9997 a1 b1 w l1 m1
  have x2 := eq_wordsD 9997 a2 b2 w l2 m2
  simp only [Op.eqFields, n0, n1, n2, t0, t1, t2, o0, o1, o2]
  rw [if_pos (by decide), if_pos (by decide), if_pos (by decide)]
  have y0 := part_words _ 0 a0 w p0
  have z0 := part_words _ 0 b0 w q0
  have y1 := part_words _ 8 a1 w p1
  have z1 := part_words _ 8 b1 w q1
  have y2 := part_words _ 16 a2 w p2
  have z2 := part_words _ 16 b2 w q2
  clear p0 p1 p2 q0 q1 q2
  simp only [Sem.run_bind, y0, z0, Result.andThen_ok]
  rw [show (9999 : Nat) = 9997 + 1 + 1 from rfl, x0]
  simp only [Result.andThen_ok]
  by_cases c0 : a0 = b0
  · rw [decide_eq_true c0, if_neg (by decide)]
    simp only [Sem.run_bind, y1, z1, Result.andThen_ok]
    rw [x1]
    simp only [Result.andThen_ok]
    by_cases c1 : a1 = b1
    · rw [decide_eq_true c1, if_neg (by decide)]
      simp only [Sem.run_bind, y2, z2, Result.andThen_ok]
      rw [x2]
      simp only [Result.andThen_ok]
      by_cases c2 : a2 = b2
      · rw [decide_eq_true c2, if_neg (by decide), decide_eq_true ⟨c0, c1, c2⟩]; rfl
      · rw [decide_eq_false c2, if_pos (by decide), decide_eq_false (fun h => c2 h.2.2)]; rfl
    · rw [decide_eq_false c1, if_pos (by decide), decide_eq_false (fun h => c1 h.2.1)]; rfl
  · rw [decide_eq_false c0, if_pos (by decide), decide_eq_false (fun h => c0 h.1)]; rfl
/-- one text, one quote -/
theorem fmt_inj (a0 a1 a2 b0 b1 b2 : List UInt32) (h : fmtL a0 a1 a2 = fmtL b0 b1 b2) : a0 = b0 ∧ a1 = b1 ∧ a2 = b2 := by
  obtain ⟨_, q1, q2, q3⟩ := quote_lines ⟨(fmtL b0 b1 b2).toArray⟩ a0 a1 a2 h
  obtain ⟨_, r1, r2, r3⟩ := quote_lines ⟨(fmtL b0 b1 b2).toArray⟩ b0 b1 b2 rfl
  exact ⟨hexAll_inj _ _ (q1.symm.trans r1), hexAll_inj _ _ (q2.symm.trans r2), hexAll_inj _ _ (q3.symm.trans r3)⟩
theorem fmt_len (a0 a1 a2 : List UInt32) (l0 : a0.length = 8) (l1 : a1.length = 8) (l2 : a2.length = 8) : (fmtL a0 a1 a2).length = 224 :=
  fmtT_len _ _ _ (hexT_size a0 l0) (hexT_size a1 l1) (hexT_size a2 l2)
theorem noQuote_size (s : ByteArray) (h : s.size ≠ 224) : NoQuote s := fun a0 a1 a2 l0 l1 l2 e => h (by rw [← strL_length, ← e]; exact fmt_len a0 a1 a2 l0 l1 l2)
end Go.Proofs.YtemanjahkohcpaaDoor
