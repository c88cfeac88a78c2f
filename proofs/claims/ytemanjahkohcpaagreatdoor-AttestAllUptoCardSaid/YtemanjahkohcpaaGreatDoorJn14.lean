/- Plain laws: a quote's text, cut at its ends and blanks. The contract of attest's Parse. Quotes compared. Contracts of text's plain and blank. The library's strings.IndexByte at this program's numbers. (Printed by wip/sh/layplain.py, laymark.py.) -/
import Derived.Test.YtemanjahkohcpaaGreatDoorBEightJn
import Derived.Test.YtemanjahkohcpaaGreatDoorProg
import Derived.Test.YtemanjahkohcpaaGreatDoorBase
import Derived.Test.YtemanjahkohcpaaGreatDoorJn01
import Derived.Deep.DeepCutAuto
import Derived.Deep.CutBlock
import Derived.Deep.RegionHeld3
import Derived.StillTailTactics
import Derived.BigQuiet
import Derived.Shelf.Small.Strs
namespace Go.Proofs.YtemanjahkohcpaaGreatDoor
open Go.RowKit WP
set_option maxRecDepth 100000
theorem split_lines (ls : List ByteArray) (h : ∀ s ∈ ls, (10 : UInt8) ∉ strL s) : Lib.splitK [10] 0 ls.length (linesL ls) = ls.map strL ++ [[]] := by
  induction ls with
  | nil => rfl
  | cons s ls ih =>
    have e : linesL (s :: ls) = strL s ++ 10 :: linesL ls := by simp [linesL]
    rw [e, List.length_cons, splitK_at 10 _ _ _ (h s (by simp)), ih (fun t ht => h t (by simp [ht]))]
    rfl
theorem count_lines (ls : List ByteArray) (h : ∀ s ∈ ls, (10 : UInt8) ∉ strL s) : (linesL ls).count 10 = ls.length := by
  induction ls with
  | nil => rfl
  | cons s ls ih =>
    have e : linesL (s :: ls) = strL s ++ 10 :: linesL ls := by simp [linesL]
    rw [e, List.count_append, List.count_cons_self, ih (fun t ht => h t (by simp [ht])), List.count_eq_zero_of_not_mem (h s (by simp)), List.length_cons]
    omega
theorem cut_at (a r : List UInt8) (h : (32 : UInt8) ∉ a) : (Lib.cut (a ++ 32 :: r) [32]).2.1 = r := by
  have hi := index_at 32 r a h
  unfold Lib.cut
  rw [hi, if_pos (by omega)]
  simp only [Int.toNat_natCast, List.length_singleton]
  rw [show a.length + 1 = (a ++ [32]).length by simp, show a ++ 32 :: r = (a ++ [32]) ++ r by simp, List.drop_left]
theorem hexB_ne (d : Nat) (h : d < 16) : hexB d ≠ 10 := by
  have : d = 0 ∨ d = 1 ∨ d = 2 ∨ d = 3 ∨ d = 4 ∨ d = 5 ∨ d = 6 ∨ d = 7 ∨ d = 8 ∨ d = 9 ∨ d = 10 ∨ d = 11 ∨ d = 12 ∨ d = 13 ∨ d = 14 ∨ d = 15 := by omega
  rcases this with rfl | rfl | rfl | rfl | rfl | rfl | rfl | rfl | rfl | rfl | rfl | rfl | rfl | rfl | rfl | rfl <;> decide
theorem hexAll_ne (l : List UInt32) : (10 : UInt8) ∉ hexAllL l := by
  intro h
  unfold hexAllL at h
  obtain ⟨x, _, hx⟩ := List.mem_flatMap.1 h
  unfold hexL at hx
  obtain ⟨i, _, hi⟩ := List.mem_map.1 hx
  exact hexB_ne _ (hexD_lt _ _) hi
theorem strL_append (a b : ByteArray) : strL (a ++ b) = strL a ++ strL b := by unfold strL; simp
theorem fmtT_ne (me da tg : List UInt32) : ∀ s ∈ fmtT (hexT me) (hexT da) (hexT tg), (10 : UInt8) ∉ strL s := by
  intro s hs
  simp only [fmtT, List.mem_cons, List.not_mem_nil, or_false] at hs
  rcases hs with rfl | rfl | rfl | rfl
  · decide
  · rw [strL_append, List.mem_append, not_or]; exact ⟨by decide, hexAll_ne me⟩
  · rw [strL_append, List.mem_append, not_or]; exact ⟨by decide, hexAll_ne da⟩
  · rw [strL_append, List.mem_append, not_or]; exact ⟨by decide, hexAll_ne tg⟩
/-- the digits of line j, as Parse finds them -/
def digitsOf (P : List ByteArray) (j : Nat) : List UInt8 := (Lib.cut ((P.map strL).getD j []) [32]).2.1
/-- what a quote's text gives -/
theorem quote_lines (s : ByteArray) (me da tg : List UInt32) (h : fmtL me da tg = strL s) :
    (linesOf s).length = 5 ∧ digitsOf (linesOf s) 1 = hexAllL me ∧ digitsOf (linesOf s) 2 = hexAllL da ∧ digitsOf (linesOf s) 3 = hexAllL tg := by
  have hne := fmtT_ne me da tg
  have hc : Lib.countB s ⟨#[10]⟩ = 4 := by
    show Lib.count (strL s) [10] = 4
    rw [Lib.count_one, ← h]
    exact count_lines _ hne
  have hm : (linesOf s).map strL = (fmtT (hexT me) (hexT da) (hexT tg)).map strL ++ [[]] := by
    have := Lib.splitB_data ⟨#[10]⟩ 0 (Lib.countB s ⟨#[10]⟩) s
    have e : (linesOf s).map strL = Lib.splitK [10] 0 (Lib.countB s ⟨#[10]⟩) (strL s) := this
    rw [e, hc, ← h]
    exact split_lines _ hne
  refine ⟨by rw [linesOf_len, hc], ?_, ?_, ?_⟩
  · unfold digitsOf; rw [hm]
    show (Lib.cut (strL _) [32]).2.1 = _
    rw [strL_append]
    exact cut_at [109, 101, 97, 115, 117, 114, 101, 109, 101, 110, 116] (hexAllL me) (by decide)
  · unfold digitsOf; rw [hm]
    show (Lib.cut (strL _) [32]).2.1 = _
    rw [strL_append]
    exact cut_at [100, 97, 116, 97] (hexAllL da) (by decide)
  · unfold digitsOf; rw [hm]
    show (Lib.cut (strL _) [32]).2.1 = _
    rw [strL_append]
    exact cut_at [116, 97, 103] (hexAllL tg) (by decide)
theorem hexAll_inj (a b : List UInt32) (h : hexAllL a = hexAllL b) : a = b := by
  have h1 := parseAll_hex a
  have h2 := parseAll_hex b
  rw [h] at h1
  exact h1.symm.trans h2
/-- no quote has this text -/
def NoQuote (s : ByteArray) : Prop := ∀ me da tg : List UInt32, me.length = 8 → da.length = 8 → tg.length = 8 → fmtL me da tg ≠ strL s
theorem noQuote_len (s : ByteArray) (h : (linesOf s).length ≠ 5) : NoQuote s := fun me da tg _ _ _ e => h (quote_lines s me da tg e).1
end Go.Proofs.YtemanjahkohcpaaGreatDoor

namespace Go.Proofs.YtemanjahkohcpaaGreatDoor
open Go.RowKit WP
set_option maxRecDepth 100000
def zero24 : List Value := [.int .u32 0, .int .u32 0, .int .u32 0, .int .u32 0, .int .u32 0, .int .u32 0, .int .u32 0, .int .u32 0, .int .u32 0, .int .u32 0, .int .u32 0, .int .u32 0, .int .u32 0, .int .u32 0, .int .u32 0, .int .u32 0, .int .u32 0, .int .u32 0, .int .u32 0, .int .u32 0, .int .u32 0, .int .u32 0, .int .u32 0, .int .u32 0]
theorem zero24_one : ∀ u ∈ zero24, u.oneCell' = true := by decide
theorem zero24_vw : zero24 = vw (List.replicate 8 0) ++ vw (List.replicate 8 0) ++ vw (List.replicate 8 0) := by rfl
theorem World.grownBy_drewN' (w : World) (n : Nat) : w.grownBy (w.drewN n) none := ⟨rfl, rfl, rfl, Nat.le_refl _, fun _ _ _ => rfl⟩
theorem cut_len (l : List UInt8) : ((Lib.cut l [32]).2.1).length ≤ l.length := by
  unfold Lib.cut
  split
  · simp
  · simp
theorem splitK_len (c : List UInt8) : ∀ (k : Nat) (l x : List UInt8), x ∈ Lib.splitK c 0 k l → x.length ≤ l.length
  | 0, l, x, h => by
    have h' : x ∈ [l] := h
    simp at h'; rw [h']; exact Nat.le_refl _
  | k + 1, l, x, h => by
    have h' : x ∈ (if Lib.index l c == -1 then [l] else l.take ((Lib.index l c).toNat + 0) :: Lib.splitK c 0 k (l.drop ((Lib.index l c).toNat + c.length))) := h
    split at h'
    · simp at h'; rw [h']; exact Nat.le_refl _
    · rcases List.mem_cons.1 h' with rfl | h'
      · rw [List.length_take]; omega
      · have := splitK_len c k _ _ h'
        rw [List.length_drop] at this
        omega
theorem line_size (s t : ByteArray) (h : t ∈ linesOf s) : t.size ≤ s.size := by
  have hm : (linesOf s).map strL = Lib.splitK [10] 0 (Lib.countB s ⟨#[10]⟩) (strL s) := Lib.splitB_data ⟨#[10]⟩ 0 (Lib.countB s ⟨#[10]⟩) s
  have : strL t ∈ (linesOf s).map strL := List.mem_map.2 ⟨t, h, rfl⟩
  rw [hm] at this
  have := splitK_len _ _ _ _ this
  rwa [strL_length, strL_length] at this
theorem five (l : List ByteArray) (h : l.length = 5) : ∃ a b c d e, l = [a, b, c, d, e] := by
  match l, h with
  | [a, b, c, d, e], _ => exact ⟨a, b, c, d, e, rfl⟩
end Go.Proofs.YtemanjahkohcpaaGreatDoor

namespace Go.Proofs.YtemanjahkohcpaaGreatDoor
open Go.RowKit WP
set_option maxRecDepth 100000
theorem eqItems_wordsD (d : Nat) (a b : List UInt32) (w : World) : ∀ is : List Nat, (∀ i ∈ is, i < a.length ∧ i < b.length) →
    (Op.eqItems (d + 1) 25 (Tryz.prog.cellsOf 25) (vw a).toArray (vw b).toArray is).run Tryz.prog w = .ok (decide (∀ i ∈ is, wAt a i = wAt b i)) w
  | [], _ => by simp [Op.eqItems]
  | i :: is, h => by
    obtain ⟨ha, hb⟩ := h i (by simp)
    have ih := eqItems_wordsD d a b w is (fun j hj => h j (by simp [hj]))
    have p1 := run_part_plain (P := Tryz.prog) w plainW (vw_getD a i ha)
    have p2 := run_part_plain (P := Tryz.prog) w plainW (vw_getD b i hb)
    have p3 := run_equalIn_int (P := Tryz.prog) w d 25 .u32 .u32 (wAt a i) (wAt b i) Tryz.underlying25
    simp only [Op.eqItems, Sem.run_bind]
    rw [cellsW, Nat.mul_one, p1]
    simp only [Result.andThen_ok]
    rw [p2]
    simp only [Result.andThen_ok]
    rw [p3]
    simp only [Result.andThen_ok]
    by_cases he : wAt a i = wAt b i
    · rw [if_neg (by simp [he])]
      rw [cellsW] at ih
      rw [ih]
      simp [he]
    · rw [if_pos (by simp [he])]
      simp [he]
theorem eq_wordsD (d : Nat) (a b : List UInt32) (w : World) (la : a.length = 8) (lb : b.length = 8) :
    (Op.equalIn (d + 1 + 1) 26 (.agg (vw a).toArray) (.agg (vw b).toArray)).run Tryz.prog w = .ok (decide (a = b)) w := by
  obtain ⟨i, hi, _⟩ := info_parts info22
  rw [run_equalIn_array (P := Tryz.prog) w (d + 1) _ _ Tryz.underlying26 hi, eqItems_wordsD d a b w _ (fun i hi => by simp at hi; omega)]
  refine congrArg (fun c => Result.ok c w) (decide_eq_decide.2 ?_)
  constructor
  · intro h
    apply List.ext_getElem (by omega)
    intro i h1 h2
    exact (wAt_inj a b i h1 h2).1 (h i (by simp; omega))
  · rintro rfl i _; rfl
theorem part_words (cs : List Value) (off : Nat) (l : List UInt32) (w : World) (h : (cs.drop off).take 8 = vw l) : (part 26 cs.toArray off).run Tryz.prog w = .ok (.agg (vw l).toArray) w := by
  have h1 := Tryz.isAgg26 w
  have h2 := Tryz.sizeOf26 w
  unfold part
  simp only [Sem.run_bind, h1, Result.andThen_ok, if_true, h2, Sem.run_pure]
  rw [List.extract_toArray, List.extract_eq_take_drop, Nat.add_sub_cancel_left, h]
theorem fields38 : (Tryz.prog.fieldsOf 28).toList.map (fun f => (f.name, f.type, f.offset)) = [("Measurement", 26, 0), ("Data", 26, 8), ("Tag", 26, 16)] := by kernel_rfl
theorem struct38 : Tryz.prog.underlying 28 = some (.struct (Tryz.prog.fieldsOf 28)) := by kernel_rfl
theorem stood38 : Tryz.prog.stoodInHeld 28 = false := by kernel_rfl
theorem three_of {α β : Type} {f : α → β} {l : List α} {x y z : β} (h : l.map f = [x, y, z]) : ∃ a b c, l = [a, b, c] ∧ f a = x ∧ f b = y ∧ f c = z := by
  match l, h with
  | [a, b, c], h => simp at h; exact ⟨a, b, c, rfl, h.1, h.2.1, h.2.2⟩
theorem quoteParts (a0 a1 a2 : List UInt32) (l0 : a0.length = 8) (l1 : a1.length = 8) (l2 : a2.length = 8) :
    ((vw a0 ++ vw a1 ++ vw a2).drop 0).take 8 = vw a0 ∧ ((vw a0 ++ vw a1 ++ vw a2).drop 8).take 8 = vw a1 ∧ ((vw a0 ++ vw a1 ++ vw a2).drop 16).take 8 = vw a2 := by
  have e0 : (vw a0).length = 8 := by simp [l0]
  have e1 : (vw a1).length = 8 := by simp [l1]
  have e2 : (vw a2).length = 8 := by simp [l2]
  have e01 : (vw a0 ++ vw a1).length = 16 := by rw [List.length_append, e0, e1]
  refine ⟨?_, ?_, ?_⟩
  · rw [List.drop_zero, List.append_assoc, List.take_left' e0]
  · rw [List.append_assoc, List.drop_left' e0, List.take_left' e1]
  · rw [List.drop_left' e01, List.take_of_length_le (by omega)]
theorem eq_quote (a0 a1 a2 b0 b1 b2 : List UInt32) (w : World) (l0 : a0.length = 8) (l1 : a1.length = 8) (l2 : a2.length = 8) (m0 : b0.length = 8) (m1 : b1.length = 8) (m2 : b2.length = 8) :
    (Op.equalIn 10000 28 (.agg (vw a0 ++ vw a1 ++ vw a2).toArray) (.agg (vw b0 ++ vw b1 ++ vw b2).toArray)).run Tryz.prog w = .ok (decide (a0 = b0 ∧ a1 = b1 ∧ a2 = b2)) w := by
  obtain ⟨f0, f1, f2, hf, h0, h1, h2⟩ := three_of fields38
  simp only [Prod.mk.injEq] at h0 h1 h2
  obtain ⟨n0, t0, o0⟩ := h0
  obtain ⟨n1, t1, o1⟩ := h1
  obtain ⟨n2, t2, o2⟩ := h2
  obtain ⟨p0, p1, p2⟩ := quoteParts a0 a1 a2 l0 l1 l2
  obtain ⟨q0, q1, q2⟩ := quoteParts b0 b1 b2 m0 m1 m2
  rw [show (10000 : Nat) = 9999 + 1 from rfl, run_equalIn_struct w 9999 _ _ _ struct38 stood38, hf]
  have x0 := eq_wordsD 9997 a0 b0 w l0 m0
  have x1 := eq_wordsD 9997 a1 b1 w l1 m1
  have x2 := eq_wordsD 9997 a2 b2 w l2 m2
  simp only [Op.eqFields, n0, n1, n2, t0, t1, t2, o0, o1, o2]
  rw [if_pos (by decide), if_pos (by decide), if_pos (by decide)]
  have y0 := part_words _ 0 a0 w p0
  have z0 := part_words _ 0 b0 w q0
  have y1 := part_words _ 8 a1 w p1
  have z1 := part_words _ 8 b1 w q1
  have y2 := part_words _ 16 a2 w p2
  have z2 := part_words _ 16 b2 w q2
  clear p0 p1 p2 q0 q1 q2
  simp only [Sem.run_bind, y0, z0, Result.andThen_ok]
  rw [show (9999 : Nat) = 9997 + 1 + 1 from rfl, x0]
  simp only [Result.andThen_ok]
  by_cases c0 : a0 = b0
  · rw [decide_eq_true c0, if_neg (by decide)]
    simp only [Sem.run_bind, y1, z1, Result.andThen_ok]
    rw [x1]
    simp only [Result.andThen_ok]
    by_cases c1 : a1 = b1
    · rw [decide_eq_true c1, if_neg (by decide)]
      simp only [Sem.run_bind, y2, z2, Result.andThen_ok]
      rw [x2]
      simp only [Result.andThen_ok]
      by_cases c2 : a2 = b2
      · rw [decide_eq_true c2, if_neg (by decide), decide_eq_true ⟨c0, c1, c2⟩]; rfl
      · rw [decide_eq_false c2, if_pos (by decide), decide_eq_false (fun h => c2 h.2.2)]; rfl
    · rw [decide_eq_false c1, if_pos (by decide), decide_eq_false (fun h => c1 h.2.1)]; rfl
  · rw [decide_eq_false c0, if_pos (by decide), decide_eq_false (fun h => c0 h.1)]; rfl
/-- one text, one quote -/
theorem fmt_inj (a0 a1 a2 b0 b1 b2 : List UInt32) (h : fmtL a0 a1 a2 = fmtL b0 b1 b2) : a0 = b0 ∧ a1 = b1 ∧ a2 = b2 := by
  obtain ⟨_, q1, q2, q3⟩ := quote_lines ⟨(fmtL b0 b1 b2).toArray⟩ a0 a1 a2 h
  obtain ⟨_, r1, r2, r3⟩ := quote_lines ⟨(fmtL b0 b1 b2).toArray⟩ b0 b1 b2 rfl
  exact ⟨hexAll_inj _ _ (q1.symm.trans r1), hexAll_inj _ _ (q2.symm.trans r2), hexAll_inj _ _ (q3.symm.trans r3)⟩
theorem fmt_len (a0 a1 a2 : List UInt32) (l0 : a0.length = 8) (l1 : a1.length = 8) (l2 : a2.length = 8) : (fmtL a0 a1 a2).length = 224 :=
  fmtT_len _ _ _ (hexT_size a0 l0) (hexT_size a1 l1) (hexT_size a2 l2)
theorem noQuote_size (s : ByteArray) (h : s.size ≠ 224) : NoQuote s := fun a0 a1 a2 l0 l1 l2 e => h (by rw [← strL_length, ← e]; exact fmt_len a0 a1 a2 l0 l1 l2)
end Go.Proofs.YtemanjahkohcpaaGreatDoor

namespace Go.Proofs.YtemanjahkohcpaaGreatDoor
open Go.RowKit WP
/-- may the byte stand in a quoted form as it is? -/
def plainI (x : Int) : Bool := decide (32 ≤ x ∧ x ≤ 126 ∧ x ≠ 34 ∧ x ≠ 92)
def blankI (x : Int) : Bool := decide (x = 32 ∨ x = 9)
theorem plain_any (x : Int) (w : World) : Calls Tryz.prog 47 #[.int .u8 x] w fun e w' => e = .returned (.bool (plainI x)) ∧ w' = w := by
  by_cases h1 : 32 ≤ x
  · have d1 : decide (x ≥ 32) = true := decide_eq_true h1
    by_cases h2 : x ≤ 126
    · have d2 : decide (x ≤ 126) = true := decide_eq_true h2
      by_cases h3 : x = 34
      · subst h3
        have hp : plainI 34 = false := rfl
        rw [hp]
        go_enter Tryz.func47, Tryz.ntmps47
        go_wp2_with fail
        go_ret
        exact ⟨rfl, rfl⟩
      · have d3 : (x != 34) = true := by simp [h3]
        by_cases h4 : x = 92
        · subst h4
          have hp : plainI 92 = false := rfl
          rw [hp]
          go_enter Tryz.func47, Tryz.ntmps47
          go_wp2_with fail
          go_ret
          exact ⟨rfl, rfl⟩
        · have d4 : (x != 92) = true := by simp [h4]
          have hp : plainI x = true := decide_eq_true ⟨h1, h2, h3, h4⟩
          rw [hp]
          clear hp h1 h2 h3 h4
          go_enter Tryz.func47, Tryz.ntmps47
          go_wp2_with fail
          go_ret
          exact ⟨rfl, rfl⟩
    · have d2 : decide (x ≤ 126) = false := decide_eq_false h2
      have hp : plainI x = false := decide_eq_false (fun h => h2 h.2.1)
      rw [hp]
      clear hp h1 h2
      go_enter Tryz.func47, Tryz.ntmps47
      go_wp2_with fail
      go_ret
      exact ⟨rfl, rfl⟩
  · have d1 : decide (x ≥ 32) = false := decide_eq_false h1
    have hp : plainI x = false := decide_eq_false (fun h => h1 h.1)
    rw [hp]
    clear hp h1
    go_enter Tryz.func47, Tryz.ntmps47
    go_wp2_with fail
    go_ret
    exact ⟨rfl, rfl⟩
theorem blank_any (x : Int) (w : World) : Calls Tryz.prog 25 #[.int .u8 x] w fun e w' => e = .returned (.bool (blankI x)) ∧ w' = w := by
  by_cases h1 : x = 32
  · subst h1
    go_enter Tryz.func25, Tryz.ntmps25
    go_wp2_with fail
    go_ret
    exact ⟨rfl, rfl⟩
  · have d1 : (x == 32) = false := by simp [h1]
    by_cases h2 : x = 9
    · subst h2
      go_enter Tryz.func25, Tryz.ntmps25
      go_wp2_with fail
      go_ret
      exact ⟨rfl, rfl⟩
    · have d2 : (x == 9) = false := by simp [h2]
      have hp : blankI x = false := decide_eq_false (fun h => h.elim h1 h2)
      rw [hp]
      clear hp h1 h2
      go_enter Tryz.func25, Tryz.ntmps25
      go_wp2_with fail
      go_ret
      exact ⟨rfl, rfl⟩
end Go.Proofs.YtemanjahkohcpaaGreatDoor

namespace Go.Proofs
open Go.Shelf
def YtemanjahkohcpaaGreatDoor.laysIB_ren : Go.Shelf.Ren := ⟨fun | 137 => 67 | 217 => 84 | 266 => 96 | n => n, fun | 9 => 9 | 5 => 5 | 3 => 3 | n => n, fun | n => n⟩
theorem YtemanjahkohcpaaGreatDoor.laysIB : Go.Proofs.Lays.n137 Tryz.prog YtemanjahkohcpaaGreatDoor.laysIB_ren := {
  mixed := by kernel_rfl
  f137 := Tryz.func67.trans (congrArg some (by kernel_rfl))
  f217 := Tryz.func84.trans (congrArg some (by kernel_rfl))
  f266 := Tryz.func96.trans (congrArg some (by kernel_rfl))
  t3 := Tryz.underlying3
  a3 := Tryz.isAgg3
  z3 := Tryz.sizeOf3
  v3 := Tryz.zeroValue3
  t5 := Tryz.underlying5
  a5 := Tryz.isAgg5
  z5 := Tryz.sizeOf5
  v5 := Tryz.zeroValue5
  t9 := Tryz.underlying9
  a9 := Tryz.isAgg9
  z9 := Tryz.sizeOf9
  v9 := Tryz.zeroValue9 }
end Go.Proofs
