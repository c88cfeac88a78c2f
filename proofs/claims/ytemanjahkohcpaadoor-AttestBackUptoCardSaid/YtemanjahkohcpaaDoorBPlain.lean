/- Plain laws: a quote's text, cut at its ends and blanks. -/
import Derived.Test.YtemanjahkohcpaaDoorBEight
namespace Go.Proofs.YtemanjahkohcpaaDoor
open Go.RowKit WP
set_option maxRecDepth 100000
theorem split_lines (ls : List ByteArray) (h : ∀ s ∈ ls, (10 : UInt8) ∉ strL s) : Lib.splitK [10] 0 ls.length (linesL ls) = ls.map strL ++ [[]] := by
  induction ls with
  | nil => rfl
  | cons s ls ih =>
    have e : linesL (s :: ls) = strL s ++ 10 :: linesL ls := by simp [linesL]
    rw [e, List.length_cons, splitK_at 10 _ _ _ (h s (by simp)), ih (fun t ht => h t (by simp [ht]))]
    rfl
theorem count_lines (ls : List ByteArray) (h : ∀ s ∈ ls, (10 : UInt8) ∉ strL s) : (linesL ls).count 10 = ls.length := by
  induction ls with
  | nil => rfl
  | cons s ls ih =>
    have e : linesL (s :: ls) = strL s ++ 10 :: linesL ls := by simp [linesL]
    rw [e, List.count_append, List.count_cons_self, ih (fun t ht => h t (by simp [ht])), List.count_eq_zero_of_not_mem (h s (by simp)), List.length_cons]
    omega
theorem cut_at (a r : List UInt8) (h : (32 : UInt8) ∉ a) : (Lib.cut (a ++ 32 :: r) [32]).2.1 = r := by
  have hi := index_at 32 r a h
  unfold Lib.cut
  rw [hi, if_pos (by omega)]
  simp only [Int.toNat_natCast, List.length_singleton]
  rw [show a.length + 1 = (a ++ [32]).length by simp, show a ++ 32 :: r = (a ++ [32]) ++ r by simp, List.drop_left]
theorem hexB_ne (d : Nat) (h : d < 16) : hexB d ≠ 10 := by
  have : d = 0 ∨ d = 1 ∨ d = 2 ∨ d = 3 ∨ d = 4 ∨ d = 5 ∨ d = 6 ∨ d = 7 ∨ d = 8 ∨ d = 9 ∨ d = 10 ∨ d = 11 ∨ d = 12 ∨ d = 13 ∨ d = 14 ∨ d = 15 := by omega
  rcases this with rfl | rfl | rfl | rfl | rfl | rfl | rfl | rfl | rfl | rfl | rfl | rfl | rfl | rfl | rfl | rfl <;> decide
theorem hexAll_ne (l : List UInt32) : (10 : UInt8) ∉ hexAllL l := by
  intro h
  unfold hexAllL at h
  obtain ⟨x, _, hx⟩ := List.mem_flatMap.1 h
  unfold hexL at hx
  obtain ⟨i, _, hi⟩ := List.mem_map.1 hx
  exact hexB_ne _ (hexD_lt _ _) hi
theorem strL_append (a b : ByteArray) : strL (a ++ b) = strL a ++ strL b := by unfold strL; simp
theorem fmtT_ne (me da tg : List UInt32) : ∀ s ∈ fmtT (hexT me) (hexT da) (hexT tg), (10 : UInt8) ∉ strL s := by
  intro s hs
  simp only [fmtT, List.mem_cons, List.not_mem_nil, or_false] at hs
  rcases hs with rfl | rfl | rfl | rfl
  · decide
  · rw [strL_append, List.mem_append, not_or]; exact ⟨by decide, hexAll_ne me⟩
  · rw [strL_append, List.mem_append, not_or]; exact ⟨by decide, hexAll_ne da⟩
  · rw [strL_append, List.mem_append, not_or]; exact ⟨by decide, hexAll_ne tg⟩
/-- the digits of line j, as Parse finds them -/
def digitsOf (P : List ByteArray) (j : Nat) : List UInt8 := (Lib.cut ((P.map strL).getD j []) [32]).2.1
/-- what a quote's text gives -/
theorem quote_lines (s : ByteArray) (me da tg : List UInt32) (h : fmtL me da tg = strL s) :
    (linesOf s).length = 5 ∧ digitsOf (linesOf s) 1 = hexAllL me ∧ digitsOf (linesOf s) 2 = hexAllL da ∧ digitsOf (linesOf s) 3 = hexAllL tg := by
  have hne := fmtT_ne me da tg
  have hc : Lib.countB s ⟨#[10]⟩ = 4 := by
    show Lib.count (strL s) [10] = 4
    rw [Lib.count_one, ← h]
    exact count_lines _ hne
  have hm : (linesOf s).map strL = (fmtT (hexT me) (hexT da) (hexT tg)).map strL ++ [[]] := by
    have := Lib.splitB_data ⟨#[10]⟩ 0 (Lib.countB s ⟨#[10]⟩) s
    have e : (linesOf s).map strL = Lib.splitK [10] 0 (Lib.countB s ⟨#[10]⟩) (strL s) := this
    rw [e, hc, ← h]
    exact split_lines _ hne
  refine ⟨by rw [linesOf_len, hc], ?_, ?_, ?_⟩
  · unfold digitsOf; rw [hm]
    show (Lib.cut (strL _) [32]).2.1 = _
    rw [strL_append]
    exact cut_at [109, 101, 97, 115, 117, 114, 101, 109, 101, 110, 116] (hexAllL me) (by decide)
  · unfold digitsOf; rw [hm]
    show (Lib.cut (strL _) [32]).2.1 = _
    rw [strL_append]
    exact cut_at [100, 97, 116, 97] (hexAllL da) (by decide)
  · unfold digitsOf; rw [hm]
    show (Lib.cut (strL _) [32]).2.1 = _
    rw [strL_append]
    exact cut_at [116, 97, 103] (hexAllL tg) (by decide)
theorem hexAll_inj (a b : List UInt32) (h : hexAllL a = hexAllL b) : a = b := by
  have h1 := parseAll_hex a
  have h2 := parseAll_hex b
  rw [h] at h1
  exact h1.symm.trans h2
/-- no quote has this text -/
def NoQuote (s : ByteArray) : Prop := ∀ me da tg : List UInt32, me.length = 8 → da.length = 8 → tg.length = 8 → fmtL me da tg ≠ strL s
theorem noQuote_len (s : ByteArray) (h : (linesOf s).length ≠ 5) : NoQuote s := fun me da tg _ _ _ e => h (quote_lines s me da tg e).1
end Go.Proofs.YtemanjahkohcpaaDoor
