/- Plain laws: a policy's text reads back, through remarks and empty lines; a line behind other is refused. -/
import Derived.Test.YtemanjahkohcpaaDoorEPlaJn
namespace Go.Proofs.YtemanjahkohcpaaDoor
open Go.RowKit WP
theorem plain_of (b : List UInt8) (hn : b ≠ []) (h : ∀ x ∈ b, 48 ≤ x.toNat) : plainWd b = true := by
  unfold plainWd
  rw [Bool.and_eq_true]
  constructor
  · rw [decide_eq_true_eq]
    cases b with
    | nil => exact absurd rfl hn
    | cons x b =>
      have hx := h x (by simp)
      refine ⟨hn, ?_, ?_⟩
      · simp; rintro rfl; exact absurd hx (by decide)
      · simp; rintro rfl; exact absurd hx (by decide)
  · rw [List.all_eq_true]
    intro x hx
    have := h x hx
    have hb : blankI ((x.toNat : Nat) : Int) = false := by
      unfold blankI; rw [decide_eq_false_iff_not]; omega
    rw [hb]; rfl
theorem nameA_ge : ∀ (l : List UInt8) (i : Nat), nameA l i = true → ∀ x ∈ l, 48 ≤ x.toNat
  | [], _, _, x, hx => by cases hx
  | c :: l, i, h, x, hx => by
    unfold nameA at h
    rw [Bool.and_eq_true] at h
    rcases List.mem_cons.1 hx with rfl | hx
    · have h1 := h.1
      unfold nmOk at h1
      simp at h1; omega
    · exact nameA_ge l (i + 1) h.2 x hx
theorem plain_name (s : ByteArray) (h : nameF s = true) : plainWd (strL s) = true := by
  unfold nameF at h
  simp only [Bool.and_eq_true, decide_eq_true_eq] at h
  obtain ⟨⟨h1, _⟩, h3⟩ := h
  refine plain_of _ ?_ (nameA_ge _ 0 h3)
  intro e
  have := strL_length s
  rw [e] at this; simp at this; omega
theorem hexB_ge (d : Nat) (h : d < 16) : 48 ≤ (hexB d).toNat := by
  have : d = 0 ∨ d = 1 ∨ d = 2 ∨ d = 3 ∨ d = 4 ∨ d = 5 ∨ d = 6 ∨ d = 7 ∨ d = 8 ∨ d = 9 ∨ d = 10 ∨ d = 11 ∨ d = 12 ∨ d = 13 ∨ d = 14 ∨ d = 15 := by omega
  rcases this with rfl | rfl | rfl | rfl | rfl | rfl | rfl | rfl | rfl | rfl | rfl | rfl | rfl | rfl | rfl | rfl <;> decide
theorem hexAll_ge (l : List UInt32) : ∀ x ∈ hexAllL l, 48 ≤ x.toNat := by
  intro x h
  unfold hexAllL at h
  obtain ⟨y, _, hx⟩ := List.mem_flatMap.1 h
  unfold hexL at hx
  obtain ⟨i, _, rfl⟩ := List.mem_map.1 hx
  exact hexB_ge _ (hexD_lt _ _)
theorem plain_hex (l : List UInt32) (h8 : l.length = 8) : plainWd (hexAllL l) = true := by
  refine plain_of _ ?_ (hexAll_ge l)
  intro e
  have := length_hexAllL l
  rw [e, h8] at this; simp at this
theorem plain_verb (b : Bool) : plainWd (strL (verbB b)) = true := by cases b <;> decide
/-- a rule's line, other's line, as bytes -/
def rL (r : RuleD) : List UInt8 := joinW [strL (verbB r.allow), strL r.name, hexAllL r.me]
def oL (o : Bool) : List UInt8 := joinW [[111, 116, 104, 101, 114], strL (verbB o)]
theorem rL_eq (r : RuleD) : strL (ruleS r) = rL r := by
  unfold ruleS rL
  rw [strL_append, strL_append, strL_append, strL_append]
  simp only [joinW, List.append_assoc]
  rfl
theorem oL_eq (o : Bool) : strL (otherS o) = oL o := by
  unfold otherS oL
  rw [strL_append]; rfl
def cmt : List UInt8 := [32, 35, 32, 111, 116, 104, 101, 114, 32, 97, 108, 108, 111, 119]
theorem mk_strL (s : ByteArray) : (⟨(strL s).toArray⟩ : ByteArray) = s := by unfold strL; cases s; simp
/-- may the rule stand in a policy's text? -/
def RightR (r : RuleD) : Prop := nameF r.name = true ∧ r.me.length = 8
theorem rule_words (r : RuleD) (hr : RightR r) (tail : List UInt8) (ht : tail = [] ∨ ∃ c, tail = 32 :: 35 :: c) :
    wordsF ⟨(rL r ++ tail).toArray⟩ = .inl (colsW 0 [strL (verbB r.allow), strL r.name, hexAllL r.me]) :=
  words_joined _ tail ht (by simp) (by
    intro b hb
    simp only [List.mem_cons, List.not_mem_nil, or_false] at hb
    rcases hb with rfl | rfl | rfl
    · exact plain_verb _
    · exact plain_name _ hr.1
    · exact plain_hex _ hr.2)
theorem other_words (o : Bool) (tail : List UInt8) (ht : tail = [] ∨ ∃ c, tail = 32 :: 35 :: c) :
    wordsF ⟨(oL o ++ tail).toArray⟩ = .inl (colsW 0 [[111, 116, 104, 101, 114], strL (verbB o)]) :=
  words_joined _ tail ht (by simp) (by
    intro b hb
    simp only [List.mem_cons, List.not_mem_nil, or_false] at hb
    rcases hb with rfl | rfl
    · decide
    · exact plain_verb _)
theorem saysF_verb (b : Bool) : saysF (verbB b) = some b := by cases b <;> rfl
theorem rule_line (r : RuleD) (hr : RightR r) (rs : List RuleD) (o : Bool) (h : rs.length < 256) : lineF (colsW 0 [strL (verbB r.allow), strL r.name, hexAllL r.me]) rs o = some (false, rs ++ [r], o) := by
  have h1 : lineF (colsW 0 [strL (verbB r.allow), strL r.name, hexAllL r.me]) rs o = _ := lineF_three _ _ _ rs o rfl
  rw [h1]
  simp only
  rw [mk_strL, mk_strL, if_pos hr.1, saysF_verb, Option.bind_some, eightF_some _ r.me hr.2 (by unfold strL; simp), Option.bind_some, if_neg (by omega)]
theorem other_line (o : Bool) (rs : List RuleD) (o' : Bool) : lineF (colsW 0 [[111, 116, 104, 101, 114], strL (verbB o)]) rs o' = some (true, rs, o) := by
  have h1 : lineF (colsW 0 [[111, 116, 104, 101, 114], strL (verbB o)]) rs o' = _ := lineF_two _ _ rs o' rfl
  rw [h1]
  simp only
  rw [mk_strL, if_pos (show (⟨#[111, 116, 104, 101, 114]⟩ : ByteArray) = otherB from rfl), saysF_verb]; rfl
theorem polA_line (t : ByteArray) (ts : List ByteArray) (j : Nat) (acc rs' : List RuleD) (o o' l' : Bool) (y : W) (ws : List W) (h1 : wordsF t = .inl (y :: ws)) (h3 : lineF (y :: ws) acc o = some (l', rs', o')) :
    polA (t :: ts) j false acc o = polA ts (j + 1) l' rs' o' := by
  conv => lhs; unfold polA
  rw [h1]
  simp only [Bool.false_eq_true, if_false]
  rw [h3]
theorem polA_skip (t : ByteArray) (ts : List ByteArray) (j : Nat) (acc : List RuleD) (o l : Bool) (h1 : wordsF t = .inl []) : polA (t :: ts) j l acc o = polA ts (j + 1) l acc o := by
  conv => lhs; unfold polA
  rw [h1]
/-- what becomes of a line: a remark behind it, or a blank and an empty line, or nothing -/
def pickB (x : Int) : List UInt8 := if x = 0 then cmt else if x = 1 then [10, 9, 10] else []
def headV (x : Int) (l : List UInt8) : List (List UInt8) := if x = 0 then [l ++ cmt] else if x = 1 then [l, [9], []] else [l]
theorem bas_append (a b : List (List UInt8)) : bas (a ++ b) = bas a ++ bas b := by simp [bas]
theorem polA_head (l : List UInt8) (x : Int) (rest : List ByteArray) (j : Nat) (acc rs' : List RuleD) (o o' l' : Bool) (y : W) (ws : List W) (h1 : wordsF ⟨l.toArray⟩ = .inl (y :: ws)) (h2 : wordsF ⟨(l ++ cmt).toArray⟩ = .inl (y :: ws)) (h3 : lineF (y :: ws) acc o = some (l', rs', o')) :
    ∃ j', polA (bas (headV x l) ++ rest) j false acc o = polA rest j' l' rs' o' := by
  unfold headV
  split
  · exact ⟨j + 1, polA_line _ rest j acc rs' o o' l' y ws h2 h3⟩
  · split
    · refine ⟨j + 1 + 1 + 1, ?_⟩
      show polA (⟨l.toArray⟩ :: ⟨#[9]⟩ :: ⟨#[]⟩ :: rest) j false acc o = _
      rw [polA_line _ _ j acc rs' o o' l' y ws h1 h3, polA_skip _ _ _ _ _ _ words_tab, polA_skip _ _ _ _ _ _ words_nil]
    · exact ⟨j + 1, polA_line _ rest j acc rs' o o' l' y ws h1 h3⟩
def vary (sel : Nat → Int) : Nat → List (List UInt8) → List (List UInt8)
  | _, [] => []
  | i, l :: ls => headV (sel i) l ++ vary sel (i + 1) ls
theorem polA_vary (sel : Nat → Int) (o : Bool) : ∀ (rs : List RuleD) (i j : Nat) (acc : List RuleD) (o' : Bool), (∀ r ∈ rs, RightR r) → acc.length + rs.length ≤ 256 →
    polA (bas (vary sel i (rs.map rL ++ [oL o]))) j false acc o' = .inl (acc ++ rs, o)
  | [], i, j, acc, o', _, _ => by
    have e : vary sel i (([] : List RuleD).map rL ++ [oL o]) = headV (sel i) (oL o) ++ [] := by simp [vary]
    rw [e, bas_append]
    have w1 := other_words o [] (.inl rfl)
    rw [List.append_nil] at w1
    obtain ⟨j', h⟩ := polA_head (oL o) (sel i) (bas []) j acc acc o' o true _ _ w1 (other_words o cmt (.inr ⟨_, rfl⟩)) (other_line o acc o')
    rw [h]
    simp [bas, polA]
  | r :: rs, i, j, acc, o', hr, hl => by
    have e : vary sel i ((r :: rs).map rL ++ [oL o]) = headV (sel i) (rL r) ++ vary sel (i + 1) (rs.map rL ++ [oL o]) := by simp [vary]
    rw [e, bas_append]
    have w1 := rule_words r (hr r (by simp)) [] (.inl rfl)
    rw [List.append_nil] at w1
    simp only [List.length_cons] at hl
    obtain ⟨j', h⟩ := polA_head (rL r) (sel i) (bas (vary sel (i + 1) (rs.map rL ++ [oL o]))) j acc (acc ++ [r]) o' o' false _ _ w1 (rule_words r (hr r (by simp)) cmt (.inr ⟨_, rfl⟩)) (rule_line r (hr r (by simp)) acc o' (by omega))
    rw [h, polA_vary sel o rs (i + 1) j' (acc ++ [r]) o' (fun x hx => hr x (by simp [hx])) (by simp; omega)]
    simp
theorem polA_exact (o : Bool) (rest : List ByteArray) : ∀ (rs : List RuleD) (j : Nat) (acc : List RuleD) (o' : Bool), (∀ r ∈ rs, RightR r) → acc.length + rs.length ≤ 256 →
    polA (bas (rs.map rL ++ [oL o]) ++ rest) j false acc o' = polA rest (j + rs.length + 1) true (acc ++ rs) o
  | [], j, acc, o', _, _ => by
    have w1 := other_words o [] (.inl rfl)
    rw [List.append_nil] at w1
    have h := polA_line ⟨(oL o).toArray⟩ rest j acc acc o' o true _ _ w1 (other_line o acc o')
    simpa [bas] using h
  | r :: rs, j, acc, o', hr, hl => by
    have w1 := rule_words r (hr r (by simp)) [] (.inl rfl)
    rw [List.append_nil] at w1
    simp only [List.length_cons] at hl
    have h := polA_line ⟨(rL r).toArray⟩ (bas (rs.map rL ++ [oL o]) ++ rest) j acc (acc ++ [r]) o' o' false _ _ w1 (rule_line r (hr r (by simp)) acc o' (by omega))
    have e : bas ((r :: rs).map rL ++ [oL o]) ++ rest = ⟨(rL r).toArray⟩ :: (bas (rs.map rL ++ [oL o]) ++ rest) := by simp [bas]
    rw [e, h, polA_exact o rest rs (j + 1) (acc ++ [r]) o' (fun x hx => hr x (by simp [hx])) (by simp; omega)]
    simp only [List.length_cons, List.append_assoc, List.singleton_append]
    rw [show j + 1 + rs.length + 1 = j + (rs.length + 1) + 1 by omega]
/-- the text with its noise -/
def noiseT (sel : Nat → Int) : Nat → List (List UInt8) → List UInt8
  | _, [] => []
  | i, l :: ls => l ++ pickB (sel i) ++ 10 :: noiseT sel (i + 1) ls
theorem linesA_at (r a : List UInt8) : ∀ c, (10 : UInt8) ∉ a → linesA c (a ++ 10 :: r) = (c ++ a) :: linesA [] r := by
  induction a with
  | nil => intro c _; simp [linesA]
  | cons x a ih =>
    intro c h
    simp only [List.mem_cons, not_or] at h
    rw [List.cons_append, linesA, if_neg (fun e => h.1 e.symm), ih _ h.2]; simp
theorem linesA_noise (sel : Nat → Int) : ∀ (ls : List (List UInt8)) (i : Nat), (∀ l ∈ ls, (10 : UInt8) ∉ l) → linesA [] (noiseT sel i ls) = vary sel i ls
  | [], i, _ => by simp [noiseT, vary, linesA]
  | l :: ls, i, h => by
    have hl := h l (by simp)
    have ih := linesA_noise sel ls (i + 1) (fun x hx => h x (by simp [hx]))
    unfold noiseT vary pickB headV
    split
    · rw [linesA_at _ _ [] (by rw [List.mem_append, not_or]; exact ⟨hl, by decide⟩), ih]; simp
    · split
      · have e : l ++ [10, 9, 10] ++ 10 :: noiseT sel (i + 1) ls = l ++ 10 :: ([9] ++ 10 :: ([] ++ 10 :: noiseT sel (i + 1) ls)) := by simp
        rw [e, linesA_at _ _ [] hl, linesA_at _ _ [] (by decide), linesA_at _ _ [] (by simp), ih]; simp
      · rw [List.append_nil, linesA_at _ _ [] hl, ih]; simp
/-- one byte of the text into the noisy one: how many ends so far, what is written -/
def stepN (z : Nat → Int) (st : Nat × List UInt8) (c : UInt8) : Nat × List UInt8 := if c = 10 then (st.1 + 1, st.2 ++ pickB (z (st.1 + 1)) ++ [10]) else (st.1, st.2 ++ [c])
theorem stepN_pure (z : Nat → Int) : ∀ (l : List UInt8) (st : Nat × List UInt8), (10 : UInt8) ∉ l → l.foldl (stepN z) st = (st.1, st.2 ++ l)
  | [], st, _ => by simp
  | c :: l, st, h => by
    simp only [List.mem_cons, not_or] at h
    rw [List.foldl_cons, stepN_pure z l _ h.2]
    unfold stepN
    rw [if_neg (fun e => h.1 e.symm)]; simp
theorem stepN_lines (z : Nat → Int) : ∀ (ls : List (List UInt8)) (st : Nat × List UInt8), (∀ l ∈ ls, (10 : UInt8) ∉ l) →
    (ls.flatMap fun l => l ++ [10]).foldl (stepN z) st = (st.1 + ls.length, st.2 ++ noiseT (fun i => z (i + 1)) st.1 ls)
  | [], st, _ => by simp [noiseT]
  | l :: ls, st, h => by
    rw [List.flatMap_cons, List.foldl_append, List.foldl_append, stepN_pure z l st (h l (by simp)), List.foldl_cons, List.foldl_nil, stepN_lines z ls _ (fun x hx => h x (by simp [hx]))]
    unfold stepN
    simp only [if_true, List.length_cons, noiseT]
    refine Prod.ext (by simp; omega) (by simp)
theorem rL_no (r : RuleD) (hr : RightR r) : (10 : UInt8) ∉ rL r := by
  unfold rL
  simp only [joinW, List.mem_append, List.mem_cons, not_or]
  refine ⟨?_, by decide, ?_, by decide, hexAll_ne _⟩
  · cases r.allow <;> decide
  · intro h
    have hn := hr.1
    unfold nameF at hn
    simp only [Bool.and_eq_true, decide_eq_true_eq] at hn
    exact absurd (nameA_ge _ 0 hn.2 10 h) (by decide)
theorem oL_no (o : Bool) : (10 : UInt8) ∉ oL o := by cases o <;> decide
def polL (rs : List RuleD) (o : Bool) : List (List UInt8) := rs.map rL ++ [oL o]
theorem polL_no (rs : List RuleD) (o : Bool) (hr : ∀ r ∈ rs, RightR r) : ∀ l ∈ polL rs o, (10 : UInt8) ∉ l := by
  intro l hl
  rcases List.mem_append.1 hl with hl | hl
  · obtain ⟨r, h, rfl⟩ := List.mem_map.1 hl; exact rL_no r (hr r h)
  · simp only [List.mem_cons, List.not_mem_nil, or_false] at hl; subst hl; exact oL_no o
theorem linesL_pol (rs : List RuleD) (o : Bool) : linesL (polLines rs o) = (polL rs o).flatMap fun l => l ++ [10] := by
  have e : polL rs o = (polLines rs o).map strL := by
    unfold polL polLines
    rw [List.map_append, List.map_map, List.map_singleton, oL_eq]
    refine congrArg (· ++ [oL o]) (List.map_congr_left fun r _ => ?_)
    exact (rL_eq r).symm
  rw [e, List.flatMap_map]; rfl
theorem noiseT_none (ls : List (List UInt8)) (i : Nat) : noiseT (fun _ => 2) i ls = ls.flatMap fun l => l ++ [10] := by
  induction ls generalizing i with
  | nil => rfl
  | cons l ls ih => rw [noiseT, ih, List.flatMap_cons]; simp [pickB]
theorem vary_none (ls : List (List UInt8)) (i : Nat) : vary (fun _ => 2) i ls = ls := by
  induction ls generalizing i with
  | nil => rfl
  | cons l ls ih => rw [vary, ih]; simp [headV]
/-- the text reads back, through whatever noise -/
theorem parse_noise (sel : Nat → Int) (rs : List RuleD) (o : Bool) (hr : ∀ r ∈ rs, RightR r) (hl : rs.length ≤ 256) : parsePolF ⟨(noiseT sel 0 (polL rs o)).toArray⟩ = .inl (rs, o) := by
  unfold parsePolF linesF
  simp only
  rw [linesA_noise sel _ 0 (polL_no rs o hr)]
  have := polA_vary sel o rs 0 0 [] false hr (by simpa using hl)
  simpa [polL] using this
theorem parse_text (rs : List RuleD) (o : Bool) (hr : ∀ r ∈ rs, RightR r) (hl : rs.length ≤ 256) : parsePolF ⟨(linesL (polLines rs o)).toArray⟩ = .inl (rs, o) := by
  rw [linesL_pol, ← noiseT_none _ 0]; exact parse_noise _ rs o hr hl
def denyL : List UInt8 := [111, 116, 104, 101, 114, 32, 100, 101, 110, 121, 10]
theorem parse_more (rs : List RuleD) (o : Bool) (hr : ∀ r ∈ rs, RightR r) (hl : rs.length ≤ 256) : parsePolF ⟨(linesL (polLines rs o) ++ denyL).toArray⟩ = .inr (rs.length + 2) := by
  have e : linesL (polLines rs o) ++ denyL = noiseT (fun _ => 2) 0 (polL rs o ++ [oL false]) := by
    rw [noiseT_none, linesL_pol, List.flatMap_append]
    refine congrArg (((polL rs o).flatMap fun l => l ++ [10]) ++ ·) ?_
    decide
  have hno : ∀ l ∈ polL rs o ++ [oL false], (10 : UInt8) ∉ l := by
    intro l hl
    rcases List.mem_append.1 hl with hl | hl
    · exact polL_no rs o hr l hl
    · simp only [List.mem_cons, List.not_mem_nil, or_false] at hl; subst hl; exact oL_no false
  unfold parsePolF linesF
  rw [e]
  simp only
  rw [linesA_noise _ _ 0 hno, vary_none, bas_append]
  have h := polA_exact o (bas [oL false]) rs 0 [] false hr (by simpa using hl)
  unfold polL
  rw [h]
  have w1 := other_words false [] (.inl rfl)
  rw [List.append_nil] at w1
  show polA (⟨(oL false).toArray⟩ :: []) _ true _ _ = _
  unfold polA
  rw [w1]
  simp [colsW]
end Go.Proofs.YtemanjahkohcpaaDoor
