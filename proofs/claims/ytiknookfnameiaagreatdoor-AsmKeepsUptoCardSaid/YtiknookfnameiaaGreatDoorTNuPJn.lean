/- Numbers as texts, as plain lists: tens, hex, with a sign: there and back, one form each. No program in sight. -/
import Derived.Test.YtiknookfnameiaaGreatDoorJn08
import Derived.Lib.ItoaNum
import Derived.Lib.ParseIntB
import Derived.Lib.Strings
import Derived.Lib.SlTrimSet
namespace Go.Proofs.YtiknookfnameiaaGreatDoor
open WP
def isDg (c : UInt8) : Bool := decide (48 ≤ c.toNat ∧ c.toNat ≤ 57)
/-- digits, the first not 0 unless it is the only one -/
def tensB (l : List UInt8) : Bool := !l.isEmpty && !(decide (1 < l.length) && l.getD 0 0 == 48) && l.all isDg
def valFrom (a : Nat) (l : List UInt8) : Nat := l.foldl (fun a c => a * 10 + (c.toNat - 48)) a
theorem valFrom_ge (l : List UInt8) : ∀ a, a ≤ valFrom a l := by
  induction l with
  | nil => intro a; exact Nat.le_refl _
  | cons c l ih => intro a; have := ih (a * 10 + (c.toNat - 48)); unfold valFrom at *; rw [List.foldl_cons]; omega
theorem parseM_dig (l : List UInt8) (h : l.all isDg = true) : ∀ a, a ≤ 4294967295 → Lib.parseUintM 4294967295 a l = if valFrom a l ≤ 4294967295 then .ok (valFrom a l) else .range := by
  induction l with
  | nil => intro a ha; show Lib.NumEnd.ok a = _; rw [if_pos (show valFrom a [] ≤ _ from ha)]; rfl
  | cons c l ih =>
    intro a ha
    rw [List.all_cons, Bool.and_eq_true] at h
    have hc : 48 ≤ c.toNat ∧ c.toNat ≤ 57 := of_decide_eq_true h.1
    have hv : valFrom a (c :: l) = valFrom (a * 10 + (c.toNat - 48)) l := rfl
    unfold Lib.parseUintM
    rw [if_pos hc, if_neg (by omega)]
    by_cases ho : 4294967295 < a * 10 + (c.toNat - 48)
    · rw [if_pos ho, hv]
      have := valFrom_ge l (a * 10 + (c.toNat - 48))
      rw [if_neg (by omega)]
    · rw [if_neg ho, hv, ih h.2 _ (by omega)]
theorem dec_dig (u : Nat) : (Lib.decDigits u).all isDg = true := by
  induction u using Nat.strongRecOn with
  | _ u ih =>
    rw [Lib.decDigits]
    split
    · rename_i h
      simp only [List.all_cons, List.all_nil, Bool.and_true]
      exact decide_eq_true (by rw [UInt8.toNat_ofNat_of_lt' (by show _ < 256; omega)]; omega)
    · rename_i h
      rw [List.all_append, ih (u / 10) (by omega)]
      simp only [List.all_cons, List.all_nil, Bool.and_true, Bool.true_and]
      exact decide_eq_true (by rw [UInt8.toNat_ofNat_of_lt' (by show _ < 256; omega)]; omega)
theorem valFrom_app (a : Nat) (l r : List UInt8) : valFrom a (l ++ r) = valFrom (valFrom a l) r := by unfold valFrom; rw [List.foldl_append]
theorem dec_val (u : Nat) : valFrom 0 (Lib.decDigits u) = u := by
  induction u using Nat.strongRecOn with
  | _ u ih =>
    rw [Lib.decDigits]
    split
    · rename_i h
      show 0 * 10 + ((UInt8.ofNat (48 + u)).toNat - 48) = u
      rw [UInt8.toNat_ofNat_of_lt' (by show _ < 256; omega)]; omega
    · rename_i h
      rw [valFrom_app, ih (u / 10) (by omega)]
      show u / 10 * 10 + ((UInt8.ofNat (48 + u % 10)).toNat - 48) = u
      rw [UInt8.toNat_ofNat_of_lt' (by show _ < 256; omega)]; omega
theorem dec_ne (u : Nat) : Lib.decDigits u ≠ [] := by
  intro h
  have := Lib.decDigits_length u
  rw [h] at this
  have := Lib.nDigits_pos u
  simp at *
  omega
/-- the first digit is no 0, unless it is the only one -/
theorem dec_head (u : Nat) (h : 1 < (Lib.decDigits u).length) : (Lib.decDigits u).getD 0 0 ≠ 48 := by
  induction u using Nat.strongRecOn with
  | _ u ih =>
    rw [Lib.decDigits] at h ⊢
    split
    · rename_i hu
      rw [dif_pos hu] at h
      simp at h
    · rename_i hu
      have hne := dec_ne (u / 10)
      have e : (Lib.decDigits (u / 10) ++ [UInt8.ofNat (48 + u % 10)]).getD 0 0 = (Lib.decDigits (u / 10)).getD 0 0 := by
        rw [List.getD_eq_getElem?_getD, List.getD_eq_getElem?_getD, List.getElem?_append_left (List.length_pos_iff.2 hne)]
      rw [e]
      by_cases h1 : 1 < (Lib.decDigits (u / 10)).length
      · exact ih (u / 10) (by omega) h1
      · have hl : (Lib.decDigits (u / 10)).length = 1 := by have := List.length_pos_iff.2 hne; omega
        have hs : u / 10 < 10 := by
          rw [Lib.decDigits_length] at hl
          by_cases hb : u / 10 < 10
          · exact hb
          · rw [Lib.nDigits_big hb] at hl
            have := Lib.nDigits_pos (u / 10 / 10)
            omega
        rw [Lib.decDigits_one hs]
        intro hc
        have h2 : (UInt8.ofNat (48 + u / 10)).toNat = (48 : UInt8).toNat := congrArg UInt8.toNat hc
        rw [UInt8.toNat_ofNat_of_lt' (by show _ < 256; omega)] at h2
        have h3 : (48 : UInt8).toNat = 48 := rfl
        omega
theorem tens_dec (u : Nat) : tensB (Lib.decDigits u) = true := by
  unfold tensB
  rw [dec_dig, Bool.and_true]
  have h1 : (Lib.decDigits u).isEmpty = false := by
    cases h : Lib.decDigits u with
    | nil => exact absurd h (dec_ne u)
    | cons _ _ => rfl
  rw [h1]
  by_cases h2 : 1 < (Lib.decDigits u).length
  · have := dec_head u h2
    simp [h2]
    simpa using this
  · simp [h2]
/-- a list of digits with no 0 ahead is its number's text -/
theorem dec_back : ∀ (n : Nat) (l : List UInt8), l.length = n → tensB l = true → Lib.decDigits (valFrom 0 l) = l := by
  intro n
  induction n with
  | zero => intro l hl h; have : l = [] := List.eq_nil_of_length_eq_zero hl; subst this; simp [tensB] at h
  | succ n ih =>
    intro l hl h
    have hne : l ≠ [] := by intro e; rw [e] at hl; simp at hl
    obtain ⟨m, c, rfl⟩ : ∃ m c, l = m ++ [c] := ⟨l.dropLast, l.getLast hne, (List.dropLast_concat_getLast hne).symm⟩
    have hml : m.length = n := by simpa using hl
    unfold tensB at h
    simp only [Bool.and_eq_true, List.all_append, List.all_cons, List.all_nil, Bool.and_true] at h
    obtain ⟨⟨_, h2⟩, h3, h4⟩ := h
    have hc : 48 ≤ c.toNat ∧ c.toNat ≤ 57 := of_decide_eq_true h4
    have hcd : ∀ k : Nat, k = c.toNat → UInt8.ofNat k = c := fun k hk => by rw [hk]; exact UInt8.ofNat_toNat
    rw [valFrom_app]
    show Lib.decDigits (valFrom 0 m * 10 + (c.toNat - 48)) = _
    by_cases hm : m = []
    · subst hm
      show Lib.decDigits (0 * 10 + (c.toNat - 48)) = [c]
      rw [Lib.decDigits_one (by omega), hcd _ (by omega)]
    · have hmp := List.length_pos_iff.2 hm
      have hg : m.getD 0 0 ≠ 48 := by
        have e : (m ++ [c]).getD 0 0 = m.getD 0 0 := by
          rw [List.getD_eq_getElem?_getD, List.getD_eq_getElem?_getD, List.getElem?_append_left hmp]
        intro hx
        rw [e, hx, decide_eq_true (show 1 < (m ++ [c]).length by simp; omega)] at h2
        simp at h2
      have htm : tensB m = true := by
        unfold tensB
        rw [h3, Bool.and_true]
        have h5 : m.isEmpty = false := by cases m with | nil => exact absurd rfl hm | cons _ _ => rfl
        have h6 : (m.getD 0 0 == (48 : UInt8)) = false := by simpa using hg
        rw [h5, h6]; simp
      have hv := ih m hml htm
      have hpos : 1 ≤ valFrom 0 m := by
        cases m with
        | nil => exact absurd rfl hm
        | cons d r =>
          have hd : 48 ≤ d.toNat ∧ d.toNat ≤ 57 := by
            rw [List.all_cons, Bool.and_eq_true] at h3
            exact of_decide_eq_true h3.1
          have hd2 : d.toNat ≠ 48 := fun e => hg (by show d = 48; exact UInt8.toNat.inj e)
          have := valFrom_ge r (0 * 10 + (d.toNat - 48))
          show 1 ≤ valFrom (0 * 10 + (d.toNat - 48)) r
          omega
      rw [Lib.decDigits, dif_neg (by omega), show (valFrom 0 m * 10 + (c.toNat - 48)) / 10 = valFrom 0 m by omega, hv, hcd _ (by omega)]
theorem parse_tens (l : List UInt8) (h : tensB l = true) : Lib.parseUintB 32 l = if valFrom 0 l ≤ 4294967295 then .ok (valFrom 0 l) else .range := by
  unfold Lib.parseUintB
  have h2 := h
  unfold tensB at h2
  simp only [Bool.and_eq_true] at h2
  rw [if_neg (by intro e; rw [e] at h2; simp at h2)]
  exact parseM_dig l h2.2 0 (by omega)
/-! hex -/
def dgN (n : Nat) : Option Nat := if 48 ≤ n ∧ n ≤ 57 then some (n - 48) else if 97 ≤ n ∧ n ≤ 102 then some (n - 87) else none
def isHx (c : UInt8) : Bool := (dgN c.toNat).isSome
def hxVal (c : UInt8) : Nat := (dgN c.toNat).getD 0
def hxFrom (a : Nat) (l : List UInt8) : Nat := l.foldl (fun a c => a * 16 + hxVal c) a
def hB8 (d : Nat) : UInt8 := if d < 10 then UInt8.ofNat (48 + d) else UInt8.ofNat (87 + d)
def hx8 (w : Nat) : List UInt8 := (List.range 8).map fun i => hB8 (w / 2 ^ (28 - 4 * i) % 16)
theorem hxVal_lt (c : UInt8) : hxVal c < 16 := by
  unfold hxVal dgN
  split
  · simp; omega
  · split
    · simp; omega
    · simp
theorem hxVal_hB8 : ∀ d : Fin 16, hxVal (hB8 d.val) = d.val ∧ isHx (hB8 d.val) = true := by decide
theorem hB8_hxVal (c : UInt8) (h : isHx c = true) : hB8 (hxVal c) = c := by
  unfold isHx at h
  unfold hB8 hxVal
  have hk : ∀ k : Nat, k = c.toNat → UInt8.ofNat k = c := fun k hk => by rw [hk]; exact UInt8.ofNat_toNat
  unfold dgN at *
  split at h
  · rename_i hc
    rw [if_pos hc]
    simp only [Option.getD_some]
    rw [if_pos (by omega)]; exact hk _ (by omega)
  · rename_i hc
    split at h
    · rename_i hc2
      rw [if_neg hc, if_pos hc2]
      simp only [Option.getD_some]
      rw [if_neg (by omega)]; exact hk _ (by omega)
    · simp at h
theorem hx8_len (w : Nat) : (hx8 w).length = 8 := by simp [hx8]
theorem hx8_eq (n : Nat) : hx8 n = [hB8 (n / 268435456 % 16), hB8 (n / 16777216 % 16), hB8 (n / 1048576 % 16), hB8 (n / 65536 % 16), hB8 (n / 4096 % 16), hB8 (n / 256 % 16), hB8 (n / 16 % 16), hB8 (n % 16)] := by
  simp [hx8, List.range, List.range.loop]
theorem hx8_all (n : Nat) : (hx8 n).all isHx = true := by
  rw [List.all_eq_true]
  intro c hc
  obtain ⟨i, _, rfl⟩ := List.mem_map.1 hc
  exact (hxVal_hB8 ⟨_, Nat.mod_lt _ (by decide)⟩).2
theorem hv8 (n : Nat) : hxVal (hB8 (n % 16)) = n % 16 := (hxVal_hB8 ⟨_, Nat.mod_lt n (by decide)⟩).1
theorem hx_val (n : Nat) (h : n < 4294967296) : hxFrom 0 (hx8 n) = n := by
  rw [hx8_eq]
  simp only [hxFrom, List.foldl_cons, List.foldl_nil, hv8]
  omega
theorem hx_eight (a b c d e f g i : UInt8) (h : [a, b, c, d, e, f, g, i].all isHx = true) : hx8 (hxFrom 0 [a, b, c, d, e, f, g, i]) = [a, b, c, d, e, f, g, i] := by
  simp only [List.all_cons, List.all_nil, Bool.and_true, Bool.and_eq_true] at h
  obtain ⟨ha, hb, hc, hd, he, hf, hg, hi⟩ := h
  have va := hxVal_lt a; have vb := hxVal_lt b; have vc := hxVal_lt c; have vd := hxVal_lt d; have ve := hxVal_lt e; have vf := hxVal_lt f; have vg := hxVal_lt g; have vi := hxVal_lt i
  have ea := hB8_hxVal a ha; have eb := hB8_hxVal b hb; have ec := hB8_hxVal c hc; have ed := hB8_hxVal d hd; have ee := hB8_hxVal e he; have ef := hB8_hxVal f hf; have eg := hB8_hxVal g hg; have ei := hB8_hxVal i hi
  rw [hx8_eq]
  simp only [hxFrom, List.foldl_cons, List.foldl_nil]
  generalize hxVal a = xa at *; generalize hxVal b = xb at *; generalize hxVal c = xc at *; generalize hxVal d = xd at *
  generalize hxVal e = xe at *; generalize hxVal f = xf at *; generalize hxVal g = xg at *; generalize hxVal i = xi at *
  rw [show (((((((((0 * 16 + xa) * 16 + xb) * 16 + xc) * 16 + xd) * 16 + xe) * 16 + xf) * 16 + xg) * 16 + xi) / 268435456 % 16) = xa by omega,
    show (((((((((0 * 16 + xa) * 16 + xb) * 16 + xc) * 16 + xd) * 16 + xe) * 16 + xf) * 16 + xg) * 16 + xi) / 16777216 % 16) = xb by omega,
    show (((((((((0 * 16 + xa) * 16 + xb) * 16 + xc) * 16 + xd) * 16 + xe) * 16 + xf) * 16 + xg) * 16 + xi) / 1048576 % 16) = xc by omega,
    show (((((((((0 * 16 + xa) * 16 + xb) * 16 + xc) * 16 + xd) * 16 + xe) * 16 + xf) * 16 + xg) * 16 + xi) / 65536 % 16) = xd by omega,
    show (((((((((0 * 16 + xa) * 16 + xb) * 16 + xc) * 16 + xd) * 16 + xe) * 16 + xf) * 16 + xg) * 16 + xi) / 4096 % 16) = xe by omega,
    show (((((((((0 * 16 + xa) * 16 + xb) * 16 + xc) * 16 + xd) * 16 + xe) * 16 + xf) * 16 + xg) * 16 + xi) / 256 % 16) = xf by omega,
    show (((((((((0 * 16 + xa) * 16 + xb) * 16 + xc) * 16 + xd) * 16 + xe) * 16 + xf) * 16 + xg) * 16 + xi) / 16 % 16) = xg by omega,
    show (((((((((0 * 16 + xa) * 16 + xb) * 16 + xc) * 16 + xd) * 16 + xe) * 16 + xf) * 16 + xg) * 16 + xi) % 16) = xi by omega,
    ea, eb, ec, ed, ee, ef, eg, ei]
theorem eight_of {α : Type} {l : List α} (h : l.length = 8) : ∃ a b c d e f g i, l = [a, b, c, d, e, f, g, i] := by
  match l, h with
  | [a, b, c, d, e, f, g, i], _ => exact ⟨a, b, c, d, e, f, g, i, rfl⟩
theorem hxFrom_zeros (k : Nat) (l : List UInt8) : hxFrom 0 (List.replicate k 48 ++ l) = hxFrom 0 l := by
  induction k with
  | zero => rfl
  | succ k ih => rw [List.replicate_succ, List.cons_append]; exact ih
/-- hex digits, at most eight, are the number's eight without zeros ahead -/
theorem hx_back (l : List UInt8) (hl : l.length ≤ 8) (h : l.all isHx = true) : hx8 (hxFrom 0 l) = List.replicate (8 - l.length) 48 ++ l := by
  have hz : (List.replicate (8 - l.length) (48 : UInt8)).all isHx = true := by
    rw [List.all_eq_true]; intro c hc; rw [(List.mem_replicate.1 hc).2]; decide
  obtain ⟨a, b, c, d, e, f, g, i, he⟩ := eight_of (l := List.replicate (8 - l.length) 48 ++ l) (by simp; omega)
  rw [← hxFrom_zeros (8 - l.length) l, he]
  refine hx_eight _ _ _ _ _ _ _ _ ?_
  rw [← he, List.all_append, hz, h]; rfl
theorem hxFrom_lt (l : List UInt8) : ∀ a, hxFrom a l < (a + 1) * 16 ^ l.length := by
  induction l with
  | nil => intro a; simp [hxFrom]
  | cons c l ih =>
    intro a
    have h1 := ih (a * 16 + hxVal c)
    have h2 := hxVal_lt c
    show hxFrom (a * 16 + hxVal c) l < _
    rw [List.length_cons, Nat.pow_succ]
    refine Nat.lt_of_lt_of_le h1 ?_
    rw [Nat.mul_comm (16 ^ l.length) 16, ← Nat.mul_assoc]
    exact Nat.mul_le_mul_right _ (by omega)
/-! the two readings -/
def numF (l : List UInt8) : Option Nat :=
  if l.take 2 = [48, 120] then (if 1 ≤ (l.drop 2).length ∧ (l.drop 2).length ≤ 8 ∧ (l.drop 2).all isHx = true then some (hxFrom 0 (l.drop 2)) else none)
  else if tensB l = true ∧ valFrom 0 l ≤ 4294967295 then some (valFrom 0 l) else none
theorem num_tens (u : Nat) (h : u < 4294967296) : numF (Lib.decDigits u) = some u := by
  unfold numF
  have hx : ¬ (Lib.decDigits u).take 2 = [48, 120] := by
    intro e
    have := dec_dig u
    rw [List.all_eq_true] at this
    have h2 := this 120 (List.mem_of_mem_take (by rw [e]; simp))
    simp [isDg] at h2
  rw [if_neg hx, dec_val, if_pos ⟨tens_dec u, by omega⟩]
theorem num_hex (u : Nat) (h : u < 4294967296) : numF ([48, 120] ++ hx8 u) = some u := by
  unfold numF
  have e1 : ([48, 120] ++ hx8 u).take 2 = [48, 120] := rfl
  have e2 : ([48, 120] ++ hx8 u).drop 2 = hx8 u := rfl
  rw [e1, e2, if_pos rfl, hx8_len, if_pos ⟨by omega, by omega, hx8_all u⟩, hx_val u h]
/-- what is read as a number is its text, or its hex without zeros ahead -/
theorem num_back (l : List UInt8) (u : Nat) (h : numF l = some u) : u < 4294967296 ∧ (Lib.decDigits u = l ∨ (3 ≤ l.length ∧ l.length ≤ 10 ∧ l.take 2 = [48, 120] ∧ [48, 120] ++ hx8 u = [48, 120] ++ List.replicate (10 - l.length) 48 ++ l.drop 2)) := by
  unfold numF at h
  split at h
  · rename_i h0
    split at h
    · rename_i h1
      simp only [Option.some.injEq] at h
      subst h
      have hd : (l.drop 2).length = l.length - 2 := by simp
      have hlt := hxFrom_lt (l.drop 2) 0
      have hp : 16 ^ (l.drop 2).length ≤ 16 ^ 8 := Nat.pow_le_pow_right (by decide) h1.2.1
      have hb := hx_back (l.drop 2) h1.2.1 h1.2.2
      refine ⟨?_, .inr ⟨by omega, by omega, h0, ?_⟩⟩
      · have : (16 : Nat) ^ 8 = 4294967296 := rfl
        omega
      · rw [hb, show 8 - (l.drop 2).length = 10 - l.length by omega, List.append_assoc]
    · cases h
  · split at h
    · rename_i h1
      simp only [Option.some.injEq] at h
      subst h
      exact ⟨by omega, .inl (dec_back _ l rfl h1.1)⟩
    · cases h
def sgnF (l : List UInt8) : Option Int :=
  if l.head? = some 45 then (if tensB l.tail = true ∧ l.tail ≠ [48] ∧ valFrom 0 l.tail ≤ 2147483648 then some (-(valFrom 0 l.tail : Int)) else none)
  else if tensB l = true ∧ valFrom 0 l ≤ 2147483647 then some (valFrom 0 l : Int) else none
theorem sgn_itoa (n : Int) (h0 : -2147483648 ≤ n) (h1 : n ≤ 2147483647) : sgnF (Lib.itoa n) = some n := by
  unfold sgnF Lib.itoa
  by_cases hn : n < 0
  · rw [if_pos hn]
    have e1 : (45 :: Lib.decDigits n.natAbs).head? = some 45 := rfl
    have e2 : (45 :: Lib.decDigits n.natAbs).tail = Lib.decDigits n.natAbs := rfl
    have hne : Lib.decDigits n.natAbs ≠ [48] := by
      intro e
      have := dec_val n.natAbs
      rw [e] at this
      have h3 : valFrom 0 [48] = 0 := rfl
      omega
    rw [e1, e2, if_pos rfl, dec_val, if_pos ⟨tens_dec _, hne, by omega⟩]
    exact congrArg some (by omega)
  · rw [if_neg hn]
    have hx : ¬ (Lib.decDigits n.toNat).head? = some 45 := by
      intro e
      have := dec_dig n.toNat
      rw [List.all_eq_true] at this
      have h2 := this 45 (List.mem_of_mem_head? e)
      simp [isDg] at h2
    rw [if_neg hx, dec_val, if_pos ⟨tens_dec _, by omega⟩]
    exact congrArg some (by omega)
end Go.Proofs.YtiknookfnameiaaGreatDoor
