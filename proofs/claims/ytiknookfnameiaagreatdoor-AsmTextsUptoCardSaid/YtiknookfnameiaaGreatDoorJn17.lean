/- The document's answer of a text is the program's, as plain functions. No program in sight. The document's statements lay what the program's lay; so of every text the words, the labels or the first fault are the same. No program in sight. -/
import Derived.Test.YtiknookfnameiaaGreatDoorJn16
namespace Go.Proofs.YtiknookfnameiaaGreatDoor
open WP
theorem nm_pos {s : ByteArray} (h : nameF s = true) : s.size ≠ 0 := by
 intro h0
 unfold nameF at h; simp [h0] at h
theorem eB_size : eB.size = 0 := rfl
def bindW (x : (List Int) ⊕ Flt) (f : List Int → (List Int) ⊕ Flt) : (List Int) ⊕ Flt := match x with | .inl l => f l | .inr e => .inr e
theorem latersM_app (base : Int) (labs : List (ByteArray × Nat)) : ∀ (L M : List Lat) (ws : List Int), latersM base labs (L ++ M) ws = bindW (latersM base labs L ws) (latersM base labs M)
 | [], M, ws => rfl
 | x :: L, M, ws => by
  rw [List.cons_append, latersM, latersM]
  cases laterM base labs x ws with
  | inr f => rfl
  | inl v => exact latersM_app base labs L M v
theorem putL_app (W w : List Int) (p : Nat) (l : List Int) (h : p + l.length ≤ W.length) : putL (W ++ w) p l = putL W p l ++ w := by
 unfold putL
 rw [List.take_append_of_le_length (by omega), List.drop_append_of_le_length h, List.append_assoc, List.append_assoc, List.append_assoc]
theorem later_app (base : Int) (labs : List (ByteArray × Nat)) (x : Lat) (W w : List Int) (h : x.place + x.what.size ≤ W.length) : laterM base labs x (W ++ w) = bindW (laterM base labs x W) fun l => .inl (l ++ w) := by
 unfold laterM
 cases findL labs x.nm with
 | none => rfl
 | some p =>
  simp only
  cases hw : x.what with
  | word => rw [hw] at h; simp only [bindW]; rw [putL_app _ _ _ _ h]
  | li a => rw [hw] at h; simp only [bindW]; rw [putL_app _ _ _ _ h]
  | jmp i =>
   rw [hw] at h
   simp only
   split
   ·rfl
   ·simp only [bindW]; rw [putL_app _ _ _ _ h]
theorem laters_app (base : Int) (labs : List (ByteArray × Nat)) : ∀ (L : List Lat) (W w : List Int), (∀ x ∈ L, x.place + x.what.size ≤ W.length) → latersM base labs L (W ++ w) = bindW (latersM base labs L W) fun l => .inl (l ++ w)
 | [], W, w, _ => rfl
 | x :: L, W, w, h => by
  rw [latersM, latersM, later_app _ _ _ _ _ (h x (by simp))]
  cases hx : laterM base labs x W with
  | inr f => rfl
  | inl v =>
   simp only [bindW]
   have e := later_len (h x (by simp)) hx
   exact laters_app base labs L v w fun y hy => by rw [e]; exact h y (by simp [hy])
theorem rwords_app (base : Int) (labs : List (ByteArray × Nat)) : ∀ (P Q : List Pie) (k : Nat), rwordsF base labs k (P ++ Q) = bindW (rwordsF base labs k P) fun l => bindW (rwordsF base labs (k + P.length) Q) fun m => .inl (l ++ m)
 | [], Q, k => by
  simp only [List.nil_append, rwordsF, bindW, List.length_nil, Nat.add_zero]
  cases rwordsF base labs k Q <;> rfl
 | x :: P, Q, k => by
  rw [List.cons_append, rwordsF, rwordsF]
  cases rwordF base labs k x with
  | inr f => rfl
  | inl v =>
   simp only
   rw [rwords_app base labs P Q (k + 1), List.length_cons, show k + (P.length + 1) = k + 1 + P.length by omega]
   cases rwordsF base labs (k + 1) P with
   | inr f => rfl
   | inl l =>
    simp only [bindW]
    cases rwordsF base labs (k + 1 + P.length) Q <;> rfl
/-- what a statement lays, in pieces and in words with what waits -/
structure Chk (n : Nat) (p : List Pie) (w : List Int) (l : List Lat) : Prop where
 len : p.length = w.length
 lat : ∀ x ∈ l, x.place + x.what.size ≤ n + w.length
 same : ∀ base labs W, W.length = n → latersM base labs l (W ++ w) = bindW (rwordsF base labs n p) fun v => .inl (W ++ v)
structure Cov (P : List Pie) (W : List Int) (L : List Lat) : Prop where
 len : P.length = W.length
 lat : ∀ x ∈ L, x.place + x.what.size ≤ W.length
 same : ∀ base labs, latersM base labs L W = rwordsF base labs 0 P
theorem Cov.nil : Cov [] [] [] := ⟨rfl, by simp, fun _ _ => rfl⟩
theorem Cov.snoc {P : List Pie} {W : List Int} {L : List Lat} {p : List Pie} {w : List Int} {l : List Lat} (h : Cov P W L) (k : Chk W.length p w l) : Cov (P ++ p) (W ++ w) (L ++ l) := by
 refine ⟨by simp [h.len, k.len], ?_, ?_⟩
 ·intro x hx
  rw [List.length_append]
  rcases List.mem_append.1 hx with hx | hx
  ·have := h.lat x hx; omega
  ·have := k.lat x hx; omega
 ·intro base labs
  rw [latersM_app, laters_app _ _ _ _ _ h.lat, rwords_app, h.same, Nat.zero_add, h.len]
  cases hr : rwordsF base labs 0 P with
  | inr f => rfl
  | inl v =>
   simp only [bindW]
   have e : v.length = W.length := laters_len L h.lat (by rw [h.same, hr])
   exact k.same base labs v e
theorem laters_nil (base : Int) (labs : List (ByteArray × Nat)) (W : List Int) : latersM base labs [] W = .inl W := rfl
theorem laters_one (base : Int) (labs : List (ByteArray × Nat)) (x : Lat) (W : List Int) : latersM base labs [x] W = laterM base labs x W := by
 unfold latersM
 cases laterM base labs x W <;> rfl
theorem putL_end (W w l : List Int) (h : w.length = l.length) : putL (W ++ w) W.length l = W ++ l := by
 unfold putL
 rw [List.take_left, List.drop_eq_nil_of_le (by simp; omega), List.append_nil]
theorem putL_one2 (W : List Int) (a b : Int) : putL (W ++ [a]) W.length [b] = W ++ [b] := putL_end W [a] [b] rfl
theorem putL_li (W : List Int) (a x y : Int) : putL (W ++ layM (.li a) x) W.length (layM (.li a) y) = W ++ layM (.li a) y := putL_end W _ _ (by rw [layM_len, layM_len])
/-- pieces that bear no label and are plain words -/
theorem chk_plain (n : Nat) (p : List Pie) (w : List Int) (h : ∀ x ∈ p, x.nm.size = 0 ∧ (x.what = 0 ∨ x.what = 1)) (hw : p.map (·.val) = w) : Chk n p w [] := by
 refine ⟨by rw [← hw]; simp, by simp, ?_⟩
 intro base labs W hW
 rw [laters_nil]
 suffices hs : ∀ (q : List Pie) (k : Nat), (∀ x ∈ q, x.nm.size = 0 ∧ (x.what = 0 ∨ x.what = 1)) → rwordsF base labs k q = .inl (q.map (·.val)) by rw [hs p n h, hw]; rfl
 intro q
 induction q with
 | nil => intro k _; rfl
 | cons x q ih =>
  intro k hq
  obtain ⟨e1, e2⟩ := hq x (by simp)
  rw [rwordsF, ih (k + 1) (fun y hy => hq y (by simp [hy]))]
  have e : rwordF base labs k x = .inl x.val := by
   unfold rwordF rplaceF
   rw [if_pos e1]
   simp only
   rcases e2 with e2 | e2 <;> rw [e2] <;> rfl
  rw [e]; rfl
theorem chk_li (n : Nat) (a v : Int) (ln c : Nat) : Chk n [⟨2, 0, 0, a, v, eB, ln, c⟩, ⟨3, 0, 0, a, v, eB, ln, c⟩] (layM (.li a) v) [] := by
 refine ⟨rfl, by simp, ?_⟩
 intro base labs W hW
 rfl
theorem chk_label (n : Nat) (nm : ByteArray) (ln c : Nat) (h : nm.size ≠ 0) : Chk n [⟨1, 0, 0, 0, 0, nm, ln, c⟩] [0] [⟨.word, n, nm, ln, c⟩] := by
 refine ⟨rfl, by simp [Wht.size], ?_⟩
 intro base labs W hW
 rw [laters_one]
 simp only [rwordsF, rwordF, rplaceF, laterM, if_neg h]
 cases findL labs nm with
 | none => rfl
 | some p =>
  subst hW
  simp only [Option.map_some, bindW, layM]
  rw [putL_one2]
  rfl
theorem chk_liLabel (n : Nat) (a : Int) (nm : ByteArray) (ln c : Nat) (h : nm.size ≠ 0) : Chk n [⟨2, 0, 0, a, 0, nm, ln, c⟩, ⟨3, 0, 0, a, 0, nm, ln, c⟩] (layM (.li a) 0) [⟨.li a, n, nm, ln, c⟩] := by
 refine ⟨rfl, by simp [Wht.size, layM], ?_⟩
 intro base labs W hW
 rw [laters_one]
 simp only [rwordsF, rwordF, rplaceF, laterM, if_neg h]
 cases findL labs nm with
 | none => rfl
 | some p =>
  subst hW
  simp only [Option.map_some, bindW]
  rw [putL_li]
  rfl
theorem chk_jump (n : Nat) (op k : Int) (nm : ByteArray) (ln c : Nat) (h : nm.size ≠ 0) : Chk n [⟨4, op, k, 0, 0, nm, ln, c⟩] [encF { ins0 with op := op, k := k }] [⟨.jmp { ins0 with op := op, k := k }, n, nm, ln, c⟩] := by
 refine ⟨rfl, by simp [Wht.size], ?_⟩
 intro base labs W hW
 rw [laters_one]
 simp only [rwordsF, rwordF, rplaceF, laterM, if_neg h]
 cases findL labs nm with
 | none => rfl
 | some p =>
  subst hW
  simp only [Option.map_some]
  by_cases hf : (p : Int) - (W.length : Int) - 1 < -32768 ∨ 32767 < (p : Int) - (W.length : Int) - 1
  ·rw [if_pos hf]; simp [hf, bindW]
  ·rw [if_neg hf, putL_one2]; simp [hf, bindW]
/-- both readings at one state -/
structure Rel (st : Asm) (rt : RAsm) : Prop where
 labs : st.labs = rt.labs
 cov : Cov rt.pcs st.ws st.lat
def RelR : Asm ⊕ Flt → RAsm ⊕ Flt → Prop
 | .inl st, .inl rt => Rel st rt
 | .inr f, .inr g => f = g
 | _, _ => False
theorem Rel.len {st : Asm} {rt : RAsm} (h : Rel st rt) : rt.pcs.length = st.ws.length := h.cov.len
theorem Rel.add {st : Asm} {rt : RAsm} (h : Rel st rt) {p : List Pie} {w : List Int} {l : List Lat} (k : Chk st.ws.length p w l) : RelR (.inl ⟨st.ws ++ w, st.labs, st.lat ++ l⟩) (.inl ⟨rt.labs, rt.pcs ++ p⟩) := ⟨h.labs, h.cov.snoc k⟩
end Go.Proofs.YtiknookfnameiaaGreatDoor

namespace Go.Proofs.YtiknookfnameiaaGreatDoor
open WP
theorem field_same (i : Ins) (c : UInt8) (w : W) : fieldM i c w = (if w.2.1 = true then none else rfieldF i c w.1).map (·.1) := by
 unfold fieldM rfieldF
 by_cases hq : w.2.1 = true
 ·simp [hq]
 have hr : regF w = regA w.1.data.toList 15 0 := by unfold regF; rw [if_neg hq]
 rw [if_neg hq, if_neg hq, hr]
 by_cases h1 : c = 97
 ·subst h1; rw [if_pos rfl, if_pos rfl]; cases regA w.1.data.toList 15 0 <;> rfl
 rw [if_neg h1, if_neg h1]
 by_cases h2 : c = 98
 ·subst h2; rw [if_pos rfl, if_pos rfl]; cases regA w.1.data.toList 15 0 <;> rfl
 rw [if_neg h2, if_neg h2]
 by_cases h3 : c = 99
 ·subst h3; rw [if_pos rfl, if_pos rfl]; cases regA w.1.data.toList 15 0 <;> rfl
 rw [if_neg h3, if_neg h3]
 by_cases h4 : c = 107
 ·subst h4; rw [if_neg (by decide), if_pos rfl, if_pos rfl]; cases condF w.1 <;> rfl
 rw [if_neg h4, if_neg h4]
 by_cases h5 : c = 117
 ·subst h5; rw [if_pos rfl, if_pos rfl]
  cases numF w.1.data.toList with
  | none => rfl
  | some v => simp only; split <;> rfl
 rw [if_neg h5, if_neg h5]
 split
 ·rfl
 ·cases sgnIn w.1 <;> rfl
theorem fields_same : ∀ (cs : List UInt8) (ws : List W) (k : Nat) (x : Ins × ByteArray × Nat), fieldsM cs ws x.1 = match rfieldsF cs ws k x with | .inr j => .inr (ws.getD (j - k) w0).2.2 | .inl y => .inl y.1
 | [], ws, k, x => by cases ws <;> rfl
 | c :: cs, [], k, x => rfl
 | c :: cs, w :: ws, k, x => by
  rw [fieldsM, rfieldsF, field_same]
  cases (if w.2.1 = true then none else rfieldF x.1 c w.1) with
  | none => simp
  | some y =>
   simp only [Option.map_some]
   have h := fields_same cs ws (k + 1) (y.1, if y.2.size = 0 then x.2 else (y.2, w.2.2))
   dsimp only at h
   rw [h]
   cases hr : rfieldsF cs ws (k + 1) (y.1, if y.2.size = 0 then x.2 else (y.2, w.2.2)) with
   | inl z => rfl
   | inr j =>
    simp only
    have hj : k + 1 ≤ j := rfields_from cs ws (k + 1) _ j hr
    rw [show j - k = (j - (k + 1)) + 1 by omega]
    rfl
where
 rfields_from : ∀ (cs : List UInt8) (ws : List W) (k : Nat) (x : Ins × ByteArray × Nat) (j : Nat), rfieldsF cs ws k x = .inr j → k ≤ j
 | [], ws, k, x, j, h => by cases ws <;> cases h
 | c :: cs, [], k, x, j, h => by cases h
 | c :: cs, w :: ws, k, x, j, h => by
  rw [rfieldsF] at h
  split at h
  ·cases h; exact Nat.le_refl _
  ·exact Nat.le_of_succ_le (rfields_from cs ws (k + 1) _ j h)
theorem fields_take : ∀ (cs : List UInt8) (ws : List W) (i : Ins), fieldsM cs (ws.take cs.length) i = fieldsM cs ws i
 | [], ws, i => by cases ws <;> rfl
 | c :: cs, [], i => rfl
 | c :: cs, w :: ws, i => by
  rw [List.length_cons, List.take_succ_cons, fieldsM, fieldsM]
  cases fieldM i c w with
  | none => rfl
  | some j => exact fields_take cs ws j
theorem rfield_no {i : Ins} {c : UInt8} {s : ByteArray} {y : Ins × ByteArray} (hc : c ≠ 111) (h : rfieldF i c s = some y) : y.2.size = 0 := by
 unfold rfieldF at h
 split at h
 ·obtain ⟨_, _, rfl⟩ := Option.map_eq_some_iff.1 h; rfl
 split at h
 ·obtain ⟨_, _, rfl⟩ := Option.map_eq_some_iff.1 h; rfl
 split at h
 ·obtain ⟨_, _, rfl⟩ := Option.map_eq_some_iff.1 h; rfl
 split at h
 ·obtain ⟨_, _, rfl⟩ := Option.map_eq_some_iff.1 h; rfl
 split at h
 ·split at h
  ·split at h
   ·cases h; rfl
   ·cases h
  ·cases h
 rw [if_neg (fun h => hc h.1)] at h
 obtain ⟨_, _, rfl⟩ := Option.map_eq_some_iff.1 h; rfl
theorem rfields_no : ∀ (cs : List UInt8) (ws : List W) (k : Nat) (x y : Ins × ByteArray × Nat), (∀ c ∈ cs, c ≠ 111) → rfieldsF cs ws k x = .inl y → y.2 = x.2
 | [], ws, k, x, y, _, h => by cases ws <;> (cases h; rfl)
 | c :: cs, [], k, x, y, _, h => by cases h; rfl
 | c :: cs, w :: ws, k, x, y, hc, h => by
  rw [rfieldsF] at h
  split at h
  ·cases h
  ·rename_i z hz
   rw [rfields_no cs ws (k + 1) _ y (fun d hd => hc d (by simp [hd])) h]
   split at hz
   ·cases hz
   ·dsimp only; rw [if_pos (rfield_no (hc c (by simp)) hz)]
theorem findT_bd (T : List (List UInt8)) (s : List UInt8) : ∀ (f k r : Nat), findT T s f k = some r → k ≤ r ∧ r < k + f
 | 0, k, r, h => by cases h
 | f + 1, k, r, h => by
  unfold findT at h
  split at h
  ·cases h; omega
  ·have := findT_bd T s f (k + 1) r h; omega
theorem named_lt {s : ByteArray} {op : Nat} (h : namedF s = some op) : 1 ≤ op ∧ op < 25 := by
 have := findT_bd _ _ _ _ _ h; omega
theorem named_not {s : ByteArray} {op : Nat} (h : namedF s = some op) : s.data.toList ≠ wordT ∧ s.data.toList ≠ liT ∧ s.data.toList ≠ zeroT := by
 unfold namedF at h
 refine ⟨?_, ?_, ?_⟩ <;> intro e <;> rw [e] at h <;> revert h <;> (rw [show findT nameT _ 24 1 = none by decide +kernel]; intro h; cases h)
theorem room_pos {ln : Nat} {name : W} {st : Asm} {n : Nat} (h : 2048 < st.ws.length + n) : roomM ln name st n = some (66, ln, name.2.2) := by unfold roomM; rw [if_pos h]
theorem room_neg {ln : Nat} {name : W} {st : Asm} {n : Nat} (h : ¬ 2048 < st.ws.length + n) : roomM ln name st n = none := by unfold roomM; rw [if_neg h]
theorem count_len {ln : Nat} {name : W} {ops : List W} {n : Nat} (h : countM ln name ops n = none) : ops.length = n := by
 unfold countM at h; split at h
 ·cases h
 split at h
 ·cases h
 omega
theorem chk_instr (n op ln : Nat) (ops : List W) (hop : 1 ≤ op ∧ op < 25) (hl : ops.length = (shapeI op).length) (x : Ins × ByteArray × Nat) (h : rfieldsF (shapeI op) ops 0 ({ ins0 with op := op }, eB, 0) = .inl x) :
  Chk n [pieceF ln x] [encF x.1] (match oAt (shapeI op) with | none => [] | some k => latM (.jmp x.1) n ln (ops.getD k w0)) := by
 have plain : ∀ y : Ins × ByteArray × Nat, y.2.1.size = 0 → Chk n [pieceF ln y] [encF y.1] [] := by
  intro y hy
  refine chk_plain n _ _ ?_ ?_
  ·intro p hp; rw [List.mem_singleton.1 hp]; unfold pieceF; rw [if_pos hy]; exact ⟨rfl, .inl rfl⟩
  ·unfold pieceF; rw [if_pos hy]; rfl
 have no : (∀ c ∈ shapeI op, c ≠ 111) → oAt (shapeI op) = none → Chk n [pieceF ln x] [encF x.1] (match oAt (shapeI op) with | none => [] | some k => latM (.jmp x.1) n ln (ops.getD k w0)) := by
  intro h1 h2
  rw [h2]
  have e := rfields_no _ _ _ _ _ h1 h
  exact plain x (by rw [e]; rfl)
 rcases shape_cases (op : Int) (by omega) (by omega) with ⟨_, hn⟩ | ⟨_, hs | hs | hs | hs | hs | hs | hs | hs | hs⟩
 ·exact absurd (by omega) hn
 ·exact no (by rw [hs]; decide) (by rw [hs]; decide)
 ·exact no (by rw [hs]; decide) (by rw [hs]; decide)
 ·exact no (by rw [hs]; decide) (by rw [hs]; decide)
 ·exact no (by rw [hs]; decide) (by rw [hs]; decide)
 ·exact no (by rw [hs]; decide) (by rw [hs]; decide)
 ·rw [hs] at h hl ⊢
  match ops, hl with
  | [w1, w2], _ =>
   rw [show oAt [107, 111] = some 1 by decide]
   simp only [rfieldsF] at h
   split at h
   ·cases h
   rename_i y1 hy1
   split at h
   ·cases h
   rename_i y2 hy2
   cases h
   split at hy1
   ·cases hy1
   split at hy2
   ·cases hy2
   rename_i q1 q2
   unfold rfieldF at hy1
   simp only [show ¬ ((107 : UInt8) = 97) by decide, show ¬ ((107 : UInt8) = 98) by decide, show ¬ ((107 : UInt8) = 99) by decide, if_false, if_true] at hy1
   obtain ⟨kc, _, rfl⟩ := Option.map_eq_some_iff.1 hy1
   unfold rfieldF at hy2
   simp only [show ¬ ((111 : UInt8) = 97) by decide, show ¬ ((111 : UInt8) = 98) by decide, show ¬ ((111 : UInt8) = 99) by decide, show ¬ ((111 : UInt8) = 107) by decide, show ¬ ((111 : UInt8) = 117) by decide, if_false, true_and] at hy2
   show Chk n _ _ (latM _ n ln w2)
   unfold latM isNameF
   by_cases hnm : nameF w2.1 = true
   ·rw [if_pos hnm] at hy2
    cases hy2
    have hz := nm_pos hnm
    dsimp only
    rw [if_pos (show (!w2.2.1 && nameF w2.1) = true by rw [hnm]; simp [q2]), if_neg hz]
    unfold pieceF
    rw [if_neg hz]
    exact chk_jump n op kc w2.1 ln w2.2.2 hz
   ·rw [if_neg hnm] at hy2
    obtain ⟨v, _, rfl⟩ := Option.map_eq_some_iff.1 hy2
    dsimp only
    rw [if_neg (show ¬ (!w2.2.1 && nameF w2.1) = true by simp [hnm])]
    refine plain _ ?_
    simp only [eB_size, if_true]
 ·rw [hs] at h hl ⊢
  match ops, hl with
  | [w2], _ =>
   rw [show oAt [111] = some 0 by decide]
   simp only [rfieldsF] at h
   split at h
   ·cases h
   rename_i y2 hy2
   cases h
   split at hy2
   ·cases hy2
   rename_i q2
   unfold rfieldF at hy2
   simp only [show ¬ ((111 : UInt8) = 97) by decide, show ¬ ((111 : UInt8) = 98) by decide, show ¬ ((111 : UInt8) = 99) by decide, show ¬ ((111 : UInt8) = 107) by decide, show ¬ ((111 : UInt8) = 117) by decide, if_false, true_and] at hy2
   show Chk n _ _ (latM _ n ln w2)
   unfold latM isNameF
   by_cases hnm : nameF w2.1 = true
   ·rw [if_pos hnm] at hy2
    cases hy2
    have hz := nm_pos hnm
    dsimp only
    rw [if_pos (show (!w2.2.1 && nameF w2.1) = true by rw [hnm]; simp [q2]), if_neg hz]
    unfold pieceF
    rw [if_neg hz]
    exact chk_jump n op 0 w2.1 ln w2.2.2 hz
   ·rw [if_neg hnm] at hy2
    obtain ⟨v, _, rfl⟩ := Option.map_eq_some_iff.1 hy2
    dsimp only
    rw [if_neg (show ¬ (!w2.2.1 && nameF w2.1) = true by simp [hnm])]
    refine plain _ ?_
    simp only [eB_size, if_true]
 ·exact no (by rw [hs]; decide) (by rw [hs]; decide)
 ·exact no (by rw [hs]; decide) (by rw [hs]; decide)
end Go.Proofs.YtiknookfnameiaaGreatDoor
