/- One printed line read back: its words, and what assembling makes of them. No program in sight. One printed line read back: what assembling makes of it. No program in sight. -/
import Derived.Test.YtiknookfnameiaaGreatDoorJn14
import Derived.Test.YtiknookfnameiaaGreatDoorJn37
namespace Go.Proofs.YtiknookfnameiaaGreatDoor
open WP
def txOk (c : UInt8) : Bool := decide (36 ≤ c.toNat) && decide (c.toNat ≤ 122)
def txB (b : List UInt8) : Bool := !b.isEmpty && b.all txOk
theorem txB_plain {b : List UInt8} (h : txB b = true) : plainWd b = true := by
  unfold txB at h
  simp only [Bool.and_eq_true, List.all_eq_true, Bool.not_eq_true', txOk, decide_eq_true_eq] at h
  obtain ⟨h1, h2⟩ := h
  unfold plainWd
  simp only [Bool.and_eq_true, decide_eq_true_eq, List.all_eq_true, Bool.not_eq_true']
  have hd : ∀ c : UInt8, b.head? = some c → 36 ≤ c.toNat := fun c hc => (h2 c (List.mem_of_mem_head? hc)).1
  refine ⟨⟨fun e => by (rw [e] at h1; cases h1), fun e => (by have := hd 34 e; revert this; decide), fun e => (by have := hd 35 e; revert this; decide)⟩, fun x hx => ?_⟩
  have := h2 x hx
  unfold blankI
  exact decide_eq_false (by omega)
theorem txB_no10 {b : List UInt8} (h : txB b = true) : (10 : UInt8) ∉ b := by
  unfold txB at h
  simp only [Bool.and_eq_true, List.all_eq_true] at h
  intro hx
  have := h.2 10 hx
  revert this; decide
theorem dec_tx (u : Nat) : txB (Lib.decDigits u) = true := by
  have h1 := dec_dig u
  have h2 := dec_ne u
  unfold txB
  simp only [Bool.and_eq_true, List.all_eq_true, Bool.not_eq_true', List.isEmpty_eq_false_iff] at h1 ⊢
  refine ⟨h2, fun x hx => ?_⟩
  have := h1 x hx
  unfold isDg at this
  unfold txOk
  simp only [decide_eq_true_eq, Bool.and_eq_true] at this ⊢
  omega
theorem itoa_tx (n : Int) : txB (Lib.itoa n) = true := by
  unfold Lib.itoa
  split
  · have := dec_tx n.natAbs
    unfold txB at this ⊢
    simp only [Bool.and_eq_true, List.all_cons] at this ⊢
    exact ⟨rfl, by decide, this.2⟩
  · exact dec_tx _
/-- the text of one operand -/
def opTx (i : Ins) (lab : List UInt8) (c : UInt8) : List UInt8 :=
  if c = 97 then 114 :: Lib.decDigits i.a.toNat else if c = 98 then 114 :: Lib.decDigits i.b.toNat else if c = 99 then 114 :: Lib.decDigits i.c.toNat else if c = 107 then condI i.k else if c = 111 ∧ lab ≠ [] then lab else Lib.itoa i.imm
theorem fold_join (f : UInt8 → List UInt8) : ∀ (L : List UInt8) (s : List UInt8), L.foldl (fun s c => s ++ 32 :: f c) s = joinW (s :: L.map f)
  | [], s => rfl
  | c :: L, s => by
    rw [List.foldl_cons, fold_join f L]
    cases L with
    | nil => simp [joinW]
    | cons d L => simp [joinW]
theorem insL_join (i : Ins) (lab : List UInt8) : insL i lab = joinW (nameI i.op :: (shapeI i.op).map (opTx i lab)) := fold_join (opTx i lab) _ _
/-- what a letter reads of an instruction -/
def setF (i : Ins) (lab : Bool) (j : Ins) (c : UInt8) : Ins :=
  if c = 97 then { j with a := i.a } else if c = 98 then { j with b := i.b } else if c = 99 then { j with c := i.c } else if c = 107 then { j with k := i.k } else if c = 111 ∧ lab = true then j else { j with imm := i.imm }
theorem reg_back (n : Nat) (h : n ≤ 14) (k : Nat) : regF (⟨(114 :: Lib.decDigits n).toArray⟩, false, k) = some n := by
  unfold regF
  rw [if_neg (by simp)]
  show regA (114 :: Lib.decDigits n) 15 0 = some n
  have : ∀ m : Fin 15, regA (114 :: Lib.decDigits m.val) 15 0 = some m.val := by decide +kernel
  exact this ⟨n, by omega⟩
theorem cond_back (k : Nat) (h : k < 7) : condF ⟨(condI k).toArray⟩ = some k ∧ txB (condI k) = true := by
  have : ∀ m : Fin 7, condF ⟨(condI (m.val : Nat)).toArray⟩ = some m.val ∧ txB (condI (m.val : Nat)) = true := by decide +kernel
  exact this ⟨k, h⟩
theorem name_head {s : List UInt8} {c : UInt8} (h : s.head? = some c) (hc : c.toNat < 97) : nameF ⟨s.toArray⟩ = false := by
  cases s with
  | nil => cases h
  | cons x s =>
    simp only [List.head?_cons, Option.some.injEq] at h
    subst h
    unfold nameF
    have : nameA (x :: s) 0 = false := by
      rw [nameA]
      have : nmOk 0 (x.toNat : Int) = false := by
        unfold nmOk
        have h1 : decide ((97 : Int) ≤ (x.toNat : Int)) = false := decide_eq_false (by omega)
        rw [h1]; rfl
      rw [this]; rfl
    show (_ && nameA (x :: s) 0) = false
    rw [this, Bool.and_false]
theorem dec_hd (u : Nat) : ∃ c t, Lib.decDigits u = c :: t ∧ c.toNat < 58 := by
  have h1 := dec_dig u
  cases hd : Lib.decDigits u with
  | nil => exact absurd hd (dec_ne u)
  | cons c t =>
    rw [hd] at h1
    simp only [List.all_cons, Bool.and_eq_true] at h1
    have := h1.1
    unfold isDg at this
    simp only [decide_eq_true_eq] at this
    exact ⟨c, t, rfl, by omega⟩
theorem itoa_noname (n : Int) : nameF ⟨(Lib.itoa n).toArray⟩ = false := by
  unfold Lib.itoa
  split
  · exact name_head (c := 45) rfl (by decide)
  · obtain ⟨c, t, e, h⟩ := dec_hd n.toNat
    rw [e]; exact name_head (c := c) rfl (by omega)
theorem hex_noname (l : List UInt8) : nameF ⟨(48 :: l).toArray⟩ = false := name_head (c := 48) rfl (by decide)
/-- an operand's bounds -/
def inB (i : Ins) (c : UInt8) : Prop := okFld (fld i c) = true
theorem field_back (i j : Ins) (lab : List UInt8) (c : UInt8) (k : Nat) (hc : c = 97 ∨ c = 98 ∨ c = 99 ∨ c = 107 ∨ c = 117 ∨ c = 115 ∨ c = 111) (hb : inB i c) (hl : lab ≠ [] → nameF ⟨lab.toArray⟩ = true) :
    fieldM j c (⟨(opTx i lab c).toArray⟩, false, k) = some (setF i (decide (lab ≠ [])) j c) := by
  unfold inB okFld fld at hb
  rcases hc with rfl | rfl | rfl | rfl | rfl | rfl | rfl
  · simp only [if_true, decide_eq_true_eq] at hb
    obtain ⟨n, hn⟩ := Int.eq_ofNat_of_zero_le hb.1
    have e : opTx i lab 97 = 114 :: Lib.decDigits n := by unfold opTx; rw [if_pos rfl, hn]; rfl
    unfold fieldM
    rw [if_neg (by simp), if_pos rfl, e, reg_back n (by omega)]
    simp [setF, hn]
  · simp only [show ¬ ((98 : UInt8) = 97) by decide, if_true, if_false, decide_eq_true_eq] at hb
    obtain ⟨n, hn⟩ := Int.eq_ofNat_of_zero_le hb.1
    have e : opTx i lab 98 = 114 :: Lib.decDigits n := by unfold opTx; rw [if_neg (by decide), if_pos rfl, hn]; rfl
    unfold fieldM
    rw [if_neg (by simp), if_neg (by decide), if_pos rfl, e, reg_back n (by omega)]
    simp [setF, hn]
  · simp only [show ¬ ((99 : UInt8) = 97) by decide, show ¬ ((99 : UInt8) = 98) by decide, if_true, if_false, decide_eq_true_eq] at hb
    obtain ⟨n, hn⟩ := Int.eq_ofNat_of_zero_le hb.1
    have e : opTx i lab 99 = 114 :: Lib.decDigits n := by unfold opTx; rw [if_neg (by decide), if_neg (by decide), if_pos rfl, hn]; rfl
    unfold fieldM
    rw [if_neg (by simp), if_neg (by decide), if_neg (by decide), if_pos rfl, e, reg_back n (by omega)]
    simp [setF, hn]
  · simp only [show ¬ ((107 : UInt8) = 97) by decide, show ¬ ((107 : UInt8) = 98) by decide, show ¬ ((107 : UInt8) = 99) by decide, if_true, if_false, decide_eq_true_eq] at hb
    obtain ⟨n, hn⟩ := Int.eq_ofNat_of_zero_le hb.1
    have e : opTx i lab 107 = condI n := by unfold opTx; rw [if_neg (by decide), if_neg (by decide), if_neg (by decide), if_pos rfl, hn]
    unfold fieldM
    rw [if_neg (by simp), if_neg (by decide), if_neg (by decide), if_neg (by decide), if_neg (by decide), if_pos rfl, e, (cond_back n (by omega)).1]
    simp [setF, hn]
  · simp only [show ¬ ((117 : UInt8) = 97) by decide, show ¬ ((117 : UInt8) = 98) by decide, show ¬ ((117 : UInt8) = 99) by decide, show ¬ ((117 : UInt8) = 107) by decide, if_true, if_false, decide_eq_true_eq] at hb
    obtain ⟨n, hn⟩ := Int.eq_ofNat_of_zero_le hb.1
    have e : opTx i lab 117 = Lib.decDigits n := by
      unfold opTx; rw [if_neg (by decide), if_neg (by decide), if_neg (by decide), if_neg (by decide), if_neg (by simp), hn]
      unfold Lib.itoa; rw [if_neg (by omega)]; rfl
    have hnum : numF (Lib.decDigits n) = some n := num_tens n (by omega)
    unfold fieldM
    rw [if_neg (by simp), if_neg (by decide), if_neg (by decide), if_neg (by decide), if_pos rfl, e]
    show (match numF (Lib.decDigits n) with | some v => if v ≤ 65535 then some { j with imm := (v : Int) } else none | none => none) = _
    rw [hnum]
    simp only
    rw [if_pos (by omega)]
    simp [setF, hn]
  · have hb' : -32768 ≤ i.imm ∧ i.imm ≤ 32767 := by simpa using hb
    have e : opTx i lab 115 = Lib.itoa i.imm := by
      unfold opTx; rw [if_neg (by decide), if_neg (by decide), if_neg (by decide), if_neg (by decide), if_neg (by simp)]
    have hs := sgn_itoa i.imm (by omega) (by omega)
    unfold fieldM
    rw [if_neg (by simp), if_neg (by decide), if_neg (by decide), if_neg (by decide), if_neg (by decide), if_neg (by decide), if_neg (by simp), e]
    unfold sgnIn
    show Option.map _ (match sgnF (Lib.itoa i.imm) with | some v => if -32768 ≤ v ∧ v ≤ 32767 then some v else none | none => none) = _
    rw [hs]
    simp only
    rw [if_pos hb']
    simp [setF]
  · have hb' : -32768 ≤ i.imm ∧ i.imm ≤ 32767 := by simpa using hb
    by_cases hL : lab = []
    · have e : opTx i lab 111 = Lib.itoa i.imm := by
        unfold opTx; rw [if_neg (by decide), if_neg (by decide), if_neg (by decide), if_neg (by decide), if_neg (by simp [hL])]
      have hs := sgn_itoa i.imm (by omega) (by omega)
      unfold fieldM
      rw [if_neg (by simp), if_neg (by decide), if_neg (by decide), if_neg (by decide), if_neg (by decide), if_neg (by decide), e, if_neg (by rw [show ((⟨(Lib.itoa i.imm).toArray⟩, false, k) : W).1 = ⟨(Lib.itoa i.imm).toArray⟩ from rfl, itoa_noname]; simp)]
      unfold sgnIn
      show Option.map _ (match sgnF (Lib.itoa i.imm) with | some v => if -32768 ≤ v ∧ v ≤ 32767 then some v else none | none => none) = _
      rw [hs]
      simp only
      rw [if_pos hb']
      simp [setF, hL]
    · have e : opTx i lab 111 = lab := by
        unfold opTx; rw [if_neg (by decide), if_neg (by decide), if_neg (by decide), if_neg (by decide), if_pos ⟨rfl, hL⟩]
      unfold fieldM
      rw [if_neg (by simp), if_neg (by decide), if_neg (by decide), if_neg (by decide), if_neg (by decide), if_neg (by decide), e, if_pos ⟨rfl, hl hL⟩]
      simp [setF, hL]
theorem op_tx (i : Ins) (lab : List UInt8) (c : UInt8) (hb : inB i c) (hl : lab ≠ [] → txB lab = true) : txB (opTx i lab c) = true := by
  have hr : ∀ n, txB (114 :: Lib.decDigits n) = true := fun n => by
    have := dec_tx n
    unfold txB at this ⊢
    simp only [Bool.and_eq_true, List.all_cons] at this ⊢
    exact ⟨rfl, by decide, this.2⟩
  unfold opTx
  split
  · exact hr _
  split
  · exact hr _
  split
  · exact hr _
  split
  · rename_i h1 h2 h3 h4
    subst h4
    unfold inB okFld fld at hb
    simp only [show ¬ ((107 : UInt8) = 97) by decide, show ¬ ((107 : UInt8) = 98) by decide, show ¬ ((107 : UInt8) = 99) by decide, if_true, if_false, decide_eq_true_eq] at hb
    obtain ⟨n, hn⟩ := Int.eq_ofNat_of_zero_le hb.1
    rw [hn]; exact (cond_back n (by omega)).2
  split
  · rename_i h; exact hl h.2
  · exact itoa_tx _
theorem fields_back (i : Ins) (lab : List UInt8) (hl : lab ≠ [] → nameF ⟨lab.toArray⟩ = true) : ∀ (cs : List UInt8) (k : Nat) (j : Ins), (∀ c ∈ cs, c = 97 ∨ c = 98 ∨ c = 99 ∨ c = 107 ∨ c = 117 ∨ c = 115 ∨ c = 111) → (∀ c ∈ cs, inB i c) →
    fieldsM cs (colsW k (cs.map (opTx i lab))) j = .inl (cs.foldl (setF i (decide (lab ≠ []))) j)
  | [], k, j, _, _ => rfl
  | c :: cs, k, j, h1, h2 => by
    rw [List.map_cons, colsW, fieldsM, field_back i j lab c _ (h1 c (by simp)) (h2 c (by simp)) hl]
    exact fields_back i lab hl cs _ _ (fun x hx => h1 x (by simp [hx])) (fun x hx => h2 x (by simp [hx]))
theorem colsW_len : ∀ (k : Nat) (bs : List (List UInt8)), (colsW k bs).length = bs.length
  | _, [] => rfl
  | k, b :: bs => by simp [colsW, colsW_len]
theorem cols_q : ∀ (k : Nat) (bs : List (List UInt8)) (n : Nat) (b : List UInt8), bs[n]? = some b → ∃ c, (colsW k bs).getD n w0 = (⟨b.toArray⟩, false, c)
  | _, [], n, b, h => by simp at h
  | k, x :: bs, 0, b, h => by simp only [List.getElem?_cons_zero, Option.some.injEq] at h; subst h; exact ⟨_, rfl⟩
  | k, x :: bs, n + 1, b, h => by
    simp only [List.getElem?_cons_succ] at h
    obtain ⟨c, hc⟩ := cols_q (k + x.length + 1) bs n b h
    exact ⟨c, by rw [colsW, List.getD_cons_succ]; exact hc⟩
theorem named_back (n : Nat) (h0 : 1 ≤ n) (h1 : n < 25) : namedF ⟨(nameI n).toArray⟩ = some n ∧ colonEnd ⟨(nameI n).toArray⟩ = false ∧ txB (nameI n) = true := by
  have : ∀ m : Fin 25, 1 ≤ m.val → namedF ⟨(nameI (m.val : Nat)).toArray⟩ = some m.val ∧ colonEnd ⟨(nameI (m.val : Nat)).toArray⟩ = false ∧ txB (nameI (m.val : Nat)) = true := by decide +kernel
  exact this ⟨n, h1⟩ h0
theorem shape_let (op : Int) (c : UInt8) (h : c ∈ shapeI op) (h0 : 0 ≤ op) (h1 : op < 64) : c = 97 ∨ c = 98 ∨ c = 99 ∨ c = 107 ∨ c = 117 ∨ c = 115 ∨ c = 111 := by
  rcases shape_cases op h0 h1 with ⟨hs, _⟩ | ⟨_, hs | hs | hs | hs | hs | hs | hs | hs | hs⟩ <;> rw [hs] at h <;> simp only [List.mem_cons, List.not_mem_nil, or_false] at h <;> (first | exact absurd h id | (rcases h with rfl | rfl | rfl <;> decide) | (rcases h with rfl | rfl <;> decide) | (subst h; decide))
end Go.Proofs.YtiknookfnameiaaGreatDoor

namespace Go.Proofs.YtiknookfnameiaaGreatDoor
open WP
/-- does the word's line name its label? -/
def jmpW (w : Int) (lab : List UInt8) : Bool := goodI w && decide ((111 : UInt8) ∈ shapeI (decI w).op) && decide (lab ≠ [])
/-- what is laid at first -/
def preW (w : Int) (lab : List UInt8) : Int := if jmpW w lab = true then encF { decI w with imm := 0 } else w
theorem good_dec {w : Int} (h : goodI w = true) : decI w = readI w ∧ checkI (readI w) = 0 ∧ wordI (readI w) = w ∧ (1 ≤ (readI w).op ∧ (readI w).op < 25) := by
  have hd : decI w = readI w := by unfold decI; rw [if_pos h]
  unfold goodI at h
  simp only [Bool.and_eq_true, decide_eq_true_eq] at h
  refine ⟨hd, h.1, h.2, ?_⟩
  have := h.1
  unfold checkI at this
  split at this
  · assumption
  · exact absurd this (by decide)
theorem good_fld {w : Int} (h : goodI w = true) : ∀ c ∈ shapeI (readI w).op, inB (readI w) c := by
  obtain ⟨_, h1, _, h2⟩ := good_dec h
  unfold checkI at h1
  rw [if_pos h2] at h1
  split at h1
  · rename_i ha
    intro c hc
    rw [List.all_eq_true] at ha
    exact ha _ (List.mem_map_of_mem hc)
  · exact absurd h1 (by decide)
theorem fold_set (w : Int) (h0 : 0 ≤ w) (h1 : w < 4294967296) (h : goodI w = true) (L : Bool) :
    (shapeI (readI w).op).foldl (setF (readI w) L) { ins0 with op := (readI w).op } = if L = true ∧ (111 : UInt8) ∈ shapeI (readI w).op then { readI w with imm := 0 } else readI w := by
  rw [read_eq w h0 h1]
  have hop : (rreadI w).op = w / 67108864 := rfl
  rw [hop]
  rcases shape_cases (w / 67108864) (by omega) (by omega) with ⟨hs, hn⟩ | ⟨hy, hs⟩
  · obtain ⟨_, _, _, h2⟩ := good_dec h
    rw [read_eq w h0 h1, hop] at h2
    exact absurd h2 hn
  · rcases hs with hs | hs | hs | hs | hs | hs | hs | hs | hs <;> rw [hs] <;> cases L <;> simp [setF, rreadI, hasL, hs, ins0]
theorem encF_good {w : Int} (h : goodI w = true) : encF (readI w) = w := by
  obtain ⟨_, h1, h2, _⟩ := good_dec h
  unfold encF
  rw [if_pos h1, h2]
theorem take_stmt (ln : Nat) (x : W) (xs : List W) (st : Asm) (h : colonEnd x.1 = false) : takeM ln (x :: xs) st = stmtM ln x xs st := by
  rw [takeM, if_neg (by simp [h])]
theorem room_yes (ln : Nat) (x : W) (st : Asm) (n : Nat) (h : st.ws.length + n ≤ 2048) : roomM ln x st n = none := by
  unfold roomM; rw [if_neg (by omega)]
theorem count_yes (ln : Nat) (x : W) (ops : List W) (n : Nat) (h : ops.length = n) : countM ln x ops n = none := by
  unfold countM; rw [if_neg (by omega), if_neg (by omega)]
theorem line_good (w : Int) (lab : List UInt8) (ln : Nat) (st : Asm) (h0 : 0 ≤ w) (h1 : w < 4294967296) (hg : goodI w = true) (hl : lab ≠ [] → nameF ⟨lab.toArray⟩ = true ∧ txB lab = true) (hlen : st.ws.length + 1 ≤ 2048) :
    ∃ c, lineM ln ⟨(lineL w lab).toArray⟩ st = .inl ⟨st.ws ++ [preW w lab], st.labs, st.lat ++ (if jmpW w lab = true then [⟨.jmp { decI w with imm := 0 }, st.ws.length, ⟨lab.toArray⟩, ln, c⟩] else [])⟩ := by
  obtain ⟨hd, hc, hw, hop⟩ := good_dec hg
  obtain ⟨n, hn⟩ := Int.eq_ofNat_of_zero_le (show 0 ≤ (readI w).op by omega)
  obtain ⟨nb1, nb2, nb3⟩ := named_back n (by omega) (by omega)
  have hlet := shape_let (readI w).op
  have hwd : wordsF ⟨(lineL w lab).toArray⟩ = .inl (colsW 0 (nameI (readI w).op :: (shapeI (readI w).op).map (opTx (readI w) lab))) := by
    unfold lineL
    rw [if_pos hg, hd, insL_join]
    have := words_joined (nameI (readI w).op :: (shapeI (readI w).op).map (opTx (readI w) lab)) [] (.inl rfl) (by simp) (fun b hb => by
      rcases List.mem_cons.1 hb with rfl | hb
      · rw [hn]; exact txB_plain nb3
      · obtain ⟨c, hc1, rfl⟩ := List.mem_map.1 hb
        exact txB_plain (op_tx _ _ _ (good_fld hg c hc1) (fun h => (hl h).2)))
    rwa [List.append_nil] at this
  unfold lineM
  rw [hwd]
  simp only
  rw [colsW, take_stmt _ _ _ _ (by rw [hn]; exact nb2)]
  obtain ⟨k, hk⟩ : ∃ k, 0 + (nameI (readI w).op).length + 1 = k := ⟨_, rfl⟩
  rw [hk]
  unfold stmtM
  rw [if_neg (by simp)]
  rw [show namedF ((⟨(nameI (readI w).op).toArray⟩, false, 0 + 1) : W).1 = some n by rw [hn]; exact nb1]
  simp only
  unfold instrM
  rw [room_yes _ _ _ _ hlen]
  simp only
  have hsn : shapeI (n : Int) = shapeI (readI w).op := by rw [hn]
  rw [hsn, show ({ ins0 with op := (n : Int) } : Ins) = { ins0 with op := (readI w).op } by rw [hn]]
  rw [fields_back (readI w) lab (fun h => (hl h).1) _ _ _ (fun c hc => hlet c hc (by omega) (by omega)) (good_fld hg), fold_set w h0 h1 hg]
  simp only
  rw [count_yes _ _ _ _ (by rw [colsW_len, List.length_map])]
  simp only
  have hj : jmpW w lab = (decide ((111 : UInt8) ∈ shapeI (readI w).op) && decide (lab ≠ [])) := by unfold jmpW; rw [hg, hd, Bool.true_and]
  by_cases hJ : jmpW w lab = true
  · have hJ2 := hJ
    rw [hj] at hJ2
    simp only [Bool.and_eq_true, decide_eq_true_eq] at hJ2
    rw [if_pos ⟨by rw [decide_eq_true_eq]; exact hJ2.2, hJ2.1⟩]
    have hpre : preW w lab = encF { readI w with imm := 0 } := by unfold preW; rw [if_pos hJ, hd]
    have ho : oAt (shapeI (readI w).op) = some ((shapeI (readI w).op).idxOf 111) := by unfold oAt; rw [if_pos (by simpa using hJ2.1)]
    have hi : (shapeI (readI w).op).idxOf 111 < (shapeI (readI w).op).length := List.idxOf_lt_length_of_mem hJ2.1
    have hx : (shapeI (readI w).op)[(shapeI (readI w).op).idxOf 111]? = some 111 := by rw [List.getElem?_eq_getElem hi, List.getElem_idxOf]
    have hot : opTx (readI w) lab 111 = lab := by unfold opTx; rw [if_neg (by decide), if_neg (by decide), if_neg (by decide), if_neg (by decide), if_pos ⟨rfl, hJ2.2⟩]
    obtain ⟨c, hcq⟩ := cols_q k ((shapeI (readI w).op).map (opTx (readI w) lab)) ((shapeI (readI w).op).idxOf 111) lab (by rw [List.getElem?_map, hx, Option.map_some, hot])
    refine ⟨c, ?_⟩
    rw [if_pos hJ, ho, hpre, hd]
    simp only
    rw [hcq]
    unfold latM isNameF
    rw [if_pos (by simp [(hl hJ2.2).1])]
  · have hJ2 := hJ
    rw [hj] at hJ2
    simp only [Bool.and_eq_true, decide_eq_true_eq] at hJ2
    rw [if_neg (fun h => hJ2 ⟨h.2, by simpa using h.1⟩)]
    have hpre : preW w lab = w := by unfold preW; rw [if_neg hJ]
    refine ⟨0, ?_⟩
    rw [if_neg hJ, hpre, encF_good hg]
    congr 2
    unfold oAt
    by_cases hO : (111 : UInt8) ∈ shapeI (readI w).op
    · rw [if_pos (by simpa using hO)]
      simp only
      have hi : (shapeI (readI w).op).idxOf 111 < (shapeI (readI w).op).length := List.idxOf_lt_length_of_mem hO
      have hx : (shapeI (readI w).op)[(shapeI (readI w).op).idxOf 111]? = some 111 := by rw [List.getElem?_eq_getElem hi, List.getElem_idxOf]
      have hL : lab = [] := by
        by_cases hq : lab = []
        · exact hq
        · exact absurd ⟨hO, hq⟩ hJ2
      have hot : opTx (readI w) lab 111 = Lib.itoa (readI w).imm := by unfold opTx; rw [if_neg (by decide), if_neg (by decide), if_neg (by decide), if_neg (by decide), if_neg (by simp [hL])]
      obtain ⟨c, hcq⟩ := cols_q k ((shapeI (readI w).op).map (opTx (readI w) lab)) ((shapeI (readI w).op).idxOf 111) (Lib.itoa (readI w).imm) (by rw [List.getElem?_map, hx, Option.map_some, hot])
      rw [hcq]
      unfold latM isNameF
      rw [if_neg (by simp [itoa_noname])]
    · rw [if_neg (by simpa using hO)]
theorem hx_tx (n : Nat) : txB ([48, 120] ++ hx8P n) = true := by
  have : ∀ d : Fin 16, txOk (dg16 d.val) = true := by decide
  unfold txB
  simp only [Bool.and_eq_true, List.all_eq_true, Bool.not_eq_true']
  refine ⟨rfl, fun x hx => ?_⟩
  rcases List.mem_append.1 hx with hx | hx
  · revert hx; simp only [List.mem_cons, List.not_mem_nil, or_false]; rintro (rfl | rfl) <;> decide
  · unfold hx8P at hx
    obtain ⟨i, _, rfl⟩ := List.mem_map.1 hx
    exact this ⟨_, Nat.mod_lt _ (by decide)⟩
theorem line_word (w : Int) (lab : List UInt8) (ln : Nat) (st : Asm) (h0 : 0 ≤ w) (h1 : w < 4294967296) (hg : goodI w = false) (hlen : st.ws.length + 1 ≤ 2048) :
    lineM ln ⟨(lineL w lab).toArray⟩ st = .inl ⟨st.ws ++ [w], st.labs, st.lat⟩ := by
  obtain ⟨n, rfl⟩ := Int.eq_ofNat_of_zero_le h0
  have hwd : wordsF ⟨(lineL (n : Int) lab).toArray⟩ = .inl (colsW 0 [[119, 111, 114, 100], [48, 120] ++ hx8P n]) := by
    unfold lineL
    rw [if_neg (by rw [hg]; simp)]
    have := words_joined [[119, 111, 114, 100], [48, 120] ++ hx8P n] [] (.inl rfl) (by simp) (fun b hb => by
      simp only [List.mem_cons, List.not_mem_nil, or_false] at hb
      rcases hb with rfl | rfl
      · decide
      · exact txB_plain (hx_tx n))
    rwa [List.append_nil] at this
  unfold lineM
  rw [hwd]
  simp only
  rw [colsW, take_stmt _ _ _ _ (by decide)]
  obtain ⟨k, hk⟩ : ∃ k, 0 + ([119, 111, 114, 100] : List UInt8).length + 1 = k := ⟨_, rfl⟩
  rw [hk]
  unfold stmtM
  rw [if_neg (by simp), show namedF ((⟨([119, 111, 114, 100] : List UInt8).toArray⟩, false, 0 + 1) : W).1 = none by decide +kernel]
  simp only
  rw [if_pos (by trivial)]
  unfold fixedM
  rw [room_yes _ _ _ _ hlen]
  simp only
  have hnm : isNameF ((colsW k [[48, 120] ++ hx8P n]).getD 0 w0) = false := by
    show (!false && nameF ⟨([48, 120] ++ hx8P n).toArray⟩) = false
    rw [show ([48, 120] ++ hx8P n : List UInt8) = 48 :: (120 :: hx8P n) from rfl, hex_noname]; rfl
  have hnum : numberM ((colsW k [[48, 120] ++ hx8P n]).getD 0 w0) = some (n : Int) := by
    show (if false = true then none else match numF ([48, 120] ++ hx8 n) with | some v => some (v : Int) | none => (sgnF ([48, 120] ++ hx8 n)).map fun v => v % 4294967296) = _
    rw [if_neg (by simp), num_hex n (by omega)]
  rw [if_pos ⟨by simp [colsW], hnm⟩, hnum]
  simp only
  rw [count_yes ln _ (colsW k [[48, 120] ++ hx8P n]) (0 + 1) rfl]
  simp only
  rw [show latM .word st.ws.length ln ((colsW k [[48, 120] ++ hx8P n]).getD 0 w0) = [] by unfold latM; rw [hnm]; rfl, List.append_nil]
  rfl
theorem line_back (w : Int) (lab : List UInt8) (ln : Nat) (st : Asm) (h0 : 0 ≤ w) (h1 : w < 4294967296) (hl : lab ≠ [] → nameF ⟨lab.toArray⟩ = true ∧ txB lab = true) (hlen : st.ws.length + 1 ≤ 2048) :
    ∃ c, lineM ln ⟨(lineL w lab).toArray⟩ st = .inl ⟨st.ws ++ [preW w lab], st.labs, st.lat ++ (if jmpW w lab = true then [⟨.jmp { decI w with imm := 0 }, st.ws.length, ⟨lab.toArray⟩, ln, c⟩] else [])⟩ := by
  by_cases hg : goodI w = true
  · exact line_good w lab ln st h0 h1 hg hl hlen
  · have hg' : goodI w = false := by simpa using hg
    have hj : jmpW w lab = false := by unfold jmpW; rw [hg']; rfl
    refine ⟨0, ?_⟩
    rw [line_word w lab ln st h0 h1 hg' hlen, hj]
    unfold preW
    rw [hj]; simp
end Go.Proofs.YtiknookfnameiaaGreatDoor
