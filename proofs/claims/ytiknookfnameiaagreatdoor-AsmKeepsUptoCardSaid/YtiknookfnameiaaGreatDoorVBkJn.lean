/- A printed text read back: all its words. No program in sight. -/
import Derived.Test.YtiknookfnameiaaGreatDoorJn38
namespace Go.Proofs.YtiknookfnameiaaGreatDoor
open WP
theorem vcount (B : List Bool) (k : Nat) (h : k < B.length) : (B.take (k + 1)).count true = (B.take k).count true + (if B.getD k false = true then 1 else 0) := by
  rw [List.take_succ_eq_append_getElem h, List.count_append, List.getD_eq_getElem?_getD, List.getElem?_eq_getElem h]
  cases B[k] <;> simp
theorem vcount_le (B : List Bool) (j : Nat) : (B.take j).count true ≤ j := Nat.le_trans List.count_le_length (List.length_take_le _ _)
theorem vcount_mono (B : List Bool) {i j : Nat} (h : i ≤ j) : (B.take i).count true ≤ (B.take j).count true := by
  refine List.Sublist.count_le true ?_
  rw [show B.take i = (B.take j).take i by rw [List.take_take, Nat.min_eq_left h]]
  exact List.take_sublist _ _
theorem vnm (B : List Bool) (j : Nat) (h : B.getD j false = true) : nmAt B j = 108 :: Lib.decDigits ((B.take j).count true) := by unfold nmAt; rw [if_pos h]
theorem getD_lt {B : List Bool} {j : Nat} (h : B.getD j false = true) : j < B.length := by
  rcases Nat.lt_or_ge j B.length with h' | h'
  · exact h'
  · rw [List.getD_eq_getElem?_getD, List.getElem?_eq_none h'] at h; cases h
theorem nm_inj (B : List Bool) (i j : Nat) (hi : B.getD i false = true) (hj : B.getD j false = true) (h : nmAt B i = nmAt B j) : i = j := by
  rw [vnm B i hi, vnm B j hj] at h
  simp only [List.cons.injEq, true_and] at h
  have hc : (B.take i).count true = (B.take j).count true := by rw [← dec_val ((B.take i).count true), h, dec_val]
  have key : ∀ a b, a < b → B.getD a false = true → (B.take a).count true < (B.take b).count true := fun a b hab ha => by
    have h1 := vcount B a (getD_lt ha)
    rw [if_pos ha] at h1
    have h2 := vcount_mono B (show a + 1 ≤ b from hab)
    omega
  rcases Nat.lt_trichotomy i j with h' | h' | h'
  · have := key i j h' hi; omega
  · exact h'
  · have := key j i h' hj; omega
theorem nameA_dig : ∀ (L : List UInt8) (i : Nat), i ≠ 0 → L.all isDg = true → nameA L i = true
  | [], _, _, _ => rfl
  | c :: L, i, hi, h => by
    simp only [List.all_cons, Bool.and_eq_true] at h
    have h1 := h.1
    unfold isDg at h1
    simp only [decide_eq_true_eq] at h1
    rw [nameA, nameA_dig L (i + 1) (by omega) h.2, Bool.and_true]
    unfold nmOk
    rw [decide_eq_true hi, decide_eq_true (show (48 : Int) ≤ (c.toNat : Int) by omega), decide_eq_true (show (c.toNat : Int) ≤ 57 by omega)]
    simp
theorem dec_small (m : Nat) (h : m ≤ 4096) : (Lib.decDigits m).length ≤ 4 := by
  rw [Lib.decDigits_length]
  by_cases h1 : m < 10
  · rw [Lib.nDigits_small h1]; omega
  by_cases h2 : m / 10 < 10
  · rw [Lib.nDigits_big h1, Lib.nDigits_small h2]; omega
  by_cases h3 : m / 10 / 10 < 10
  · rw [Lib.nDigits_big h1, Lib.nDigits_big h2, Lib.nDigits_small h3]; omega
  · rw [Lib.nDigits_big h1, Lib.nDigits_big h2, Lib.nDigits_big h3, Lib.nDigits_small (by omega)]; omega
theorem nm_ok (B : List Bool) (j : Nat) (h : B.getD j false = true) (hj : j ≤ 4096) : nameF ⟨(nmAt B j).toArray⟩ = true ∧ txB (nmAt B j) = true ∧ nmAt B j ≠ [] ∧ (nmAt B j).length ≤ 5 := by
  rw [vnm B j h]
  have hd := dec_dig ((B.take j).count true)
  have hl := dec_small ((B.take j).count true) (by have := vcount_le B j; omega)
  refine ⟨?_, ?_, by simp, by simp; omega⟩
  · unfold nameF
    have hs : ByteArray.size ⟨(108 :: Lib.decDigits ((B.take j).count true)).toArray⟩ = (Lib.decDigits ((B.take j).count true)).length + 1 := by
      rw [ByteArray.size]; simp
    rw [hs, decide_eq_true (by omega), decide_eq_true (by omega)]
    show (true && true && nameA (108 :: Lib.decDigits ((B.take j).count true)) 0) = true
    rw [nameA, nameA_dig _ _ (by omega) hd]
    rfl
  · have := dec_tx ((B.take j).count true)
    unfold txB at this ⊢
    simp only [Bool.and_eq_true, List.all_cons] at this ⊢
    exact ⟨rfl, by decide, this.2⟩
/-- the lines that are printed at a place -/
def pieceLs (l : List UInt32) (i : Nat) : List (List UInt8) :=
  (if (namedL l l.length).getD i false then [nmAt (namedL l l.length) i ++ [58]] else []) ++ (if i < l.length then [lineL (wAt l i) (labL (namedL l l.length) (tgtO (wAt l i) i l.length))] else [])
theorem piece_lines (l : List UInt32) (i : Nat) : pieceL l i = (pieceLs l i).flatMap (· ++ [10]) := by
  unfold pieceL pieceLs
  rw [List.flatMap_append]
  congr 1
  · split <;> simp
  · split <;> simp
theorem linesA_at (r a : List UInt8) : ∀ c, (10 : UInt8) ∉ a → linesA c (a ++ 10 :: r) = (c ++ a) :: linesA [] r := by
  induction a with
  | nil => intro c _; simp [linesA]
  | cons x a ih =>
    intro c h
    simp only [List.mem_cons, not_or] at h
    rw [List.cons_append, linesA, if_neg (fun e => h.1 e.symm), ih _ h.2]; simp
theorem linesA_flat : ∀ Ls : List (List UInt8), (∀ x ∈ Ls, (10 : UInt8) ∉ x) → linesA [] (Ls.flatMap (· ++ [10])) = Ls
  | [], _ => rfl
  | x :: Ls, h => by
    rw [List.flatMap_cons, List.append_assoc]
    have := linesA_at (Ls.flatMap (· ++ [10])) x [] (h x (by simp))
    rw [show [10] ++ Ls.flatMap (· ++ [10]) = 10 :: Ls.flatMap (· ++ [10]) from rfl, this, linesA_flat Ls (fun y hy => h y (by simp [hy]))]
    rfl
theorem joinW_no10 : ∀ bs : List (List UInt8), (∀ b ∈ bs, (10 : UInt8) ∉ b) → (10 : UInt8) ∉ joinW bs
  | [], _ => by simp [joinW]
  | [b], h => by simpa [joinW] using h
  | b :: c :: bs, h => by
    rw [joinW]
    simp only [List.mem_append, List.mem_cons, not_or]
    exact ⟨h b (by simp), by decide, joinW_no10 (c :: bs) (fun x hx => h x (by simp [hx]))⟩
theorem line_join (w : Int) (lab : List UInt8) (h0 : 0 ≤ w) (hl : lab ≠ [] → txB lab = true) : ∃ bs, lineL w lab = joinW bs ∧ bs ≠ [] ∧ ∀ b ∈ bs, txB b = true := by
  by_cases hg : goodI w = true
  · obtain ⟨hd, hc, hw, hop⟩ := good_dec hg
    obtain ⟨n, hn⟩ := Int.eq_ofNat_of_zero_le (show 0 ≤ (readI w).op by omega)
    obtain ⟨nb1, nb2, nb3⟩ := named_back n (by omega) (by omega)
    refine ⟨nameI (readI w).op :: (shapeI (readI w).op).map (opTx (readI w) lab), by unfold lineL; rw [if_pos hg, hd, insL_join], by simp, ?_⟩
    intro b hb
    rcases List.mem_cons.1 hb with rfl | hb
    · rw [hn]; exact nb3
    · obtain ⟨c, hc1, rfl⟩ := List.mem_map.1 hb
      exact op_tx _ _ _ (good_fld hg c hc1) hl
  · obtain ⟨n, rfl⟩ := Int.eq_ofNat_of_zero_le h0
    refine ⟨[[119, 111, 114, 100], [48, 120] ++ hx8P n], by unfold lineL; rw [if_neg hg]; rfl, by simp, ?_⟩
    intro b hb
    simp only [List.mem_cons, List.not_mem_nil, or_false] at hb
    rcases hb with rfl | rfl
    · decide
    · exact hx_tx n
theorem line_no10 (w : Int) (lab : List UInt8) (h0 : 0 ≤ w) (hl : lab ≠ [] → txB lab = true) : (10 : UInt8) ∉ lineL w lab ∧ lineL w lab ≠ [] := by
  obtain ⟨bs, e, hn, hb⟩ := line_join w lab h0 hl
  rw [e]
  refine ⟨joinW_no10 bs (fun b hbm => txB_no10 (hb b hbm)), ?_⟩
  cases bs with
  | nil => exact absurd rfl hn
  | cons b bs =>
    have h1 := hb b (by simp)
    have hne : b ≠ [] := by intro e; rw [e] at h1; exact absurd h1 (by decide)
    cases bs with
    | nil => exact hne
    | cons c bs => rw [joinW]; simp
/-- the label of a word's line -/
def labW (l : List UInt32) (i : Nat) : List UInt8 := labL (namedL l l.length) (tgtO (wAt l i) i l.length)
theorem isTo_yes {l : List UInt32} {i t : Nat} (hi : i < l.length) (h : tgtO (wAt l i) i l.length = some t) : (namedL l l.length).getD t false = true := by
  have ht := tgtO_le h
  unfold namedL
  rw [List.getD_eq_getElem?_getD, List.getElem?_map, List.getElem?_range (by omega)]
  show isTo l l.length t = true
  unfold isTo
  rw [List.any_eq_true]
  exact ⟨i, List.mem_range.2 hi, by rw [h]; simp⟩
theorem lab_ok {l : List UInt32} {i : Nat} (hi : i < l.length) (hn : l.length ≤ 2048) (h : labW l i ≠ []) : nameF ⟨(labW l i).toArray⟩ = true ∧ txB (labW l i) = true := by
  unfold labW at h ⊢
  cases ht : tgtO (wAt l i) i l.length with
  | none => rw [ht] at h; exact absurd rfl h
  | some t =>
    have := nm_ok _ t (isTo_yes hi ht) (by have := tgtO_le ht; omega)
    exact ⟨this.1, this.2.1⟩
theorem jmp_iff {l : List UInt32} {i : Nat} (hi : i < l.length) (hn : l.length ≤ 2048) : jmpW (wAt l i) (labW l i) = (tgtO (wAt l i) i l.length).isSome := by
  unfold labW
  cases ht : tgtO (wAt l i) i l.length with
  | none => unfold jmpW; simp [labL]
  | some t =>
    have h3 := (nm_ok _ t (isTo_yes hi ht) (by have := tgtO_le ht; omega)).2.2.1
    unfold tgtO at ht
    split at ht
    · rename_i hc
      have hm : (111 : UInt8) ∈ shapeI (decI (wAt l i)).op := by
        rcases hc.2.1 with e | e <;> rw [e] <;> decide
      unfold jmpW
      rw [hc.1, decide_eq_true hm, decide_eq_true (show labL (namedL l l.length) (some t) ≠ [] from h3)]; rfl
    · cases ht
def labsTo (l : List UInt32) (k : Nat) : List (ByteArray × Nat) := (List.range k).filterMap fun j => if (namedL l l.length).getD j false = true then some (⟨(nmAt (namedL l l.length) j).toArray⟩, j) else none
theorem labsTo_succ (l : List UInt32) (k : Nat) : labsTo l (k + 1) = labsTo l k ++ (if (namedL l l.length).getD k false = true then [(⟨(nmAt (namedL l l.length) k).toArray⟩, k)] else []) := by
  unfold labsTo
  rw [List.range_succ, List.filterMap_append]
  congr 1
  split
  · rename_i h; simp only [List.filterMap_cons, List.filterMap_nil, if_pos h]
  · rename_i h; simp only [List.filterMap_cons, List.filterMap_nil, if_neg h]
theorem findL_app (A C : List (ByteArray × Nat)) (s : ByteArray) : findL (A ++ C) s = (findL A s).or (findL C s) := by
  unfold findL
  rw [List.find?_append]
  cases List.find? (fun p => p.1.data.toList == s.data.toList) A <;> rfl
theorem find_lab (l : List UInt32) (t : Nat) (ht : (namedL l l.length).getD t false = true) : ∀ k, findL (labsTo l k) ⟨(nmAt (namedL l l.length) t).toArray⟩ = if t < k then some t else none
  | 0 => rfl
  | k + 1 => by
    rw [labsTo_succ, findL_app, find_lab l t ht k]
    by_cases h1 : t < k
    · rw [if_pos h1, if_pos (show t < k + 1 by omega)]; rfl
    · rw [if_neg h1, Option.none_or]
      by_cases hk : (namedL l l.length).getD k false = true
      · rw [if_pos hk]
        by_cases h2 : t = k
        · subst h2
          rw [if_pos (Nat.lt_succ_self t)]
          unfold findL; simp
        · rw [if_neg (show ¬ t < k + 1 by omega)]
          have hne : (nmAt (namedL l l.length) k == nmAt (namedL l l.length) t) = false := by
            rw [beq_eq_false_iff_ne]; intro e; exact h2 (nm_inj _ _ _ hk ht e).symm
          unfold findL
          rw [List.find?_cons]
          simp only [hne, List.find?_nil]; rfl
      · rw [if_neg hk]
        have h2 : t ≠ k := fun e => hk (by rw [← e]; exact ht)
        rw [if_neg (show ¬ t < k + 1 by omega)]; rfl
def latK (x : Lat) : Wht × Nat × ByteArray := (x.what, x.place, x.nm)
def latO (l : List UInt32) (i : Nat) : List (Wht × Nat × ByteArray) :=
  match tgtO (wAt l i) i l.length with
  | some t => [(.jmp { decI (wAt l i) with imm := 0 }, i, ⟨(nmAt (namedL l l.length) t).toArray⟩)]
  | none => []
def preWs (l : List UInt32) (i : Nat) : Int := preW (wAt l i) (labW l i)
structure InvB (l : List UInt32) (k : Nat) (st : Asm) : Prop where
  ws : st.ws = (List.range (min k l.length)).map (preWs l)
  labs : st.labs = labsTo l k
  lat : st.lat.map latK = (List.range (min k l.length)).flatMap (latO l)
theorem name_line (l : List UInt32) (k ln : Nat) (st : Asm) (hk : (namedL l l.length).getD k false = true) (hk2 : k ≤ 4096) (hs : st.labs = labsTo l k) (hw : st.ws.length = k) :
    lineM ln ⟨(nmAt (namedL l l.length) k ++ [58]).toArray⟩ st = .inl ⟨st.ws, labsTo l (k + 1), st.lat⟩ := by
  obtain ⟨n1, n2, n3, n4⟩ := nm_ok _ k hk hk2
  have htx : txB (nmAt (namedL l l.length) k ++ [58]) = true := by
    unfold txB at n2 ⊢
    simp only [Bool.and_eq_true, List.all_append, List.all_cons, List.all_nil, Bool.not_eq_true', List.isEmpty_eq_false_iff] at n2 ⊢
    exact ⟨by simp, n2.2, by decide, trivial⟩
  have hwd : wordsF ⟨(nmAt (namedL l l.length) k ++ [58]).toArray⟩ = .inl (colsW 0 [nmAt (namedL l l.length) k ++ [58]]) := by
    have := words_joined [nmAt (namedL l l.length) k ++ [58]] [] (.inl rfl) (by simp) (fun b hb => by
      simp only [List.mem_cons, List.not_mem_nil, or_false] at hb
      subst hb; exact txB_plain htx)
    rwa [List.append_nil] at this
  unfold lineM
  rw [hwd]
  simp only
  rw [colsW, colsW, takeM]
  have hce : colonEnd ⟨(nmAt (namedL l l.length) k ++ [58]).toArray⟩ = true := by unfold colonEnd; simp
  have hcut : cutC ⟨(nmAt (namedL l l.length) k ++ [58]).toArray⟩ = ⟨(nmAt (namedL l l.length) k).toArray⟩ := by
    unfold cutC
    have := extract_at (s := ⟨(nmAt (namedL l l.length) k ++ [58]).toArray⟩) (k := 0) (b := nmAt (namedL l l.length) k) (r := [58]) (by simp)
    rw [← this]
    congr 1
    rw [ByteArray.size]; simp
  rw [if_pos ⟨rfl, hce⟩]
  simp only [hcut]
  rw [if_neg (by rw [n1]; simp), hs, find_lab l k hk k, if_neg (Nat.lt_irrefl k), if_neg (by simp), takeM, labsTo_succ, if_pos hk, hw]
theorem read_from (l : List UInt32) (hn : l.length ≤ 2048) : ∀ (d k ln : Nat) (st : Asm), k + d = l.length + 1 → InvB l k st → ∃ st', linesM ln (bas ((List.range' k d).flatMap (pieceLs l))) st = .inl st' ∧ InvB l (l.length + 1) st'
  | 0, k, ln, st, hk, h => ⟨st, rfl, by rw [show l.length + 1 = k by omega]; exact h⟩
  | d + 1, k, ln, st, hk, h => by
    have hlw : st.ws.length = k := by rw [h.ws]; simp; omega
    rw [List.range'_succ, List.flatMap_cons]
    have hbas : ∀ A C : List (List UInt8), bas (A ++ C) = bas A ++ bas C := fun A C => by unfold bas; rw [List.map_append]
    -- the name's line
    have hA : ∃ ln1 st1, linesM ln (bas (pieceLs l k ++ (List.range' (k + 1) d).flatMap (pieceLs l))) st = linesM ln1 (bas ((if k < l.length then [lineL (wAt l k) (labW l k)] else []) ++ (List.range' (k + 1) d).flatMap (pieceLs l))) st1 ∧ st1.ws = st.ws ∧ st1.lat = st.lat ∧ st1.labs = labsTo l (k + 1) := by
      unfold pieceLs
      by_cases hN : (namedL l l.length).getD k false = true
      · rw [if_pos hN]
        refine ⟨ln + 1, ⟨st.ws, labsTo l (k + 1), st.lat⟩, ?_, rfl, rfl, rfl⟩
        rw [List.append_assoc, hbas]
        show linesM ln (⟨(nmAt (namedL l l.length) k ++ [58]).toArray⟩ :: bas _) st = _
        rw [linesM, name_line l k ln st hN (by omega) h.labs hlw]; rfl
      · rw [if_neg hN, List.nil_append]
        exact ⟨ln, st, rfl, rfl, rfl, by rw [h.labs, labsTo_succ, if_neg hN, List.append_nil]⟩
    obtain ⟨ln1, st1, e1, s1, s2, s3⟩ := hA
    rw [e1]
    by_cases hkl : k < l.length
    · rw [if_pos hkl]
      obtain ⟨hb0, hb1⟩ := wAt_bd l k
      obtain ⟨c, hc⟩ := line_back (wAt l k) (labW l k) ln1 st1 hb0 (by omega) (fun hne => lab_ok hkl hn hne) (by rw [s1, hlw]; omega)
      rw [hbas]
      show ∃ st', linesM ln1 (⟨(lineL (wAt l k) (labW l k)).toArray⟩ :: bas _) st1 = .inl st' ∧ _
      rw [linesM, hc]
      refine read_from l hn d (k + 1) (ln1 + 1) _ (by omega) ⟨?_, s3, ?_⟩
      · show st1.ws ++ [preWs l k] = _
        rw [s1, h.ws, Nat.min_eq_left (by omega), Nat.min_eq_left (by omega), List.range_succ, List.map_append]; rfl
      · show (st1.lat ++ _).map latK = _
        rw [s2, List.map_append, h.lat, Nat.min_eq_left (by omega), Nat.min_eq_left (by omega), List.range_succ, List.flatMap_append]
        congr 1
        rw [jmp_iff hkl hn]
        show _ = latO l k ++ []
        unfold latO labW
        cases ht : tgtO (wAt l k) k l.length with
        | none => rfl
        | some t => simp only [Option.isSome_some, if_true, List.map_cons, List.map_nil, latK, labL, s1, hlw, List.append_nil]
    · rw [if_neg hkl, List.nil_append]
      refine read_from l hn d (k + 1) ln1 st1 (by omega) ⟨?_, s3, ?_⟩
      · rw [s1, h.ws, Nat.min_eq_right (by omega), Nat.min_eq_right (by omega)]
      · rw [s2, h.lat, Nat.min_eq_right (by omega), Nat.min_eq_right (by omega)]
def mixL (l : List UInt32) (k : Nat) : List Int := (List.range l.length).map fun i => if i < k then wAt l i else preWs l i
theorem tgt_good {l : List UInt32} {i t : Nat} (h : tgtO (wAt l i) i l.length = some t) : goodI (wAt l i) = true ∧ (decI (wAt l i)).imm = (t : Int) - i - 1 ∧ -32768 ≤ (decI (wAt l i)).imm ∧ (decI (wAt l i)).imm ≤ 32767 := by
  unfold tgtO at h
  split at h
  · rename_i hc
    simp only [Option.some.injEq] at h
    refine ⟨hc.1, by omega, ?_⟩
    have hd := (good_dec hc.1).1
    have hm : (111 : UInt8) ∈ shapeI (readI (wAt l i)).op := by
      rw [← hd]; rcases hc.2.1 with e | e <;> rw [e] <;> decide
    have := good_fld hc.1 _ hm
    unfold inB okFld fld at this
    rw [hd]
    simpa using this
  · cases h
theorem mix_step (l : List UInt32) (k : Nat) (hk : k < l.length) : (mixL l k).set k (wAt l k) = mixL l (k + 1) := by
  refine List.ext_getElem? fun j => ?_
  unfold mixL
  by_cases hj : j < l.length
  · rw [List.getElem?_map, List.getElem?_range hj, List.getElem?_set]
    by_cases e : k = j
    · subst e
      rw [if_pos rfl, if_pos (by simpa using hk)]
      simp
    · rw [if_neg e, List.getElem?_map, List.getElem?_range hj]
      simp only [Option.map_some]
      by_cases h2 : j < k
      · rw [if_pos h2, if_pos (by omega)]
      · rw [if_neg h2, if_neg (by omega)]
  · rw [List.getElem?_eq_none (by simp; omega), List.getElem?_eq_none (by simp; omega)]
theorem laters_back (base : Int) (l : List UInt32) (hn : l.length ≤ 2048) : ∀ (d k : Nat) (lat : List Lat), k + d = l.length → lat.map latK = (List.range' k d).flatMap (latO l) → latersM base (labsTo l (l.length + 1)) lat (mixL l k) = .inl (mixL l l.length)
  | 0, k, lat, hk, h => by
    cases lat with
    | nil => rw [show l.length = k by omega]; rfl
    | cons x lat => simp at h
  | d + 1, k, lat, hk, h => by
    rw [List.range'_succ, List.flatMap_cons] at h
    have hkl : k < l.length := by omega
    cases ht : tgtO (wAt l k) k l.length with
    | none =>
      have e1 : latO l k = [] := by unfold latO; rw [ht]
      rw [e1, List.nil_append] at h
      have e2 : mixL l k = mixL l (k + 1) := by
        have hp : preWs l k = wAt l k := by
          unfold preWs preW
          rw [if_neg (by rw [jmp_iff hkl hn, ht]; simp)]
        unfold mixL
        refine List.map_congr_left fun i _ => ?_
        by_cases h1 : i < k
        · rw [if_pos h1, if_pos (by omega)]
        · by_cases h2 : i = k
          · rw [if_neg h1, if_pos (by omega), h2, hp]
          · rw [if_neg h1, if_neg (by omega)]
      rw [e2]
      exact laters_back base l hn d (k + 1) lat (by omega) h
    | some t =>
      obtain ⟨g1, g2, g3, g4⟩ := tgt_good ht
      have htl := tgtO_le ht
      have e1 : latO l k = [(.jmp { decI (wAt l k) with imm := 0 }, k, ⟨(nmAt (namedL l l.length) t).toArray⟩)] := by unfold latO; rw [ht]
      rw [e1] at h
      cases lat with
      | nil => simp at h
      | cons x lat =>
        obtain ⟨xw, xp, xn, xl, xc⟩ := x
        simp only [List.map_cons, List.cons_append, List.nil_append, List.cons.injEq, latK, Prod.mk.injEq] at h
        obtain ⟨⟨q1, q2, q3⟩, h⟩ := h
        rw [q1, q2, q3, latersM]
        have hl1 : laterM base (labsTo l (l.length + 1)) ⟨.jmp { decI (wAt l k) with imm := 0 }, k, ⟨(nmAt (namedL l l.length) t).toArray⟩, xl, xc⟩ (mixL l k) = .inl (mixL l (k + 1)) := by
          unfold laterM
          simp only
          rw [find_lab l t (isTo_yes hkl ht), if_pos (by omega)]
          simp only
          rw [if_neg (by omega)]
          have e3 : ({ { decI (wAt l k) with imm := 0 } with imm := (t : Int) - k - 1 } : Ins) = readI (wAt l k) := by rw [← g2, ← (good_dec g1).1]
          rw [e3, encF_good g1]
          rw [← mix_step l k hkl]
          unfold putL
          rw [List.set_eq_take_append_cons_drop, if_pos (by unfold mixL; simpa using hkl)]
          simp
        rw [hl1]
        exact laters_back base l hn d (k + 1) lat (by omega) h
/-- the printed text gives its words -/
theorem read_print (base : Int) (l : List UInt32) (hn : l.length ≤ 2048) (hs : (printL l (l.length + 1)).length ≤ 65536) : readM base ⟨(printL l (l.length + 1)).toArray⟩ = .inl ((List.range l.length).map (wAt l), labsTo l (l.length + 1)) := by
  have hlines : linesF ⟨(printL l (l.length + 1)).toArray⟩ = bas ((List.range' 0 (l.length + 1)).flatMap (pieceLs l)) := by
    unfold linesF
    congr 1
    have : printL l (l.length + 1) = ((List.range (l.length + 1)).flatMap (pieceLs l)).flatMap (· ++ [10]) := by
      unfold printL
      rw [List.flatMap_assoc]
      congr 1
      funext i
      exact piece_lines l i
    rw [← List.range_eq_range']
    show linesA [] (printL l (l.length + 1)) = _
    rw [this]
    refine linesA_flat _ fun x hx => ?_
    obtain ⟨i, hi, hx⟩ := List.mem_flatMap.1 hx
    rw [List.mem_range] at hi
    unfold pieceLs at hx
    rcases List.mem_append.1 hx with hx | hx
    · split at hx
      · rename_i hN
        simp only [List.mem_cons, List.not_mem_nil, or_false] at hx
        subst hx
        have := txB_no10 (nm_ok _ i hN (by omega)).2.1
        simp only [List.mem_append, List.mem_cons, List.not_mem_nil, or_false, not_or]
        exact ⟨this, by decide⟩
      · cases hx
    · split at hx
      · rename_i hil
        simp only [List.mem_cons, List.not_mem_nil, or_false] at hx
        subst hx
        exact (line_no10 (wAt l i) (labW l i) (wAt_bd l i).1 (fun h => (lab_ok hil hn h).2)).1
      · cases hx
  obtain ⟨st, e, hI⟩ := read_from l hn (l.length + 1) 0 1 asm0 (by omega) ⟨by simp [asm0], rfl, by simp [asm0]⟩
  unfold readM
  rw [if_neg (by rw [ByteArray.size]; simpa using hs), hlines, e]
  simp only
  have hw : st.ws = mixL l 0 := by
    rw [hI.ws, Nat.min_eq_right (by omega)]
    unfold mixL; refine List.map_congr_left fun i _ => by simp
  rw [hI.labs, hw, laters_back base l hn l.length 0 st.lat (by omega) (by rw [hI.lat, Nat.min_eq_right (by omega), List.range_eq_range'])]
  simp only
  congr 2
  unfold mixL
  exact List.map_congr_left fun i hi => by rw [if_pos (List.mem_range.1 hi)]
end Go.Proofs.YtiknookfnameiaaGreatDoor
