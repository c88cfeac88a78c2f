/- AsmLands' plain law, second half: the whole text is read into the pieces' words; its labels stand at their places. No program in sight. -/
import Derived.Test.YtiknookfnameiaaGreatDoorVLaJn
namespace Go.Proofs.YtiknookfnameiaaGreatDoor
open WP
/-- the place of a piece -/
def plc (ps : Nat → Piece) : Nat → Nat
  | 0 => 0
  | k + 1 => plc ps k + szP (ps k)
theorem szP_le (p : Piece) : szP p ≤ 3 := by
  unfold szP; split <;> omega
theorem plc_le (ps : Nat → Piece) : ∀ k, plc ps k ≤ 3 * k
  | 0 => Nat.le_refl _
  | k + 1 => by have := plc_le ps k; have := szP_le (ps k); unfold plc; omega
/-- a piece's line -/
def lnP (ps : Nat → Piece) (n i : Nat) : List UInt8 := joinW ((nmP i ++ [58]) :: stTx n (ps i)) ++ 32 :: 35 :: 32 :: nmP i
def endP (n : Nat) : List UInt8 := 9 :: (nmP n ++ [58])
def srcP (ps : Nat → Piece) (n k : Nat) : List UInt8 := (List.range k).flatMap fun i => lnP ps n i ++ [10]
def fullP (ps : Nat → Piece) (n : Nat) : List UInt8 := srcP ps n n ++ (endP n ++ [10])
def labsP (ps : Nat → Piece) (k : Nat) : List (ByteArray × Nat) := (List.range k).map fun j => (⟨(nmP j).toArray⟩, plc ps j)
theorem labsP_succ (ps : Nat → Piece) (k : Nat) : labsP ps (k + 1) = labsP ps k ++ [(⟨(nmP k).toArray⟩, plc ps k)] := by
  unfold labsP; rw [List.range_succ, List.map_append]; rfl
theorem find_labP (ps : Nat → Piece) (t : Nat) : ∀ k, findL (labsP ps k) ⟨(nmP t).toArray⟩ = if t < k then some (plc ps t) else none
  | 0 => rfl
  | k + 1 => by
    rw [labsP_succ, findL_app, find_labP ps t k]
    by_cases h1 : t < k
    · rw [if_pos h1, if_pos (show t < k + 1 by omega)]; rfl
    · rw [if_neg h1, Option.none_or]
      by_cases h2 : t = k
      · subst h2
        rw [if_pos (Nat.lt_succ_self t)]
        unfold findL; simp
      · rw [if_neg (show ¬ t < k + 1 by omega)]
        have hne : (nmP k == nmP t) = false := by
          rw [beq_eq_false_iff_ne]; intro e; exact h2 (nmP_inj _ _ e).symm
        unfold findL
        rw [List.find?_cons]
        simp only [hne, List.find?_nil]; rfl
structure InvP (ps : Nat → Piece) (n k : Nat) (st : Asm) : Prop where
  ws : st.ws = (List.range k).flatMap fun i => preP (ps i)
  labs : st.labs = labsP ps k
  lat : st.lat.map latK = (List.range k).flatMap fun i => latP n (ps i) (plc ps i)
theorem pre_len (ps : Nat → Piece) : ∀ k, ((List.range k).flatMap fun i => preP (ps i)).length = plc ps k
  | 0 => rfl
  | k + 1 => by
    rw [List.range_succ, List.flatMap_append, List.length_append, pre_len ps k]
    simp [plc, preP_len]
theorem colon_nm (i : Nat) (h : i ≤ 4096) : txB (nmP i ++ [58]) = true ∧ colonEnd ⟨(nmP i ++ [58]).toArray⟩ = true ∧ cutC ⟨(nmP i ++ [58]).toArray⟩ = ⟨(nmP i).toArray⟩ := by
  have n2 := (nmP_ok i h).2.1
  refine ⟨?_, ?_, ?_⟩
  · unfold txB at n2 ⊢
    simp only [Bool.and_eq_true, List.all_append, List.all_cons, List.all_nil, Bool.not_eq_true', List.isEmpty_eq_false_iff] at n2 ⊢
    exact ⟨by simp, n2.2, by decide, trivial⟩
  · unfold colonEnd; simp
  · unfold cutC
    have := extract_at (s := ⟨(nmP i ++ [58]).toArray⟩) (k := 0) (b := nmP i) (r := [58]) (by simp)
    rw [← this]
    congr 1
    rw [ByteArray.size]; simp
theorem take_label (i ln c : Nat) (ps : Nat → Piece) (rest : List W) (st : Asm) (hi : i ≤ 4096) (hs : st.labs = labsP ps i) (hw : st.ws.length = plc ps i) :
    takeM ln ((⟨(nmP i ++ [58]).toArray⟩, false, c) :: rest) st = takeM ln rest ⟨st.ws, labsP ps (i + 1), st.lat⟩ := by
  obtain ⟨c1, c2, c3⟩ := colon_nm i hi
  rw [takeM, if_pos ⟨rfl, c2⟩]
  simp only [c3]
  rw [if_neg (by rw [(nmP_ok i hi).1]; simp), hs, find_labP ps i i, if_neg (Nat.lt_irrefl i), if_neg (by simp), labsP_succ, hw]
theorem line_piece (ps : Nat → Piece) (n i ln : Nat) (st : Asm) (hn : n ≤ 300) (hi : i < n) (hv : (ps i).v < 4294967296) (h : InvP ps n i st) : ∃ st', lineM ln ⟨(lnP ps n i).toArray⟩ st = .inl st' ∧ InvP ps n (i + 1) st' := by
  have hlw : st.ws.length = plc ps i := by rw [h.ws, pre_len]
  have hpl := plc_le ps i
  have hsz := szP_le (ps i)
  obtain ⟨s1, s2⟩ := stTx_ok n (ps i) (by omega)
  have hwd : wordsF ⟨(lnP ps n i).toArray⟩ = .inl (colsW 0 ((nmP i ++ [58]) :: stTx n (ps i))) := by
    unfold lnP
    refine words_joined ((nmP i ++ [58]) :: stTx n (ps i)) (32 :: 35 :: 32 :: nmP i) (.inr ⟨_, rfl⟩) (by simp) (fun b hb => ?_)
    rcases List.mem_cons.1 hb with rfl | hb
    · exact txB_plain (colon_nm i (by omega)).1
    · exact txB_plain (s2 b hb)
  unfold lineM
  rw [hwd]
  simp only
  rw [colsW, take_label i ln _ ps _ st (by omega) h.labs hlw]
  obtain ⟨L, e, hL⟩ := st_back n ln (0 + (nmP i ++ [58]).length + 1) (ps i) ⟨st.ws, labsP ps (i + 1), st.lat⟩ (by omega) hv (by show st.ws.length + _ ≤ 2048; omega)
  refine ⟨_, e, ?_, rfl, ?_⟩
  · show st.ws ++ preP (ps i) = _
    rw [h.ws, List.range_succ, List.flatMap_append]; simp
  · show (st.lat ++ L).map latK = _
    rw [List.map_append, h.lat, hL, List.range_succ, List.flatMap_append, hlw]; simp
theorem words_end (n : Nat) (hn : n ≤ 4096) : wordsF ⟨(endP n).toArray⟩ = .inl [(⟨(nmP n ++ [58]).toArray⟩, false, 2)] := by
  obtain ⟨s, hs⟩ : ∃ s : ByteArray, (⟨(endP n).toArray⟩ : ByteArray) = s := ⟨_, rfl⟩
  have hl : s.data.toList = 9 :: (nmP n ++ [58]) := by rw [← hs]; rfl
  have hz : s.size = (nmP n ++ [58]).length + 1 := by rw [← hs, ByteArray.size]; simp [endP]
  rw [hs]
  unfold wordsF
  rw [wA, if_neg (by omega), if_pos (by unfold bAt; rw [hl]; exact (by decide : blankI (((9 : UInt8).toNat : Nat) : Int) = true))]
  have := wA_end s (nmP n ++ [58]) (txB_plain (colon_nm n hn).1) s.size 1 [] (by rw [hl]; rfl) (by omega)
  simpa using this
theorem read_pieces (ps : Nat → Piece) (n : Nat) (hn : n ≤ 300) (hv : ∀ i, i < n → (ps i).v < 4294967296) : ∀ (d k ln : Nat) (st : Asm), k + d = n → InvP ps n k st → ∃ st', linesM ln (bas ((List.range' k d).map (lnP ps n) ++ [endP n])) st = .inl st' ∧ st'.ws = ((List.range n).flatMap fun i => preP (ps i)) ∧ st'.labs = labsP ps (n + 1) ∧ st'.lat.map latK = (List.range n).flatMap fun i => latP n (ps i) (plc ps i)
  | 0, k, ln, st, hk, h => by
    obtain rfl : k = n := by omega
    have hlw : st.ws.length = plc ps k := by rw [h.ws, pre_len]
    show ∃ st', linesM ln [⟨(endP k).toArray⟩] st = .inl st' ∧ _
    rw [linesM, lineM, words_end k (by omega)]
    simp only
    rw [take_label k ln _ ps _ st (by omega) h.labs hlw, takeM]
    exact ⟨_, rfl, h.ws, rfl, h.lat⟩
  | d + 1, k, ln, st, hk, h => by
    obtain ⟨st1, e1, h1⟩ := line_piece ps n k ln st hn (by omega) (hv k (by omega)) h
    rw [List.range'_succ, List.map_cons]
    show ∃ st', linesM ln (⟨(lnP ps n k).toArray⟩ :: bas ((List.range' (k + 1) d).map (lnP ps n) ++ [endP n])) st = .inl st' ∧ _
    rw [linesM, e1]
    exact read_pieces ps n hn hv d (k + 1) (ln + 1) st1 (by omega) h1
/-- the words of a piece -/
def wordsP (base : Int) (ps : Nat → Piece) (n i : Nat) : List Int :=
  match md (ps i).kind 5 with
  | 0 => [((ps i).v : Int)]
  | 1 => layM (.li (md (ps i).a 15 : Nat)) (ps i).v
  | 2 => [encF { insP (ps i) with imm := (plc ps (toP n (ps i)) : Int) - plc ps i - 1 }]
  | 3 => [(base + 4 * (plc ps (toP n (ps i)) : Int)) % 4294967296]
  | _ => List.replicate ((ps i).v % 4) 0
theorem wordsP_len (base : Int) (ps : Nat → Piece) (n i : Nat) : (wordsP base ps n i).length = szP (ps i) := by
  unfold wordsP szP
  have := md_lt (ps i).kind 5 (by decide)
  split <;> simp_all [layM]
theorem words_len (base : Int) (ps : Nat → Piece) (n : Nat) : ∀ k, ((List.range k).flatMap (wordsP base ps n)).length = plc ps k
  | 0 => rfl
  | k + 1 => by
    rw [List.range_succ, List.flatMap_append, List.length_append, words_len base ps n k]
    simp [plc, wordsP_len]
def mixP (base : Int) (ps : Nat → Piece) (n k d : Nat) : List Int := (List.range k).flatMap (wordsP base ps n) ++ (List.range' k d).flatMap fun i => preP (ps i)
theorem putL_mid (A C : List Int) (x y : Int) : putL (A ++ (x :: C)) A.length [y] = A ++ (y :: C) := by
  unfold putL; simp [List.drop_append]
theorem laters_land (base : Int) (ps : Nat → Piece) (n : Nat) (hn : n ≤ 300) : ∀ (d k : Nat) (lat : List Lat), k + d = n → lat.map latK = ((List.range' k d).flatMap fun i => latP n (ps i) (plc ps i)) → latersM base (labsP ps (n + 1)) lat (mixP base ps n k d) = .inl ((List.range n).flatMap (wordsP base ps n))
  | 0, k, lat, hk, h => by
    cases lat with
    | nil => obtain rfl : k = n := by omega
             unfold mixP; simp [latersM]
    | cons x lat => simp at h
  | d + 1, k, lat, hk, h => by
    rw [List.range'_succ, List.flatMap_cons] at h
    have hto : toP n (ps k) < n + 1 := md_lt _ _ (by omega)
    have hpt := plc_le ps (toP n (ps k))
    have hpk := plc_le ps k
    have hmix : mixP base ps n (k + 1) d = (List.range k).flatMap (wordsP base ps n) ++ (wordsP base ps n k ++ (List.range' (k + 1) d).flatMap fun i => preP (ps i)) := by
      unfold mixP; rw [List.range_succ, List.flatMap_append]; simp
    have hmix0 : mixP base ps n k (d + 1) = (List.range k).flatMap (wordsP base ps n) ++ (preP (ps k) ++ (List.range' (k + 1) d).flatMap fun i => preP (ps i)) := by
      unfold mixP; rw [List.range'_succ, List.flatMap_cons]
    have hwl := words_len base ps n k
    have hk5 := md_lt (ps k).kind 5 (by decide)
    obtain ⟨q, hq⟩ : ∃ q, md (ps k).kind 5 = q := ⟨_, rfl⟩
    have same : (q ≠ 2 ∧ q ≠ 3) → latersM base (labsP ps (n + 1)) lat (mixP base ps n k (d + 1)) = .inl ((List.range n).flatMap (wordsP base ps n)) := by
      intro hne
      have e1 : latP n (ps k) (plc ps k) = [] := by
        unfold latP; rw [hq]
        split
        · exact absurd rfl hne.1
        · exact absurd rfl hne.2
        · rfl
      have e2 : preP (ps k) = wordsP base ps n k := by
        unfold preP wordsP; rw [hq]
        match q, hk5, hne with
        | 0, _, _ => rfl
        | 1, _, _ => rfl
        | 2, _, h => exact absurd rfl h.1
        | 3, _, h => exact absurd rfl h.2
        | q + 4, _, _ => rfl
      rw [e1, List.nil_append] at h
      rw [hmix0, e2, ← hmix]
      exact laters_land base ps n hn d (k + 1) lat (by omega) h
    by_cases h2 : q = 2
    · subst h2
      have e1 : latP n (ps k) (plc ps k) = [(.jmp (insP (ps k)), plc ps k, ⟨(nmP (toP n (ps k))).toArray⟩)] := by unfold latP; rw [hq]; rfl
      have e2 : preP (ps k) = [encF (insP (ps k))] := by unfold preP; rw [hq]; rfl
      have e3 : wordsP base ps n k = [encF { insP (ps k) with imm := (plc ps (toP n (ps k)) : Int) - plc ps k - 1 }] := by unfold wordsP; rw [hq]; rfl
      rw [e1] at h
      cases lat with
      | nil => simp at h
      | cons x lat =>
        obtain ⟨xw, xp, xn, xl, xc⟩ := x
        simp only [List.map_cons, List.cons_append, List.nil_append, List.cons.injEq, latK, Prod.mk.injEq] at h
        obtain ⟨⟨q1, q2, q3⟩, h⟩ := h
        rw [q1, q2, q3, latersM]
        have hl1 : laterM base (labsP ps (n + 1)) ⟨.jmp (insP (ps k)), plc ps k, ⟨(nmP (toP n (ps k))).toArray⟩, xl, xc⟩ (mixP base ps n k (d + 1)) = .inl (mixP base ps n (k + 1) d) := by
          unfold laterM
          simp only
          rw [find_labP, if_pos hto]
          simp only
          rw [if_neg (by omega), hmix0, e2, hmix, e3, ← hwl]
          rw [List.singleton_append, putL_mid]; rfl
        rw [hl1]
        exact laters_land base ps n hn d (k + 1) lat (by omega) h
    by_cases h3 : q = 3
    · subst h3
      have e1 : latP n (ps k) (plc ps k) = [(.word, plc ps k, ⟨(nmP (toP n (ps k))).toArray⟩)] := by unfold latP; rw [hq]; rfl
      have e2 : preP (ps k) = [0] := by unfold preP; rw [hq]; rfl
      have e3 : wordsP base ps n k = [(base + 4 * (plc ps (toP n (ps k)) : Int)) % 4294967296] := by unfold wordsP; rw [hq]; rfl
      rw [e1] at h
      cases lat with
      | nil => simp at h
      | cons x lat =>
        obtain ⟨xw, xp, xn, xl, xc⟩ := x
        simp only [List.map_cons, List.cons_append, List.nil_append, List.cons.injEq, latK, Prod.mk.injEq] at h
        obtain ⟨⟨q1, q2, q3⟩, h⟩ := h
        rw [q1, q2, q3, latersM]
        have hl1 : laterM base (labsP ps (n + 1)) ⟨.word, plc ps k, ⟨(nmP (toP n (ps k))).toArray⟩, xl, xc⟩ (mixP base ps n k (d + 1)) = .inl (mixP base ps n (k + 1) d) := by
          unfold laterM
          simp only
          rw [find_labP, if_pos hto]
          simp only
          rw [hmix0, e2, hmix, e3, ← hwl, layM, List.singleton_append, putL_mid]; rfl
        rw [hl1]
        exact laters_land base ps n hn d (k + 1) lat (by omega) h
    · exact same ⟨h2, h3⟩
theorem lnP_no10 (ps : Nat → Piece) (n i : Nat) (hn : n ≤ 300) (hi : i < n) : (10 : UInt8) ∉ lnP ps n i := by
  obtain ⟨s1, s2⟩ := stTx_ok n (ps i) (by omega)
  unfold lnP
  have h1 : (10 : UInt8) ∉ joinW ((nmP i ++ [58]) :: stTx n (ps i)) := joinW_no10 _ (fun b hb => by
    rcases List.mem_cons.1 hb with rfl | hb
    · exact txB_no10 (colon_nm i (by omega)).1
    · exact txB_no10 (s2 b hb))
  have h2 := txB_no10 (nmP_ok i (by omega)).2.1
  simp only [List.mem_append, List.mem_cons, not_or]
  exact ⟨h1, by decide, by decide, by decide, h2⟩
theorem endP_no10 (n : Nat) (hn : n ≤ 300) : (10 : UInt8) ∉ endP n := by
  have := txB_no10 (colon_nm n (by omega)).1
  unfold endP
  simp only [List.mem_cons, not_or]
  exact ⟨by decide, this⟩
/-- the whole text, read -/
theorem read_land (base : Int) (ps : Nat → Piece) (n : Nat) (hn : n ≤ 300) (hv : ∀ i, i < n → (ps i).v < 4294967296) (hs : (fullP ps n).length ≤ 65536) : readM base ⟨(fullP ps n).toArray⟩ = .inl ((List.range n).flatMap (wordsP base ps n), labsP ps (n + 1)) := by
  have hlines : linesF ⟨(fullP ps n).toArray⟩ = bas ((List.range' 0 n).map (lnP ps n) ++ [endP n]) := by
    unfold linesF
    congr 1
    have : fullP ps n = ((List.range n).map (lnP ps n) ++ [endP n]).flatMap (· ++ [10]) := by
      unfold fullP srcP
      rw [List.flatMap_append, List.flatMap_map]; simp
    rw [← List.range_eq_range']
    show linesA [] (fullP ps n) = _
    rw [this]
    refine linesA_flat _ fun x hx => ?_
    rcases List.mem_append.1 hx with hx | hx
    · obtain ⟨i, hi, rfl⟩ := List.mem_map.1 hx
      exact lnP_no10 ps n i hn (List.mem_range.1 hi)
    · simp only [List.mem_cons, List.not_mem_nil, or_false] at hx
      subst hx; exact endP_no10 n hn
  obtain ⟨st, e, h1, h2, h3⟩ := read_pieces ps n hn hv n 0 1 asm0 (by omega) ⟨rfl, rfl, rfl⟩
  unfold readM
  rw [if_neg (by rw [ByteArray.size]; simpa using hs), hlines, e]
  simp only
  have hw : st.ws = mixP base ps n 0 n := by
    rw [h1]; unfold mixP; rw [← List.range_eq_range']; rfl
  rw [h2, hw, laters_land base ps n hn n 0 st.lat (by omega) (by rw [h3, List.range_eq_range'])]
end Go.Proofs.YtiknookfnameiaaGreatDoor
