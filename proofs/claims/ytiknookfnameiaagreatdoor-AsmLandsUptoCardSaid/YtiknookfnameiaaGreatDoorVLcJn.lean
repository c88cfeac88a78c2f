/- AsmLands' plain law, third part: what is encoded is decoded; the words at their places; how long the text is. No program in sight. -/
import Derived.Test.YtiknookfnameiaaGreatDoorVLbJn
namespace Go.Proofs.YtiknookfnameiaaGreatDoor
open WP
theorem mov_ok (op : Int) (a x : Nat) (ho : op = 1 ∨ op = 2) (ha : a < 15) (hx : x < 65536) : checkI (movI op a x) = 0 := by
  unfold checkI movI fieldsI restI
  rcases ho with rfl | rfl
  · rw [if_pos (by show (1 : Int) ≤ 1 ∧ (1 : Int) < 25; decide), show shapeI (1 : Int) = [97, 117] by decide]
    simp only [List.map_cons, List.map_nil, List.all_cons, List.all_nil, Bool.and_true]
    rw [if_pos (by unfold okFld fld; simp; omega), if_pos (by simp [rest1, ins0])]
  · rw [if_pos (by show (1 : Int) ≤ 2 ∧ (2 : Int) < 25; decide), show shapeI (2 : Int) = [97, 117] by decide]
    simp only [List.map_cons, List.map_nil, List.all_cons, List.all_nil, Bool.and_true]
    rw [if_pos (by unfold okFld fld; simp; omega), if_pos (by simp [rest1, ins0])]
theorem jmp_ok (i : Ins) (d : Int) (hi : i = { ins0 with op := 22 } ∨ ∃ c : Nat, c < 7 ∧ i = { ins0 with op := 21, k := (c : Int) }) (h0 : -32768 ≤ d) (h1 : d ≤ 32767) :
    (0 ≤ encF { i with imm := d } ∧ encF { i with imm := d } < 4294967296) ∧ goodI (encF { i with imm := d }) = true ∧ decI (encF { i with imm := d }) = { i with imm := d } := by
  rcases hi with rfl | ⟨c, hc, rfl⟩
  · have hck : checkI { op := 22, k := 0, a := 0, b := 0, c := 0, imm := d } = 0 := by
      unfold checkI fieldsI restI
      rw [if_pos (by show (1 : Int) ≤ 22 ∧ (22 : Int) < 25; decide), show shapeI ({ op := 22, k := 0, a := 0, b := 0, c := 0, imm := d } : Ins).op = [111] by show shapeI 22 = _; decide]
      simp only [List.map_cons, List.map_nil, List.all_cons, List.all_nil, Bool.and_true]
      rw [if_pos (by unfold okFld fld; simp; omega), if_pos (by simp [rest1, ins0])]
    have hw : wordI { op := 22, k := 0, a := 0, b := 0, c := 0, imm := d } = (22 * 67108864 + (if d < 0 then d + 65536 else d)) % 4294967296 := by
      unfold wordI fieldsI
      rw [show shapeI ({ op := 22, k := 0, a := 0, b := 0, c := 0, imm := d } : Ins).op = [111] by show shapeI 22 = _; decide]
      simp only [List.map_cons, List.map_nil, List.foldl_cons, List.foldl_nil]
      have := word_o 22 d ⟨by omega, by omega⟩
      simpa [lay1, fld] using this
    have e1 : encF { op := 22, k := 0, a := 0, b := 0, c := 0, imm := d } = wordI { op := 22, k := 0, a := 0, b := 0, c := 0, imm := d } := by unfold encF; rw [if_pos hck]
    have hrd : readI (wordI { op := 22, k := 0, a := 0, b := 0, c := 0, imm := d }) = { op := 22, k := 0, a := 0, b := 0, c := 0, imm := d } := by
      rw [read_eq _ (by rw [hw]; omega) (by rw [hw]; omega), hw]
      unfold rreadI
      have ho : (22 * 67108864 + (if d < 0 then d + 65536 else d)) % 4294967296 / 67108864 = 22 := by split <;> omega
      rw [ho, show shapeI 22 = [111] by decide]
      simp only [hasL, List.any_cons, List.any_nil]
      simp
      split <;> split <;> omega
    have hg : goodI (wordI { op := 22, k := 0, a := 0, b := 0, c := 0, imm := d }) = true := by
      unfold goodI; rw [hrd]; simp [hck]
    show (0 ≤ encF { op := 22, k := 0, a := 0, b := 0, c := 0, imm := d } ∧ encF { op := 22, k := 0, a := 0, b := 0, c := 0, imm := d } < 4294967296) ∧ _
    refine ⟨by rw [e1, hw]; omega, ?_, ?_⟩
    · show goodI (encF { op := 22, k := 0, a := 0, b := 0, c := 0, imm := d }) = true
      rw [e1]; exact hg
    · show decI (encF { op := 22, k := 0, a := 0, b := 0, c := 0, imm := d }) = { op := 22, k := 0, a := 0, b := 0, c := 0, imm := d }
      rw [e1, (good_dec hg).1, hrd]
  · have hck : checkI { op := 21, k := (c : Int), a := 0, b := 0, c := 0, imm := d } = 0 := by
      unfold checkI fieldsI restI
      rw [if_pos (by show (1 : Int) ≤ 21 ∧ (21 : Int) < 25; decide), show shapeI ({ op := 21, k := (c : Int), a := 0, b := 0, c := 0, imm := d } : Ins).op = [107, 111] by show shapeI 21 = _; decide]
      simp only [List.map_cons, List.map_nil, List.all_cons, List.all_nil, Bool.and_true]
      rw [if_pos (by unfold okFld fld; simp; omega), if_pos (by simp [rest1, ins0])]
    have hw : wordI { op := 21, k := (c : Int), a := 0, b := 0, c := 0, imm := d } = (21 * 67108864 + (c : Int) * 4194304 + (if d < 0 then d + 65536 else d)) % 4294967296 := by
      unfold wordI fieldsI
      rw [show shapeI ({ op := 21, k := (c : Int), a := 0, b := 0, c := 0, imm := d } : Ins).op = [107, 111] by show shapeI 21 = _; decide]
      simp only [List.map_cons, List.map_nil, List.foldl_cons, List.foldl_nil]
      have := word_ko 21 c d ⟨by omega, by omega⟩ ⟨by omega, by omega⟩ ⟨by omega, by omega⟩
      simpa [lay1, fld] using this
    have e1 : encF { op := 21, k := (c : Int), a := 0, b := 0, c := 0, imm := d } = wordI { op := 21, k := (c : Int), a := 0, b := 0, c := 0, imm := d } := by unfold encF; rw [if_pos hck]
    have hrd : readI (wordI { op := 21, k := (c : Int), a := 0, b := 0, c := 0, imm := d }) = { op := 21, k := (c : Int), a := 0, b := 0, c := 0, imm := d } := by
      rw [read_eq _ (by rw [hw]; omega) (by rw [hw]; omega), hw]
      unfold rreadI
      have ho : (21 * 67108864 + (c : Int) * 4194304 + (if d < 0 then d + 65536 else d)) % 4294967296 / 67108864 = 21 := by split <;> omega
      rw [ho, show shapeI 21 = [107, 111] by decide]
      simp only [hasL, List.any_cons, List.any_nil]
      simp
      refine ⟨?_, ?_⟩
      · split <;> omega
      · split <;> split <;> omega
    have hg : goodI (wordI { op := 21, k := (c : Int), a := 0, b := 0, c := 0, imm := d }) = true := by
      unfold goodI; rw [hrd]; simp [hck]
    show (0 ≤ encF { op := 21, k := (c : Int), a := 0, b := 0, c := 0, imm := d } ∧ encF { op := 21, k := (c : Int), a := 0, b := 0, c := 0, imm := d } < 4294967296) ∧ _
    refine ⟨by rw [e1, hw]; omega, ?_, ?_⟩
    · show goodI (encF { op := 21, k := (c : Int), a := 0, b := 0, c := 0, imm := d }) = true
      rw [e1]; exact hg
    · show decI (encF { op := 21, k := (c : Int), a := 0, b := 0, c := 0, imm := d }) = { op := 21, k := (c : Int), a := 0, b := 0, c := 0, imm := d }
      rw [e1, (good_dec hg).1, hrd]
/-- the words of a piece, its place and its target's place given -/
def wordsX (base : Int) (tt pl : Nat) (p : Piece) : List Int :=
  match md p.kind 5 with
  | 0 => [(p.v : Int)]
  | 1 => layM (.li (md p.a 15 : Nat)) p.v
  | 2 => [encF { insP p with imm := (tt : Int) - pl - 1 }]
  | 3 => [(base + 4 * (tt : Int)) % 4294967296]
  | _ => List.replicate (p.v % 4) 0
theorem wordsX_eq (base : Int) (ps : Nat → Piece) (n i : Nat) : wordsP base ps n i = wordsX base (plc ps (toP n (ps i))) (plc ps i) (ps i) := rfl
theorem words_at (base : Int) (ps : Nat → Piece) (n i j : Nat) (hi : i < n) (hj : j < szP (ps i)) : ((List.range n).flatMap (wordsP base ps n)).getD (plc ps i + j) 0 = (wordsP base ps n i).getD j 0 := by
  obtain ⟨d, rfl⟩ : ∃ d, n = i + 1 + d := ⟨n - (i + 1), by omega⟩
  have e : List.range (i + 1 + d) = List.range i ++ (i :: List.range' (i + 1) d) := by
    rw [List.range_eq_range', List.range_eq_range', ← List.range'_succ, show i + 1 + d = i + (d + 1) by omega]
    have := List.range'_append (s := 0) (m := i) (n := d + 1) (step := 1)
    simp only [Nat.one_mul, Nat.zero_add] at this
    exact this.symm
  rw [e, List.flatMap_append, List.flatMap_cons]
  have hl := words_len base ps (i + 1 + d) i
  have hw := wordsP_len base ps (i + 1 + d) i
  rw [List.getD_eq_getElem?_getD, List.getElem?_append_right (by omega), hl, Nat.add_sub_cancel_left, List.getElem?_append_left (by omega), List.getD_eq_getElem?_getD]
theorem plc_mono (ps : Nat → Piece) {i j : Nat} (h : i ≤ j) : plc ps i ≤ plc ps j := by
  induction h with
  | refl => exact Nat.le_refl _
  | step _ ih => exact Nat.le_trans ih (Nat.le_add_right _ _)
theorem plc_end (ps : Nat → Piece) {i n : Nat} (h : i < n) : plc ps i + szP (ps i) ≤ plc ps n := plc_mono ps (show i + 1 ≤ n from h)
theorem decP_len' (u : Nat) (h : u < 4294967296) : (Lib.decDigits u).length ≤ 10 := (decP_len u h).2
theorem st_short (n : Nat) (p : Piece) (hn : n ≤ 300) (hv : p.v < 4294967296) : (joinW (stTx n p)).length ≤ 30 := by
  have h1 := (decP_len' (md p.a 15) (by have := md_lt p.a 15 (by decide); omega))
  have h2 := decP_len' p.v hv
  have h3 := decP_len' (p.v % 4) (by omega)
  have h4 := (nmP_ok (toP n p) (by have := md_lt p.tgt (n + 1) (by omega); unfold toP; omega)).2.2
  have h5 : (condI (md p.cond 7 : Nat)).length ≤ 6 := by
    have : ∀ m : Fin 7, (condI (m.val : Nat)).length ≤ 6 := by decide
    exact this ⟨md p.cond 7, md_lt _ _ (by decide)⟩
  unfold stTx
  split
  · simp [joinW, hx8P_len]
  · simp [joinW]; omega
  · split
    · simp [joinW]; omega
    · simp [joinW]; omega
  · simp [joinW]; omega
  · simp [joinW]; omega
theorem ln_short (ps : Nat → Piece) (n i : Nat) (hn : n ≤ 300) (hi : i < n) (hv : (ps i).v < 4294967296) : (lnP ps n i).length ≤ 50 := by
  have h1 := st_short n (ps i) hn hv
  have h2 := (nmP_ok i (by omega)).2.2
  obtain ⟨s1, _⟩ := stTx_ok n (ps i) (by omega)
  unfold lnP
  cases hs : stTx n (ps i) with
  | nil => exact absurd hs s1
  | cons a b =>
    rw [hs] at h1
    rw [joinW]
    simp; omega
theorem src_short (ps : Nat → Piece) (n : Nat) (hn : n ≤ 300) (hv : ∀ i, i < n → (ps i).v < 4294967296) : ∀ k, k ≤ n → (srcP ps n k).length ≤ 51 * k
  | 0, _ => by simp [srcP]
  | k + 1, hk => by
    have h1 := src_short ps n hn hv k (by omega)
    have h2 := ln_short ps n k hn (by omega) (hv k (by omega))
    unfold srcP at h1 ⊢
    rw [List.range_succ, List.flatMap_append, List.length_append]
    simp only [List.flatMap_cons, List.flatMap_nil, List.length_append, List.length_cons, List.length_nil]
    omega
theorem full_short (ps : Nat → Piece) (n : Nat) (hn : n ≤ 300) (hv : ∀ i, i < n → (ps i).v < 4294967296) : (fullP ps n).length ≤ 65536 := by
  have h1 := src_short ps n hn hv n (Nat.le_refl _)
  have h2 := (nmP_ok n (by omega)).2.2
  unfold fullP endP
  simp; omega
end Go.Proofs.YtiknookfnameiaaGreatDoor
