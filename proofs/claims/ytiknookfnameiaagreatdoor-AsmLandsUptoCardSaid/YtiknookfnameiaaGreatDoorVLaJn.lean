/- AsmLands' plain law, first half: the program that the statement writes, piece by piece; each line as it is read. No program in sight. -/
import Derived.Test.YtiknookfnameiaaGreatDoorVBkJn
namespace Go.Proofs.YtiknookfnameiaaGreatDoor
open WP
structure Piece where
  (kind a cond tgt : Int)
  v : Nat
/-- a number brought to 0 .. m-1 -/
def md (x : Int) (m : Nat) : Nat := (x % (m : Int)).toNat
theorem md_lt (x : Int) (m : Nat) (h : 0 < m) : md x m < m := by
  unfold md
  have h1 := Int.emod_nonneg x (show (m : Int) ≠ 0 by omega)
  have h2 := Int.emod_lt_of_pos x (show (0 : Int) < m by omega)
  omega
def nmP (i : Nat) : List UInt8 := 112 :: Lib.decDigits i
def toP (n : Nat) (p : Piece) : Nat := md p.tgt (n + 1)
def odd (p : Piece) : Bool := decide (p.a % 2 ≠ 0)
/-- the words of a piece's statement -/
def stTx (n : Nat) (p : Piece) : List (List UInt8) :=
  match md p.kind 5 with
  | 0 => [[119, 111, 114, 100], [48, 120] ++ hx8P p.v]
  | 1 => [[108, 105], 114 :: Lib.decDigits (md p.a 15), Lib.decDigits p.v]
  | 2 => if odd p = true then [[98, 108], nmP (toP n p)] else [[98], condI (md p.cond 7 : Nat), nmP (toP n p)]
  | 3 => [[119, 111, 114, 100], nmP (toP n p)]
  | _ => [[122, 101, 114, 111], Lib.decDigits (p.v % 4)]
def szP (p : Piece) : Nat :=
  match md p.kind 5 with
  | 1 => 2
  | 0 => 1
  | 2 => 1
  | 3 => 1
  | _ => p.v % 4
def insP (p : Piece) : Ins := if odd p = true then { ins0 with op := 22 } else { ins0 with op := 21, k := (md p.cond 7 : Nat) }
/-- the words that are laid at first -/
def preP (p : Piece) : List Int :=
  match md p.kind 5 with
  | 0 => [(p.v : Int)]
  | 1 => layM (.li (md p.a 15 : Nat)) p.v
  | 2 => [encF (insP p)]
  | 3 => [0]
  | _ => List.replicate (p.v % 4) 0
/-- what waits for a label -/
def latP (n : Nat) (p : Piece) (at' : Nat) : List (Wht × Nat × ByteArray) :=
  match md p.kind 5 with
  | 2 => [(.jmp (insP p), at', ⟨(nmP (toP n p)).toArray⟩)]
  | 3 => [(.word, at', ⟨(nmP (toP n p)).toArray⟩)]
  | _ => []
theorem preP_len (p : Piece) : (preP p).length = szP p := by
  unfold preP szP
  have := md_lt p.kind 5 (by decide)
  split <;> simp_all [layM]
theorem nmP_ok (i : Nat) (h : i ≤ 4096) : nameF ⟨(nmP i).toArray⟩ = true ∧ txB (nmP i) = true ∧ (nmP i).length ≤ 5 := by
  have hd := dec_dig i
  have hl := dec_small i h
  unfold nmP
  refine ⟨?_, ?_, by simp; omega⟩
  · unfold nameF
    have hs : ByteArray.size ⟨(112 :: Lib.decDigits i).toArray⟩ = (Lib.decDigits i).length + 1 := by rw [ByteArray.size]; simp
    rw [hs, decide_eq_true (by omega), decide_eq_true (by omega)]
    show (true && true && nameA (112 :: Lib.decDigits i) 0) = true
    rw [nameA, nameA_dig _ _ (by omega) hd]
    rfl
  · have := dec_tx i
    unfold txB at this ⊢
    simp only [Bool.and_eq_true, List.all_cons] at this ⊢
    exact ⟨rfl, by decide, this.2⟩
theorem nmP_inj (i j : Nat) (h : nmP i = nmP j) : i = j := by
  unfold nmP at h
  simp only [List.cons.injEq, true_and] at h
  rw [← dec_val i, h, dec_val]
theorem dec_noname (u : Nat) : nameF ⟨(Lib.decDigits u).toArray⟩ = false := by
  obtain ⟨c, t, e, h⟩ := dec_hd u
  rw [e]; exact name_head (c := c) rfl (by omega)
theorem reg_tx (a : Nat) : txB (114 :: Lib.decDigits a) = true := by
  have := dec_tx a
  unfold txB at this ⊢
  simp only [Bool.and_eq_true, List.all_cons] at this ⊢
  exact ⟨rfl, by decide, this.2⟩
theorem stTx_ok (n : Nat) (p : Piece) (hn : n ≤ 4095) : stTx n p ≠ [] ∧ ∀ b ∈ stTx n p, txB b = true := by
  have ht : toP n p ≤ 4096 := by have := md_lt p.tgt (n + 1) (by omega); unfold toP; omega
  have hN := (nmP_ok (toP n p) ht).2.1
  have hc := (cond_back (md p.cond 7) (md_lt _ _ (by decide))).2
  unfold stTx
  split
  · refine ⟨by simp, fun b hb => ?_⟩
    simp only [List.mem_cons, List.not_mem_nil, or_false] at hb
    rcases hb with rfl | rfl
    · decide
    · exact hx_tx _
  · refine ⟨by simp, fun b hb => ?_⟩
    simp only [List.mem_cons, List.not_mem_nil, or_false] at hb
    rcases hb with rfl | rfl | rfl
    · decide
    · exact reg_tx _
    · exact dec_tx _
  · split
    · refine ⟨by simp, fun b hb => ?_⟩
      simp only [List.mem_cons, List.not_mem_nil, or_false] at hb
      rcases hb with rfl | rfl
      · decide
      · exact hN
    · refine ⟨by simp, fun b hb => ?_⟩
      simp only [List.mem_cons, List.not_mem_nil, or_false] at hb
      rcases hb with rfl | rfl | rfl
      · decide
      · exact hc
      · exact hN
  · refine ⟨by simp, fun b hb => ?_⟩
    simp only [List.mem_cons, List.not_mem_nil, or_false] at hb
    rcases hb with rfl | rfl
    · decide
    · exact hN
  · refine ⟨by simp, fun b hb => ?_⟩
    simp only [List.mem_cons, List.not_mem_nil, or_false] at hb
    rcases hb with rfl | rfl
    · decide
    · exact dec_tx _
theorem cols_one (k : Nat) (b : List UInt8) : colsW k [b] = [(⟨b.toArray⟩, false, k + 1)] := rfl
theorem num_dec (u k : Nat) (h : u < 4294967296) : numberM ((⟨(Lib.decDigits u).toArray⟩, false, k) : W) = some (u : Int) := by
  show (if false = true then none else match numF (Lib.decDigits u) with | some v => some (v : Int) | none => (sgnF (Lib.decDigits u)).map fun v => v % 4294967296) = _
  rw [if_neg (by simp), num_tens u h]
theorem cT_word : colonEnd ⟨([119, 111, 114, 100] : List UInt8).toArray⟩ = false := by decide
theorem cT_li : colonEnd ⟨([108, 105] : List UInt8).toArray⟩ = false := by decide
theorem cT_bl : colonEnd ⟨([98, 108] : List UInt8).toArray⟩ = false := by decide
theorem cT_b : colonEnd ⟨([98] : List UInt8).toArray⟩ = false := by decide
theorem cT_zero : colonEnd ⟨([122, 101, 114, 111] : List UInt8).toArray⟩ = false := by decide
theorem nT_word : namedF ⟨([119, 111, 114, 100] : List UInt8).toArray⟩ = none := by decide +kernel
theorem nT_li : namedF ⟨([108, 105] : List UInt8).toArray⟩ = none := by decide +kernel
theorem nT_bl : namedF ⟨([98, 108] : List UInt8).toArray⟩ = some 22 := by decide +kernel
theorem nT_b : namedF ⟨([98] : List UInt8).toArray⟩ = some 21 := by decide +kernel
theorem nT_zero : namedF ⟨([122, 101, 114, 111] : List UInt8).toArray⟩ = none := by decide +kernel
/-- the statement, read -/
theorem st_back (n ln k : Nat) (p : Piece) (st : Asm) (hn : n ≤ 4095) (hv : p.v < 4294967296) (hlen : st.ws.length + szP p ≤ 2048) :
    ∃ L, takeM ln (colsW k (stTx n p)) st = .inl ⟨st.ws ++ preP p, st.labs, st.lat ++ L⟩ ∧ L.map latK = latP n p st.ws.length := by
  have ht : toP n p ≤ 4096 := by have := md_lt p.tgt (n + 1) (by omega); unfold toP; omega
  have hN := (nmP_ok (toP n p) ht).1
  have hk5 := md_lt p.kind 5 (by decide)
  obtain ⟨q, hq⟩ : ∃ q, md p.kind 5 = q := ⟨_, rfl⟩
  unfold stTx preP latP
  unfold szP at hlen
  rw [hq] at hlen hk5 ⊢
  match q, hk5 with
  | 0, _ =>
    simp only at hlen ⊢
    refine ⟨[], ?_, rfl⟩
    rw [colsW, take_stmt _ _ _ _ cT_word]
    obtain ⟨k', hk'⟩ : ∃ k', k + ([119, 111, 114, 100] : List UInt8).length + 1 = k' := ⟨_, rfl⟩
    rw [hk', cols_one]
    obtain ⟨ops, hops⟩ : ∃ ops : List W, [((⟨(([48, 120] : List UInt8) ++ hx8P p.v).toArray⟩ : ByteArray), false, k' + 1)] = ops := ⟨_, rfl⟩
    rw [hops]
    unfold stmtM
    rw [if_neg (by simp), show namedF ((⟨([119, 111, 114, 100] : List UInt8).toArray⟩, false, k + 1) : W).1 = none from nT_word]
    simp only
    rw [if_pos (by trivial)]
    unfold fixedM
    rw [room_yes _ _ _ _ (by omega)]
    simp only
    have hnm : isNameF (ops.getD 0 w0) = false := by
      rw [← hops]
      show (!false && nameF ⟨([48, 120] ++ hx8P p.v).toArray⟩) = false
      rw [show ([48, 120] ++ hx8P p.v : List UInt8) = 48 :: (120 :: hx8P p.v) from rfl, hex_noname]; rfl
    have hnum : numberM (ops.getD 0 w0) = some (p.v : Int) := by
      rw [← hops]
      show (if false = true then none else match numF ([48, 120] ++ hx8 p.v) with | some v => some (v : Int) | none => (sgnF ([48, 120] ++ hx8 p.v)).map fun v => v % 4294967296) = _
      rw [if_neg (by simp), num_hex p.v hv]
    rw [if_pos ⟨by rw [← hops]; simp, hnm⟩, hnum]
    simp only
    rw [count_yes ln _ ops (0 + 1) (by rw [← hops]; rfl)]
    simp only
    rw [show latM .word st.ws.length ln (ops.getD 0 w0) = [] by unfold latM; rw [hnm]; rfl]
    rfl
  | 1, _ =>
    simp only at hlen ⊢
    refine ⟨[], ?_, rfl⟩
    rw [colsW, take_stmt _ _ _ _ cT_li]
    obtain ⟨k', hk'⟩ : ∃ k', k + ([108, 105] : List UInt8).length + 1 = k' := ⟨_, rfl⟩
    rw [hk', colsW, cols_one]
    obtain ⟨k2, hk2⟩ : ∃ k2, k' + (114 :: Lib.decDigits (md p.a 15)).length + 1 = k2 := ⟨_, rfl⟩
    rw [hk2]
    unfold stmtM
    rw [if_neg (by simp), show namedF ((⟨([108, 105] : List UInt8).toArray⟩, false, k + 1) : W).1 = none from nT_li]
    simp only
    rw [if_neg (by simp), if_pos (by trivial)]
    unfold liM
    rw [room_yes _ _ _ _ (by omega)]
    simp only
    rw [reg_back (md p.a 15) (by have := md_lt p.a 15 (by decide); omega)]
    simp only
    obtain ⟨ops, hops⟩ : ∃ ops : List W, [((⟨((114 : UInt8) :: Lib.decDigits (md p.a 15)).toArray⟩ : ByteArray), false, k' + 1), (⟨(Lib.decDigits p.v).toArray⟩, false, k2 + 1)] = ops := ⟨_, rfl⟩
    rw [hops]
    unfold fixedM
    rw [room_yes _ _ _ _ (by omega)]
    simp only
    have hnm : isNameF (ops.getD 1 w0) = false := by
      rw [← hops]
      show (!false && nameF ⟨(Lib.decDigits p.v).toArray⟩) = false
      rw [dec_noname]; rfl
    have hnum : numberM (ops.getD 1 w0) = some (p.v : Int) := by rw [← hops]; exact num_dec _ _ hv
    rw [if_pos ⟨by rw [← hops]; simp, hnm⟩, hnum]
    simp only
    rw [count_yes ln _ ops (1 + 1) (by rw [← hops]; rfl)]
    simp only
    rw [show latM (.li ((md p.a 15 : Nat) : Int)) st.ws.length ln (ops.getD 1 w0) = [] by unfold latM; rw [hnm]; rfl]
  | 2, _ =>
    simp only at hlen ⊢
    cases ho : odd p with
    | true =>
      rw [if_pos rfl, show insP p = { ins0 with op := 22 } by unfold insP; rw [if_pos ho], colsW, take_stmt _ _ _ _ cT_bl]
      obtain ⟨k', hk'⟩ : ∃ k', k + ([98, 108] : List UInt8).length + 1 = k' := ⟨_, rfl⟩
      rw [hk', cols_one]
      refine ⟨[⟨.jmp { ins0 with op := 22 }, st.ws.length, ⟨(nmP (toP n p)).toArray⟩, ln, k' + 1⟩], ?_, rfl⟩
      unfold stmtM
      rw [if_neg (by simp), show namedF ((⟨([98, 108] : List UInt8).toArray⟩, false, k + 1) : W).1 = some 22 from nT_bl]
      simp only
      unfold instrM
      rw [room_yes _ _ _ _ (by omega), show shapeI ((22 : Nat) : Int) = [111] by decide]
      simp only
      have hf : fieldM { ins0 with op := ((22 : Nat) : Int) } 111 (⟨(nmP (toP n p)).toArray⟩, false, k' + 1) = some { ins0 with op := 22 } := by
        unfold fieldM
        rw [if_neg (by simp), if_neg (by decide), if_neg (by decide), if_neg (by decide), if_neg (by decide), if_neg (by decide), if_pos ⟨rfl, hN⟩]; rfl
      rw [fieldsM, hf]
      simp only [fieldsM]
      rw [count_yes ln _ [((⟨(nmP (toP n p)).toArray⟩ : ByteArray), false, k' + 1)] ([111] : List UInt8).length rfl, show oAt [111] = some 0 by decide]
      simp only
      rw [show latM (.jmp { ins0 with op := 22 }) st.ws.length ln (([(⟨(nmP (toP n p)).toArray⟩, false, k' + 1)] : List W).getD 0 w0) = [⟨.jmp { ins0 with op := 22 }, st.ws.length, ⟨(nmP (toP n p)).toArray⟩, ln, k' + 1⟩] by
        unfold latM isNameF; rw [if_pos (by show (!false && nameF ⟨(nmP (toP n p)).toArray⟩) = true; rw [hN]; rfl)]; rfl]
    | false =>
      obtain ⟨c, hc⟩ : ∃ c, md p.cond 7 = c := ⟨_, rfl⟩
      have hc7 : c < 7 := by rw [← hc]; exact md_lt _ _ (by decide)
      rw [if_neg (by simp), show insP p = { ins0 with op := 21, k := (c : Int) } by unfold insP; rw [if_neg (by rw [ho]; simp), hc], hc, colsW, take_stmt _ _ _ _ cT_b]
      obtain ⟨k', hk'⟩ : ∃ k', k + ([98] : List UInt8).length + 1 = k' := ⟨_, rfl⟩
      rw [hk', colsW, cols_one]
      obtain ⟨k2, hk2⟩ : ∃ k2, k' + (condI (c : Int)).length + 1 = k2 := ⟨_, rfl⟩
      rw [hk2]
      refine ⟨[⟨.jmp { ins0 with op := 21, k := (c : Int) }, st.ws.length, ⟨(nmP (toP n p)).toArray⟩, ln, k2 + 1⟩], ?_, rfl⟩
      unfold stmtM
      rw [if_neg (by simp), show namedF ((⟨([98] : List UInt8).toArray⟩, false, k + 1) : W).1 = some 21 from nT_b]
      simp only
      unfold instrM
      rw [room_yes _ _ _ _ (by omega), show shapeI ((21 : Nat) : Int) = [107, 111] by decide]
      simp only
      have hf1 : fieldM { ins0 with op := ((21 : Nat) : Int) } 107 (⟨(condI (c : Int)).toArray⟩, false, k' + 1) = some { ins0 with op := 21, k := (c : Int) } := by
        unfold fieldM
        rw [if_neg (by simp), if_neg (by decide), if_neg (by decide), if_neg (by decide), if_neg (by decide), if_pos rfl, (cond_back c hc7).1]; rfl
      have hf : fieldM { ins0 with op := 21, k := (c : Int) } 111 (⟨(nmP (toP n p)).toArray⟩, false, k2 + 1) = some { ins0 with op := 21, k := (c : Int) } := by
        unfold fieldM
        rw [if_neg (by simp), if_neg (by decide), if_neg (by decide), if_neg (by decide), if_neg (by decide), if_neg (by decide), if_pos ⟨rfl, hN⟩]
      rw [fieldsM, hf1]
      simp only
      rw [fieldsM, hf]
      simp only [fieldsM]
      rw [count_yes ln _ [((⟨(condI (c : Int)).toArray⟩ : ByteArray), false, k' + 1), ((⟨(nmP (toP n p)).toArray⟩ : ByteArray), false, k2 + 1)] ([107, 111] : List UInt8).length rfl, show oAt [107, 111] = some 1 by decide]
      simp only
      rw [show latM (.jmp { ins0 with op := 21, k := (c : Int) }) st.ws.length ln (([(⟨(condI (c : Int)).toArray⟩, false, k' + 1), (⟨(nmP (toP n p)).toArray⟩, false, k2 + 1)] : List W).getD 1 w0) = [⟨.jmp { ins0 with op := 21, k := (c : Int) }, st.ws.length, ⟨(nmP (toP n p)).toArray⟩, ln, k2 + 1⟩] by
        unfold latM isNameF; rw [if_pos (by show (!false && nameF ⟨(nmP (toP n p)).toArray⟩) = true; rw [hN]; rfl)]; rfl]
  | 3, _ =>
    simp only at hlen ⊢
    rw [colsW, take_stmt _ _ _ _ cT_word]
    obtain ⟨k', hk'⟩ : ∃ k', k + ([119, 111, 114, 100] : List UInt8).length + 1 = k' := ⟨_, rfl⟩
    rw [hk', cols_one]
    refine ⟨[⟨.word, st.ws.length, ⟨(nmP (toP n p)).toArray⟩, ln, k' + 1⟩], ?_, rfl⟩
    unfold stmtM
    rw [if_neg (by simp), show namedF ((⟨([119, 111, 114, 100] : List UInt8).toArray⟩, false, k + 1) : W).1 = none from nT_word]
    simp only
    rw [if_pos (by trivial)]
    unfold fixedM
    rw [room_yes _ _ _ _ (by omega)]
    simp only
    have hnm : isNameF (([(⟨(nmP (toP n p)).toArray⟩, false, k' + 1)] : List W).getD 0 w0) = true := by
      show (!false && nameF ⟨(nmP (toP n p)).toArray⟩) = true
      rw [hN]; rfl
    rw [if_neg (by rw [hnm]; simp)]
    simp only
    rw [count_yes ln _ _ (0 + 1) rfl]
    simp only
    rw [show latM .word st.ws.length ln (([(⟨(nmP (toP n p)).toArray⟩, false, k' + 1)] : List W).getD 0 w0) = [⟨.word, st.ws.length, ⟨(nmP (toP n p)).toArray⟩, ln, k' + 1⟩] by unfold latM; rw [hnm]; rfl]
    rfl
  | 4, _ =>
    simp only at hlen ⊢
    refine ⟨[], ?_, rfl⟩
    rw [colsW, take_stmt _ _ _ _ cT_zero]
    obtain ⟨k', hk'⟩ : ∃ k', k + ([122, 101, 114, 111] : List UInt8).length + 1 = k' := ⟨_, rfl⟩
    rw [hk', cols_one]
    unfold stmtM
    rw [if_neg (by simp), show namedF ((⟨([122, 101, 114, 111] : List UInt8).toArray⟩, false, k + 1) : W).1 = none from nT_zero]
    simp only
    rw [if_neg (by simp), if_neg (by simp), if_pos (by trivial)]
    unfold zeroM
    have hz : zeroN ((⟨(Lib.decDigits (p.v % 4)).toArray⟩, false, k' + 1) : W) = some (p.v % 4) := by
      unfold zeroN
      rw [if_neg (by simp), show numF (((⟨(Lib.decDigits (p.v % 4)).toArray⟩, false, k' + 1) : W)).1.data.toList = some (p.v % 4) from num_tens _ (by omega)]
      simp only
      rw [if_pos (by omega)]
    simp only
    rw [hz]
    simp only
    rw [count_yes ln _ _ 1 rfl]
    simp only
    rw [room_yes _ _ _ _ hlen]
    simp
end Go.Proofs.YtiknookfnameiaaGreatDoor
