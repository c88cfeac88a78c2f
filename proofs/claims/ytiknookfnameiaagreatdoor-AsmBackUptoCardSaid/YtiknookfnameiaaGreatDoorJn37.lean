/- The law's same and first. AsmMoves' plain law: a base moves addresses alone; lines of remarks ahead move a fault's line alone; a fault's number is none that says well. -/
import Derived.Test.YtiknookfnameiaaGreatDoorMAsmJn
import Derived.BigQuiet
import Derived.Test.YtiknookfnameiaaGreatDoorJn14
namespace Go.Proofs.YtiknookfnameiaaGreatDoor
open Go.RowKit WP
set_option linter.unusedSimpArgs false
set_option linter.unusedVariables false
theorem OutW.rd {w : World} {B : Nat} {e : TypeId} {v : Value} {n : Nat} {xs : List Value} (h : OutW w B e 1 v n xs) : Rd w v xs := by
  obtain ⟨h0, h⟩ := h
  rw [Nat.mul_one] at h0
  rcases h with ⟨rfl, rfl⟩ | ⟨g, cur, rfl, h1, h2, h3, h4, h5⟩
  · have : xs = [] := List.eq_nil_of_length_eq_zero h0
    subst this
    exact ⟨none, 0, rfl, Nat.le_refl _, by decide, .inl rfl⟩
  · refine ⟨_, _, by rw [h0], by omega, h2, .inr ⟨g, 0, rfl, fun j u hu => ?_⟩⟩
    have hj := (List.getElem?_eq_some_iff.1 hu).1
    rw [Nat.mul_one] at h5
    rw [Nat.zero_add, cell_of_row _ _ _ _ _ _ h3]
    rw [← h5, List.getElem?_take_of_lt (by omega)] at hu
    rw [← hu, Array.getElem?_toList]
theorem rd_ints {w : World} {v : Value} {l : List Int} (h : Rd w v (wi l)) : ∃ ao ca, v = .slice ao l.length ca ∧ l.length ≤ ca ∧ ca ≤ 9223372036854775807 ∧ ∀ i, i < l.length → ∃ b off, ao = some ⟨b, off, none⟩ ∧ w.cell? ⟨b, off + i, none⟩ = some (.int .u32 (l.getD i 0)) := by
  obtain ⟨ao, ca, hV, a1, a2, a3⟩ := h
  rw [wi_len] at hV a1
  refine ⟨ao, ca, hV, a1, by simpa [maxLen] using a2, fun i hi => ?_⟩
  have hg : (wi l)[i]? = some (.int .u32 (l.getD i 0)) := by
    unfold wi; rw [List.getElem?_map, List.getElem?_eq_getElem hi, List.getD_eq_getElem?_getD, List.getElem?_eq_getElem hi]; rfl
  rcases a3 with a3 | ⟨b, off, rfl, a3⟩
  · rw [a3] at hg; simp at hg
  · exact ⟨b, off, rfl, a3 i _ hg⟩
theorem selfDrewN (w : World) : ∀ n, Below w.heap.size w (w.drewN n)
  | 0 => Below.refl _ _
  | n + 1 => (selfDrewN w n).drew
set_option maxRecDepth 100000 in
set_option maxHeartbeats 1000000 in
theorem asame_any (v u : Value) (l : List Int) (w : World) (hv : Rd w v (wi l)) (hu : Rd w u (wi l)) :
    Calls Tryz.prog 10 #[v, u] w fun e w' => e = .returned (.bool true) ∧ Below w.heap.size w w' := by
  obtain ⟨ao, ca, rfl, a1, a2, a3⟩ := rd_ints hv
  obtain ⟨bo, cb, rfl, b1, b2, b3⟩ := rd_ints hu
  have hne : ((l.length : Int) != (l.length : Int)) = false := by simp
  have hbw : ∀ n, Below w.heap.size w (w.drewN n) := selfDrewN w
  replace a3 := Lib.hid a3; replace b3 := Lib.hid b3; replace hbw := Lib.hid hbw
  clear hv hu
  go_enter Tryz.func10, Tryz.ntmps10
  go_wp2_with fail
  go_loopw [5] (fun i wr => ∃ k : Nat, k ≤ l.length ∧ i = .int .i64 k ∧ ∃ n, wr = w.drewN n) (fun i _ => l.length - (intOf i).toNat)
  case atStart => exact ⟨0, by omega, rfl, 0, rfl⟩
  case round =>
    obtain ⟨k, hk, rfl, n, rfl⟩ := hrel
    by_cases hlt : k < l.length
    · obtain ⟨ab, af, rfl, hc⟩ := a3.out k hlt
      obtain ⟨bb, bf, rfl, hd⟩ := b3.out k hlt
      generalize l.getD k 0 = S at *
      have i1 : (0 : Int) ≤ (k : Int) := by omega
      have i2 : (k : Int) < (l.length : Int) := by omega
      have d1 : decide ((k : Int) < (l.length : Int)) = true := decide_eq_true i2
      go_wp2_with fail
      go_quiet (fail)
      go_wp2_with fail
      go_roundw
      case rel => exact ⟨k + 1, by omega, by go_num, n + nq, rfl⟩
      case measure => simp [intOf]; omega
    · obtain rfl : k = l.length := by omega
      have d1 : decide ((l.length : Int) < (l.length : Int)) = false := decide_eq_false (by omega)
      go_wp2_with fail
      go_ret
      exact ⟨rfl, hbw.out n⟩
def firstT : ByteArray := ⟨#[108, 105, 32, 114, 50, 32, 101, 110, 100, 10, 120, 58, 32, 98, 32, 97, 108, 32, 120, 10, 119, 111, 114, 100, 32, 101, 110, 100, 10, 101, 110, 100, 58]⟩
theorem first_read : ∃ labs, readM 4096 firstT = .inl ([75501584, 142606336, 1409351679, 4112], labs) := by
  have h : (match readM 4096 firstT with | .inl x => some x.1 | .inr _ => none) = some [75501584, 142606336, 1409351679, 4112] := by decide +kernel
  cases hr : readM 4096 firstT with
  | inr f => rw [hr] at h; cases h
  | inl x =>
    rw [hr] at h
    simp only [Option.some.injEq] at h
    obtain ⟨ws, labs⟩ := x
    exact ⟨labs, by rw [← h]⟩
/-- a fault in a variable of its own -/
theorem flt_new (w : World) (a b c : Value) : ∃ w4, w.alloc (.cells #[a, b, c] 27) = w4 ∧
    w4.heap[w.heap.size]? = some (.cells #[a, b, c] 27 (0, 0)) ∧ Below w.heap.size w w4 :=
  ⟨_, rfl, heap_alloc_new w _, (Below.refl _ _).alloc (Nat.le_refl _) _⟩
set_option maxRecDepth 100000 in
set_option maxHeartbeats 2000000 in
theorem first_any (m : Int) (w : World) (hE : AEnv w) (hM : MaxL w m) (hT : ErrT w) :
    Calls Tryz.prog 8 #[] w fun e w' => e = .returned (.bool true) ∧ Below w.heap.size w w' := by
  obtain ⟨labs, hrd⟩ := first_read
  have has := assemble_any firstT 4096 m w hE hM hT (by decide) ⟨by decide, by decide⟩
  rw [hrd] at has
  replace has := Lib.hid has
  clear hrd
  go_enter Tryz.func8, Tryz.ntmps8
  go_wp2_with fail
  refine has.out.mono ?_
  rintro e w2 ⟨b2, v, rfl, ho⟩
  unfold fltV
  obtain ⟨w4, hw4, hR4, b4⟩ := flt_new w2 (.int .i64 0) (.int .i64 0) (.int .i64 0)
  have c0 : w4.cell? ⟨w2.heap.size, 0, none⟩ = some (.int .i64 0) := cell_of_row _ _ _ _ _ _ hR4
  have c1 : w4.cell? ⟨w2.heap.size, 1, none⟩ = some (.int .i64 0) := cell_of_row _ _ _ _ _ _ hR4
  have c2 : w4.cell? ⟨w2.heap.size, 2, none⟩ = some (.int .i64 0) := cell_of_row _ _ _ _ _ _ hR4
  have hr4 := ho.rd.mono b4
  simp only at hr4
  have hsm := asame_any v (.slice (some ⟨w4.heap.size, 0, none⟩) 4 4) [75501584, 142606336, 1409351679, 4112] (w4.alloc (.cells #[.int .u32 75501584, .int .u32 142606336, .int .u32 1409351679, .int .u32 4112] 22)) (hr4.alloc _) (Rd.new w4 (wi [75501584, 142606336, 1409351679, 4112]) 22 (0, 0) (by decide))
  have bel := (b2.trans (b4.mono b2.size)).alloc (Nat.le_trans b2.size b4.size) (.cells #[.int .u32 75501584, .int .u32 142606336, .int .u32 1409351679, .int .u32 4112] 22)
  have hbs := bel.size
  replace b2 := Lib.hid b2; replace b4 := Lib.hid b4; replace hR4 := Lib.hid hR4; replace hr4 := Lib.hid hr4; replace hsm := Lib.hid hsm; replace bel := Lib.hid bel; replace ho := Lib.hid ho; replace hw4 := Lib.hid hw4; replace hbs := Lib.hid hbs
  clear has hE hM hT
  go_upto_region 2 with fail
  rw [hw4.out]
  clear hw4
  go_wp2_with fail
  refine hsm.out.mono ?_
  rintro e w5 ⟨rfl, b5⟩
  have hfin := bel.out.trans (b5.mono hbs.out)
  replace hfin := Lib.hid hfin
  clear b5
  go_wp2_with fail
  go_ret
  exact ⟨rfl, hfin.out⟩
end Go.Proofs.YtiknookfnameiaaGreatDoor

namespace Go.Proofs.YtiknookfnameiaaGreatDoor
open WP
def preL : List UInt8 := [35, 32, 120, 58, 32, 121, 10, 32, 9, 10]
theorem linesA_pre (l : List UInt8) : linesA [] (preL ++ l) = [35, 32, 120, 58, 32, 121] :: [32, 9] :: linesA [] l := by
  simp [preL, linesA]
theorem words_p1 : wordsF ⟨#[35, 32, 120, 58, 32, 121]⟩ = .inl [] := by decide +kernel
theorem words_p2 : wordsF ⟨#[32, 9]⟩ = .inl [] := by decide +kernel
theorem lines_pre (s t : ByteArray) (h : t.data.toList = preL ++ s.data.toList) : linesF t = ⟨#[35, 32, 120, 58, 32, 121]⟩ :: ⟨#[32, 9]⟩ :: linesF s := by
  unfold linesF
  rw [h, linesA_pre]; rfl
/-- a reading, its lines shifted -/
def shRd (d : Nat) : (List Int × List (ByteArray × Nat)) ⊕ Flt → (List Int × List (ByteArray × Nat)) ⊕ Flt
  | .inl x => .inl x
  | .inr f => .inr (shF d f)
theorem readM_pre (base : Int) (s t : ByteArray) (h : t.data.toList = preL ++ s.data.toList) (hs : s.size ≤ 65000) : readM base t = shRd 2 (readM base s) := by
  have ht : t.size = s.size + 10 := by
    have h1 : t.data.toList.length = t.size := by simp
    have h2 : s.data.toList.length = s.size := by simp
    rw [← h1, h, List.length_append, h2]; simp [preL]; omega
  unfold readM
  rw [if_neg (by omega), if_neg (by omega), lines_pre s t h]
  have e : linesM 1 (⟨#[35, 32, 120, 58, 32, 121]⟩ :: ⟨#[32, 9]⟩ :: linesF s) asm0 = shR 2 (linesM 1 (linesF s) asm0) := by
    have e1 := sh_lines 2 (linesF s) 1 asm0
    rw [← e1]
    rw [linesM, lineM, words_p1]
    simp only [takeM]
    rw [linesM, lineM, words_p2]
    rfl
  rw [e]
  cases linesM 1 (linesF s) asm0 with
  | inr f => rfl
  | inl st =>
    simp only [shR]
    rw [show (sh 2 st).lat = st.lat.map (shL 2) from rfl, show (sh 2 st).labs = st.labs from rfl, show (sh 2 st).ws = st.ws from rfl, sh_laters]
    cases latersM base st.labs st.lat st.ws with
    | inr f => rfl
    | inl ws => rfl
theorem readM_like (b1 b2 : Int) (s : ByteArray) : (∃ a b labs, readM b1 s = .inl (a, labs) ∧ readM b2 s = .inl (b, labs) ∧ a.length = b.length) ∨ ∃ f, readM b1 s = .inr f ∧ readM b2 s = .inr f := by
  unfold readM
  split
  · exact .inr ⟨_, rfl, rfl⟩
  cases linesM 1 (linesF s) asm0 with
  | inr f => exact .inr ⟨f, rfl, rfl⟩
  | inl st =>
    simp only
    rcases laters_like b1 b2 st.labs st.lat st.ws st.ws rfl with ⟨x, y, h1, h2, hl⟩ | ⟨f, h1, h2⟩
    · rw [h1, h2]; exact .inl ⟨x, y, st.labs, rfl, rfl, hl⟩
    · rw [h1, h2]; exact .inr ⟨f, rfl, rfl⟩
theorem readM_len {b : Int} {s : ByteArray} {ws : List Int} {labs : List (ByteArray × Nat)} (h : readM b s = .inl (ws, labs)) : ws.length ≤ 2048 := by
  unfold readM at h
  split at h
  · cases h
  cases hl : linesM 1 (linesF s) asm0 with
  | inr f => rw [hl] at h; cases h
  | inl st =>
    rw [hl] at h
    simp only at h
    have ok := lines_ok (linesF s) asm0_ok hl
    cases hx : latersM b st.labs st.lat st.ws with
    | inr f => rw [hx] at h; cases h
    | inl ws' =>
      rw [hx] at h
      cases h
      rw [laters_len st.lat ok.lat hx]; exact ok.len
/-- the faults' numbers -/
def FOk (f : Flt) : Prop := 1 ≤ f.1 ∧ f.1 ≤ 66
/-- .. and their line -/
def FOn (ln : Nat) (f : Flt) : Prop := FOk f ∧ f.2.1 = ln
theorem flt_n (e : Int) (ln c : Nat) (h1 : 1 ≤ e) (h2 : e ≤ 66) : FOn ln (e, ln, c) := ⟨⟨h1, h2⟩, rfl⟩
theorem room_flt {ln : Nat} {name : W} {st : Asm} {n : Nat} {f : Flt} (h : roomM ln name st n = some f) : FOn ln f := by
  unfold roomM at h; split at h
  · cases h; exact flt_n _ _ _ (by decide) (by decide)
  · cases h
theorem count_flt {ln : Nat} {name : W} {ops : List W} {n : Nat} {f : Flt} (h : countM ln name ops n = some f) : FOn ln f := by
  unfold countM at h; split at h
  · cases h; exact flt_n _ _ _ (by decide) (by decide)
  split at h
  · cases h; exact flt_n _ _ _ (by decide) (by decide)
  · cases h
def LOk (N : Nat) (st : Asm) : Prop := ∀ x ∈ st.lat, x.line ≤ N
theorem LOk.more {N : Nat} {st : Asm} (h : LOk N st) (ws : List Int) (labs : List (ByteArray × Nat)) (L : List Lat) (hL : ∀ x ∈ L, x.line ≤ N) : LOk N ⟨ws, labs, st.lat ++ L⟩ := by
  intro x hx
  rcases List.mem_append.1 hx with hx | hx
  · exact h x hx
  · exact hL x hx
theorem instr_flt {ln N : Nat} {name : W} {op : Nat} {ops : List W} {st : Asm} (hl : ln ≤ N) (hst : LOk N st) : match instrM ln name op ops st with | .inr f => FOn ln f | .inl st' => LOk N st' := by
  unfold instrM
  split
  · rename_i f h; split at h
    · rename_i hr; cases h; exact room_flt hr
    split at h
    · cases h; exact flt_n _ _ _ (by decide) (by decide)
    split at h
    · rename_i hr; cases h; exact count_flt hr
    · cases h
  · rename_i st' h; split at h
    · cases h
    split at h
    · cases h
    split at h
    · cases h
    cases h
    refine hst.more _ _ _ fun x hx => ?_
    split at hx
    · simp at hx
    · rw [latM_mem hx]; exact hl
theorem fixed_flt {ln N : Nat} {name : W} {k n : Nat} {ops : List W} {t : Wht} {st : Asm} (hl : ln ≤ N) (hst : LOk N st) : match fixedM ln name k ops t n st with | .inr f => FOn ln f | .inl st' => LOk N st' := by
  unfold fixedM
  split
  · rename_i f h; split at h
    · rename_i hr; cases h; exact room_flt hr
    split at h
    · cases h; exact flt_n _ _ _ (by decide) (by decide)
    split at h
    · rename_i hr; cases h; exact count_flt hr
    · cases h
  · rename_i st' h; split at h
    · cases h
    split at h
    · cases h
    split at h
    · cases h
    cases h
    refine hst.more _ _ _ fun x hx => ?_
    rw [latM_mem hx]; exact hl
theorem stmt_flt {ln N : Nat} {name : W} {ops : List W} {st : Asm} (hl : ln ≤ N) (hst : LOk N st) : match stmtM ln name ops st with | .inr f => FOn ln f | .inl st' => LOk N st' := by
  have key : ∀ R : Asm ⊕ Flt, stmtM ln name ops st = R → match R with | .inr f => FOn ln f | .inl st' => LOk N st' := by
    intro R h
    unfold stmtM at h
    split at h
    · cases h; exact flt_n _ _ _ (by decide) (by decide)
    split at h
    · rw [← h]; exact instr_flt hl hst
    split at h
    · rw [← h]; exact fixed_flt hl hst
    split at h
    · unfold liM at h
      split at h
      · rename_i hr; cases h; exact room_flt hr
      split at h
      · rw [← h]; exact fixed_flt hl hst
      split at h
      · cases h; exact flt_n _ _ _ (by decide) (by decide)
      · rw [← h]; exact fixed_flt hl hst
    split at h
    · unfold zeroM at h
      split at h
      · cases h; exact flt_n _ _ _ (by decide) (by decide)
      split at h
      · rename_i hr; cases h; exact count_flt hr
      split at h
      · rename_i hr; cases h; exact room_flt hr
      · cases h; exact hst
    · cases h; exact flt_n _ _ _ (by decide) (by decide)
  exact key _ rfl
theorem take_flt {ln N : Nat} (hl : ln ≤ N) : ∀ (ws : List W) {st : Asm}, LOk N st → match takeM ln ws st with | .inr f => FOn ln f | .inl st' => LOk N st'
  | [], st, hst => hst
  | w :: ws, st, hst => by
    have key : ∀ R : Asm ⊕ Flt, takeM ln (w :: ws) st = R → match R with | .inr f => FOn ln f | .inl st' => LOk N st' := by
      intro R h
      unfold takeM at h
      split at h
      · split at h
        · cases h; exact flt_n _ _ _ (by decide) (by decide)
        split at h
        · cases h; exact flt_n _ _ _ (by decide) (by decide)
        · rw [← h]; exact take_flt hl ws (st := ⟨st.ws, st.labs ++ [(cutC w.1, st.ws.length)], st.lat⟩) hst
      · rw [← h]; exact stmt_flt hl hst
    exact key _ rfl
theorem line_flt {ln N : Nat} (hl : ln ≤ N) (l : ByteArray) {st : Asm} (hst : LOk N st) : match lineM ln l st with | .inr f => FOn ln f | .inl st' => LOk N st' := by
  unfold lineM
  cases wordsF l with
  | inr c => exact flt_n _ _ _ (by decide) (by decide)
  | inl ws => exact take_flt hl ws hst
theorem lines_flt {N : Nat} : ∀ (L : List ByteArray) {ln : Nat} {st : Asm}, ln + L.length ≤ N + 1 → LOk N st → match linesM ln L st with | .inr f => FOk f ∧ f.2.1 ≤ N | .inl st' => LOk N st'
  | [], ln, st, _, hst => hst
  | l :: L, ln, st, hl, hst => by
    simp only [List.length_cons] at hl
    have h1 := line_flt (ln := ln) (N := N) (by omega) l hst
    rw [linesM]
    cases hx : lineM ln l st with
    | inr g => rw [hx] at h1; exact ⟨h1.1, by rw [h1.2]; omega⟩
    | inl st' => rw [hx] at h1; exact lines_flt L (by omega) h1
theorem laters_flt {N : Nat} {base : Int} {labs : List (ByteArray × Nat)} : ∀ (L : List Lat) {ws : List Int} {f : Flt}, (∀ x ∈ L, x.line ≤ N) → latersM base labs L ws = .inr f → FOk f ∧ f.2.1 ≤ N
  | [], ws, f, _, h => by cases h
  | x :: L, ws, f, hL, h => by
    have hx := hL x (by simp)
    unfold latersM at h
    cases hl : laterM base labs x ws with
    | inr g =>
      rw [hl] at h; cases h
      unfold laterM at hl
      split at hl
      · cases hl; exact ⟨⟨by show (1 : Int) ≤ 64; decide, by show (64 : Int) ≤ 66; decide⟩, hx⟩
      split at hl
      · split at hl
        · cases hl; exact ⟨⟨by show (1 : Int) ≤ 65; decide, by show (65 : Int) ≤ 66; decide⟩, hx⟩
        · cases hl
      · cases hl
    | inl ws' => rw [hl] at h; exact laters_flt L (fun y hy => hL y (by simp [hy])) h
theorem linesA_n : ∀ (l c : List UInt8), (linesA c l).length ≤ l.length + 1
  | [], c => by unfold linesA; split <;> simp
  | x :: l, c => by
    unfold linesA
    split
    · have := linesA_n l []; simp; omega
    · have := linesA_n l (c ++ [x]); simp; omega
theorem readM_flt {b : Int} {s : ByteArray} {f : Flt} (h : readM b s = .inr f) : FOk f ∧ f.2.1 ≤ 65537 := by
  unfold readM at h
  split at h
  · cases h; exact ⟨⟨by show (1 : Int) ≤ 2; decide, by show (2 : Int) ≤ 66; decide⟩, by show 0 ≤ 65537; omega⟩
  rename_i hs
  have hn : (linesF s).length ≤ 65537 := by
    have := linesA_n s.data.toList []
    have hl : s.data.toList.length = s.size := by rw [Array.length_toList]; rfl
    unfold linesF bas
    rw [List.length_map]; omega
  have h1 := lines_flt (N := 65537) (linesF s) (ln := 1) (st := asm0) (by omega) (by intro x hx; simp [asm0] at hx)
  cases hl : linesM 1 (linesF s) asm0 with
  | inr g => rw [hl] at h h1; cases h; exact h1
  | inl st =>
    rw [hl] at h h1
    simp only at h
    cases hx : latersM b st.labs st.lat st.ws with
    | inr g => rw [hx] at h; cases h; exact laters_flt _ h1 hx
    | inl ws' => rw [hx] at h; cases h
end Go.Proofs.YtiknookfnameiaaGreatDoor
