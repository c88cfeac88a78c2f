/- The document's reader in memory: its Program, the rows of labels and of pieces; what a change leaves. Plain laws for the document's reader. -/
import Derived.Test.YtiknookfnameiaaGreatDoorJn25
import Derived.Test.YtiknookfnameiaaGreatDoorMStJn
import Derived.Test.YtiknookfnameiaaGreatDoorJn16
namespace Go.Proofs.YtiknookfnameiaaGreatDoor
open Go.RowKit WP
set_option linter.unusedSimpArgs false
set_option linter.unusedVariables false
def pieC (l : List Pie) : List Value := l.flatMap fun p => (pieA p).toList
theorem pieC_append (a b : List Pie) : pieC (a ++ b) = pieC a ++ pieC b := by simp [pieC]
theorem pieC_len (l : List Pie) : (pieC l).length = l.length * 8 := by
 induction l with
 | nil => rfl
 | cons p l ih =>
  have : pieC (p :: l) = (pieA p).toList ++ pieC l := rfl
  rw [this, List.length_append, ih, List.length_cons]
  have : (pieA p).toList.length = 8 := rfl
  omega
theorem pieC_get (l : List Pie) : ∀ (i j : Nat) (p : Pie), l[i]? = some p → j < 8 → (pieC l)[i * 8 + j]? = (pieA p).toList[j]? := by
 induction l with
 | nil => intro i j p h; simp at h
 | cons q l ih =>
  intro i j p h hj
  have e : pieC (q :: l) = (pieA q).toList ++ pieC l := rfl
  have e8 : (pieA q).toList.length = 8 := rfl
  rw [e]
  cases i with
  | zero =>
   simp only [List.getElem?_cons_zero, Option.some.injEq] at h
   subst h
   rw [List.getElem?_append_left (by omega), Nat.zero_mul, Nat.zero_add]
  | succ i =>
   rw [List.getElem?_append_right (by omega), e8, show (i + 1) * 8 + j - 8 = i * 8 + j by omega]
   exact ih i j p (by simpa using h) hj
theorem lc_get (l : List (ByteArray × Nat)) : ∀ (i : Nat) (p : ByteArray × Nat), l[i]? = some p → (lc l)[i * 2]? = some (.string p.1) ∧ (lc l)[i * 2 + 1]? = some (.int .i64 (p.2 : Int)) := by
 induction l with
 | nil => intro i p h; simp at h
 | cons q l ih =>
  intro i p h
  have e : lc (q :: l) = .string q.1 :: .int .i64 (q.2 : Int) :: lc l := rfl
  rw [e]
  cases i with
  | zero =>
   simp only [List.getElem?_cons_zero, Option.some.injEq] at h
   subst h
   exact ⟨rfl, rfl⟩
  | succ i =>
   rw [show (i + 1) * 2 = i * 2 + 1 + 1 by omega, List.getElem?_cons_succ, List.getElem?_cons_succ, show i * 2 + 1 + 1 + 1 = (i * 2 + 1) + 1 + 1 by omega, List.getElem?_cons_succ, List.getElem?_cons_succ]
   exact ih i p (by simpa using h)
/-- rows of texts and of words are as they were -/
def KeepR (w w' : World) : Prop := ∀ (k : Nat) (c : Array Value) (t : TypeId), w.heap[k]? = some (Obj.cells c t (0, 0)) → (t = 9 ∨ t = 172) → w'.heap[k]? = w.heap[k]?
theorem KeepR.refl (w : World) : KeepR w w := fun _ _ _ _ _ => rfl
theorem KeepR.trans {a b c : World} (h : KeepR a b) (h' : KeepR b c) : KeepR a c := fun k cs t hk ht => by
 have h1 := h k cs t hk ht
 rw [← h1]; exact h' k cs t (h1.trans hk) ht
theorem KeepR.below {w w' : World} (hb : Below w.heap.size w w') : KeepR w w' := fun k _ _ hk _ => hb.block k (Array.getElem?_eq_some_iff.1 hk).1
theorem KeepR.grown {w w' : World} {C : Nat} {e : TypeId} {size n : Nat} {v : Value} {xs : List Value} (ho : w.ownsRow C e size v n xs) (hne : ¬ (e = 9 ∨ e = 172)) (hg : w.grownBy w' v.ownBlock) : KeepR w w' := fun k _ t hk ht =>
 hg.block k (Array.getElem?_eq_some_iff.1 hk).1 (fun e2 => own_ne ho hk (fun e3 => hne (e3 ▸ ht)) e2.symm)
theorem KeepR.set {w : World} {R o : Nat} {c : Array Value} {t : TypeId} {u : Value} (hR : w.heap[R]? = some (Obj.cells c t (0, 0))) (hne : ¬ (t = 9 ∨ t = 172)) : KeepR w (w.setCell ⟨R, o, none⟩ u) := fun k _ s hk hs => by
 refine Below.heap_setCell _ _ _ _ (fun e => ?_)
 have e' : k = R := e
 subst e'
 rw [hR] at hk
 simp only [Option.some.injEq, Obj.cells.injEq] at hk
 exact hne (hk.2.1 ▸ hs)
theorem RWs.keep {w w' : World} {v : Value} {ops : List W} (h : RWs w v ops) (hk : KeepR w w') : RWs w' v ops := h.same fun b cs hb => hk b cs _ hb (.inr rfl)
theorem rstr_cell {w2 w : World} {C n : Nat} {v : Value} {L : List ByteArray} (h : w2.ownsRow C 9 1 v n (L.map Value.string)) (hk : KeepR w2 w) (k : Nat) (hkn : k < n) (t : ByteArray) (ht : L[k]? = some t) :
  ∃ g cap, v = .slice (some ⟨g, 0, none⟩) n cap ∧ n ≤ cap ∧ cap ≤ 9223372036854775807 ∧ w.cell? ⟨g, k, none⟩ = some (.string t) := by
 rcases h.2 with ⟨_, h0⟩ | ⟨g, cap, cur, hv, _, hg, h1, h2, hcs, htake⟩
 ·omega
 ·refine ⟨g, cap, hv, h1, h2, ?_⟩
  have hb := (hk g cur _ hg (.inl rfl)).trans hg
  have hc := cell_of_row w g k _ _ _ hb
  rw [hc]
  have : (L.map Value.string)[k]? = some (.string t) := by rw [List.getElem?_map, ht]; rfl
  rw [← htake, List.getElem?_take_of_lt (by omega)] at this
  rw [← this, Array.getElem?_toList]
theorem RWs.of_own {w : World} {C : Nat} {v : Value} {n : Nat} {ops : List W} (h : w.ownsRow C 172 3 v n (ww ops)) (hn : n = ops.length) : RWs w v ops := by
 subst hn
 rcases h.2 with ⟨rfl, h0⟩ | ⟨g, cap, cur, rfl, _, hg, h1, h2, hcs, htake⟩
 ·exact ⟨none, 0, by rw [h0], by omega, by decide, .inl (List.eq_nil_of_length_eq_zero h0)⟩
 ·refine ⟨_, cap, rfl, h1, h2, .inr ⟨g, 0, cur, rfl, hg, fun i x hx => ?_⟩⟩
  have hi := (List.getElem?_eq_some_iff.1 hx).1
  have hq : ∀ j u, j < 3 → (ww ops)[i * 3 + j]? = some u → cur[0 + i * 3 + j]? = some u := fun j u hj hu => by
   rw [← htake, List.getElem?_take_of_lt (by omega)] at hu
   rw [Nat.zero_add, ← hu, Array.getElem?_toList]
  have hw : ∀ (l : List W) (i : Nat) (x : W), l[i]? = some x → (ww l)[i * 3 + 0]? = some (.string x.1) ∧ (ww l)[i * 3 + 1]? = some (.bool x.2.1) ∧ (ww l)[i * 3 + 2]? = some (.int .i64 (x.2.2 : Int)) := by
   intro l
   induction l with
   | nil => intro i x h; simp at h
   | cons q l ih =>
    intro i x h
    have e : ww (q :: l) = .string q.1 :: .bool q.2.1 :: .int .i64 (q.2.2 : Int) :: ww l := by simp [ww]
    rw [e]
    cases i with
    | zero =>
     simp only [List.getElem?_cons_zero, Option.some.injEq] at h
     subst h
     exact ⟨rfl, rfl, rfl⟩
    | succ i =>
     have := ih i x (by simpa using h)
     rw [show (i + 1) * 3 + 0 = i * 3 + 0 + 1 + 1 + 1 by omega, show (i + 1) * 3 + 1 = i * 3 + 1 + 1 + 1 + 1 by omega, show (i + 1) * 3 + 2 = i * 3 + 2 + 1 + 1 + 1 by omega]
     simp only [List.getElem?_cons_succ]
     exact this
  obtain ⟨a0, a1, a2⟩ := hw ops i x hx
  exact ⟨hq 0 _ (by omega) a0, hq 1 _ (by omega) a1, hq 2 _ (by omega) a2⟩
/-- the program at R and its rows; all else below B is as it was in w0 -/
structure PSt (B : Nat) (w0 w : World) (R : Nat) (st : RAsm) (vl vp : Value) : Prop where
 blk : w.heap[R]? = some (.cells #[vl, vp] 83 (0, 0))
 labs : w.ownsRow B 45 2 vl st.labs.length (lc st.labs)
 pcs : w.ownsRow B 125 8 vp st.pcs.length (pieC st.pcs)
 hR : B ≤ R
 below : Below B w0 w
def PAt (B : Nat) (w0 w : World) (R : Nat) (st : RAsm) : Prop := ∃ vl vp, PSt B w0 w R st vl vp
section
variable {B : Nat} {w0 w w' : World} {R : Nat} {st : RAsm} {vl vp : Value}
theorem PSt.lt (h : PSt B w0 w R st vl vp) : R < w.heap.size := (Array.getElem?_eq_some_iff.1 h.blk).1
theorem PSt.c (h : PSt B w0 w R st vl vp) : w.cell? ⟨R, 0, none⟩ = some vl ∧ w.cell? ⟨R, 1, none⟩ = some vp := ⟨cell_of_row _ _ 0 _ _ _ h.blk, cell_of_row _ _ 1 _ _ _ h.blk⟩
theorem PSt.f (h : PSt B w0 w R st vl vp) (j : Nat) : w.frozen? ⟨R, j, none⟩ = false := frozen_of_row _ _ _ _ _ h.blk
theorem PSt.later (h : PSt B w0 w R st vl vp) (hb : Below w.heap.size w w') : PSt B w0 w' R st vl vp :=
 ⟨(hb.block R h.lt).trans h.blk, own_below h.labs hb, own_below h.pcs hb, h.hR, h.below.trans (hb.mono (by have := h.hR; have := h.lt; omega))⟩
theorem PAt.later (h : PAt B w0 w R st) (hb : Below w.heap.size w w') : PAt B w0 w' R st := by
 obtain ⟨vl, vp, h⟩ := h; exact ⟨vl, vp, h.later hb⟩
theorem PSt.lv (h : PSt B w0 w R st vl vp) : ∃ ao ca, vl = .slice ao st.labs.length ca ∧ st.labs.length ≤ ca ∧ ca ≤ 9223372036854775807 := own_shape h.labs
theorem PSt.pv (h : PSt B w0 w R st vl vp) : ∃ ao ca, vp = .slice ao st.pcs.length ca ∧ st.pcs.length ≤ ca ∧ ca ≤ 9223372036854775807 := own_shape h.pcs
/-- pieces appended and laid into the program -/
theorem PSt.addP (h : PSt B w0 w R st vl vp) {vp' : Value} {l : List Pie} (hO : Onto w vp w' vp') (ho : w'.ownsRow B 125 8 vp' (st.pcs.length + l.length) (pieC st.pcs ++ pieC l)) :
  w'.heap[R]? = w.heap[R]? ∧ PSt B w0 (w'.setCell ⟨R, 1, none⟩ vp') R ⟨st.labs, st.pcs ++ l⟩ vl vp' ∧ KeepR w (w'.setCell ⟨R, 1, none⟩ vp') := by
 have hg := hO.1
 have hRk : w'.heap[R]? = w.heap[R]? := hg.block R h.lt (fun e => own_ne h.pcs h.blk (by decide) e.symm)
 have hb' := hRk.trans h.blk
 refine ⟨hRk, ⟨?_, own_set (own_grown h.labs h.pcs (by decide) hg) hb' (by decide) _, ?_, h.hR, ?_⟩, (KeepR.grown h.pcs (by decide) hg).trans (KeepR.set hb' (by decide))⟩
 ·rw [heap_setCell_same w' R 1 _ _ _ hb']; rfl
 ·have := own_set (o := 1) ho hb' (by decide) vp'
  rw [pieC_append, List.length_append]; exact this
 ·refine (h.below.trans ?_).setCell (p := ⟨R, 1, none⟩) h.hR _
  exact ⟨hg.os, hg.tape, hg.output, hg.size, fun k hk => hg.block k (by have := h.lt; have := h.hR; omega) (fun e => by have := (h.pcs.lt k e.symm).1; omega)⟩
/-- a label appended and laid into the program -/
theorem PSt.addL (h : PSt B w0 w R st vl vp) {vl' : Value} {p : ByteArray × Nat} (hO : Onto w vl w' vl') (ho : w'.ownsRow B 45 2 vl' (st.labs.length + 1) (lc st.labs ++ lc [p])) :
  w'.heap[R]? = w.heap[R]? ∧ PSt B w0 (w'.setCell ⟨R, 0, none⟩ vl') R ⟨st.labs ++ [p], st.pcs⟩ vl' vp ∧ KeepR w (w'.setCell ⟨R, 0, none⟩ vl') := by
 have hg := hO.1
 have hRk : w'.heap[R]? = w.heap[R]? := hg.block R h.lt (fun e => own_ne h.labs h.blk (by decide) e.symm)
 have hb' := hRk.trans h.blk
 refine ⟨hRk, ⟨?_, ?_, own_set (own_grown h.pcs h.labs (by decide) hg) hb' (by decide) _, h.hR, ?_⟩, (KeepR.grown h.labs (by decide) hg).trans (KeepR.set hb' (by decide))⟩
 ·rw [heap_setCell_same w' R 0 _ _ _ hb']; rfl
 ·have := own_set (o := 0) ho hb' (by decide) vl'
  rw [lc_append, List.length_append]; exact this
 ·refine (h.below.trans ?_).setCell (p := ⟨R, 0, none⟩) h.hR _
  exact ⟨hg.os, hg.tape, hg.output, hg.size, fun k hk => hg.block k (by have := h.lt; have := h.hR; omega) (fun e => by have := (h.labs.lt k e.symm).1; omega)⟩
/-- a label's two cells -/
theorem PSt.lab (h : PSt B w0 w R st vl vp) (i : Nat) (p : ByteArray × Nat) (hp : st.labs[i]? = some p) : ∃ g ca, vl = .slice (some ⟨g, 0, none⟩) st.labs.length ca ∧ st.labs.length ≤ ca ∧ ca ≤ 9223372036854775807 ∧ w.cell? ⟨g, i * 2, none⟩ = some (.string p.1) ∧ w.cell? ⟨g, i * 2 + 1, none⟩ = some (.int .i64 (p.2 : Int)) := by
 have hi := (List.getElem?_eq_some_iff.1 hp).1
 obtain ⟨g, ca, e, _, h1, h2, hc⟩ := (Reads.of_own h.labs).cellAt (by omega)
 obtain ⟨a0, a1⟩ := lc_get st.labs i p hp
 exact ⟨g, ca, e, h1, h2, hc _ _ a0, hc _ _ a1⟩
/-- a piece's eight cells -/
theorem PSt.pie (h : PSt B w0 w R st vl vp) (i : Nat) (p : Pie) (hp : st.pcs[i]? = some p) : ∃ g ca, vp = .slice (some ⟨g, 0, none⟩) st.pcs.length ca ∧ st.pcs.length ≤ ca ∧ ca ≤ 9223372036854775807 ∧ ∀ j u, (pieA p).toList[j]? = some u → w.cell? ⟨g, i * 8 + j, none⟩ = some u := by
 have hi := (List.getElem?_eq_some_iff.1 hp).1
 obtain ⟨g, ca, e, _, h1, h2, hc⟩ := (Reads.of_own h.pcs).cellAt (by omega)
 refine ⟨g, ca, e, h1, h2, fun j u hu => hc _ _ ?_⟩
 have hj : j < 8 := (List.getElem?_eq_some_iff.1 hu).1
 rw [pieC_get st.pcs i j p hp hj]; exact hu
end
/-- the rest of a row of words, from its k-th on, n of them at most -/
theorem RWs.sub {w : World} {ao : Option Addr} {cap n k m : Nat} {ops : List W} (h : RWs w (.slice ao n cap) ops) (hk : k + m ≤ ops.length) :
  n = ops.length ∧ n ≤ cap ∧ cap ≤ 9223372036854775807 ∧ ∀ ao', (∀ b off, ao = some ⟨b, off, none⟩ → k < cap → ao' = some ⟨b, off + k * 3, none⟩) → RWs w (.slice ao' m (cap - k)) ((ops.drop k).take m) := by
 obtain ⟨ao2, cap2, e, h1, h2, h3⟩ := h
 simp only [Value.slice.injEq] at e
 obtain ⟨rfl, rfl, rfl⟩ := e
 have hlen : ((ops.drop k).take m).length = m := by rw [List.length_take, List.length_drop]; omega
 refine ⟨rfl, h1, h2, fun ao' ha => ⟨ao', cap - k, by rw [hlen], by omega, by omega, ?_⟩⟩
 rcases h3 with rfl | ⟨b, off, cs, rfl, hb, hc⟩
 ·left; simp
 ·by_cases hm : m = 0
  ·left; rw [hm]; rfl
  ·have := ha b off rfl (by omega)
   refine .inr ⟨b, off + k * 3, cs, this, hb, fun i x hx => ?_⟩
   have hi := (List.getElem?_eq_some_iff.1 hx).1
   rw [hlen] at hi
   rw [List.getElem?_take_of_lt hi, List.getElem?_drop] at hx
   have := hc (k + i) x hx
   rw [show off + (k + i) * 3 = off + k * 3 + i * 3 by omega] at this
   exact this
end Go.Proofs.YtiknookfnameiaaGreatDoor

namespace Go.Proofs.YtiknookfnameiaaGreatDoor
open WP
theorem rfields_lt : ∀ (L : List UInt8) (ws : List W) (k : Nat) (x : Ins × ByteArray × Nat) (j : Nat), rfieldsF L ws k x = .inr j → k ≤ j ∧ j < k + ws.length
 | [], _, _, _, _, h => by cases h
 | _ :: _, [], _, _, _, h => by cases h
 | c :: cs, w :: ws, k, x, j, h => by
  unfold rfieldsF at h
  split at h
  ·cases h
   rw [List.length_cons]; omega
  ·have := rfields_lt cs ws (k + 1) _ j h
   rw [List.length_cons]; omega
theorem rinstr_lt {op : Nat} {ws : List W} {ln j : Nat} (h : rinstrF op ws ln = .inr j) : j < ws.length := by
 unfold rinstrF at h
 split at h
 ·next e =>
  cases h
  have := rfields_lt _ _ _ _ _ e
  omega
 ·cases h
theorem rown_lt {s : ByteArray} {ws : List W} {ln j : Nat} (h : rownF s ws ln = .inr j) : j < ws.length := by
 unfold rownF at h
 split at h
 ·split at h
  ·cases h
  ·split at h
   ·cases h; rw [List.length_cons]; omega
   ·cases h
 ·split at h
  ·split at h
   ·cases h
   ·split at h
    ·cases h; rw [List.length_cons]; omega
    ·split at h
     ·cases h
     ·split at h
      ·cases h; rw [List.length_cons, List.length_cons]; omega
      ·cases h
  ·split at h
   ·cases h
   ·split at h
    ·cases h; rw [List.length_cons]; omega
    ·cases h
theorem rpieces_lt {name : W} {ws : List W} {ln j : Nat} (h : rpiecesF name ws ln = .inr j) : j < ws.length := by
 unfold rpiecesF at h
 split at h
 ·split at h
  ·next e => cases h; exact rinstr_lt e
  ·cases h
 ·exact rown_lt h
theorem findT_ge {T : List (List UInt8)} {s : List UInt8} : ∀ (f k o : Nat), findT T s f k = some o → k ≤ o
 | 0, k, o, h => by simp [findT] at h
 | f + 1, k, o, h => by
  rw [findT] at h
  split at h
  ·simp only [Option.some.injEq] at h; omega
  ·have := findT_ge f (k + 1) o h; omega
theorem namedF_ge {s : ByteArray} {o : Nat} (h : namedF s = some o) : 1 ≤ o := findT_ge _ _ _ h
def fndI (L : List (ByteArray × Nat)) (s : ByteArray) : Int := match findL L s with | some p => (p : Int) | none => -1
theorem fnd_nil (s : ByteArray) : fndI [] s = -1 := rfl
theorem fnd_cons (p : ByteArray × Nat) (L : List (ByteArray × Nat)) (s : ByteArray) : fndI (p :: L) s = if p.1.data.toList = s.data.toList then (p.2 : Int) else fndI L s := by
 unfold fndI findL
 by_cases h : p.1.data.toList = s.data.toList
 ·rw [if_pos h, List.find?_cons_of_pos (by simpa using h)]; rfl
 ·rw [if_neg h, List.find?_cons_of_neg (by simpa using h)]
theorem fnd_step (L : List (ByteArray × Nat)) (s : ByteArray) (k : Nat) (p : ByteArray × Nat) (h : L[k]? = some p) : fndI (L.drop k) s = if p.1.data.toList = s.data.toList then (p.2 : Int) else fndI (L.drop (k + 1)) s := by
 obtain ⟨h1, e⟩ := List.getElem?_eq_some_iff.1 h
 rw [List.drop_eq_getElem_cons h1, e, fnd_cons]
theorem fnd_some (L : List (ByteArray × Nat)) (s : ByteArray) : (findL L s).isSome = true ↔ 0 ≤ fndI L s := by
 unfold fndI
 cases findL L s <;> simp
theorem rown_len {s : ByteArray} {ws : List W} {ln : Nat} {l : List Pie} (h : rownF s ws ln = .inl l) : l.length ≤ 2048 := by
 unfold rownF at h
 split at h
 ·split at h
  ·cases h; simp
  ·split at h
   ·cases h
   ·cases h; simp
 ·split at h
  ·split at h
   ·cases h; simp
   ·split at h
    ·cases h
    ·split at h
     ·cases h; simp
     ·split at h
      ·cases h
      ·cases h; simp
  ·split at h
   ·cases h; simp
   ·split at h
    ·cases h
    ·next n hz =>
     cases h
     rw [List.length_replicate]
     unfold zeroN at hz
     split at hz
     ·cases hz
     ·split at hz
      ·split at hz
       ·cases hz; assumption
       ·cases hz
      ·cases hz
theorem rpieces_len {name : W} {ws : List W} {ln : Nat} {l : List Pie} (h : rpiecesF name ws ln = .inl l) : l.length ≤ 2048 := by
 unfold rpiecesF at h
 split at h
 ·split at h
  ·cases h
  ·cases h; simp
 ·exact rown_len h
end Go.Proofs.YtiknookfnameiaaGreatDoor
