/- What a change of the reader leaves of its rows, its map and what waits. -/
import Derived.Test.YtiknookfnameiaaGreatDoorMFldJn
import Derived.Laws.OwnMore
namespace Go.Proofs.YtiknookfnameiaaGreatDoor
open Go.RowKit WP
theorem capT_no {t : TypeId} (h : t = 22 ∨ t = 44 ∨ t = 118 ∨ t = 77) : ¬ capT t := by
 unfold capT
 rcases h with rfl | rfl | rfl | rfl <;> decide
theorem Keep.grown {w w' : World} {C : Nat} {e : TypeId} {size n : Nat} {v : Value} {xs : List Value} (ho : w.ownsRow C e size v n xs) (hne : ¬ capT e) (hg : w.grownBy w' v.ownBlock) : Keep w w' := fun k _ _ hk ht =>
 hg.block k (Array.getElem?_eq_some_iff.1 hk).1 (fun e2 => own_ne ho hk (fun e3 => hne (e3 ▸ ht)) e2.symm)
theorem Keep.set {w : World} {R o : Nat} {c : Array Value} {t : TypeId} {u : Value} (hR : w.heap[R]? = some (Obj.cells c t (0, 0))) (hne : ¬ capT t) : Keep w (w.setCell ⟨R, o, none⟩ u) := fun k _ s hk hs => by
 refine Below.heap_setCell w ⟨R, o, none⟩ u k ?_
 intro e2
 have e3 : k = R := e2
 subst e3
 rw [hk] at hR
 simp only [Option.some.injEq, Obj.cells.injEq] at hR
 exact hne (hR.2.1 ▸ hs)
theorem Keep.mapd {w w' : World} {mb : Nat} {es : Array MapEntry} {c : Nat} (hm : w.heap[mb]? = some (.map es c)) (hg : w.grownBy w' (some mb)) : Keep w w' := fun k _ _ hk _ =>
 hg.block k (Array.getElem?_eq_some_iff.1 hk).1 (fun e => by
  simp only [Option.some.injEq] at e; subst e; rw [hk] at hm; simp at hm)
theorem own_set {w : World} {C : Nat} {e : TypeId} {size n : Nat} {v : Value} {xs : List Value} {R o : Nat} {c : Array Value} {t : TypeId} (h : w.ownsRow C e size v n xs) (hR : w.heap[R]? = some (Obj.cells c t (0, 0))) (hne : t ≠ e) (u : Value) : (w.setCell ⟨R, o, none⟩ u).ownsRow C e size v n xs :=
 ownsRow_setCell_other h (a := ⟨R, o, none⟩) (own_ne h hR hne) u
theorem own_grown {w w' : World} {C C' : Nat} {e e' : TypeId} {size size' n n' : Nat} {v u : Value} {xs ys : List Value} (h : w.ownsRow C e size v n xs) (h' : w.ownsRow C' e' size' u n' ys) (hne : e ≠ e') (hg : w.grownBy w' u.ownBlock) : w'.ownsRow C e size v n xs :=
 (Touch.grown hg (List.mem_singleton_self u)).own h (fun s hs => by rw [List.mem_singleton.1 hs]; exact own_far h h' hne)
theorem own_mapd {w w' : World} {C : Nat} {e : TypeId} {size n : Nat} {v : Value} {xs : List Value} {mb : Nat} {es : Array MapEntry} {c : Nat} (h : w.ownsRow C e size v n xs) (hm : w.heap[mb]? = some (.map es c)) (hg : w.grownBy w' (some mb)) : w'.ownsRow C e size v n xs := by
 refine ⟨h.1, ?_⟩
 rcases id h.2 with hn | ⟨g, cap, cur, rfl, hbg, hgg, rest⟩
 ·exact .inl hn
 ·refine .inr ⟨g, cap, cur, rfl, hbg, ?_, rest⟩
  rw [hg.block g (Array.getElem?_eq_some_iff.1 hgg).1 (fun e => by simp only [Option.some.injEq] at e; subst e; rw [hgg] at hm; simp at hm)]
  exact hgg
section
variable {B : Nat} {w0 w w' : World} {R : Nat} {base : Int} {ln : Nat} {st : Asm} {vw vl : Value} {mb : Nat} {vf : Value} {fs : List Value} {bs : List Nat} {ml : List (ByteArray × Nat)}
theorem RSt.mlt (h : RSt B w0 w R base ln st vw vl mb vf fs bs ml) : mb < w.heap.size := by
 obtain ⟨es, c, hm⟩ := h.map.lt; exact (Array.getElem?_eq_some_iff.1 hm).1
theorem RSt.mne (h : RSt B w0 w R base ln st vw vl mb vf fs bs ml) : mb ≠ R := by
 obtain ⟨es, c, hm⟩ := h.map.lt
 intro e; subst e; rw [h.blk] at hm; simp at hm
/-- a cell of the reader stored, its rows as they are -/
theorem RSt.setLine (h : RSt B w0 w R base ln st vw vl mb vf fs bs ml) (m : Nat) : RSt B w0 (w.setCell ⟨R, 1, none⟩ (.int .i64 (m : Int))) R base m st vw vl mb vf fs bs ml := by
 refine ⟨?_, own_set h.ws h.blk (by decide) _, own_set h.labs h.blk (by decide) _, h.map.same (Below.heap_setCell _ _ _ _ h.mne), own_set h.lat h.blk (by decide) _, h.pend.keep (Keep.set h.blk (capT_no (.inr (.inr (.inr rfl))))) (by simp), h.hR, h.hm, h.below.setCell (p := ⟨R, 1, none⟩) h.hR _, h.size, h.strs.keep (Keep.set h.blk (capT_no (.inr (.inr (.inr rfl))))), h.lo⟩
 rw [heap_setCell_same w R 1 _ _ _ h.blk]; rfl
/-- words appended and laid into the reader -/
theorem RSt.words (h : RSt B w0 w R base ln st vw vl mb vf fs bs ml) {vw' : Value} {l : List Int} (hO : Onto w vw w' vw') (ho : w'.ownsRow B 22 1 vw' (st.ws.length + l.length) (wi st.ws ++ wi l)) :
  w'.heap[R]? = w.heap[R]? ∧ RSt B w0 (w'.setCell ⟨R, 2, none⟩ vw') R base ln ⟨st.ws ++ l, st.labs, st.lat⟩ vw' vl mb vf fs bs ml := by
 have hg := hO.1
 have hRk : w'.heap[R]? = w.heap[R]? := hg.block R h.lt (fun e => own_ne h.ws h.blk (by decide) e.symm)
 have hb' := hRk.trans h.blk
 refine ⟨hRk, ?_, ?_, own_set (own_grown h.labs h.ws (by decide) hg) hb' (by decide) _, ?_, own_set (own_grown h.lat h.ws (by decide) hg) hb' (by decide) _, ?_, h.hR, h.hm, ?_, h.size, h.strs.keep ((Keep.grown h.ws (capT_no (.inl rfl)) hg).trans (Keep.set hb' (capT_no (.inr (.inr (.inr rfl)))))), h.lo⟩
 ·rw [heap_setCell_same w' R 2 _ _ _ hb']; rfl
 ·have := own_set (o := 2) ho hb' (by decide) vw'
  rw [wi_append, List.length_append]; exact this
 ·refine h.map.same ((Below.heap_setCell _ _ _ _ h.mne).trans (hg.block mb h.mlt (fun e => ?_)))
  obtain ⟨es, c, hm⟩ := h.map.lt
  exact own_ne_map h.ws hm e.symm
 ·exact h.pend.keep ((Keep.grown h.ws (capT_no (.inl rfl)) hg).trans (Keep.set hb' (capT_no (.inr (.inr (.inr rfl)))))) (by simpa using hg.size)
 ·refine (h.below.trans ?_).setCell (p := ⟨R, 2, none⟩) h.hR _
  exact ⟨hg.os, hg.tape, hg.output, hg.size, fun k hk => hg.block k (by have := h.lt; have := h.hR; omega) (fun e => by have := (h.ws.lt k e.symm).1; omega)⟩
/-- one that waits, appended and laid into the reader -/
theorem RSt.wait (h : RSt B w0 w R base ln st vw vl mb vf fs bs ml) {vf' : Value} {f : Value} {x : Lat} {b : Nat} (hO : Onto w vf w' vf') (hfl : fs.length = st.lat.length) (ho : w'.ownsRow B 118 1 vf' (st.lat.length + 1) (fs ++ [f])) (hb : B ≤ b ∧ ∀ c ∈ bs, c < b) (hw : b < w.heap.size) (hp : Pend w R b f x) :
  w'.heap[R]? = w.heap[R]? ∧ RSt B w0 (w'.setCell ⟨R, 5, none⟩ vf') R base ln ⟨st.ws, st.labs, st.lat ++ [x]⟩ vw vl mb vf' (fs ++ [f]) (bs ++ [b]) ml := by
 have hg := hO.1
 have hRk : w'.heap[R]? = w.heap[R]? := hg.block R h.lt (fun e => own_ne h.lat h.blk (by decide) e.symm)
 have hb' := hRk.trans h.blk
 refine ⟨hRk, ?_, own_set (own_grown h.ws h.lat (by decide) hg) hb' (by decide) _, own_set (own_grown h.labs h.lat (by decide) hg) hb' (by decide) _, ?_, ?_, ?_, h.hR, h.hm, ?_, h.size, h.strs.keep ((Keep.grown h.lat (capT_no (.inr (.inr (.inl rfl)))) hg).trans (Keep.set hb' (capT_no (.inr (.inr (.inr rfl)))))), ?_⟩
 ·rw [heap_setCell_same w' R 5 _ _ _ hb']; rfl
 ·refine h.map.same ((Below.heap_setCell _ _ _ _ h.mne).trans (hg.block mb h.mlt (fun e => ?_)))
  obtain ⟨es, c, hm⟩ := h.map.lt
  exact own_ne_map h.lat hm e.symm
 ·have := own_set (o := 5) ho hb' (by decide) vf'
  rw [List.length_append, hfl]; exact this
 ·have hpe := h.pend
  rw [hfl, Nat.sub_self, List.drop_zero] at hpe
  have e2 : (fs ++ [f]).drop ((fs ++ [f]).length - (st.lat ++ [x]).length) = fs ++ [f] := by
   have e3 : (fs ++ [f]).length - (st.lat ++ [x]).length = 0 := by simp [hfl]
   rw [e3, List.drop_zero]
  show Pends _ R ((fs ++ [f]).drop ((fs ++ [f]).length - (st.lat ++ [x]).length)) (st.lat ++ [x]) (bs ++ [b])
  rw [e2]
  exact (hpe.add (N := 0) hb.2 hw hp rfl).keep ((Keep.grown h.lat (capT_no (.inr (.inr (.inl rfl)))) hg).trans (Keep.set hb' (capT_no (.inr (.inr (.inr rfl)))))) (by simpa using hg.size)
 ·refine (h.below.trans ?_).setCell (p := ⟨R, 5, none⟩) h.hR _
  exact ⟨hg.os, hg.tape, hg.output, hg.size, fun k hk => hg.block k (by have := h.lt; have := h.hR; omega) (fun e => by have := (h.lat.lt k e.symm).1; omega)⟩
 ·intro c hc
  rcases List.mem_append.1 hc with hc | hc
  ·exact h.lo c hc
  ·simp only [List.mem_singleton] at hc; subst hc; exact hb.1
/-- a label more in the map -/
theorem RSt.mapd (h : RSt B w0 w R base ln st vw vl mb vf fs bs ml) {ml' : List (ByteArray × Nat)} (hg : w.grownBy w' (some mb)) (hm' : MapIs w' mb ml') : RSt B w0 w' R base ln st vw vl mb vf fs bs ml' := by
 obtain ⟨es, c, hm⟩ := h.map.lt
 refine ⟨(hg.block R h.lt (fun e => h.mne (by simpa using e.symm))).trans h.blk, own_mapd h.ws hm hg, own_mapd h.labs hm hg, hm', own_mapd h.lat hm hg, h.pend.keep (Keep.mapd hm hg) hg.size, h.hR, h.hm, h.below.trans ?_, h.size, h.strs.keep (Keep.mapd hm hg), h.lo⟩
 exact ⟨hg.os, hg.tape, hg.output, hg.size, fun k hk => hg.block k (by have := h.lt; have := h.hR; omega) (fun e => by have := h.hm; simp only [Option.some.injEq] at e; omega)⟩
/-- a label more in the row -/
theorem RSt.label (h : RSt B w0 w R base ln st vw vl mb vf fs bs ml) {vl' : Value} {p : ByteArray × Nat} (hO : Onto w vl w' vl') (ho : w'.ownsRow B 44 2 vl' (st.labs.length + 1) (lc st.labs ++ lc [p])) :
  w'.heap[R]? = w.heap[R]? ∧ RSt B w0 (w'.setCell ⟨R, 3, none⟩ vl') R base ln ⟨st.ws, st.labs ++ [p], st.lat⟩ vw vl' mb vf fs bs ml := by
 have hg := hO.1
 have hRk : w'.heap[R]? = w.heap[R]? := hg.block R h.lt (fun e => own_ne h.labs h.blk (by decide) e.symm)
 have hb' := hRk.trans h.blk
 refine ⟨hRk, ?_, own_set (own_grown h.ws h.labs (by decide) hg) hb' (by decide) _, ?_, ?_, own_set (own_grown h.lat h.labs (by decide) hg) hb' (by decide) _, ?_, h.hR, h.hm, ?_, h.size, h.strs.keep ((Keep.grown h.labs (capT_no (.inr (.inl rfl))) hg).trans (Keep.set hb' (capT_no (.inr (.inr (.inr rfl)))))), h.lo⟩
 ·rw [heap_setCell_same w' R 3 _ _ _ hb']; rfl
 ·have := own_set (o := 3) ho hb' (by decide) vl'
  rw [lc_append, List.length_append]; exact this
 ·refine h.map.same ((Below.heap_setCell _ _ _ _ h.mne).trans (hg.block mb h.mlt (fun e => ?_)))
  obtain ⟨es, c, hm⟩ := h.map.lt
  exact own_ne_map h.labs hm e.symm
 ·exact h.pend.keep ((Keep.grown h.labs (capT_no (.inr (.inl rfl))) hg).trans (Keep.set hb' (capT_no (.inr (.inr (.inr rfl)))))) (by simpa using hg.size)
 ·refine (h.below.trans ?_).setCell (p := ⟨R, 3, none⟩) h.hR _
  exact ⟨hg.os, hg.tape, hg.output, hg.size, fun k hk => hg.block k (by have := h.lt; have := h.hR; omega) (fun e => by have := (h.labs.lt k e.symm).1; omega)⟩
/-- a word laid at a place -/
theorem RSt.lay {g cap : Nat} (h : RSt B w0 w R base ln st (.slice (some ⟨g, 0, none⟩) st.ws.length cap) vl mb vf fs bs ml) (j : Nat) (x : Int) :
  RSt B w0 (w.setCell ⟨g, j, none⟩ (.int .u32 x)) R base ln ⟨st.ws.set j x, st.labs, st.lat⟩ (.slice (some ⟨g, 0, none⟩) st.ws.length cap) vl mb vf fs bs ml := by
 obtain ⟨hs, hg⟩ := h.ws.stored j (.int .u32 x)
 have hRk : (w.setCell ⟨g, j, none⟩ (.int .u32 x)).heap[R]? = w.heap[R]? := hg.block R h.lt (fun e => own_ne h.ws h.blk (by decide) (by simpa [Value.ownBlock] using e.symm))
 refine ⟨hRk.trans h.blk, ?_, own_grown h.labs h.ws (by decide) hg, h.map.same (hg.block mb h.mlt (fun e => ?_)), own_grown h.lat h.ws (by decide) hg, h.pend.keep (Keep.grown h.ws (capT_no (.inl rfl)) hg) hg.size, h.hR, h.hm, ?_, h.size, h.strs.keep (Keep.grown h.ws (capT_no (.inl rfl)) hg), h.lo⟩
 ·have e : wi (st.ws.set j x) = (wi st.ws).set j (.int .u32 x) := by unfold wi; rw [List.map_set]
  rw [e, List.length_set]; exact hs
 ·obtain ⟨es, c, hm⟩ := h.map.lt
  exact own_ne_map h.ws hm (by simpa [Value.ownBlock] using e.symm)
 ·refine h.below.trans ⟨hg.os, hg.tape, hg.output, hg.size, fun k hk => hg.block k (by have := h.lt; have := h.hR; omega) (fun e => ?_)⟩
  have := (h.ws.lt k (by simpa [Value.ownBlock] using e.symm)).1; omega
/-- the first that waits, taken off -/
theorem RSt.pop {x : Lat} {rest : List Lat} (h : RSt B w0 w R base ln ⟨st.ws, st.labs, x :: rest⟩ vw vl mb vf fs bs ml) (hl : rest.length < fs.length) : ∃ b bs', bs = b :: bs' ∧ (∀ c ∈ bs', b < c) ∧ (B ≤ b ∧ b < w.heap.size) ∧ (∃ f, fs[fs.length - (rest.length + 1)]? = some f ∧ Pend w R b f x) ∧ RSt B w0 w R base ln ⟨st.ws, st.labs, rest⟩ vw vl mb vf fs bs' ml := by
 have hp := h.pend
 have hlB := hp.lenB
 cases bs with
 | nil => simp at hlB
 | cons b bs' =>
  have e1 : fs.drop (fs.length - (x :: rest).length) = fs[fs.length - (rest.length + 1)]'(by omega) :: fs.drop (fs.length - rest.length) := by
   rw [List.length_cons, List.drop_eq_getElem_cons (by omega)]
   congr 2; omega
  have hup := hp.up
  rw [List.pairwise_cons] at hup
  refine ⟨b, bs', rfl, hup.1, ⟨h.lo b (by simp), hp.lt b (by simp)⟩, ⟨_, List.getElem?_eq_getElem (by omega), hp.all 0 x _ b rfl (by show (fs.drop (fs.length - (x :: rest).length))[0]? = _; rw [e1]; rfl) rfl⟩, ?_⟩
  refine ⟨h.blk, h.ws, h.labs, h.map, h.lat, ⟨by simpa using hlB, by show (fs.drop (fs.length - rest.length)).length = rest.length; rw [List.length_drop]; omega, hup.2, fun c hc => hp.lt c (by simp [hc]), ?_⟩, h.hR, h.hm, h.below, h.size, h.strs, fun c hc => h.lo c (by simp [hc])⟩
  intro i y f c h1 h2 h3
  refine hp.all (i + 1) y f c (by simpa using h1) ?_ (by simpa using h3)
  show (fs.drop (fs.length - (x :: rest).length))[i + 1]? = some f
  rw [e1, List.getElem?_cons_succ]; exact h2
/-- a cell of an instruction that waits no longer -/
theorem RSt.setIns (h : RSt B w0 w R base ln st vw vl mb vf fs bs ml) {b : Nat} {i : Ins} (hb : ∀ c ∈ bs, b < c) (hB : B ≤ b) (hi : w.heap[b]? = some (.cells (insC i) 92 (0, 0))) (o : Nat) (u : Value) : RSt B w0 (w.setCell ⟨b, o, none⟩ u) R base ln st vw vl mb vf fs bs ml := by
 have nR : R ≠ b := fun e => by have := h.blk; rw [e, hi] at this; simp at this
 have nm : mb ≠ b := fun e => by obtain ⟨es, c, hm⟩ := h.map.lt; rw [e, hi] at hm; simp at hm
 refine ⟨(Below.heap_setCell w ⟨b, o, none⟩ u R nR).trans h.blk, own_set h.ws hi (by decide) _, own_set h.labs hi (by decide) _, h.map.same (Below.heap_setCell _ _ _ _ nm), own_set h.lat hi (by decide) _, ?_, h.hR, h.hm, h.below.setCell (p := ⟨b, o, none⟩) hB _, h.size, fun k cs hc => (Below.heap_setCell w ⟨b, o, none⟩ u k (fun e2 => by
  have e3 : k = b := e2
  have h4 := h.strs k cs hc
  rw [e3, hi] at h4
  simp only [Option.some.injEq, Obj.cells.injEq] at h4
  exact absurd h4.2.1 (by decide))).trans (h.strs k cs hc), h.lo⟩
 refine ⟨h.pend.lenB, h.pend.lenF, h.pend.up, fun c hc => by simpa [World.setCell] using h.pend.lt c hc, ?_⟩
 intro k x f c h1 h2 h3
 have hP := h.pend.all k x f c h1 h2 h3
 have hne : c ≠ b := fun e => by have := hb c (List.mem_of_getElem? h3); omega
 have kp : ∀ {j : Nat} {cs : Array Value} {t : TypeId}, w.heap[j]? = some (Obj.cells cs t (0, 0)) → t ≠ 92 → (w.setCell ⟨b, o, none⟩ u).heap[j]? = some (Obj.cells cs t (0, 0)) := fun {j cs t} hj ht => by
  refine (Below.heap_setCell w ⟨b, o, none⟩ u j (fun e => ?_)).trans hj
  have e2 : j = b := e
  rw [e2, hi] at hj
  simp only [Option.some.injEq, Obj.cells.injEq] at hj
  exact ht hj.2.1.symm
 obtain ⟨what, pl, nm', ln', col⟩ := x
 cases what with
 | jmp i2 =>
  obtain ⟨b4, bw, bl, bp, bf, e, g1, g2, g3, g4, g5, g6⟩ := hP
  exact ⟨b4, bw, bl, bp, bf, e, kp g1 (by decide), kp g2 (by decide), kp g3 (by decide), kp g4 (by decide), (Below.heap_setCell w ⟨b, o, none⟩ u c hne).trans g5, kp g6 (by decide)⟩
 | word =>
  obtain ⟨b4, bw, bl, bp, bn, bf, e, g1, g2, g3, g4, g5, g6⟩ := hP
  exact ⟨b4, bw, bl, bp, bn, bf, e, kp g1 (by decide), kp g2 (by decide), kp g3 (by decide), kp g4 (by decide), kp g5 (by decide), kp g6 (by decide)⟩
 | li a =>
  obtain ⟨b4, bw, bl, bp, bn, bf, ba, e, g1, g2, g3, g4, g5, g6, g7⟩ := hP
  exact ⟨b4, bw, bl, bp, bn, bf, ba, e, kp g1 (by decide), kp g2 (by decide), kp g3 (by decide), kp g4 (by decide), kp g5 (by decide), kp g6 (by decide), kp g7 (by decide)⟩
end
end Go.Proofs.YtiknookfnameiaaGreatDoor
