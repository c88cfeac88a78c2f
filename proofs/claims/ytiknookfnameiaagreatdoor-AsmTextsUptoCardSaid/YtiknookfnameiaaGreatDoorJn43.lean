/- Bounds on what waits: no more than words, names no longer than the text's words; labels no more than words of the text. The reader as read makes it. The contract of asm's read. The contract of the document's read. -/
import Derived.Test.YtiknookfnameiaaGreatDoorJn11
import Derived.Test.YtiknookfnameiaaGreatDoorMLatJn
import Derived.Test.YtiknookfnameiaaGreatDoorJn05
import Derived.Test.YtiknookfnameiaaGreatDoorTWdsJn
import Derived.Test.YtiknookfnameiaaGreatDoorJn40
import Derived.Test.YtiknookfnameiaaGreatDoorRLnJn
import Derived.Test.YtiknookfnameiaaGreatDoorJn42
namespace Go.Proofs.YtiknookfnameiaaGreatDoor
/-- what waits is no more than the words, and its names are short -/
structure BOk (N : Nat) (st : Asm) : Prop where
 lat : st.lat.length ≤ st.ws.length
 nm : ∀ x ∈ st.lat, x.nm.size ≤ N
theorem asm0_bok (N : Nat) : BOk N asm0 := ⟨by simp [asm0], by simp [asm0]⟩
theorem BOk.more {N : Nat} {st : Asm} (h : BOk N st) (l : List Int) (L : List Lat) (hl : L.length ≤ l.length) (hL : ∀ x ∈ L, x.nm.size ≤ N) (labs : List (ByteArray × Nat)) : BOk N ⟨st.ws ++ l, labs, st.lat ++ L⟩ := by
 refine ⟨?_, fun x hx => ?_⟩
 ·have := h.lat; simp only [List.length_append]; omega
 ·rcases List.mem_append.1 hx with hx | hx
  ·exact h.nm x hx
  ·exact hL x hx
theorem latM_len (t : Wht) (p ln : Nat) (w : W) : (latM t p ln w).length ≤ 1 := by
 unfold latM; split <;> simp
theorem getD_sz {N : Nat} {ops : List W} (h : ∀ x ∈ ops, x.1.size ≤ N) (k : Nat) : (ops.getD k w0).1.size ≤ N := by
 rw [List.getD_eq_getElem?_getD]
 cases hx : ops[k]? with
 | none => exact Nat.zero_le _
 | some x => exact h x (List.mem_of_getElem? hx)
theorem instr_bok {N ln : Nat} {name : W} {op : Nat} {ops : List W} {st st' : Asm} (h : BOk N st) (ho : ∀ x ∈ ops, x.1.size ≤ N) (he : instrM ln name op ops st = .inl st') : BOk N st' ∧ st'.labs = st.labs := by
 unfold instrM at he
 split at he
 ·cases he
 split at he
 ·cases he
 split at he
 ·cases he
 cases he
 refine ⟨h.more _ _ ?_ ?_ _, rfl⟩
 ·split
  ·simp
  ·exact latM_len _ _ _ _
 ·intro x hx
  split at hx
  ·simp at hx
  ·rw [latM_mem hx]; exact getD_sz ho _
theorem fixed_bok {N ln : Nat} {name : W} {k n : Nat} {ops : List W} {t : Wht} {st st' : Asm} (h : BOk N st) (ho : ∀ x ∈ ops, x.1.size ≤ N) (he : fixedM ln name k ops t n st = .inl st') : BOk N st' ∧ st'.labs = st.labs := by
 unfold fixedM at he
 split at he
 ·cases he
 split at he
 ·cases he
 split at he
 ·cases he
 cases he
 refine ⟨h.more _ _ ?_ ?_ _, rfl⟩
 ·refine Nat.le_trans (latM_len _ _ _ _) ?_
  rw [layM_len]; cases t <;> simp [Wht.size]
 ·intro x hx; rw [latM_mem hx]; exact getD_sz ho _
theorem stmt_bok {N ln : Nat} {name : W} {ops : List W} {st st' : Asm} (h : BOk N st) (ho : ∀ x ∈ ops, x.1.size ≤ N) (he : stmtM ln name ops st = .inl st') : BOk N st' ∧ st'.labs = st.labs := by
 unfold stmtM at he
 split at he
 ·cases he
 split at he
 ·exact instr_bok h ho he
 split at he
 ·exact fixed_bok h ho he
 split at he
 ·unfold liM at he
  split at he
  ·cases he
  split at he
  ·exact fixed_bok h ho he
  ·split at he
   ·cases he
   ·exact fixed_bok h ho he
 split at he
 ·unfold zeroM at he
  split at he
  ·cases he
  split at he
  ·cases he
  split at he
  ·cases he
  rename_i n _ _ _ _ _
  cases he
  have := h.more (List.replicate n 0) [] (by simp) (by simp) st.labs
  exact ⟨by simpa using this, rfl⟩
 ·cases he
theorem take_bok {N ln : Nat} : ∀ (ws : List W) {st st' : Asm}, BOk N st → (∀ x ∈ ws, x.1.size ≤ N) → takeM ln ws st = .inl st' → BOk N st' ∧ st'.labs.length ≤ st.labs.length + ws.length
 | [], st, st', h, ho, he => by unfold takeM at he; cases he; exact ⟨h, Nat.le_add_right _ _⟩
 | w :: ws, st, st', h, ho, he => by
  have ho2 : ∀ x ∈ ws, x.1.size ≤ N := fun x hx => ho x (List.mem_cons_of_mem _ hx)
  unfold takeM at he
  split at he
  ·split at he
   ·cases he
   split at he
   ·cases he
   ·obtain ⟨g1, g2⟩ := take_bok (st := ⟨st.ws, st.labs ++ [(cutC w.1, st.ws.length)], st.lat⟩) ws ⟨h.lat, h.nm⟩ ho2 he
    refine ⟨g1, ?_⟩
    simp only [List.length_append, List.length_cons, List.length_nil] at g2 ⊢
    omega
  ·obtain ⟨g1, g2⟩ := stmt_bok h ho2 he
   exact ⟨g1, by rw [g2]; simp only [List.length_cons]; omega⟩
end Go.Proofs.YtiknookfnameiaaGreatDoor

namespace Go.Proofs.YtiknookfnameiaaGreatDoor
open Go.RowKit WP
theorem rst_new (w : World) (hE : AEnv w) (base : Int) : RSt w.heap.size w ((w.alloc (.map #[] 0)).alloc (.cells #[.int .u32 base, .int .i64 0, .slice none 0 0, .slice none 0 0, .map (some w.heap.size), .slice none 0 0] 77)) (w.heap.size + 1) base 0 asm0 (.slice none 0 0) (.slice none 0 0) w.heap.size (.slice none 0 0) [] [] [] := by
 obtain ⟨w1, hw1⟩ : ∃ w1, w.alloc (.map #[] 0) = w1 := ⟨_, rfl⟩
 have hs1 : w1.heap.size = w.heap.size + 1 := by rw [← hw1]; simp
 have b1 : Below w.heap.size w w1 := by rw [← hw1]; exact (Below.refl w.heap.size w).alloc (Nat.le_refl _) _
 have hm := MapIs.new w
 rw [hw1] at hm ⊢
 have b2 : Below w1.heap.size w1 (w1.alloc (.cells #[.int .u32 base, .int .i64 0, .slice none 0 0, .slice none 0 0, .map (some w.heap.size), .slice none 0 0] 77)) := (Below.refl _ _).alloc (Nat.le_refl _) _
 refine ⟨?_, ⟨rfl, .inl ⟨rfl, rfl⟩⟩, ⟨rfl, .inl ⟨rfl, rfl⟩⟩, hm.same (b2.block _ (by omega)), ⟨rfl, .inl ⟨rfl, rfl⟩⟩, Pends.nil _ _, by omega, Nat.le_refl _, b1.trans (b2.mono (by omega)), ⟨w, hE, Nat.le_refl _, Below.refl _ _⟩, StrK.keep (StrK.keep (StrK.refl w) (Keep.below (by rw [← hw1]; exact (Below.refl w.heap.size w).alloc (Nat.le_refl _) _))) (Keep.below b2), by simp⟩
 rw [← hs1]
 exact heap_alloc_new w1 _
theorem RSt.rebase {B : Nat} {w0 w : World} {R : Nat} {base : Int} {ln : Nat} {st : Asm} {vw vl : Value} {mb : Nat} {vf : Value} {fs : List Value} {bs : List Nat} {ml : List (ByteArray × Nat)} (h : RSt B w0 w R base ln st vw vl mb vf fs bs ml) : RSt B w w R base ln st vw vl mb vf fs bs ml := by
 obtain ⟨w00, h1, h2, h3⟩ := h.size
 exact ⟨h.blk, h.ws, h.labs, h.map, h.lat, h.pend, h.hR, h.hm, Below.refl _ _, ⟨w00, h1, h2, h3.trans h.below⟩, StrK.refl w, h.lo⟩
end Go.Proofs.YtiknookfnameiaaGreatDoor

namespace Go.Proofs.YtiknookfnameiaaGreatDoor
open Go.RowKit WP
set_option linter.unusedSimpArgs false
set_option linter.unusedVariables false
/-- the letters of all lines -/
def tot (L : List ByteArray) : Nat := (L.map ByteArray.size).sum
theorem linesA_tot : ∀ (l c : List UInt8), ((linesA c l).map List.length).sum ≤ c.length + l.length
 | [], c => by
  unfold linesA
  split <;> simp
 | x :: l, c => by
  unfold linesA
  split
  ·have := linesA_tot l []
   simp only [List.map_cons, List.sum_cons, List.length_nil, List.length_cons] at this ⊢
   omega
  ·have := linesA_tot l (c ++ [x])
   simp only [List.length_append, List.length_cons, List.length_nil] at this ⊢
   omega
theorem linesF_tot (s : ByteArray) : tot (linesF s) ≤ s.size := by
 have h := linesA_tot s.data.toList []
 have hl : s.data.toList.length = s.size := by rw [Array.length_toList]; rfl
 rw [hl, List.length_nil, Nat.zero_add] at h
 refine Nat.le_trans (Nat.le_of_eq ?_) h
 unfold tot linesF bas
 rw [List.map_map]
 congr 1
/-- what read answers -/
def ReadRes (w' : World) (B : Nat) (base : Int) (e : Ending) : (List Int × List (ByteArray × Nat)) ⊕ Flt → Prop
 | .inl x => ∃ R ln mb vw vl vf, e = .returned (.tuple #[ptr R, .nilIface]) ∧ B ≤ R ∧ w'.heap[R]? = some (.cells #[.int .u32 base, .int .i64 (ln : Int), vw, vl, .map (some mb), vf] 77 (0, 0)) ∧
   w'.ownsRow B 22 1 vw x.1.length (wi x.1) ∧ w'.ownsRow B 44 2 vl x.2.length (lc x.2)
 | .inr f => ∃ v, e = .returned (.tuple #[.pointer none, v]) ∧ FltAt w' v f
/-- the second half's reading -/
def endM (base : Int) : Asm ⊕ Flt → (List Int × List (ByteArray × Nat)) ⊕ Flt
 | .inr f => .inr f
 | .inl st => match latersM base st.labs st.lat st.ws with
  | .inr f => .inr f
  | .inl ws => .inl (ws, st.labs)
theorem readM_end (base : Int) (s : ByteArray) (hs : s.size ≤ 65536) : readM base s = endM base (linesM 1 (linesF s) asm0) := by
 unfold readM endM
 rw [if_neg (by omega)]
 cases linesM 1 (linesF s) asm0 with
 | inr f => rfl
 | inl st =>
  simp only
  cases latersM base st.labs st.lat st.ws <;> rfl
theorem str_cell {w2 w : World} {C n : Nat} {v : Value} {L : List ByteArray} (h : w2.ownsRow C 9 1 v n (L.map Value.string)) (hk : StrK w2 w) (k : Nat) (hkn : k < n) (t : ByteArray) (ht : L[k]? = some t) :
  ∃ g cap, v = .slice (some ⟨g, 0, none⟩) n cap ∧ n ≤ cap ∧ cap ≤ 9223372036854775807 ∧ w.cell? ⟨g, k, none⟩ = some (.string t) := by
 rcases h.2 with ⟨_, h0⟩ | ⟨g, cap, cur, hv, _, hg, h1, h2, hcs, htake⟩
 ·omega
 ·refine ⟨g, cap, hv, h1, h2, ?_⟩
  have hb := hk g cur hg
  have hc := cell_of_row w g k _ _ _ hb
  rw [hc]
  have : (L.map Value.string)[k]? = some (.string t) := by rw [List.getElem?_map, ht]; rfl
  rw [← htake, List.getElem?_take_of_lt (by omega)] at this
  rw [← this, Array.getElem?_toList]
/-- the first that waits is called -/
theorem later_any {B : Nat} {w0 w : World} {R : Nat} {base : Int} {ln : Nat} {ws : List Int} {labs : List (ByteArray × Nat)} {rest : List Lat} {vl : Value} {mb : Nat} {vf : Value} {fs : List Value} {bs : List Nat} {g cap b : Nat} {f : Value} {x : Lat}
  (h : RSt B w0 w R base ln ⟨ws, labs, rest⟩ (.slice (some ⟨g, 0, none⟩) ws.length cap) vl mb vf fs bs labs) (hE : AEnv w0) (nb : base < 4294967296 ∧ 0 ≤ base) (hp : x.place + x.what.size ≤ ws.length) (hws : ws.length ≤ 2048) (hlabs : ∀ q ∈ labs, q.2 ≤ 2048) (hnm : x.nm.size ≤ 1048576)
  (hbs : ∀ c ∈ bs, b < c) (hBb : B ≤ b) (hpd : Pend w R b f x) :
  ∃ fid caps, f = .func (.func fid) #[] caps ∧ (∀ W : World, (callFunc fid caps).run Tryz.prog W = .ok (.enter fid caps) W) ∧ Calls Tryz.prog fid caps w fun e w' => LatRes B w0 R base ln labs rest (.slice (some ⟨g, 0, none⟩) ws.length cap) vl mb vf fs bs w' e (laterM base labs x ws) := by
 obtain ⟨what, pl, nm, li, col⟩ := x
 cases what with
 | jmp i =>
  obtain ⟨b4, bw, bl, bp, bf, e, h1, h2, h3, h4, h5, h6⟩ := hpd
  exact ⟨_, _, e, fun W => by kernel_rfl, later_jmp h hE i pl li col nm (by have : (Wht.jmp i).size = 1 := rfl; simp only [this] at hp; omega) hws hlabs hnm hbs hBb h1 h2 h3 h4 h5 h6⟩
 | word =>
  obtain ⟨b4, bw, bl, bp, bn, bf, e, h1, h2, h3, h4, h5, h6⟩ := hpd
  exact ⟨_, _, e, fun W => by kernel_rfl, later_fixed h hE .word nb pl 1 li col nm hp rfl hws hlabs hnm h1 h2 h3 h4 h5 _ h6 (.inl ⟨rfl, rfl, rfl⟩)⟩
 | li a =>
  obtain ⟨b4, bw, bl, bp, bn, bf, ba, e, h1, h2, h3, h4, h5, h6, h7⟩ := hpd
  exact ⟨_, _, e, fun W => by kernel_rfl, later_fixed h hE (.li a) nb pl 2 li col nm hp rfl hws hlabs hnm h1 h2 h3 h4 h5 _ h6 (.inr ⟨a, ba, rfl, rfl, rfl, h7⟩)⟩
end Go.Proofs.YtiknookfnameiaaGreatDoor

namespace Go.Proofs.YtiknookfnameiaaGreatDoor
open Go.RowKit WP
set_option linter.unusedSimpArgs false
set_option linter.unusedVariables false
def RRdRes (w0 w' : World) (B : Nat) (e : Ending) : RAsm ⊕ Flt → Prop
 | .inl st => ∃ R, e = .returned (.tuple #[ptr R, fltV (0, 0, 0)]) ∧ PAt B w0 w' R st
 | .inr f => ∃ R, e = .returned (.tuple #[ptr R, fltV f]) ∧ Below B w0 w'
set_option maxRecDepth 100000 in
set_option maxHeartbeats 4000000 in
theorem rread_any (s : ByteArray) (w : World) (hE : RTabs w) (hs : s.size ≤ 9223372036854775807) :
  Calls Tryz.prog 25 #[.string s] w fun e w' => RRdRes w w' w.heap.size e (rreadF s) := by
 obtain ⟨w1, hw1⟩ : ∃ w1, (w.alloc (.cells #[.int .i64 0, .int .i64 0, .int .i64 0] 33)).alloc (.cells #[.slice none 0 0, .slice none 0 0] 83) = w1 := ⟨_, rfl⟩
 have b1 : Below w.heap.size w w1 := by rw [← hw1]; exact ((Below.refl _ _).alloc (Nat.le_refl _) _).alloc (by simp) _
 have hF : w1.heap[w.heap.size]? = some (.cells #[.int .i64 0, .int .i64 0, .int .i64 0] 33 (0, 0)) := by
  rw [← hw1, Below.heap_alloc _ _ _ (by simp)]; exact heap_alloc_new w _
 have hRb : w1.heap[w.heap.size + 1]? = some (.cells #[.slice none 0 0, .slice none 0 0] 83 (0, 0)) := by
  rw [← hw1]
  have := heap_alloc_new (w.alloc (.cells #[.int .i64 0, .int .i64 0, .int .i64 0] 33)) (.cells #[.slice none 0 0, .slice none 0 0] 83)
  simpa using this
 have hP1 : PAt w.heap.size w w1 (w.heap.size + 1) ras0 := ⟨_, _, hRb, World.ownsRow_nil _ _ _ _, World.ownsRow_nil _ _ _ _, Nat.le_succ _, b1⟩
 have hs1 : w1.heap.size = w.heap.size + 2 := by rw [← hw1]; simp
 obtain ⟨FR, hFR⟩ : ∃ FR, rreadF s = FR := ⟨_, rfl⟩
 rw [hFR]
 unfold rreadF at hFR
 clear hRb
 replace b1 := Lib.hid b1; replace hF := Lib.hid hF; replace hP1 := Lib.hid hP1; replace hFR := Lib.hid hFR; replace hE := Lib.hid hE; replace hw1 := Lib.hid hw1; replace hs1 := Lib.hid hs1
 by_cases hbig : 65536 < s.size
 ·have hln := rlines_no s w1 hbig hs
  have hq := hFR.out
  rw [if_pos hbig] at hq
  subst hq
  obtain ⟨hN2, bN, ⟨r0, r1, r2⟩, ⟨f0, f1, f2⟩, -⟩ := rflt_set (.int .i64 2) (.int .i64 ((0 : Nat) : Int)) (.int .i64 ((0 : Nat) : Int)) hF.out
  have bf := b1.out.trans (bN _ (Nat.le_refl _))
  clear bN
  replace hln := Lib.hid hln; replace hN2 := Lib.hid hN2; replace bf := Lib.hid bf
  go_enter Tryz.func25, Tryz.ntmps25
  go_upto_region 2 with fail
  rw [hw1.out]
  clear hw1
  go_wp2_with fail
  refine hln.out.mono ?_
  rintro e w2 ⟨rfl, hw2⟩
  obtain rfl := hw2.symm
  go_wp2_with fail
  exact bodyPost_ret (v := .tuple #[ptr (w.heap.size + 1), fltV (2, 0, 0)]) (results_snd rfl rfl rfl hN2.out Tryz.underlying33 rfl infoRFlt) rfl ⟨_, rfl, bf.out⟩
 ·have hln := rlines_any s w1 (by omega)
  have hq := hFR.out
  rw [if_neg hbig] at hq
  obtain ⟨bd1, bd2⟩ := linesF_bd s
  have bd3 := linesF_tot s
  obtain ⟨L, hL⟩ : ∃ L, linesF s = L := ⟨_, rfl⟩
  rw [hL] at bd1 bd2 bd3 hln hq
  obtain ⟨N, hN⟩ : ∃ N, L.length = N := ⟨_, rfl⟩
  rw [hN] at bd1 hln
  clear hFR hL
  replace hq := Lib.hid hq; replace bd2 := Lib.hid bd2; replace bd3 := Lib.hid bd3; replace hln := Lib.hid hln; replace hN := Lib.hid hN
  go_enter Tryz.func25, Tryz.ntmps25
  go_upto_region 2 with fail
  rw [hw1.out]
  clear hw1
  go_wp2_with fail
  refine hln.out.mono ?_
  rintro e w2 ⟨lv, rfl, hol, b12⟩
  have hF2 := (b12.block w.heap.size (by have := hs1.out; omega)).trans hF.out
  have hP2 := hP1.out.later b12
  obtain ⟨lao, lca, rfl, hlc1, hlc2⟩ := own_shape hol
  clear hln hP1
  replace b12 := Lib.hid b12; replace hol := Lib.hid hol; replace hF2 := Lib.hid hF2; replace hP2 := Lib.hid hP2
  clear hF
  go_wp2_with fail
  go_loopw [7] (fun kv wr => ∃ (k : Nat) (t : RAsm), k ≤ N ∧ kv = .int .i64 (k : Int) ∧ PAt w.heap.size w wr (w.heap.size + 1) t ∧ KeepR w2 wr ∧ FltK w2 wr ∧ rlinesF (k + 1) (L.drop k) t = FR ∧ RBd t ∧ t.labs.length + tot (L.drop k) ≤ 65536) (fun kv _ => N - (intOf kv).toNat)
  case atStart => exact ⟨0, ras0, by omega, rfl, hP2.out, KeepR.refl _, fun _ _ h => h, hq.out, rbd0, by have := bd3.out; simp [ras0]; omega⟩
  case round =>
   obtain ⟨wz, rfl⟩ : ∃ wz, wz = wr := ⟨wr, rfl⟩
   obtain ⟨k, t, hk, rfl, hp, hkz, hfz, hr, hbd, hlb⟩ := hrel
   have hFz := hfz _ _ hF2.out
   clear hq hP2
   by_cases hlt : k < N
   ·have hkl : k < L.length := by rw [hN.out]; exact hlt
    obtain ⟨x, hx⟩ : ∃ x, L[k] = x := ⟨_, rfl⟩
    have hts : x.size ≤ 65536 := by have := bd2.out x (by rw [← hx]; exact List.getElem_mem _); omega
    rw [List.drop_eq_getElem_cons hkl, hx] at hr hlb
    obtain ⟨g, cap, hlv, hcp1, hcp2, hc⟩ := rstr_cell hol.out hkz k hlt x (by rw [List.getElem?_eq_getElem hkl, hx])
    simp only [Value.slice.injEq, true_and] at hlv
    obtain ⟨rfl, rfl⟩ := hlv
    have htotc : tot (x :: L.drop (k + 1)) = x.size + tot (L.drop (k + 1)) := by unfold tot; rw [List.map_cons, List.sum_cons]
    rw [htotc] at hlb
    have hli := rline_any hp hE.out (Nat.le_refl _) x hts (k + 1) hbd.pcs (by omega)
    have hwk : ((k + 1 : Nat) : Int) = (k : Int) + 1 := by omega
    rw [hwk] at hli
    obtain ⟨SR, hSR⟩ : ∃ SR, rlineF (k + 1) x t = SR := ⟨_, rfl⟩
    unfold rlinesF at hr
    rw [hSR] at hli hr
    have i1 : (0 : Int) ≤ (k : Int) := by omega
    have i2 : (k : Int) < (N : Int) := by omega
    have d1 : decide ((k : Int) < (N : Int)) = true := decide_eq_true (by omega)
    have hsz := hp
    clear hx hkl htotc
    replace hp := Lib.hid hp; replace hkz := Lib.hid hkz; replace hfz := Lib.hid hfz; replace hr := Lib.hid hr; replace hbd := Lib.hid hbd; replace hlb := Lib.hid hlb; replace hFz := Lib.hid hFz; replace hli := Lib.hid hli; replace hSR := Lib.hid hSR; replace hts := Lib.hid hts
    clear hsz hwk
    go_wp2_with fail
    refine hli.out.mono ?_
    rintro e w5 hres
    cases SR with
    | inr f =>
     obtain ⟨rfl, hb5, hf5⟩ := hres
     have hr2 := hr.out
     dsimp only at hr2
     subst hr2
     have hne := rline_err hSR.out
     have hF5 := hf5 _ _ hFz.out
     obtain ⟨hN2, bN, ⟨r0, r1, r2⟩, ⟨f0, f1, f2⟩, -⟩ := rflt_set (.int .i64 f.1) (.int .i64 (f.2.1 : Int)) (.int .i64 (f.2.2 : Int)) hF5
     have hlt5 := (Array.getElem?_eq_some_iff.1 hF5).1
     unfold fltV
     have hdn : (f.1 != 0) = true := by simpa using hne
     have hN4 := (Below.heap_alloc _ (.cells #[.int .i64 f.1, .int .i64 (f.2.1 : Int), .int .i64 (f.2.2 : Int)] 33) w.heap.size (Array.getElem?_eq_some_iff.1 hN2).1).trans hN2
     have bf := (hb5.trans (bN w.heap.size (Nat.le_refl _))).alloc (hb5.trans (bN w.heap.size (Nat.le_refl _))).size (.cells #[.int .i64 f.1, .int .i64 (f.2.1 : Int), .int .i64 (f.2.2 : Int)] 33)
     clear hli hf5 hN2 bN
     replace hb5 := Lib.hid hb5; replace hN4 := Lib.hid hN4; replace bf := Lib.hid bf; replace hF5 := Lib.hid hF5
     go_wp2_with fail
     go_region
     go_wp2_with fail
     exact bodyPost_ret (v := .tuple #[ptr (w.heap.size + 1), fltV f]) (results_snd rfl rfl rfl hN4.out Tryz.underlying33 rfl infoRFlt) rfl ⟨_, rfl, bf.out.drew⟩
    | inl t' =>
     obtain ⟨rfl, hp5, hk5, hf5⟩ := hres
     have hr2 := hr.out
     dsimp only at hr2
     obtain ⟨hbd2, hlb2⟩ := rline_bd hbd.out hSR.out
     have hlb3 : t'.labs.length + tot (L.drop (k + 1)) ≤ 65536 := by have := hlb.out; omega
     have hkk := hkz.out.trans hk5
     have hff := hfz.out.trans hf5
     clear hr hli hk5 hf5 hlb2
     unfold fltV
     have hb9 : ∀ o, PAt w.heap.size w (w5.alloc o) (w.heap.size + 1) t' ∧ KeepR w2 (w5.alloc o) ∧ FltK w2 (w5.alloc o) := fun o => by
      have hbo : Below w5.heap.size w5 (w5.alloc o) := (Below.refl _ _).alloc (Nat.le_refl _) _
      exact ⟨hp5.later hbo, hkk.trans (KeepR.below hbo), hff.trans (FltK.below hbo)⟩
     replace hb9 := Lib.hid hb9; replace hr2 := Lib.hid hr2; replace hbd2 := Lib.hid hbd2; replace hlb3 := Lib.hid hlb3; replace hp5 := Lib.hid hp5; replace hkk := Lib.hid hkk; replace hff := Lib.hid hff
     go_wp2_with fail
     go_roundw
     case rel => exact ⟨k + 1, t', by omega, by go_num, (hb9.out _).1, (hb9.out _).2.1, (hb9.out _).2.2, hr2.out, hbd2.out, hlb3.out⟩
     case measure => simp [intOf]; omega
   ·obtain rfl : k = N := by omega
    have d1 : decide ((k : Int) < (k : Int)) = false := decide_eq_false (by omega)
    rw [List.drop_of_length_le (by rw [hN.out]; exact Nat.le_refl _)] at hr
    obtain rfl : Sum.inl t = FR := hr
    obtain ⟨vl, vp, hp⟩ := hp
    obtain ⟨hN2, bN, ⟨r0, r1, r2⟩, ⟨f0, f1, f2⟩, hoth⟩ := rflt_set (.int .i64 0) (.int .i64 ((0 : Nat) : Int)) (.int .i64 ((0 : Nat) : Int)) hFz
    obtain ⟨hP8, hK8⟩ := hp.flt hFz (Nat.le_refl _) (.int .i64 0) (.int .i64 ((0 : Nat) : Int)) (.int .i64 ((0 : Nat) : Int))
    clear hoth hkz hfz hK8 bN hlb
    replace hP8 := Lib.hid hP8; replace hN2 := Lib.hid hN2; replace hFz := Lib.hid hFz; replace hp := Lib.hid hp; replace hbd := Lib.hid hbd
    go_wp2_with fail
    exact bodyPost_ret (v := .tuple #[ptr (w.heap.size + 1), fltV (0, 0, 0)]) (results_snd rfl rfl rfl hN2.out Tryz.underlying33 rfl infoRFlt) rfl ⟨_, rfl, ⟨_, _, hP8.out⟩⟩
end Go.Proofs.YtiknookfnameiaaGreatDoor
