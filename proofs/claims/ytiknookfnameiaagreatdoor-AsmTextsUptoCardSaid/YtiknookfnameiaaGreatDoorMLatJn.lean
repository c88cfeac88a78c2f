/- The contracts of the closures that wait for the labels. -/
import Derived.Test.YtiknookfnameiaaGreatDoorJn31
namespace Go.Proofs.YtiknookfnameiaaGreatDoor
open Go.RowKit WP
set_option linter.unusedSimpArgs false
set_option linter.unusedVariables false
/-- what one that waits answers -/
def LatRes (B : Nat) (w0 : World) (R : Nat) (base : Int) (ln : Nat) (labs : List (ByteArray × Nat)) (rest : List Lat) (vw vl : Value) (mb : Nat) (vf : Value) (fs : List Value) (bs : List Nat) (w' : World) (e : Ending) : (List Int) ⊕ Flt → Prop
 | .inl ws' => e = .returned .nilIface ∧ RSt B w0 w' R base ln ⟨ws', labs, rest⟩ vw vl mb vf fs bs labs
 | .inr f => (∃ v, e = .returned v ∧ FltAt w' v f) ∧ Below B w0 w'
theorem wrapI (x : Int) (h0 : -9223372036854775808 ≤ x) (h1 : x ≤ 9223372036854775807) : IntKind.i64.wrap x = x := by rw [IntKind.wrap_i64]; omega
theorem putL_one (ws : List Int) (p : Nat) (x : Int) (h : p < ws.length) : putL ws p [x] = ws.set p x := by
 unfold putL
 rw [List.set_eq_take_append_cons_drop, if_pos h]
 simp
theorem putL_two (ws : List Int) (p : Nat) (x y : Int) (h : p + 2 ≤ ws.length) : putL ws p [x, y] = (ws.set p x).set (p + 1) y := by
 refine List.ext_getElem? fun j => ?_
 unfold putL
 have hl : (ws.take p).length = p := by rw [List.length_take]; omega
 by_cases h1 : j < p
 ·rw [List.append_assoc, List.getElem?_append_left (by omega), List.getElem?_take_of_lt h1, List.getElem?_set_ne (by omega), List.getElem?_set_ne (by omega)]
 ·by_cases h2 : j = p
  ·subst h2
   rw [List.append_assoc, List.getElem?_append_right (by omega), hl, Nat.sub_self, List.getElem?_set_ne (by omega), List.getElem?_set_self (by omega)]; rfl
  ·by_cases h3 : j = p + 1
   ·subst h3
    rw [List.append_assoc, List.getElem?_append_right (by omega), hl, List.getElem?_set_self (by rw [List.length_set]; omega)]
    rw [show p + 1 - p = 1 by omega]; rfl
   ·rw [List.getElem?_append_right (by simp; omega), List.getElem?_set_ne (by omega), List.getElem?_set_ne (by omega), List.getElem?_drop]
    congr 1
    simp; omega
section
variable {B : Nat} {w0 w : World} {R : Nat} {base : Int} {ln : Nat} {ws : List Int} {labs : List (ByteArray × Nat)} {rest : List Lat} {vl : Value} {mb : Nat} {vf : Value} {fs : List Value} {bs : List Nat} {g cap : Nat}
set_option maxRecDepth 100000 in
set_option maxHeartbeats 2000000 in
theorem later_jmp (h : RSt B w0 w R base ln ⟨ws, labs, rest⟩ (.slice (some ⟨g, 0, none⟩) ws.length cap) vl mb vf fs bs labs) (hE : AEnv w0) (i : Ins) (p line col : Nat) (nm : ByteArray) (hp : p < ws.length) (hws : ws.length ≤ 2048) (hlabs : ∀ q ∈ labs, q.2 ≤ 2048) (hnm : nm.size ≤ 1048576)
  {b4 bw bl bp bf b : Nat} (hbs : ∀ c ∈ bs, b < c) (hBb : B ≤ b) (h1 : w.heap[b4]? = some (.cells #[ptr R] 68 (0, 0))) (h2 : w.heap[bw]? = some (.cells (wC (nm, false, col)) 152 (0, 0))) (h3 : w.heap[bl]? = some (.cells #[.int .i64 (line : Int)] 3 (0, 0))) (h4 : w.heap[bp]? = some (.cells #[.int .i64 (p : Int)] 3 (0, 0)))
  (h5 : w.heap[b]? = some (.cells (insC i) 92 (0, 0))) (h6 : w.heap[bf]? = some (.cells #[.func (.func 113) #[] #[ptr b, ptr b4, ptr bp]] 1 (0, 0))) :
  Calls Tryz.prog 115 #[ptr b4, ptr bw, ptr bl, ptr bp, ptr b, ptr bf] w fun e w' => LatRes B w0 R base ln labs rest (.slice (some ⟨g, 0, none⟩) ws.length cap) vl mb vf fs bs w' e (laterM base labs ⟨.jmp i, p, nm, line, col⟩ ws) := by
 have hlb := label_any (w := w) (mb := mb) (L := labs) nm col line false h.c.2.2.2.2.1 h.map (by omega)
 unfold wV at hlb
 dsimp only at hlb
 have c1 : w.cell? ⟨b4, 0, none⟩ = some (ptr R) := cell_of_row _ _ 0 _ _ _ h1
 have c2 : w.cell? ⟨bw, 0, none⟩ = some (.string nm) := cell_of_row _ _ 0 _ _ _ h2
 have c3 : w.cell? ⟨bw, 1, none⟩ = some (.bool false) := cell_of_row _ _ 1 _ _ _ h2
 have c4 : w.cell? ⟨bw, 2, none⟩ = some (.int .i64 (col : Int)) := cell_of_row _ _ 2 _ _ _ h2
 have c5 : w.cell? ⟨bl, 0, none⟩ = some (.int .i64 (line : Int)) := cell_of_row _ _ 0 _ _ _ h3
 cases hf : findL labs nm with
 | none =>
  have e1 : laterM base labs ⟨.jmp i, p, nm, line, col⟩ ws = .inr (64, line, col) := by unfold laterM; simp only [hf]
  rw [e1]
  rw [hf] at hlb
  simp only at hlb
  clear e1 hf
  have hbel := h.below
  have hBs : B ≤ w.heap.size := by have := h.hR; have := h.lt; omega
  clear h h1 h2 h3 h4 h5 h6
  replace hlb := Lib.hid hlb; replace hbel := Lib.hid hbel
  go_enter Tryz.func115, Tryz.ntmps115
  go_wp2_with fail
  refine hlb.out.mono ?_
  rintro e w1 ⟨⟨v, rfl, hft⟩, b1⟩
  obtain ⟨gg, rfl, hgg⟩ := hft
  have hfin := hbel.out.trans (b1.mono hBs)
  clear b1
  replace hgg := Lib.hid hgg; replace hfin := Lib.hid hfin
  go_wp2_with fail
  go_ret
  exact ⟨⟨_, rfl, ⟨_, rfl, hgg.out⟩⟩, hfin.out⟩
 | some q =>
  have hq : q ≤ 2048 := by
   unfold findL at hf
   cases hx : labs.find? (fun p => p.1.data.toList == nm.data.toList) with
   | none => rw [hx] at hf; simp at hf
   | some y => rw [hx] at hf; simp only [Option.map_some, Option.some.injEq] at hf; rw [← hf]; exact hlabs y (List.mem_of_find?_eq_some hx)
  have e1 : laterM base labs ⟨.jmp i, p, nm, line, col⟩ ws = if (q : Int) - p - 1 < -32768 ∨ 32767 < (q : Int) - p - 1 then .inr (65, line, col) else .inl (putL ws p [encF { i with imm := (q : Int) - p - 1 }]) := by unfold laterM; simp only [hf]
  rw [e1, if_neg (by omega), putL_one ws p _ hp]
  rw [hf] at hlb
  simp only at hlb
  obtain ⟨far, hfar⟩ : ∃ far : Int, (q : Int) - p - 1 = far := ⟨_, rfl⟩
  have f1 : -32768 ≤ far := by omega
  have f2 : far ≤ 32767 := by omega
  have f3 : ¬ far < -32768 := by omega
  have f4 : ¬ 32767 < far := by omega
  have f5 : decide (far < -32768) = false := decide_eq_false f3
  have f6 : decide (far > 32767) = false := decide_eq_false f4
  have hw1 : wrap64 ((q : Int) - p) = (q : Int) - p := by unfold wrap64; omega
  have hw2 : wrap64 ((q : Int) - p - 1) = far := by unfold wrap64; omega
  rw [hfar]
  clear e1 hf c1 c2 c3 c4 c5
  have c1 : w.cell? ⟨b4, 0, none⟩ = some (ptr R) := cell_of_row _ _ 0 _ _ _ h1
  have c2 : w.cell? ⟨bw, 0, none⟩ = some (.string nm) := cell_of_row _ _ 0 _ _ _ h2
  have c3 : w.cell? ⟨bw, 1, none⟩ = some (.bool false) := cell_of_row _ _ 1 _ _ _ h2
  have c4 : w.cell? ⟨bw, 2, none⟩ = some (.int .i64 (col : Int)) := cell_of_row _ _ 2 _ _ _ h2
  have c5 : w.cell? ⟨bl, 0, none⟩ = some (.int .i64 (line : Int)) := cell_of_row _ _ 0 _ _ _ h3
  replace hlb := Lib.hid hlb; replace h := Lib.hid h; replace h1 := Lib.hid h1; replace h4 := Lib.hid h4; replace h5 := Lib.hid h5; replace h6 := Lib.hid h6; replace hlabs := Lib.hid hlabs; replace hbs := Lib.hid hbs
  clear h2 h3
  go_enter Tryz.func115, Tryz.ntmps115
  go_wp2_with fail
  refine hlb.out.mono ?_
  rintro e w1 ⟨rfl, b1⟩
  have k1 := (Keep.below b1).at_ h1.out (.inl rfl)
  have k4 := (Keep.below b1).at_ h4.out (.inr (.inr (.inl rfl)))
  have k5 := (Keep.below b1).at_ h5.out (.inr (.inr (.inr (.inl rfl))))
  have k6 := (Keep.below b1).at_ h6.out (.inr (.inr (.inr (.inr (.inl rfl)))))
  have g1 := h.out.later b1
  clear b1 c1 c2 c3 c4 c5 hlb h h1 h4 h5 h6
  have d4 : w1.cell? ⟨bp, 0, none⟩ = some (.int .i64 (p : Int)) := cell_of_row _ _ 0 _ _ _ k4
  obtain ⟨old, d5⟩ : ∃ u, w1.cell? ⟨b, 5, none⟩ = some u := ⟨_, cell_of_row _ _ 5 _ _ _ k5⟩
  have df := frozen_of_row w1 b 5 _ _ k5
  obtain ⟨w2, hw⟩ : ∃ w2, w1.setCell ⟨b, 5, none⟩ (.int .i32 far) = w2 := ⟨_, rfl⟩
  have k5' : w2.heap[b]? = some (.cells (insC { i with imm := far }) 92 (0, 0)) := by rw [← hw, heap_setCell_same w1 b 5 _ _ _ k5]; rfl
  have oth : ∀ {j : Nat} {cs : Array Value} {t : TypeId}, w1.heap[j]? = some (Obj.cells cs t (0, 0)) → t ≠ 92 → w2.heap[j]? = some (Obj.cells cs t (0, 0)) := fun {j cs t} hj ht => by
   rw [← hw]
   refine (Below.heap_setCell w1 ⟨b, 5, none⟩ _ j (fun e => ?_)).trans hj
   have e2 : j = b := e
   rw [e2, k5] at hj
   simp only [Option.some.injEq, Obj.cells.injEq] at hj
   exact ht hj.2.1.symm
  have k1' := oth k1 (by decide)
  have k4' := oth k4 (by decide)
  have k6' := oth k6 (by decide)
  have g2 := g1.setIns hbs.out hBb k5 5 (.int .i32 far)
  rw [hw] at g2
  have hly := lay_instr (st := ⟨ws, labs, rest⟩) g2 hE p b4 bp b { i with imm := far } hp (by show -2147483648 ≤ far; omega) (by show far ≤ 2147483647; omega) k1' k4' k5'
  have d6 : w2.cell? ⟨bf, 0, none⟩ = some (.func (.func 113) #[] #[ptr b, ptr b4, ptr bp]) := cell_of_row _ _ 0 _ _ _ k6'
  clear g1 k1 k4 k5 k6 k5' oth k1' k4' k6' g2
  replace hly := Lib.hid hly
  go_upto_region 8 with fail
  try rw [hfar]
  try rw [hw]
  clear hw d4 d5 df
  go_wp2_with fail
  refine hly.out.mono ?_
  rintro e w3 ⟨rfl, g3, _, _⟩
  replace g3 := Lib.hid g3
  go_wp2_with fail
  go_ret
  exact ⟨rfl, g3.out⟩
set_option maxRecDepth 100000 in
set_option maxHeartbeats 2000000 in
theorem later_fixed (h : RSt B w0 w R base ln ⟨ws, labs, rest⟩ (.slice (some ⟨g, 0, none⟩) ws.length cap) vl mb vf fs bs labs) (hE : AEnv w0) (t : Wht) (nb : base < 4294967296 ∧ 0 ≤ base) (p n line col : Nat) (nm : ByteArray) (hp : p + n ≤ ws.length) (hn : n = t.size) (hws : ws.length ≤ 2048) (hlabs : ∀ q ∈ labs, q.2 ≤ 2048) (hnm : nm.size ≤ 1048576)
  {b4 bw bl bp bn bf : Nat} {cs : Array Value} (h1 : w.heap[b4]? = some (.cells #[ptr R] 68 (0, 0))) (h2 : w.heap[bw]? = some (.cells (wC (nm, false, col)) 152 (0, 0))) (h3 : w.heap[bl]? = some (.cells #[.int .i64 (line : Int)] 3 (0, 0))) (h4 : w.heap[bp]? = some (.cells #[.int .i64 (p : Int)] 3 (0, 0)))
  (h5 : w.heap[bn]? = some (.cells #[.int .i64 (n : Int)] 3 (0, 0))) (fid : FuncId) (h6 : w.heap[bf]? = some (.cells #[.func (.func fid) #[] cs] 188 (0, 0))) (hkind : (t = .word ∧ fid = 87 ∧ cs = #[]) ∨ (∃ a ba, t = .li a ∧ fid = 120 ∧ cs = #[ptr ba] ∧ w.heap[ba]? = some (.cells #[.int .i64 a] 3 (0, 0)))) :
  Calls Tryz.prog 118 #[ptr b4, ptr bw, ptr bl, ptr bf, ptr bp, ptr bn] w fun e w' => LatRes B w0 R base ln labs rest (.slice (some ⟨g, 0, none⟩) ws.length cap) vl mb vf fs bs w' e (laterM base labs ⟨t, p, nm, line, col⟩ ws) := by
 have hlb := label_any (w := w) (mb := mb) (L := labs) nm col line false h.c.2.2.2.2.1 h.map (by omega)
 unfold wV at hlb
 dsimp only at hlb
 have c1 : w.cell? ⟨b4, 0, none⟩ = some (ptr R) := cell_of_row _ _ 0 _ _ _ h1
 have c2 : w.cell? ⟨bw, 0, none⟩ = some (.string nm) := cell_of_row _ _ 0 _ _ _ h2
 have c3 : w.cell? ⟨bw, 1, none⟩ = some (.bool false) := cell_of_row _ _ 1 _ _ _ h2
 have c4 : w.cell? ⟨bw, 2, none⟩ = some (.int .i64 (col : Int)) := cell_of_row _ _ 2 _ _ _ h2
 have c5 : w.cell? ⟨bl, 0, none⟩ = some (.int .i64 (line : Int)) := cell_of_row _ _ 0 _ _ _ h3
 cases hf : findL labs nm with
 | none =>
  have e1 : laterM base labs ⟨t, p, nm, line, col⟩ ws = .inr (64, line, col) := by unfold laterM; simp only [hf]
  rw [e1]
  rw [hf] at hlb
  simp only at hlb
  have hbel := h.below
  have hBs : B ≤ w.heap.size := by have := h.hR; have := h.lt; omega
  clear e1 hf h h1 h2 h3 h4 h5 h6 hkind
  replace hlb := Lib.hid hlb; replace hbel := Lib.hid hbel
  go_enter Tryz.func118, Tryz.ntmps118
  go_wp2_with fail
  refine hlb.out.mono ?_
  rintro e w1 ⟨⟨v, rfl, hft⟩, b1⟩
  obtain ⟨gg, rfl, hgg⟩ := hft
  have hfin := hbel.out.trans (b1.mono hBs)
  clear b1
  replace hgg := Lib.hid hgg; replace hfin := Lib.hid hfin
  go_wp2_with fail
  go_ret
  exact ⟨⟨_, rfl, ⟨_, rfl, hgg.out⟩⟩, hfin.out⟩
 | some q =>
  have hq : q ≤ 2048 := by
   unfold findL at hf
   cases hx : labs.find? (fun p => p.1.data.toList == nm.data.toList) with
   | none => rw [hx] at hf; simp at hf
   | some y => rw [hx] at hf; simp only [Option.map_some, Option.some.injEq] at hf; rw [← hf]; exact hlabs y (List.mem_of_find?_eq_some hx)
  have p0 : (0 : Int) ≤ (p : Int) := by omega
  have hcap : ws.length ≤ cap ∧ cap ≤ 9223372036854775807 := by
   obtain ⟨_, _, hv, a1, a2⟩ := own_shape h.ws
   simp only [Value.slice.injEq] at hv
   obtain ⟨_, _, rfl⟩ := hv
   exact ⟨a1, a2⟩
  have hadd : wrap64 ((p : Int) + (n : Int)) = (p : Int) + (n : Int) := by unfold wrap64; omega
  have h1n : 1 ≤ n := by rw [hn]; cases t <;> simp [Wht.size]
  have hnc : ¬ cap = p := by omega
  have lp : (p : Int) + (n : Int) ≤ (cap : Int) := by omega
  have lp2 : (p : Int) ≤ (p : Int) + (n : Int) := by omega
  have lp3 : p + n ≤ cap := by omega
  obtain ⟨X, hX⟩ : ∃ X, (base + 4 * (q : Int)) % 4294967296 = X := ⟨_, rfl⟩
  have x0 : 0 ≤ X := by rw [← hX]; exact Int.emod_nonneg _ (by decide)
  have x1 : X < 4294967296 := by rw [← hX]; exact Int.emod_lt_of_pos _ (by decide)
  have m1 : IntKind.u32.wrap (q : Int) = (q : Int) := by rw [IntKind.wrap_u32]; exact Int.emod_eq_of_lt (by omega) (by clear hX x0 x1; omega)
  have m2 : IntKind.u32.wrap (4 * (q : Int)) = 4 * (q : Int) := by rw [IntKind.wrap_u32]; exact Int.emod_eq_of_lt (by clear hX m1; omega) (by clear hX m1 x0 x1; omega)
  have m3 : IntKind.u32.wrap (base + 4 * (q : Int)) = X := by rw [IntKind.wrap_u32]; exact hX
  replace hX := Lib.hid hX; replace m1 := Lib.hid m1; replace m2 := Lib.hid m2; replace m3 := Lib.hid m3
  rw [hf] at hlb
  simp only at hlb
  have hkp := h.later (w' := w)
  have gB := h.c
  have hS : ∀ W : World, (∃ st', RSt B w0 W R base ln st' (.slice (some ⟨g, 0, none⟩) ws.length cap) vl mb vf fs bs labs) → Keep w W → (fun w' : World => w'.cell? ⟨b4, 0, none⟩ = some (ptr R) ∧ w'.cell? ⟨R, 2, none⟩ = some (.slice (some ⟨g, 0, none⟩) ws.length cap) ∧ w'.cell? ⟨R, 0, none⟩ = some (.int .u32 base) ∧ w'.cell? ⟨bf, 0, none⟩ = some (.func (.func fid) #[] cs) ∧ w'.cell? ⟨bp, 0, none⟩ = some (.int .i64 (p : Int)) ∧ w'.cell? ⟨bn, 0, none⟩ = some (.int .i64 (n : Int))) W := fun W ⟨st', hr⟩ hk =>
   ⟨cell_of_row _ _ 0 _ _ _ (hk.at_ h1 (.inl rfl)), hr.c.2.2.1, hr.c.1, cell_of_row _ _ 0 _ _ _ (hk.at_ h6 (.inr (.inr (.inr (.inr (.inr (.inl rfl))))))), cell_of_row _ _ 0 _ _ _ (hk.at_ h4 (.inr (.inr (.inl rfl)))), cell_of_row _ _ 0 _ _ _ (hk.at_ h5 (.inr (.inr (.inl rfl))))⟩
  clear hkp gB
  rcases hkind with ⟨rfl, rfl, rfl⟩ | ⟨a, ba, rfl, rfl, rfl, hba⟩
  ·have hn1 : n = 1 := hn
   subst hn1
   clear hn h1n
   have e1 : laterM base labs ⟨.word, p, nm, line, col⟩ ws = .inl (ws.set p X) := by
    unfold laterM; simp only [hf, hX.out]
    exact congrArg Sum.inl (putL_one ws p _ (by omega))
   rw [e1]
   have hly : ∀ W, RSt B w0 W R base ln ⟨ws, labs, rest⟩ (.slice (some ⟨g, 0, none⟩) ws.length cap) vl mb vf fs bs labs → Keep w W → Calls Tryz.prog 87 #[.slice (some ⟨g, p, none⟩) 1 (cap - p), .int .u32 X] W fun e w' => e = .returned (.tuple #[]) ∧ RSt B w0 w' R base ln ⟨ws.set p X, labs, rest⟩ (.slice (some ⟨g, 0, none⟩) ws.length cap) vl mb vf fs bs labs ∧ Keep w w' := fun W hr hk => by
    obtain ⟨⟨y, hy⟩, hfz, _⟩ := row_cell (st := ⟨ws, labs, rest⟩) hr p (by show p < ws.length; omega)
    refine (lay_word g p (cap - p) X y W hy hfz).mono ?_
    rintro e w' ⟨rfl, rfl⟩
    exact ⟨rfl, hr.lay p X, hk.trans (Keep.grown hr.ws (capT_no (.inl rfl)) (World.ownsRow.stored hr.ws p (.int .u32 X)).2)⟩
   clear e1 hf h1 h2 h3 h4 h5 h6
   obtain ⟨N, hN⟩ : ∃ N, ws.length = N := ⟨_, rfl⟩
   rw [hN] at hS hly h hcap hp hws ⊢
   have hadd1 : IntKind.i64.wrap ((p : Int) + 1) = (p : Int) + 1 := wrapI _ (by omega) (by omega)
   have lq1 : (p : Int) + 1 ≤ (cap : Int) := lp
   have lq2 : (p : Int) ≤ (p : Int) + 1 := lp2
   clear hadd lp lp2
   have hsl := fun W => slice_words g N cap p 1 ((p : Int) + 1) rfl (by omega) (by omega) W
   replace h := Lib.hid h; replace hS := Lib.hid hS; replace hly := Lib.hid hly; replace hlb := Lib.hid hlb; replace hN := Lib.hid hN; replace hlabs := Lib.hid hlabs
   go_enter Tryz.func118, Tryz.ntmps118
   go_wp2_with fail
   refine hlb.out.mono ?_
   rintro e w1 ⟨rfl, b1⟩
   have g1 := h.out.later b1
   have kk := Keep.below b1
   clear b1 c1 c2 c3 c4 c5 hlb h
   have hB : ∀ W, Below w1.heap.size w1 W → RSt B w0 W R base ln ⟨ws, labs, rest⟩ (.slice (some ⟨g, 0, none⟩) N cap) vl mb vf fs bs labs ∧ Keep w W := fun W hW => ⟨g1.later hW, kk.trans (Keep.below hW)⟩
   have hB0 : Below w1.heap.size w1 w1 := Below.refl _ _
   clear g1 kk
   replace hB := Lib.hid hB
   replace m1 := m1.out; replace m2 := m2.out; replace m3 := m3.out
   go_upto_region 3 with fail
   go_region_held3 (fun w' : World => w'.cell? ⟨b4, 0, none⟩ = some (ptr R) ∧ w'.cell? ⟨R, 2, none⟩ = some (.slice (some ⟨g, 0, none⟩) N cap) ∧ w'.cell? ⟨R, 0, none⟩ = some (.int .u32 base) ∧ w'.cell? ⟨bf, 0, none⟩ = some (.func (.func 87) #[] #[]) ∧ w'.cell? ⟨bp, 0, none⟩ = some (.int .i64 (p : Int)) ∧ w'.cell? ⟨bn, 0, none⟩ = some (.int .i64 1))
    (first | exact hS.out _ ⟨_, (hB.out _ hB0).1⟩ (hB.out _ hB0).2 | exact hS.out _ ⟨_, (hB.out _ hB0.drew).1⟩ (hB.out _ hB0.drew).2 | exact hS.out _ ⟨_, hz⟩ hzk)
    (first
    | (go_at_call 87
       refine (hly.out _ (hB.out _ (by first | with_reducible exact hB0 | with_reducible exact hB0.drew)).1 (hB.out _ (by first | with_reducible exact hB0 | with_reducible exact hB0.drew)).2).mono ?_
       rintro e w2 ⟨rfl, hz, hzk⟩))
   replace hz := Lib.hid hz
   go_wp2_with fail
   go_ret
   exact ⟨rfl, hz.out⟩
  ·have hn1 : n = 2 := hn
   subst hn1
   clear hn h1n
   have e1 : laterM base labs ⟨.li a, p, nm, line, col⟩ ws = .inl ((ws.set p (encF (movI 1 a (X % 65536)))).set (p + 1) (encF (movI 2 a (X / 65536)))) := by
    unfold laterM; simp only [hf, hX.out]
    exact congrArg Sum.inl (putL_two ws p _ _ (by omega))
   rw [e1]
   have hly : ∀ W, RSt B w0 W R base ln ⟨ws, labs, rest⟩ (.slice (some ⟨g, 0, none⟩) ws.length cap) vl mb vf fs bs labs → Keep w W → Calls Tryz.prog 120 #[.slice (some ⟨g, p, none⟩) 2 (cap - p), .int .u32 X, ptr ba] W fun e w' => e = .returned (.tuple #[]) ∧ RSt B w0 w' R base ln ⟨(ws.set p (encF (movI 1 a (X % 65536)))).set (p + 1) (encF (movI 2 a (X / 65536))), labs, rest⟩ (.slice (some ⟨g, 0, none⟩) ws.length cap) vl mb vf fs bs labs ∧ Keep w w' := fun W hr hk => by
    refine (lay_li (st := ⟨ws, labs, rest⟩) hr hE p (cap - p) ba a X (by show p + 2 ≤ ws.length; omega) x0 x1 (hk.at_ hba (.inr (.inr (.inl rfl))))).mono ?_
    rintro e w' ⟨rfl, h1, h2, _⟩
    exact ⟨rfl, h1, hk.trans h2⟩
   clear e1 hf h1 h2 h3 h4 h5 h6 hba
   obtain ⟨N, hN⟩ : ∃ N, ws.length = N := ⟨_, rfl⟩
   rw [hN] at hS hly h hcap hp hws ⊢
   have hadd1 : IntKind.i64.wrap ((p : Int) + 2) = (p : Int) + 2 := wrapI _ (by omega) (by omega)
   have lq1 : (p : Int) + 2 ≤ (cap : Int) := lp
   have lq2 : (p : Int) ≤ (p : Int) + 2 := lp2
   clear hadd lp lp2
   have hsl := fun W => slice_words g N cap p 2 ((p : Int) + 2) rfl (by omega) (by omega) W
   replace h := Lib.hid h; replace hS := Lib.hid hS; replace hly := Lib.hid hly; replace hlb := Lib.hid hlb; replace hN := Lib.hid hN; replace hlabs := Lib.hid hlabs
   go_enter Tryz.func118, Tryz.ntmps118
   go_wp2_with fail
   refine hlb.out.mono ?_
   rintro e w1 ⟨rfl, b1⟩
   have g1 := h.out.later b1
   have kk := Keep.below b1
   clear b1 c1 c2 c3 c4 c5 hlb h
   have hB : ∀ W, Below w1.heap.size w1 W → RSt B w0 W R base ln ⟨ws, labs, rest⟩ (.slice (some ⟨g, 0, none⟩) N cap) vl mb vf fs bs labs ∧ Keep w W := fun W hW => ⟨g1.later hW, kk.trans (Keep.below hW)⟩
   have hB0 : Below w1.heap.size w1 w1 := Below.refl _ _
   clear g1 kk
   replace hB := Lib.hid hB
   replace m1 := m1.out; replace m2 := m2.out; replace m3 := m3.out
   go_upto_region 3 with fail
   go_region_held3 (fun w' : World => w'.cell? ⟨b4, 0, none⟩ = some (ptr R) ∧ w'.cell? ⟨R, 2, none⟩ = some (.slice (some ⟨g, 0, none⟩) N cap) ∧ w'.cell? ⟨R, 0, none⟩ = some (.int .u32 base) ∧ w'.cell? ⟨bf, 0, none⟩ = some (.func (.func 120) #[] #[ptr ba]) ∧ w'.cell? ⟨bp, 0, none⟩ = some (.int .i64 (p : Int)) ∧ w'.cell? ⟨bn, 0, none⟩ = some (.int .i64 2))
    (first | exact hS.out _ ⟨_, (hB.out _ hB0).1⟩ (hB.out _ hB0).2 | exact hS.out _ ⟨_, (hB.out _ hB0.drew).1⟩ (hB.out _ hB0.drew).2 | exact hS.out _ ⟨_, hz⟩ hzk)
    (first
    | (go_at_call 120
       refine (hly.out _ (hB.out _ (by first | with_reducible exact hB0 | with_reducible exact hB0.drew)).1 (hB.out _ (by first | with_reducible exact hB0 | with_reducible exact hB0.drew)).2).mono ?_
       rintro e w2 ⟨rfl, hz, hzk⟩))
   replace hz := Lib.hid hz
   go_wp2_with fail
   go_ret
   exact ⟨rfl, hz.out⟩
end
end Go.Proofs.YtiknookfnameiaaGreatDoor
