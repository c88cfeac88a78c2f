/- The contract of asm's instruction (printed by genMIns.py). -/
import Derived.Test.YtiknookfnameiaaGreatDoorMFx2Jn
import Derived.Test.YtiknookfnameiaaGreatDoorMIdxJn
import Derived.Test.YtiknookfnameiaaGreatDoorJn18
namespace Go.Proofs.YtiknookfnameiaaGreatDoor
open Go.RowKit WP
set_option linter.unusedSimpArgs false
set_option linter.unusedVariables false
/-- the instruction that is put together, and where the shape's letters are read -/
structure InLp (N I : Nat) (w2 wr : World) (cur : Ins) (s : ByteArray) (pos : Nat) : Prop where
 ins : wr.heap[N]? = some (.cells (insC cur) 92 (0, 0))
 it : wr.heap[I]? = some (.stringIter s pos)
 lt : N < I
 below : Below N w2 wr
 m1 : -2147483648 ≤ cur.imm
 m2 : cur.imm ≤ 2147483647
theorem InLp.size {N I : Nat} {w2 wr : World} {cur : Ins} {s : ByteArray} {pos : Nat} (h : InLp N I w2 wr cur s pos) : N + 2 ≤ wr.heap.size ∧ I < wr.heap.size := by have := (Array.getElem?_eq_some_iff.1 h.it).1; have := h.lt; omega
theorem InLp.next {N I : Nat} {w2 wr : World} {cur : Ins} {s : ByteArray} {pos : Nat} (h : InLp N I w2 wr cur s pos) (p : Nat) : InLp N I w2 (wr.iterAt I s p) cur s p :=
 ⟨by rw [Lib.iterAt_other _ _ _ _ _ (by have := h.lt; omega)]; exact h.ins, Lib.iterAt_heap _ _ _ _ _ h.it, h.lt, Lib.below_iterAt h.below (by have := h.lt; omega) _ _, h.m1, h.m2⟩
theorem InLp.but {N I : Nat} {w2 wr w' : World} {cur j : Ins} {s : ByteArray} {pos : Nat} (h : InLp N I w2 wr cur s pos) (hb : But N wr w') (hi : w'.heap[N]? = some (.cells (insC j) 92 (0, 0))) (a1 : -2147483648 ≤ j.imm) (a2 : j.imm ≤ 2147483647) : InLp N I w2 w' j s pos :=
 ⟨hi, (hb.block _ h.size.2 (by have := h.lt; omega)).trans h.it, h.lt, h.below.trans (hb.below (Nat.le_refl _) (by have := h.size.1; omega)), a1, a2⟩
theorem field_imm {i j : Ins} {c : UInt8} {x : W} (h : fieldM i c x = some j) (h1 : -2147483648 ≤ i.imm) (h2 : i.imm ≤ 2147483647) : -2147483648 ≤ j.imm ∧ j.imm ≤ 2147483647 := by
 unfold fieldM at h
 split at h
 ·cases h
 split at h
 ·cases hr : regF x with
  | none => rw [hr] at h; cases h
  | some n => rw [hr] at h; obtain rfl := Option.some.inj h; exact ⟨h1, h2⟩
 split at h
 ·cases hr : regF x with
  | none => rw [hr] at h; cases h
  | some n => rw [hr] at h; obtain rfl := Option.some.inj h; exact ⟨h1, h2⟩
 split at h
 ·cases hr : regF x with
  | none => rw [hr] at h; cases h
  | some n => rw [hr] at h; obtain rfl := Option.some.inj h; exact ⟨h1, h2⟩
 split at h
 ·split at h
  ·split at h
   ·simp only [Option.some.injEq] at h; subst h; simp only; omega
   ·cases h
  ·cases h
 split at h
 ·cases hr : condF x.1 with
  | none => rw [hr] at h; cases h
  | some n => rw [hr] at h; obtain rfl := Option.some.inj h; exact ⟨h1, h2⟩
 split at h
 ·simp only [Option.some.injEq] at h; subst h; exact ⟨h1, h2⟩
 ·cases hr : sgnIn x.1 with
  | none => rw [hr] at h; cases h
  | some v =>
   rw [hr] at h; obtain rfl := Option.some.inj h
   unfold sgnIn at hr
   split at hr
   ·split at hr
    ·simp only [Option.some.injEq] at hr; subst hr; simp only; omega
    ·cases hr
   ·cases hr
theorem oAt_idx : ∀ n, n < 25 → Lib.indexByte (shapeT.getD n []) 111 = (match oAt (shapeT.getD n []) with | some k => (k : Int) | none => -1) ∧ (∀ k, oAt (shapeT.getD n []) = some k → k < (shapeT.getD n []).length) := by decide
theorem run_one (base : Nat) (w : World) (v : Value) (n : Nat) (xs : List Value) (hown : w.ownsRow base 22 1 v n xs) (g0 : Nat) (f : Value) (ty : TypeId) (hf : f.oneCell' = true) (hc : w.cell? ⟨g0, 0, none⟩ = some f) (hn : n ≤ 1048576) (hb : base ≤ w.heap.size) :
  ∃ v' w', (Builtin.append_ #[24, 24] ty #[v, .slice (some ⟨g0, 0, none⟩) 1 1]).run Tryz.prog w = .ok v' w' ∧ w'.ownsRow base 22 1 v' (n + 1) (xs ++ [f]) ∧ Onto w v w' v' := by
 obtain ⟨i, hi, hz, hs, hby⟩ := info_parts infoU32
 exact run_append_onto (P := Tryz.prog) w base 24 ty 22 i _ 1 4 Tryz.underlying24 hi hz hs hby rfl (by decide) v n xs hown ⟨g0, 0, none⟩ 1 1 [f] rfl (fun j u hj => by
  cases j with
  | zero => simp only [List.getElem?_cons_zero, Option.some.injEq] at hj; subst hj; rw [add_zero']; exact hc
  | succ j => simp at hj) (by simpa using hf) (by simp only [maxLen]; omega) (by omega) hb
theorem InLp.later {N I : Nat} {w2 wr w' : World} {cur : Ins} {s : ByteArray} {pos : Nat} (h : InLp N I w2 wr cur s pos) (hb : Below wr.heap.size wr w') : InLp N I w2 w' cur s pos :=
 ⟨(hb.block _ (by have := h.size.1; omega)).trans h.ins, (hb.block _ h.size.2).trans h.it, h.lt, h.below.trans (hb.mono (by have := h.size.1; omega)), h.m1, h.m2⟩
set_option maxRecDepth 100000 in
set_option maxHeartbeats 4000000 in
theorem instr_any {B : Nat} {w0 w : World} {R : Nat} {base : Int} {ln : Nat} {st : Asm} (hR : RAt B w0 w R base ln st) (hE : AEnv w0) (hst : st.ws.length ≤ 2048) (hlat : st.lat.length ≤ 2048) (name : W) (op : Nat) (hop : op < 25) (ops : List W) (v : Value) (hops : WsAt w v ops) (hsz : ∀ x ∈ ops, x.1.size ≤ 1048576) (hol : ops.length ≤ 1048576) :
  Calls Tryz.prog 85 #[ptr R, wV name, .int .i64 (op : Int), v] w fun e w' => StRes B w0 R base ln w' e (instrM ln name op ops st) := by
 obtain ⟨vw, vl, mb, vf, fs, bs, h, hfl⟩ := hR
 obtain ⟨ns, nq, nc⟩ := name
 obtain ⟨aw, cw, rfl, w1a, w1b⟩ := own_shape h.ws
 obtain ⟨L0, hL0⟩ : ∃ L, st.ws.length = L := ⟨_, rfl⟩
 obtain ⟨w1, hw1⟩ : ∃ w1, (w.alloc (.cells #[ptr R] 68)).alloc (.cells #[.string ns, .bool nq, .int .i64 (nc : Int)] 152) = w1 := ⟨_, rfl⟩
 have b1 : Below w.heap.size w w1 := by rw [← hw1]; exact ((Below.refl _ _).alloc (Nat.le_refl _) _).alloc (by simp) _
 have H4 : w1.heap[w.heap.size]? = some (.cells #[ptr R] 68 (0, 0)) := by
  rw [← hw1, heap_alloc_old _ _ (by simp)]; exact heap_alloc_new w _
 have H5 : w1.heap[w.heap.size + 1]? = some (.cells #[.string ns, .bool nq, .int .i64 (nc : Int)] 152 (0, 0)) := by
  rw [← hw1]
  exact (congrArg (fun k => _[k]?) (by simp)).trans (heap_alloc_new (w.alloc (.cells #[ptr R] 68)) _)
 have h1 := h.later b1
 have hbsN : B ≤ w.heap.size ∧ ∀ c ∈ bs, c < w.heap.size := ⟨by have := h.hR; have := h.lt; omega, h.pend.lt⟩
 have hs1 : w1.heap.size = w.heap.size + 2 := by rw [← hw1]; simp
 have hW : ∀ W, Below w1.heap.size w1 W → W.cell? ⟨w.heap.size, 0, none⟩ = some (ptr R) ∧ W.cell? ⟨w.heap.size + 1, 0, none⟩ = some (.string ns) ∧ W.cell? ⟨w.heap.size + 1, 1, none⟩ = some (.bool nq) ∧ W.cell? ⟨w.heap.size + 1, 2, none⟩ = some (.int .i64 (nc : Int)) := fun W hW => by
  have e4 := (hW.block _ (by omega)).trans H4
  have e5 := (hW.block _ (by omega)).trans H5
  exact ⟨cell_of_row _ _ 0 _ _ _ e4, cell_of_row _ _ 0 _ _ _ e5, cell_of_row _ _ 1 _ _ _ e5, cell_of_row _ _ 2 _ _ _ e5⟩
 have hOp : ∀ W, Below w1.heap.size w1 W → WsAt W v ops := fun W hW => (hops.later b1).later hW
 have hrm := room_any h1 (ns, nq, nc) 1 (by omega) (by omega)
 unfold wV at hrm ⊢
 dsimp only at hrm ⊢
 obtain ⟨SL, hSL⟩ : ∃ SL, shapeI (op : Int) = SL := ⟨_, rfl⟩
 have hlen := shape_len (op : Int)
 have hasc := shape_ascii (op : Int)
 have hlet := fun c h => letters (op : Int) c h
 have hidx := oAt_idx op hop
 have eSL : shapeT.getD op [] = SL := hSL
 rw [eSL] at hidx
 rw [hSL] at hlen hasc hlet
 have hsha := fun W hT => shape_any (op : Int) W hT
 rw [hSL] at hsha
 have hSz : (strS SL).size = SL.length := by show SL.toArray.size = _; simp
 have hrefl : Below w1.heap.size w1 w1 := Below.refl _ _
 clear hops h eSL
 rw [hL0] at h1
 replace h1 := Lib.hid h1; replace hW := Lib.hid hW; replace hOp := Lib.hid hOp; replace hrm := Lib.hid hrm; replace H4 := Lib.hid H4; replace H5 := Lib.hid H5; replace hfl := Lib.hid hfl; replace hsz := Lib.hid hsz; replace hbsN := Lib.hid hbsN; replace b1 := Lib.hid b1; replace hsha := Lib.hid hsha; replace hasc := Lib.hid hasc; replace hlet := Lib.hid hlet; replace hidx := Lib.hid hidx; replace hSz := Lib.hid hSz; replace hs1 := Lib.hid hs1
 unfold instrM
 cases hr : roomM ln (ns, nq, nc) st 1 with
 | some f =>
  rw [hr] at hrm
  simp only
  obtain ⟨c4, c5a, c5b, c5c⟩ := hW.out _ hrefl
  go_enter Tryz.func85, Tryz.ntmps85
  go_upto_region 1 with fail
  try rw [hw1]
  clear hw1
  go_wp2_with fail
  refine hrm.out.mono ?_
  rintro e w2 ⟨her, b2⟩
  obtain ⟨fv, rfl, gf, rfl, hgf⟩ := her
  have hfin := h1.out.below.trans (b2.mono (by have := h1.out.hR; have := h1.out.lt; omega))
  clear b2
  replace hgf := Lib.hid hgf; replace hfin := Lib.hid hfin
  go_wp2_with fail
  go_ret
  exact ⟨⟨_, rfl, ⟨_, rfl, hgf.out⟩⟩, hfin.out⟩
 | none =>
  have hroom := room_no hr
  rw [hL0] at hroom
  rw [hr] at hrm
  simp only [hSL]
  clear hr
  obtain ⟨F, hF⟩ : ∃ F, fieldsM SL ops { ins0 with op := (op : Int) } = F := ⟨_, rfl⟩
  rw [hF]
  replace hF := Lib.hid hF
  cases hcm : countM ln (ns, nq, nc) ops SL.length with
  | some f =>
   simp only
   obtain ⟨c4, c5a, c5b, c5c⟩ := hW.out _ hrefl
   go_enter Tryz.func85, Tryz.ntmps85
   go_upto_region 1 with fail
   try rw [hw1]
   clear hw1
   go_wp2_with fail
   refine hrm.out.mono ?_
   rintro e w2 ⟨her, b2⟩
   obtain rfl : e = _ := her
   have h2 := h1.out.later b2
   clear c4 c5a c5b c5c hrm h1
   have hOne : (#[.int .i64 (op : Int), .int .i64 0, .int .i64 0, .int .i64 0, .int .i64 0, .int .i32 0] : Array Value).all (·.oneCell') = true := by simp [Value.oneCell']
   replace h2 := Lib.hid h2
   go_upto_region 5 with (refine wpList_store_whole rfl 92 _ _ rfl w2.heap.size #[.int .i64 (op : Int), .int .i64 0, .int .i64 0, .int .i64 0, .int .i64 0, .int .i32 0] rfl rfl 92 _ (heap_alloc_new w2 _) infoIns rfl hOne ?_; intro w3 hB3 g3)
   have b3 : Below w2.heap.size w2 w3 := ⟨g3.os, g3.tape, g3.output, by have := g3.size; simp at this; omega, fun k hk => (g3.block k (by simp; omega) (by simp; omega)).trans (heap_alloc_old w2 _ hk)⟩
   have hs3 : w2.heap.size + 1 ≤ w3.heap.size := by have := g3.size; simpa using this
   have hT3 := ((h2.out.later b3).env hE).tabs
   obtain ⟨w4, hw4⟩ : ∃ w4, w3.iter (strS SL) 0 = w4 := ⟨_, rfl⟩
   obtain ⟨I, hI⟩ : ∃ I, w3.heap.size = I := ⟨_, rfl⟩
   have hI0 : InLp w2.heap.size I w2 w4 { ins0 with op := (op : Int) } (strS SL) 0 := by
    refine ⟨?_, ?_, by omega, ?_, by show (-2147483648 : Int) ≤ 0; decide, by show (0 : Int) ≤ 2147483647; decide⟩
    ·rw [← hw4]; exact (heap_alloc_old w3 (.stringIter (strS SL) 0) (by omega)).trans hB3
    ·rw [← hw4, ← hI]; exact heap_alloc_new w3 (.stringIter (strS SL) 0)
    ·rw [← hw4]; exact b3.alloc (by omega) (.stringIter (strS SL) 0)
   have hs12 := b2.size
   replace hT3 := Lib.hid hT3; replace hI0 := Lib.hid hI0; replace b2 := Lib.hid b2
   clear b3 g3 hB3 hOne
   go_wp2_with fail
   refine (hsha.out _ hT3.out).mono ?_
   rintro e w5 ⟨rfl, hw5⟩
   rw [hw5]
   clear hw5 w5
   go_upto_region 7 with fail
   try rw [hw4]
   try rw [hI]
   go_loopw [12, 13, 14] (fun _ _ _ wr => ∃ (cur : Ins) (pos : Nat), InLp w2.heap.size I w2 wr cur (strS SL) pos ∧ pos ≤ SL.length ∧ fieldsM (SL.drop pos) (ops.drop pos) cur = F) (fun _ _ _ wl => SL.length - wl.iterPos I)
   case atStart => exact ⟨_, 0, hI0.out, Nat.zero_le _, hF.out⟩
   case round =>
    obtain ⟨wo, rfl⟩ : ∃ wo, wo = wr := ⟨wr, rfl⟩
    obtain ⟨cur, pos, hst0, hpl, hRs⟩ := hrel
    clear hI0 hF hT3 hw4
    have hpos0 := iterPos_of hst0.it
    by_cases hp : pos < SL.length
    ·obtain ⟨y, hy⟩ : ∃ y, SL[pos] = y := ⟨_, rfl⟩
     have hya : y.toNat < 128 := by rw [← hy]; exact hasc.out _ (List.getElem_mem hp)
     have hch := hlet.out y (by rw [← hy]; exact List.getElem_mem hp)
     have hys : (strS SL)[pos]'(by rw [hSz.out]; exact hp) = y := by rw [← hy]; rfl
     have hnx : ∀ ty, (Instr.next (.pointer (some ⟨I, 0, none⟩)) true ty).run Tryz.prog wo = .ok (.tuple #[.bool true, .int .i64 pos, .int .i32 y.toNat]) (wo.iterAt I (strS SL) (pos + 1)) := fun ty => by
      have := Lib.run_next_ascii_at (P := Tryz.prog) wo I (strS SL) pos ty hst0.it (by rw [hSz.out]; exact hp) (by rw [hys]; exact hya)
      rw [hys] at this; exact this
     have HS := hst0.next (pos + 1)
     have hdr : SL.drop pos = y :: SL.drop (pos + 1) := by rw [List.drop_eq_getElem_cons hp, hy]
     rw [hdr] at hRs
     obtain ⟨W1, hW1⟩ : ∃ W1, wo.iterAt I (strS SL) (pos + 1) = W1 := ⟨_, rfl⟩
     rw [hW1] at hnx HS
     clear hW1 hst0 hy hys hdr
     have hsz1 := HS.size
     have i0 : (0 : Int) ≤ (pos : Int) := by omega
     by_cases hpo : pos < ops.length
     ·obtain ⟨⟨xs, xq, xc⟩, hx⟩ : ∃ x, ops[pos]? = some x := ⟨_, List.getElem?_eq_getElem hpo⟩
      have hxe : ops[pos] = (xs, xq, xc) := (List.getElem?_eq_some_iff.1 hx).2
      have hxs : xs.size ≤ 1048576 := hsz.out _ (List.mem_of_getElem? hx)
      have hdo : ops.drop pos = (xs, xq, xc) :: ops.drop (pos + 1) := by rw [List.drop_eq_getElem_cons hpo, hxe]
      rw [hdo] at hRs
      obtain ⟨ao, oc, hv0, p1, p2, h3⟩ := hOp.out w1 hrefl
      subst hv0
      obtain ⟨ob, oo, ocs, hob0, hob, hoc⟩ := h3.resolve_left (fun h => by rw [h] at hpo; simp at hpo)
      subst hob0
      have hoblt := (Array.getElem?_eq_some_iff.1 hob).1
      obtain ⟨oa0, oa1, oa2⟩ := hoc pos _ hx
      have hbw1 : Below w1.heap.size w1 W1 := b2.out.trans (HS.below.mono (by omega))
      have hN1 : w1.heap.size ≤ w2.heap.size := hs12
      have hSf : ∀ W, (∀ j, j < W1.heap.size → j ≠ w2.heap.size → W.heap[j]? = W1.heap[j]?) → (fun w' : World => w'.cell? ⟨w.heap.size, 0, none⟩ = some (ptr R) ∧ w'.cell? ⟨ob, oo + pos * 3, none⟩ = some (.string xs) ∧ w'.cell? ⟨ob, oo + pos * 3 + 1, none⟩ = some (.bool xq) ∧ w'.cell? ⟨ob, oo + pos * 3 + 2, none⟩ = some (.int .i64 (xc : Int))) W := fun W hW2 => by
       have e4 := ((hW2 w.heap.size (by have := hs1.out; omega) (by have := hs1.out; omega)).trans (hbw1.block _ (by have := hs1.out; omega))).trans H4.out
       have eo := ((hW2 ob (by omega) (by omega)).trans (hbw1.block _ hoblt)).trans hob
       exact ⟨cell_of_row _ _ 0 _ _ _ e4, (cell_of_row _ _ _ _ _ _ eo).trans oa0, (cell_of_row _ _ _ _ _ _ eo).trans oa1, (cell_of_row _ _ _ _ _ _ eo).trans oa2⟩
      have hRW : ∀ W, Below W1.heap.size W1 W → Below w2.heap.size w2 W := fun W hW2 => HS.below.trans (hW2.mono (by omega))
      have hfa : ∀ W, Below W1.heap.size W1 W → Calls Tryz.prog 111 #[ptr R, ptr w2.heap.size, .int .i32 (y.toNat : Int), .agg #[.string xs, .bool xq, .int .i64 (xc : Int)]] W fun e w' => FieldRes w2.heap.size ln xc w' e (fieldM cur y (xs, xq, xc)) ∧ But w2.heap.size W w' := fun W hW2 => by
       have hr := h2.out.later (hRW W hW2)
       exact field_any R ln w2.heap.size cur y (xs, xq, xc) W hch (hr.env hE) (by show xs.size ≤ _; omega) hr.c.2.1 ((hW2.block _ (by omega)).trans HS.ins)
      have hbd : ∀ j, fieldM cur y (xs, xq, xc) = some j → -2147483648 ≤ j.imm ∧ j.imm ≤ 2147483647 := fun j hj => field_imm hj HS.m1 HS.m2
      obtain ⟨L, hLo⟩ : ∃ L, ops.length = L := ⟨_, rfl⟩
      rw [hLo] at p1 ⊢
      have hpL : pos < L := by omega
      have g1 : decide ((pos : Int) ≥ (L : Int)) = false := decide_eq_false (by omega)
      have g2 : ¬ (L : Int) ≤ (pos : Int) := by omega
      have g3 : (pos : Int) < (L : Int) := by omega
      have hB0 : Below W1.heap.size W1 W1 := Below.refl _ _
      clear hob hoc oa0 oa1 oa2 h3 hx hxe hdo hpo
      replace hSf := Lib.hid hSf; replace hfa := Lib.hid hfa; replace HS := Lib.hid HS; replace hRW := Lib.hid hRW; replace hbw1 := Lib.hid hbw1; replace hbd := Lib.hid hbd; replace hLo := Lib.hid hLo
      cases hfm : fieldM cur y (xs, xq, xc) with
      | none =>
       have hFe : F = .inr xc := by rw [← hRs]; unfold fieldsM; rw [hfm]
       subst hFe
       rw [hfm] at hfa
       clear hRs hbd
       go_upto_region 10 with fail
       go_region_held3 (fun w' : World => w'.cell? ⟨w.heap.size, 0, none⟩ = some (ptr R) ∧ w'.cell? ⟨ob, oo + pos * 3, none⟩ = some (.string xs) ∧ w'.cell? ⟨ob, oo + pos * 3 + 1, none⟩ = some (.bool xq) ∧ w'.cell? ⟨ob, oo + pos * 3 + 2, none⟩ = some (.int .i64 (xc : Int)))
        (first | exact hSf.out _ (fun j hj _ => hB0.block j hj) | exact hSf.out _ (fun j hj hn => hbut.block j hj hn))
        (first
        | (go_at_call 111
           refine (hfa.out _ (by first | with_reducible exact hB0 | with_reducible exact hB0.drew)).mono ?_
           rintro e w5 ⟨⟨fv, rfl, hft⟩, hbut⟩))
       obtain ⟨gf, rfl, hgf⟩ := hft
       have hb5 := (hRW.out _ hB0.drew).trans (hbut.below (Nat.le_refl _) (by have := hsz1.1; simp only [World.drew]; omega))
       have hfin := h2.out.below.trans (hb5.mono (by have := h2.out.hR; have := h2.out.lt; omega))
       clear hbut hb5
       replace hgf := Lib.hid hgf; replace hfin := Lib.hid hfin
       go_wp2_with fail
       go_ret
       exact ⟨⟨_, rfl, ⟨_, rfl, hgf.out⟩⟩, hfin.out⟩
      | some j =>
       rw [fieldsM, hfm] at hRs
       simp only at hRs
       rw [hfm] at hfa
       obtain ⟨m1, m2⟩ := hbd.out j hfm
       replace hRs := Lib.hid hRs
       clear hbd hfm
       go_upto_region 10 with fail
       go_region_held3 (fun w' : World => w'.cell? ⟨w.heap.size, 0, none⟩ = some (ptr R) ∧ w'.cell? ⟨ob, oo + pos * 3, none⟩ = some (.string xs) ∧ w'.cell? ⟨ob, oo + pos * 3 + 1, none⟩ = some (.bool xq) ∧ w'.cell? ⟨ob, oo + pos * 3 + 2, none⟩ = some (.int .i64 (xc : Int)))
        (first | exact hSf.out _ (fun j hj _ => hB0.block j hj) | exact hSf.out _ (fun j hj hn => hbut.block j hj hn))
        (first
        | (go_at_call 111
           refine (hfa.out _ (by first | with_reducible exact hB0 | with_reducible exact hB0.drew)).mono ?_
           rintro e w5 ⟨⟨rfl, hins⟩, hbut⟩))
       have HS5 := (⟨HS.out.ins, HS.out.it, HS.out.lt, HS.out.below.drew, HS.out.m1, HS.out.m2⟩ : InLp w2.heap.size I w2 W1.drew cur (strS SL) (pos + 1)).but hbut hins m1 m2
       clear hbut hins
       replace HS5 := Lib.hid HS5
       go_wp2_with fail
       go_roundw
       case rel => exact ⟨j, pos + 1, HS5.out, by omega, hRs.out⟩
       case measure => rw [iterPos_of HS5.out.it, hpos0]; omega
     ·
      obtain ⟨ao, oc, rfl, p1, p2, _⟩ := hOp.out w1 hrefl
      have hFe : F = .inl cur := by rw [← hRs, show ops.drop pos = [] from List.drop_eq_nil_of_le (by omega)]; rfl
      subst hFe
      clear hRs
      obtain ⟨L, hLo⟩ : ∃ L, ops.length = L := ⟨_, rfl⟩
      have hpo2 := hpo
      rw [hLo] at hpo2 p1 ⊢
      have g1 : decide ((pos : Int) ≥ (L : Int)) = true := decide_eq_true (by omega)
      have g2 : (L : Int) ≤ (pos : Int) := by omega
      have hrx := h2.out.later HS.below
      have bwx := b2.out.trans (HS.below.mono hs12)
      obtain ⟨c4, c5a, c5b, c5c⟩ := hW.out _ bwx
      have hct := count_any R ln (ns, nq, nc) _ ops (strS SL).size W1 hrx.c.2.1 (hOp.out _ bwx) (by rw [hSz.out]; have := hlen; omega)
      unfold wV at hct
      dsimp only at hct
      rw [hSz.out, hcm] at hct
      have hsz2 : ((SL.length : Nat) : Int) = ((strS SL).size : Int) := by rw [hSz.out]
      rw [hsz2] at hct
      rw [hLo] at hct
      replace hct := Lib.hid hct; replace bwx := Lib.hid bwx; replace HS := Lib.hid HS
      clear hsz2
      go_wp2_with fail
      refine hct.out.mono ?_
      rintro e w5 ⟨her, b5⟩
      clear c4 c5a c5b c5c hct
      obtain ⟨fv, rfl, gf, rfl, hgf⟩ := her
      have hfin := hrx.below.trans (b5.mono (by have := hrx.hR; have := hrx.lt; omega))
      clear b5 hrx
      replace hgf := Lib.hid hgf; replace hfin := Lib.hid hfin
      go_wp2_with fail
      go_ret
      exact ⟨⟨_, rfl, ⟨_, rfl, hgf.out⟩⟩, hfin.out⟩
    ·obtain rfl : pos = SL.length := by omega
     have hnx : ∀ ty, (Instr.next (.pointer (some ⟨I, 0, none⟩)) true ty).run Tryz.prog wo = .ok (.tuple #[.bool false]) wo := fun ty => Lib.run_next_end_at wo _ (strS SL) SL.length ty hst0.it (by rw [hSz.out]; omega)
     have hFe : F = .inl cur := by
      rw [← hRs, List.drop_eq_nil_of_le (Nat.le_refl _)]
      cases ops.drop SL.length <;> rfl
     subst hFe
     clear hRs
     have HS := hst0
     clear hst0
     have hrx := h2.out.later HS.below
     have bwx := b2.out.trans (HS.below.mono hs12)
     obtain ⟨c4, c5a, c5b, c5c⟩ := hW.out _ bwx
     have hct := count_any R ln (ns, nq, nc) _ ops (strS SL).size wo hrx.c.2.1 (hOp.out _ bwx) (by rw [hSz.out]; have := hlen; omega)
     unfold wV at hct
     dsimp only at hct
     rw [hSz.out, hcm] at hct
     have hsz2 : ((SL.length : Nat) : Int) = ((strS SL).size : Int) := by rw [hSz.out]
     rw [hsz2] at hct
     skip
     replace hct := Lib.hid hct; replace bwx := Lib.hid bwx; replace HS := Lib.hid HS
     clear hsz2
     go_wp2_with fail
     refine hct.out.mono ?_
     rintro e w5 ⟨her, b5⟩
     clear c4 c5a c5b c5c hct
     obtain ⟨fv, rfl, gf, rfl, hgf⟩ := her
     have hfin := hrx.below.trans (b5.mono (by have := hrx.hR; have := hrx.lt; omega))
     clear b5 hrx
     replace hgf := Lib.hid hgf; replace hfin := Lib.hid hfin
     go_wp2_with fail
     go_ret
     exact ⟨⟨_, rfl, ⟨_, rfl, hgf.out⟩⟩, hfin.out⟩
  | none =>
   have hleq : ops.length = SL.length := by
    unfold countM at hcm
    split at hcm
    ·cases hcm
    split at hcm
    ·cases hcm
    ·omega
   replace hleq := Lib.hid hleq
   simp only
   cases hoA : oAt SL with
   | none =>
    simp only
    obtain ⟨c4, c5a, c5b, c5c⟩ := hW.out _ hrefl
    go_enter Tryz.func85, Tryz.ntmps85
    go_upto_region 1 with fail
    try rw [hw1]
    clear hw1
    go_wp2_with fail
    refine hrm.out.mono ?_
    rintro e w2 ⟨her, b2⟩
    obtain rfl : e = _ := her
    have h2 := h1.out.later b2
    clear c4 c5a c5b c5c hrm h1
    have hOne : (#[.int .i64 (op : Int), .int .i64 0, .int .i64 0, .int .i64 0, .int .i64 0, .int .i32 0] : Array Value).all (·.oneCell') = true := by simp [Value.oneCell']
    replace h2 := Lib.hid h2
    go_upto_region 5 with (refine wpList_store_whole rfl 92 _ _ rfl w2.heap.size #[.int .i64 (op : Int), .int .i64 0, .int .i64 0, .int .i64 0, .int .i64 0, .int .i32 0] rfl rfl 92 _ (heap_alloc_new w2 _) infoIns rfl hOne ?_; intro w3 hB3 g3)
    have b3 : Below w2.heap.size w2 w3 := ⟨g3.os, g3.tape, g3.output, by have := g3.size; simp at this; omega, fun k hk => (g3.block k (by simp; omega) (by simp; omega)).trans (heap_alloc_old w2 _ hk)⟩
    have hs3 : w2.heap.size + 1 ≤ w3.heap.size := by have := g3.size; simpa using this
    have hT3 := ((h2.out.later b3).env hE).tabs
    obtain ⟨w4, hw4⟩ : ∃ w4, w3.iter (strS SL) 0 = w4 := ⟨_, rfl⟩
    obtain ⟨I, hI⟩ : ∃ I, w3.heap.size = I := ⟨_, rfl⟩
    have hI0 : InLp w2.heap.size I w2 w4 { ins0 with op := (op : Int) } (strS SL) 0 := by
     refine ⟨?_, ?_, by omega, ?_, by show (-2147483648 : Int) ≤ 0; decide, by show (0 : Int) ≤ 2147483647; decide⟩
     ·rw [← hw4]; exact (heap_alloc_old w3 (.stringIter (strS SL) 0) (by omega)).trans hB3
     ·rw [← hw4, ← hI]; exact heap_alloc_new w3 (.stringIter (strS SL) 0)
     ·rw [← hw4]; exact b3.alloc (by omega) (.stringIter (strS SL) 0)
    have hs12 := b2.size
    replace hT3 := Lib.hid hT3; replace hI0 := Lib.hid hI0; replace b2 := Lib.hid b2
    clear b3 g3 hB3 hOne
    go_wp2_with fail
    refine (hsha.out _ hT3.out).mono ?_
    rintro e w5 ⟨rfl, hw5⟩
    rw [hw5]
    clear hw5 w5
    go_upto_region 7 with fail
    try rw [hw4]
    try rw [hI]
    go_loopw [12, 13, 14] (fun _ _ _ wr => ∃ (cur : Ins) (pos : Nat), InLp w2.heap.size I w2 wr cur (strS SL) pos ∧ pos ≤ SL.length ∧ fieldsM (SL.drop pos) (ops.drop pos) cur = F) (fun _ _ _ wl => SL.length - wl.iterPos I)
    case atStart => exact ⟨_, 0, hI0.out, Nat.zero_le _, hF.out⟩
    case round =>
     obtain ⟨wo, rfl⟩ : ∃ wo, wo = wr := ⟨wr, rfl⟩
     obtain ⟨cur, pos, hst0, hpl, hRs⟩ := hrel
     clear hI0 hF hT3 hw4
     have hpos0 := iterPos_of hst0.it
     by_cases hp : pos < SL.length
     ·obtain ⟨y, hy⟩ : ∃ y, SL[pos] = y := ⟨_, rfl⟩
      have hya : y.toNat < 128 := by rw [← hy]; exact hasc.out _ (List.getElem_mem hp)
      have hch := hlet.out y (by rw [← hy]; exact List.getElem_mem hp)
      have hys : (strS SL)[pos]'(by rw [hSz.out]; exact hp) = y := by rw [← hy]; rfl
      have hnx : ∀ ty, (Instr.next (.pointer (some ⟨I, 0, none⟩)) true ty).run Tryz.prog wo = .ok (.tuple #[.bool true, .int .i64 pos, .int .i32 y.toNat]) (wo.iterAt I (strS SL) (pos + 1)) := fun ty => by
       have := Lib.run_next_ascii_at (P := Tryz.prog) wo I (strS SL) pos ty hst0.it (by rw [hSz.out]; exact hp) (by rw [hys]; exact hya)
       rw [hys] at this; exact this
      have HS := hst0.next (pos + 1)
      have hdr : SL.drop pos = y :: SL.drop (pos + 1) := by rw [List.drop_eq_getElem_cons hp, hy]
      rw [hdr] at hRs
      obtain ⟨W1, hW1⟩ : ∃ W1, wo.iterAt I (strS SL) (pos + 1) = W1 := ⟨_, rfl⟩
      rw [hW1] at hnx HS
      clear hW1 hst0 hy hys hdr
      have hsz1 := HS.size
      have i0 : (0 : Int) ≤ (pos : Int) := by omega
      by_cases hpo : pos < ops.length
      ·obtain ⟨⟨xs, xq, xc⟩, hx⟩ : ∃ x, ops[pos]? = some x := ⟨_, List.getElem?_eq_getElem hpo⟩
       have hxe : ops[pos] = (xs, xq, xc) := (List.getElem?_eq_some_iff.1 hx).2
       have hxs : xs.size ≤ 1048576 := hsz.out _ (List.mem_of_getElem? hx)
       have hdo : ops.drop pos = (xs, xq, xc) :: ops.drop (pos + 1) := by rw [List.drop_eq_getElem_cons hpo, hxe]
       rw [hdo] at hRs
       obtain ⟨ao, oc, hv0, p1, p2, h3⟩ := hOp.out w1 hrefl
       subst hv0
       obtain ⟨ob, oo, ocs, hob0, hob, hoc⟩ := h3.resolve_left (fun h => by rw [h] at hpo; simp at hpo)
       subst hob0
       have hoblt := (Array.getElem?_eq_some_iff.1 hob).1
       obtain ⟨oa0, oa1, oa2⟩ := hoc pos _ hx
       have hbw1 : Below w1.heap.size w1 W1 := b2.out.trans (HS.below.mono (by omega))
       have hN1 : w1.heap.size ≤ w2.heap.size := hs12
       have hSf : ∀ W, (∀ j, j < W1.heap.size → j ≠ w2.heap.size → W.heap[j]? = W1.heap[j]?) → (fun w' : World => w'.cell? ⟨w.heap.size, 0, none⟩ = some (ptr R) ∧ w'.cell? ⟨ob, oo + pos * 3, none⟩ = some (.string xs) ∧ w'.cell? ⟨ob, oo + pos * 3 + 1, none⟩ = some (.bool xq) ∧ w'.cell? ⟨ob, oo + pos * 3 + 2, none⟩ = some (.int .i64 (xc : Int))) W := fun W hW2 => by
        have e4 := ((hW2 w.heap.size (by have := hs1.out; omega) (by have := hs1.out; omega)).trans (hbw1.block _ (by have := hs1.out; omega))).trans H4.out
        have eo := ((hW2 ob (by omega) (by omega)).trans (hbw1.block _ hoblt)).trans hob
        exact ⟨cell_of_row _ _ 0 _ _ _ e4, (cell_of_row _ _ _ _ _ _ eo).trans oa0, (cell_of_row _ _ _ _ _ _ eo).trans oa1, (cell_of_row _ _ _ _ _ _ eo).trans oa2⟩
       have hRW : ∀ W, Below W1.heap.size W1 W → Below w2.heap.size w2 W := fun W hW2 => HS.below.trans (hW2.mono (by omega))
       have hfa : ∀ W, Below W1.heap.size W1 W → Calls Tryz.prog 111 #[ptr R, ptr w2.heap.size, .int .i32 (y.toNat : Int), .agg #[.string xs, .bool xq, .int .i64 (xc : Int)]] W fun e w' => FieldRes w2.heap.size ln xc w' e (fieldM cur y (xs, xq, xc)) ∧ But w2.heap.size W w' := fun W hW2 => by
        have hr := h2.out.later (hRW W hW2)
        exact field_any R ln w2.heap.size cur y (xs, xq, xc) W hch (hr.env hE) (by show xs.size ≤ _; omega) hr.c.2.1 ((hW2.block _ (by omega)).trans HS.ins)
       have hbd : ∀ j, fieldM cur y (xs, xq, xc) = some j → -2147483648 ≤ j.imm ∧ j.imm ≤ 2147483647 := fun j hj => field_imm hj HS.m1 HS.m2
       obtain ⟨L, hLo⟩ : ∃ L, ops.length = L := ⟨_, rfl⟩
       rw [hLo] at p1 ⊢
       have hpL : pos < L := by omega
       have g1 : decide ((pos : Int) ≥ (L : Int)) = false := decide_eq_false (by omega)
       have g2 : ¬ (L : Int) ≤ (pos : Int) := by omega
       have g3 : (pos : Int) < (L : Int) := by omega
       have hB0 : Below W1.heap.size W1 W1 := Below.refl _ _
       clear hob hoc oa0 oa1 oa2 h3 hx hxe hdo hpo
       replace hSf := Lib.hid hSf; replace hfa := Lib.hid hfa; replace HS := Lib.hid HS; replace hRW := Lib.hid hRW; replace hbw1 := Lib.hid hbw1; replace hbd := Lib.hid hbd; replace hLo := Lib.hid hLo
       cases hfm : fieldM cur y (xs, xq, xc) with
       | none =>
        have hFe : F = .inr xc := by rw [← hRs]; unfold fieldsM; rw [hfm]
        subst hFe
        rw [hfm] at hfa
        clear hRs hbd
        go_upto_region 10 with fail
        go_region_held3 (fun w' : World => w'.cell? ⟨w.heap.size, 0, none⟩ = some (ptr R) ∧ w'.cell? ⟨ob, oo + pos * 3, none⟩ = some (.string xs) ∧ w'.cell? ⟨ob, oo + pos * 3 + 1, none⟩ = some (.bool xq) ∧ w'.cell? ⟨ob, oo + pos * 3 + 2, none⟩ = some (.int .i64 (xc : Int)))
         (first | exact hSf.out _ (fun j hj _ => hB0.block j hj) | exact hSf.out _ (fun j hj hn => hbut.block j hj hn))
         (first
         | (go_at_call 111
            refine (hfa.out _ (by first | with_reducible exact hB0 | with_reducible exact hB0.drew)).mono ?_
            rintro e w5 ⟨⟨fv, rfl, hft⟩, hbut⟩))
        obtain ⟨gf, rfl, hgf⟩ := hft
        have hb5 := (hRW.out _ hB0.drew).trans (hbut.below (Nat.le_refl _) (by have := hsz1.1; simp only [World.drew]; omega))
        have hfin := h2.out.below.trans (hb5.mono (by have := h2.out.hR; have := h2.out.lt; omega))
        clear hbut hb5
        replace hgf := Lib.hid hgf; replace hfin := Lib.hid hfin
        go_wp2_with fail
        go_ret
        exact ⟨⟨_, rfl, ⟨_, rfl, hgf.out⟩⟩, hfin.out⟩
       | some j =>
        rw [fieldsM, hfm] at hRs
        simp only at hRs
        rw [hfm] at hfa
        obtain ⟨m1, m2⟩ := hbd.out j hfm
        replace hRs := Lib.hid hRs
        clear hbd hfm
        go_upto_region 10 with fail
        go_region_held3 (fun w' : World => w'.cell? ⟨w.heap.size, 0, none⟩ = some (ptr R) ∧ w'.cell? ⟨ob, oo + pos * 3, none⟩ = some (.string xs) ∧ w'.cell? ⟨ob, oo + pos * 3 + 1, none⟩ = some (.bool xq) ∧ w'.cell? ⟨ob, oo + pos * 3 + 2, none⟩ = some (.int .i64 (xc : Int)))
         (first | exact hSf.out _ (fun j hj _ => hB0.block j hj) | exact hSf.out _ (fun j hj hn => hbut.block j hj hn))
         (first
         | (go_at_call 111
            refine (hfa.out _ (by first | with_reducible exact hB0 | with_reducible exact hB0.drew)).mono ?_
            rintro e w5 ⟨⟨rfl, hins⟩, hbut⟩))
        have HS5 := (⟨HS.out.ins, HS.out.it, HS.out.lt, HS.out.below.drew, HS.out.m1, HS.out.m2⟩ : InLp w2.heap.size I w2 W1.drew cur (strS SL) (pos + 1)).but hbut hins m1 m2
        clear hbut hins
        replace HS5 := Lib.hid HS5
        go_wp2_with fail
        go_roundw
        case rel => exact ⟨j, pos + 1, HS5.out, by omega, hRs.out⟩
        case measure => rw [iterPos_of HS5.out.it, hpos0]; omega
      ·
       exfalso; have := hleq.out; omega
     ·obtain rfl : pos = SL.length := by omega
      have hnx : ∀ ty, (Instr.next (.pointer (some ⟨I, 0, none⟩)) true ty).run Tryz.prog wo = .ok (.tuple #[.bool false]) wo := fun ty => Lib.run_next_end_at wo _ (strS SL) SL.length ty hst0.it (by rw [hSz.out]; omega)
      have hFe : F = .inl cur := by
       rw [← hRs, List.drop_eq_nil_of_le (Nat.le_refl _)]
       cases ops.drop SL.length <;> rfl
      subst hFe
      clear hRs
      have HS := hst0
      clear hst0
      have hrx := h2.out.later HS.below
      have bwx := b2.out.trans (HS.below.mono hs12)
      obtain ⟨c4, c5a, c5b, c5c⟩ := hW.out _ bwx
      have hct := count_any R ln (ns, nq, nc) _ ops (strS SL).size wo hrx.c.2.1 (hOp.out _ bwx) (by rw [hSz.out]; have := hlen; omega)
      unfold wV at hct
      dsimp only at hct
      rw [hSz.out, hcm] at hct
      have hsz2 : ((SL.length : Nat) : Int) = ((strS SL).size : Int) := by rw [hSz.out]
      rw [hsz2] at hct
      skip
      replace hct := Lib.hid hct; replace bwx := Lib.hid bwx; replace HS := Lib.hid HS
      clear hsz2
      go_wp2_with fail
      refine hct.out.mono ?_
      rintro e w5 ⟨her, b5⟩
      clear c4 c5a c5b c5c hct
      obtain rfl : e = _ := her
      have h5 := hrx.later b5
      have B5 := bwx.out.trans (b5.mono bwx.out.size)
      have HI5 := (b5.block _ (by have := HS.out.size.1; omega)).trans HS.out.ins
      clear b5 hrx bwx
      obtain ⟨N6, hN6⟩ : ∃ N, w5.heap.size = N := ⟨_, rfl⟩
      obtain ⟨wa, hwa⟩ : ∃ wa, w5.alloc (.cells #[.int .i64 (L0 : Int)] 3) = wa := ⟨_, rfl⟩
      have ba : Below w5.heap.size w5 wa := by rw [← hwa]; exact (Below.refl _ _).alloc (Nat.le_refl _) _
      have H16 : wa.heap[N6]? = some (.cells #[.int .i64 (L0 : Int)] 3 (0, 0)) := by rw [← hwa, ← hN6]; exact heap_alloc_new w5 _
      have Ba := B5.trans (ba.mono B5.size)
      obtain ⟨c4, _, _, _⟩ := hW.out w5 B5
      have rr2 := h5.c.2.2.1
      have ha := h5.later ba
      have HI6 := (Keep.below ba).at_ HI5 (.inr (.inr (.inr (.inl rfl))))
      have Ka4 := (Ba.block _ (by have := hs1.out; omega)).trans H4.out
      have bd9 : Below wa.heap.size wa ((wa.alloc (.cells #[.int .u32 0] 22)).drew) := ((Below.refl _ _).alloc (Nat.le_refl _) _).drew
      have kd9 := Keep.below bd9
      have hd := ha.later bd9
      have r2 : wa.cell? ⟨R, 2, none⟩ = some (.slice aw L0 cw) := ha.c.2.2.1
      have r2a : ∀ o, (wa.alloc o).cell? ⟨R, 2, none⟩ = some (.slice aw L0 cw) := fun o => cell_alloc_up r2
      have hS : ∀ W, Keep wa W → (fun w' : World => w'.cell? ⟨w.heap.size, 0, none⟩ = some (ptr R)) W := fun W hW2 => cell_of_row _ _ 0 _ _ _ (hW2.at_ Ka4 (.inl rfl))
      clear ba bd9 ha B5 h5 HI5
      replace H16 := Lib.hid H16; replace Ba := Lib.hid Ba; replace HI6 := Lib.hid HI6; replace Ka4 := Lib.hid Ka4; replace hd := Lib.hid hd; replace hS := Lib.hid hS
      go_upto_region 17 with fail
      try rw [hN6]
      try rw [hwa]
      clear c4 rr2 hwa hN6
      refine wp_region_held_drew (S := (fun w' : World => w'.cell? ⟨w.heap.size, 0, none⟩ = some (ptr R))) (by kernel_rfl) (hS.out _ (Keep.below (Below.refl _ wa).drew)) (fun hHeld => ?_)
      refine wpAnyH_take (i := 0) (v := ?v1) rfl (by kernel_rfl) (by kernel_rfl) (by kernel_rfl) (fun _ _ _ h => h) (Or.inl ⟨by rfl, ?h1⟩) (by assumption) ?r1
      case h1 =>
       intro w' hSw
       try dsimp only at hSw
       go_simp
       try with_reducible rfl
      try simp only [Act.put, List.getElem_toArray, List.getElem_cons_succ, List.getElem_cons_zero, List.setIfInBounds_toArray, List.set_cons_zero, List.set_cons_succ]
      refine wpAnyH_take (i := 1) (v := ?v2) rfl (by kernel_rfl) (by kernel_rfl) (by kernel_rfl) (fun _ _ _ h => h) (Or.inl ⟨by rfl, ?h2⟩) (by assumption) ?r2
      case h2 =>
       intro w' hSw
       try dsimp only at hSw
       go_simp
       try with_reducible rfl
      try simp only [Act.put, List.getElem_toArray, List.getElem_cons_succ, List.getElem_cons_zero, List.setIfInBounds_toArray, List.set_cons_zero, List.set_cons_succ]
      refine wpAnyH_take (i := 2) (v := ?v3) rfl (by kernel_rfl) (by kernel_rfl) (by kernel_rfl) (fun _ _ _ h => h) (Or.inl ⟨by rfl, ?h3⟩) (by assumption) ?r3
      case h3 =>
       intro w' hSw
       try dsimp only at hSw
       go_simp
       try with_reducible rfl
      try simp only [Act.put, List.getElem_toArray, List.getElem_cons_succ, List.getElem_cons_zero, List.setIfInBounds_toArray, List.set_cons_zero, List.set_cons_succ]
      refine wpAnyH_take (i := 3) (v := ?v4) rfl (by kernel_rfl) (by kernel_rfl) (by kernel_rfl) (fun _ _ _ h => h) (Or.inl ⟨by rfl, ?h4⟩) (by assumption) ?r4
      case h4 =>
       intro w' hSw
       try dsimp only at hSw
       go_simp
       try with_reducible rfl
      try simp only [Act.put, List.getElem_toArray, List.getElem_cons_succ, List.getElem_cons_zero, List.setIfInBounds_toArray, List.set_cons_zero, List.set_cons_succ]
      refine wpAnyH_ready (rs := [4, 5]) (by kernel_rfl) (by simp) ?_
      refine AllReadyH.cons (o := _) rfl (fun K hK => ?step15) ?more15
      case step15 =>
       go_simp
       try dsimp only
       refine hK.out _ _ (hS.out _ (Keep.below (Below.refl _ wa).drew)) (fun hHeld => ?_)
       clear hK K
       try simp only [Act.put, List.getElem_toArray, List.getElem_cons_succ, List.getElem_cons_zero, List.setIfInBounds_toArray, List.set_cons_zero, List.set_cons_succ]
       refine wpAnyH_ready (rs := [5]) (by kernel_rfl) (by simp) ?_
       refine AllReadyH.cons (o := _) rfl (fun K hK => ?step9) ?more9
       case step9 =>
        go_simp
        try dsimp only
        refine hK.out _ _ (hS.out _ kd9) (fun hHeld => ?_)
        clear hK K
        try simp only [Act.put, List.getElem_toArray, List.getElem_cons_succ, List.getElem_cons_zero, List.setIfInBounds_toArray, List.set_cons_zero, List.set_cons_succ]
        refine wpAnyH_ready (rs := [6]) (by kernel_rfl) (by simp) ?_
        refine AllReadyH.cons (o := _) rfl (fun K hK => ?step8) ?more8
        case step8 =>
         rw [if_pos (by rfl)]
         obtain ⟨v6, wd, hra, hoa, hOa⟩ := run_one B ((wa.alloc (.cells #[.int .u32 0] 22)).drew) (.slice aw L0 cw) L0 (wi st.ws) (by have h := hd.out.ws; rw [hL0] at h; exact h) wa.heap.size (.int .u32 0) _ rfl (by show (wa.alloc (.cells #[.int .u32 0] 22)).cell? ⟨wa.heap.size, 0, none⟩ = some (.int .u32 0); exact lit_new rfl rfl) (by omega) (by have := hd.out.hR; have := hd.out.lt; omega)
         obtain ⟨g, cap, hv6, g1, g2⟩ := hoa.form (by omega)
         subst hv6
         obtain ⟨hRk, hz⟩ := hd.out.words (l := [0]) hOa (by rw [hL0]; exact hoa)
         have kg : Keep wa wd := kd9.trans (Keep.grown hd.out.ws (capT_no (.inl rfl)) hOa.1)
         have hb6 := hRk.trans hd.out.blk
         have kz : Keep wa (wd.setCell ⟨R, 2, none⟩ (.slice (some ⟨g, 0, none⟩) (L0 + 1) cap)) := kg.trans (Keep.set hb6 (capT_no (.inr (.inr (.inr rfl)))))
         have x2 : wd.cell? ⟨R, 2, none⟩ = some (.slice aw L0 cw) := cell_of_row _ _ 2 _ _ _ hb6
         have x2f := frozen_of_row wd R 2 _ _ hb6
         refine Lib.wp_append_run _ _ _ _ _ rfl _ _ rfl rfl _ _ hra ?_
         clear hra hOa hoa hRk hb6
         replace hz := Lib.hid hz; replace kz := Lib.hid kz
         try dsimp only
         refine hK.out _ _ (hS.out _ kg) (fun hHeld => ?_)
         clear hK K
         try simp only [Act.put, List.getElem_toArray, List.getElem_cons_succ, List.getElem_cons_zero, List.setIfInBounds_toArray, List.set_cons_zero, List.set_cons_succ]
         refine wpAnyH_take (i := 7) (v := ?v5) rfl (by kernel_rfl) (by kernel_rfl) (by kernel_rfl) (fun _ _ _ h => h) (Or.inl ⟨by rfl, ?h5⟩) (by assumption) ?r5
         case h5 =>
          intro w' hSw
          try dsimp only at hSw
          go_simp
          try with_reducible rfl
         try simp only [Act.put, List.getElem_toArray, List.getElem_cons_succ, List.getElem_cons_zero, List.setIfInBounds_toArray, List.set_cons_zero, List.set_cons_succ]
         refine wpAnyH_take (i := 8) (v := ?v6) rfl (by kernel_rfl) (by kernel_rfl) (by kernel_rfl) (fun _ _ _ h => h) (Or.inl ⟨by rfl, ?h6⟩) (by assumption) ?r6
         case h6 =>
          intro w' hSw
          try dsimp only at hSw
          go_simp
          try with_reducible rfl
         try simp only [Act.put, List.getElem_toArray, List.getElem_cons_succ, List.getElem_cons_zero, List.setIfInBounds_toArray, List.set_cons_zero, List.set_cons_succ]
         refine wpAnyH_ready (rs := [9]) (by kernel_rfl) (by simp) ?_
         refine AllReadyH.cons (o := _) rfl (fun K hK => ?step7) ?more7
         case step7 =>
          go_simp
          try dsimp only
          refine hK.out _ _ (hS.out _ kz.out) (fun hHeld => ?_)
          clear hK K
          try simp only [Act.put, List.getElem_toArray, List.getElem_cons_succ, List.getElem_cons_zero, List.setIfInBounds_toArray, List.set_cons_zero, List.set_cons_succ]
          refine wpAnyH_done (by kernel_rfl) ?_ _
          obtain ⟨wb, hwb⟩ : ∃ wb, wd.setCell ⟨R, 2, none⟩ (.slice (some ⟨g, 0, none⟩) (L0 + 1) cap) = wb := ⟨_, rfl⟩
          rw [hwb] at hz kz
          try rw [hwb]
          clear hwb x2 x2f r2 r2a kg kd9 hS hd
          obtain ⟨N7, hN7⟩ : ∃ N, wb.heap.size = N := ⟨_, rfl⟩
          obtain ⟨wc, hwc⟩ : ∃ wc, wb.alloc (.cells #[.func (.func 113) #[] #[ptr w2.heap.size, ptr w.heap.size, ptr N6]] 1) = wc := ⟨_, rfl⟩
          have bc : Below wb.heap.size wb wc := by rw [← hwc]; exact (Below.refl _ _).alloc (Nat.le_refl _) _
          have H17 : wc.heap[N7]? = some (.cells #[.func (.func 113) #[] #[ptr w2.heap.size, ptr w.heap.size, ptr N6]] 1 (0, 0)) := by rw [← hwc, ← hN7]; exact heap_alloc_new wb _
          have Kc := kz.out.trans (Keep.below bc)
          have hmf : ∀ (fn : Fn) (first cap : Array Value) (w : World), (Instr.makeFunc fn first cap).run Tryz.prog w = .ok (.func fn first cap) w := fun _ _ _ _ => rfl
          have hstf : ∀ (fn : Fn) (first cap : Array Value) (a : Addr) (m : Mode) (W : World), (store a (.func fn first cap) m).run Tryz.prog W = stored Tryz.prog W a (.func fn first cap) m := fun _ _ _ _ _ _ => run_store _ _ _ _ _ rfl
          have hzc := hz.out.later bc
          have hly := lay_instr (st := ⟨st.ws ++ [0], st.labs, st.lat⟩) (g := g) (cap := cap) (by rw [show (⟨st.ws ++ [0], st.labs, st.lat⟩ : Asm).ws.length = L0 + 1 by simp [hL0]]; exact hzc) hE L0 w.heap.size N6 w2.heap.size cur (by show L0 < (st.ws ++ [0]).length; simp [hL0]) HS.out.m1 HS.out.m2 (Kc.at_ (Ka4.out) (.inl rfl)) (Kc.at_ H16.out (.inr (.inr (.inl rfl)))) (Kc.at_ HI6.out (.inr (.inr (.inr (.inl rfl)))))
          have e1 : (st.ws ++ [0]).set L0 (encF cur) = st.ws ++ [encF cur] := by rw [List.set_append_right _ _ (by omega), hL0, Nat.sub_self]; rfl
          have e2 : (⟨st.ws ++ [0], st.labs, st.lat⟩ : Asm).ws.length = L0 + 1 := by simp [hL0]
          rw [e2] at hly
          simp only [e1] at hly
          have d17 : wc.cell? ⟨N7, 0, none⟩ = some (.func (.func 113) #[] #[ptr w2.heap.size, ptr w.heap.size, ptr N6]) := cell_of_row _ _ 0 _ _ _ H17
          clear hz hzc bc e1 e2
          replace hly := Lib.hid hly; replace H17 := Lib.hid H17; replace Kc := Lib.hid Kc
          go_upto_region 19 with fail
          try rw [hN7]
          try rw [hwc]
          clear hwc hN7
          go_wp2_with fail
          refine hly.out.mono ?_
          rintro e w7 ⟨rfl, h7, k7, _⟩
          have K7 := Kc.out.trans k7
          have H17b := k7.at_ H17.out (.inr (.inr (.inr (.inr (.inl rfl)))))
          have hix := fun W => idx_any (strS SL) 111 W
          have hi2 : Lib.indexByte (strS SL).data.toList (111 : Int).toNat.toUInt8 = (-1) := hidx.out.1.trans (by rw [hoA])
          rw [hi2] at hix
          clear k7 hly d17 Kc H17 kz hi2
          replace hix := Lib.hid hix; replace h7 := Lib.hid h7; replace K7 := Lib.hid K7; replace H17b := Lib.hid H17b
          go_wp2_with fail
          refine (hix.out _).mono ?_
          rintro e w8 ⟨rfl, hw8⟩
          rw [hw8]
          clear hw8 w8 hix
          have h8 := h7.out
          clear h7
          replace h8 := Lib.hid h8
          go_wp2_with fail
          go_ret
          have hfin : RAt B w0 w7 R base ln ⟨st.ws ++ [encF cur], st.labs, st.lat⟩ := ⟨_, _, _, _, _, _, h8.out, hfl.out⟩
          exact ⟨rfl, by first | exact hfin | (simp only [List.append_nil]; exact hfin) | (rw [List.append_nil]; exact hfin)⟩
         exact AllReadyH.nil
        exact AllReadyH.nil
       exact AllReadyH.nil
      refine AllReadyH.cons (o := _) rfl (fun K hK => ?step16) ?more16
      case step16 =>
       go_simp
       try dsimp only
       refine hK.out _ _ (hS.out _ kd9) (fun hHeld => ?_)
       clear hK K
       try simp only [Act.put, List.getElem_toArray, List.getElem_cons_succ, List.getElem_cons_zero, List.setIfInBounds_toArray, List.set_cons_zero, List.set_cons_succ]
       refine wpAnyH_ready (rs := [4]) (by kernel_rfl) (by simp) ?_
       refine AllReadyH.cons (o := _) rfl (fun K hK => ?step14) ?more14
       case step14 =>
        go_simp
        try dsimp only
        refine hK.out _ _ (hS.out _ kd9) (fun hHeld => ?_)
        clear hK K
        try simp only [Act.put, List.getElem_toArray, List.getElem_cons_succ, List.getElem_cons_zero, List.setIfInBounds_toArray, List.set_cons_zero, List.set_cons_succ]
        refine wpAnyH_ready (rs := [6]) (by kernel_rfl) (by simp) ?_
        refine AllReadyH.cons (o := _) rfl (fun K hK => ?step13) ?more13
        case step13 =>
         rw [if_pos (by rfl)]
         obtain ⟨v6, wd, hra, hoa, hOa⟩ := run_one B ((wa.alloc (.cells #[.int .u32 0] 22)).drew) (.slice aw L0 cw) L0 (wi st.ws) (by have h := hd.out.ws; rw [hL0] at h; exact h) wa.heap.size (.int .u32 0) _ rfl (by show (wa.alloc (.cells #[.int .u32 0] 22)).cell? ⟨wa.heap.size, 0, none⟩ = some (.int .u32 0); exact lit_new rfl rfl) (by omega) (by have := hd.out.hR; have := hd.out.lt; omega)
         obtain ⟨g, cap, hv6, g1, g2⟩ := hoa.form (by omega)
         subst hv6
         obtain ⟨hRk, hz⟩ := hd.out.words (l := [0]) hOa (by rw [hL0]; exact hoa)
         have kg : Keep wa wd := kd9.trans (Keep.grown hd.out.ws (capT_no (.inl rfl)) hOa.1)
         have hb6 := hRk.trans hd.out.blk
         have kz : Keep wa (wd.setCell ⟨R, 2, none⟩ (.slice (some ⟨g, 0, none⟩) (L0 + 1) cap)) := kg.trans (Keep.set hb6 (capT_no (.inr (.inr (.inr rfl)))))
         have x2 : wd.cell? ⟨R, 2, none⟩ = some (.slice aw L0 cw) := cell_of_row _ _ 2 _ _ _ hb6
         have x2f := frozen_of_row wd R 2 _ _ hb6
         refine Lib.wp_append_run _ _ _ _ _ rfl _ _ rfl rfl _ _ hra ?_
         clear hra hOa hoa hRk hb6
         replace hz := Lib.hid hz; replace kz := Lib.hid kz
         try dsimp only
         refine hK.out _ _ (hS.out _ kg) (fun hHeld => ?_)
         clear hK K
         try simp only [Act.put, List.getElem_toArray, List.getElem_cons_succ, List.getElem_cons_zero, List.setIfInBounds_toArray, List.set_cons_zero, List.set_cons_succ]
         refine wpAnyH_take (i := 7) (v := ?v10) rfl (by kernel_rfl) (by kernel_rfl) (by kernel_rfl) (fun _ _ _ h => h) (Or.inl ⟨by rfl, ?h10⟩) (by assumption) ?r10
         case h10 =>
          intro w' hSw
          try dsimp only at hSw
          go_simp
          try with_reducible rfl
         try simp only [Act.put, List.getElem_toArray, List.getElem_cons_succ, List.getElem_cons_zero, List.setIfInBounds_toArray, List.set_cons_zero, List.set_cons_succ]
         refine wpAnyH_take (i := 8) (v := ?v11) rfl (by kernel_rfl) (by kernel_rfl) (by kernel_rfl) (fun _ _ _ h => h) (Or.inl ⟨by rfl, ?h11⟩) (by assumption) ?r11
         case h11 =>
          intro w' hSw
          try dsimp only at hSw
          go_simp
          try with_reducible rfl
         try simp only [Act.put, List.getElem_toArray, List.getElem_cons_succ, List.getElem_cons_zero, List.setIfInBounds_toArray, List.set_cons_zero, List.set_cons_succ]
         refine wpAnyH_ready (rs := [9]) (by kernel_rfl) (by simp) ?_
         refine AllReadyH.cons (o := _) rfl (fun K hK => ?step12) ?more12
         case step12 =>
          go_simp
          try dsimp only
          refine hK.out _ _ (hS.out _ kz.out) (fun hHeld => ?_)
          clear hK K
          try simp only [Act.put, List.getElem_toArray, List.getElem_cons_succ, List.getElem_cons_zero, List.setIfInBounds_toArray, List.set_cons_zero, List.set_cons_succ]
          refine wpAnyH_done (by kernel_rfl) ?_ _
          obtain ⟨wb, hwb⟩ : ∃ wb, wd.setCell ⟨R, 2, none⟩ (.slice (some ⟨g, 0, none⟩) (L0 + 1) cap) = wb := ⟨_, rfl⟩
          rw [hwb] at hz kz
          try rw [hwb]
          clear hwb x2 x2f r2 r2a kg kd9 hS hd
          obtain ⟨N7, hN7⟩ : ∃ N, wb.heap.size = N := ⟨_, rfl⟩
          obtain ⟨wc, hwc⟩ : ∃ wc, wb.alloc (.cells #[.func (.func 113) #[] #[ptr w2.heap.size, ptr w.heap.size, ptr N6]] 1) = wc := ⟨_, rfl⟩
          have bc : Below wb.heap.size wb wc := by rw [← hwc]; exact (Below.refl _ _).alloc (Nat.le_refl _) _
          have H17 : wc.heap[N7]? = some (.cells #[.func (.func 113) #[] #[ptr w2.heap.size, ptr w.heap.size, ptr N6]] 1 (0, 0)) := by rw [← hwc, ← hN7]; exact heap_alloc_new wb _
          have Kc := kz.out.trans (Keep.below bc)
          have hmf : ∀ (fn : Fn) (first cap : Array Value) (w : World), (Instr.makeFunc fn first cap).run Tryz.prog w = .ok (.func fn first cap) w := fun _ _ _ _ => rfl
          have hstf : ∀ (fn : Fn) (first cap : Array Value) (a : Addr) (m : Mode) (W : World), (store a (.func fn first cap) m).run Tryz.prog W = stored Tryz.prog W a (.func fn first cap) m := fun _ _ _ _ _ _ => run_store _ _ _ _ _ rfl
          have hzc := hz.out.later bc
          have hly := lay_instr (st := ⟨st.ws ++ [0], st.labs, st.lat⟩) (g := g) (cap := cap) (by rw [show (⟨st.ws ++ [0], st.labs, st.lat⟩ : Asm).ws.length = L0 + 1 by simp [hL0]]; exact hzc) hE L0 w.heap.size N6 w2.heap.size cur (by show L0 < (st.ws ++ [0]).length; simp [hL0]) HS.out.m1 HS.out.m2 (Kc.at_ (Ka4.out) (.inl rfl)) (Kc.at_ H16.out (.inr (.inr (.inl rfl)))) (Kc.at_ HI6.out (.inr (.inr (.inr (.inl rfl)))))
          have e1 : (st.ws ++ [0]).set L0 (encF cur) = st.ws ++ [encF cur] := by rw [List.set_append_right _ _ (by omega), hL0, Nat.sub_self]; rfl
          have e2 : (⟨st.ws ++ [0], st.labs, st.lat⟩ : Asm).ws.length = L0 + 1 := by simp [hL0]
          rw [e2] at hly
          simp only [e1] at hly
          have d17 : wc.cell? ⟨N7, 0, none⟩ = some (.func (.func 113) #[] #[ptr w2.heap.size, ptr w.heap.size, ptr N6]) := cell_of_row _ _ 0 _ _ _ H17
          clear hz hzc bc e1 e2
          replace hly := Lib.hid hly; replace H17 := Lib.hid H17; replace Kc := Lib.hid Kc
          go_upto_region 19 with fail
          try rw [hN7]
          try rw [hwc]
          clear hwc hN7
          go_wp2_with fail
          refine hly.out.mono ?_
          rintro e w7 ⟨rfl, h7, k7, _⟩
          have K7 := Kc.out.trans k7
          have H17b := k7.at_ H17.out (.inr (.inr (.inr (.inr (.inl rfl)))))
          have hix := fun W => idx_any (strS SL) 111 W
          have hi2 : Lib.indexByte (strS SL).data.toList (111 : Int).toNat.toUInt8 = (-1) := hidx.out.1.trans (by rw [hoA])
          rw [hi2] at hix
          clear k7 hly d17 Kc H17 kz hi2
          replace hix := Lib.hid hix; replace h7 := Lib.hid h7; replace K7 := Lib.hid K7; replace H17b := Lib.hid H17b
          go_wp2_with fail
          refine (hix.out _).mono ?_
          rintro e w8 ⟨rfl, hw8⟩
          rw [hw8]
          clear hw8 w8 hix
          have h8 := h7.out
          clear h7
          replace h8 := Lib.hid h8
          go_wp2_with fail
          go_ret
          have hfin : RAt B w0 w7 R base ln ⟨st.ws ++ [encF cur], st.labs, st.lat⟩ := ⟨_, _, _, _, _, _, h8.out, hfl.out⟩
          exact ⟨rfl, by first | exact hfin | (simp only [List.append_nil]; exact hfin) | (rw [List.append_nil]; exact hfin)⟩
         exact AllReadyH.nil
        exact AllReadyH.nil
       exact AllReadyH.nil
      exact AllReadyH.nil
   | some k =>
    simp only
    have hkL := hidx.out.2 k hoA
    have hkl : k < ops.length := by have := hleq.out; omega
    obtain ⟨⟨zs, zq, zc⟩, hzx⟩ : ∃ x, ops[k]? = some x := ⟨_, List.getElem?_eq_getElem hkl⟩
    have hgd : ∀ d : W, ops.getD k d = (zs, zq, zc) := fun d => by rw [List.getD_eq_getElem?_getD, hzx]; rfl
    obtain ⟨pao, poc, rfl, pp1, pp2, ph3⟩ := hOp.out w1 hrefl
    obtain ⟨pb, po, pcs, rfl, hpb, hpc⟩ := ph3.resolve_left (fun h => by rw [h] at hkl; simp at hkl)
    have hOk : ∀ W, Keep w1 W → W.cell? ⟨pb, po + k * 3, none⟩ = some (.string zs) ∧ W.cell? ⟨pb, po + k * 3 + 1, none⟩ = some (.bool zq) ∧ W.cell? ⟨pb, po + k * 3 + 2, none⟩ = some (.int .i64 (zc : Int)) := fun W hW2 => by
     have hb := hW2.at_ hpb (.inr (.inl rfl))
     obtain ⟨a, b, c⟩ := hpc k _ hzx
     exact ⟨(cell_of_row _ _ _ _ _ _ hb).trans a, (cell_of_row _ _ _ _ _ _ hb).trans b, (cell_of_row _ _ _ _ _ _ hb).trans c⟩
    have k0 : (0 : Int) ≤ (k : Int) := by omega
    have k1 : decide ((k : Int) ≥ 0) = true := decide_eq_true k0
    simp only [hgd]
    clear hzx hpb hpc ph3
    replace hOk := Lib.hid hOk; replace hgd := Lib.hid hgd
    cases hnm : isNameF (zs, zq, zc) with
    | false =>
     have hlm : ∀ t p l, latM t p l (zs, zq, zc) = [] := fun t p l => by unfold latM; rw [if_neg (by rw [hnm]; simp)]
     obtain ⟨c4, c5a, c5b, c5c⟩ := hW.out _ hrefl
     go_enter Tryz.func85, Tryz.ntmps85
     go_upto_region 1 with fail
     try rw [hw1]
     clear hw1
     go_wp2_with fail
     refine hrm.out.mono ?_
     rintro e w2 ⟨her, b2⟩
     obtain rfl : e = _ := her
     have h2 := h1.out.later b2
     clear c4 c5a c5b c5c hrm h1
     have hOne : (#[.int .i64 (op : Int), .int .i64 0, .int .i64 0, .int .i64 0, .int .i64 0, .int .i32 0] : Array Value).all (·.oneCell') = true := by simp [Value.oneCell']
     replace h2 := Lib.hid h2
     go_upto_region 5 with (refine wpList_store_whole rfl 92 _ _ rfl w2.heap.size #[.int .i64 (op : Int), .int .i64 0, .int .i64 0, .int .i64 0, .int .i64 0, .int .i32 0] rfl rfl 92 _ (heap_alloc_new w2 _) infoIns rfl hOne ?_; intro w3 hB3 g3)
     have b3 : Below w2.heap.size w2 w3 := ⟨g3.os, g3.tape, g3.output, by have := g3.size; simp at this; omega, fun k hk => (g3.block k (by simp; omega) (by simp; omega)).trans (heap_alloc_old w2 _ hk)⟩
     have hs3 : w2.heap.size + 1 ≤ w3.heap.size := by have := g3.size; simpa using this
     have hT3 := ((h2.out.later b3).env hE).tabs
     obtain ⟨w4, hw4⟩ : ∃ w4, w3.iter (strS SL) 0 = w4 := ⟨_, rfl⟩
     obtain ⟨I, hI⟩ : ∃ I, w3.heap.size = I := ⟨_, rfl⟩
     have hI0 : InLp w2.heap.size I w2 w4 { ins0 with op := (op : Int) } (strS SL) 0 := by
      refine ⟨?_, ?_, by omega, ?_, by show (-2147483648 : Int) ≤ 0; decide, by show (0 : Int) ≤ 2147483647; decide⟩
      ·rw [← hw4]; exact (heap_alloc_old w3 (.stringIter (strS SL) 0) (by omega)).trans hB3
      ·rw [← hw4, ← hI]; exact heap_alloc_new w3 (.stringIter (strS SL) 0)
      ·rw [← hw4]; exact b3.alloc (by omega) (.stringIter (strS SL) 0)
     have hs12 := b2.size
     replace hT3 := Lib.hid hT3; replace hI0 := Lib.hid hI0; replace b2 := Lib.hid b2
     clear b3 g3 hB3 hOne
     go_wp2_with fail
     refine (hsha.out _ hT3.out).mono ?_
     rintro e w5 ⟨rfl, hw5⟩
     rw [hw5]
     clear hw5 w5
     go_upto_region 7 with fail
     try rw [hw4]
     try rw [hI]
     go_loopw [12, 13, 14] (fun _ _ _ wr => ∃ (cur : Ins) (pos : Nat), InLp w2.heap.size I w2 wr cur (strS SL) pos ∧ pos ≤ SL.length ∧ fieldsM (SL.drop pos) (ops.drop pos) cur = F) (fun _ _ _ wl => SL.length - wl.iterPos I)
     case atStart => exact ⟨_, 0, hI0.out, Nat.zero_le _, hF.out⟩
     case round =>
      obtain ⟨wo, rfl⟩ : ∃ wo, wo = wr := ⟨wr, rfl⟩
      obtain ⟨cur, pos, hst0, hpl, hRs⟩ := hrel
      clear hI0 hF hT3 hw4
      have hpos0 := iterPos_of hst0.it
      by_cases hp : pos < SL.length
      ·obtain ⟨y, hy⟩ : ∃ y, SL[pos] = y := ⟨_, rfl⟩
       have hya : y.toNat < 128 := by rw [← hy]; exact hasc.out _ (List.getElem_mem hp)
       have hch := hlet.out y (by rw [← hy]; exact List.getElem_mem hp)
       have hys : (strS SL)[pos]'(by rw [hSz.out]; exact hp) = y := by rw [← hy]; rfl
       have hnx : ∀ ty, (Instr.next (.pointer (some ⟨I, 0, none⟩)) true ty).run Tryz.prog wo = .ok (.tuple #[.bool true, .int .i64 pos, .int .i32 y.toNat]) (wo.iterAt I (strS SL) (pos + 1)) := fun ty => by
        have := Lib.run_next_ascii_at (P := Tryz.prog) wo I (strS SL) pos ty hst0.it (by rw [hSz.out]; exact hp) (by rw [hys]; exact hya)
        rw [hys] at this; exact this
       have HS := hst0.next (pos + 1)
       have hdr : SL.drop pos = y :: SL.drop (pos + 1) := by rw [List.drop_eq_getElem_cons hp, hy]
       rw [hdr] at hRs
       obtain ⟨W1, hW1⟩ : ∃ W1, wo.iterAt I (strS SL) (pos + 1) = W1 := ⟨_, rfl⟩
       rw [hW1] at hnx HS
       clear hW1 hst0 hy hys hdr
       have hsz1 := HS.size
       have i0 : (0 : Int) ≤ (pos : Int) := by omega
       by_cases hpo : pos < ops.length
       ·obtain ⟨⟨xs, xq, xc⟩, hx⟩ : ∃ x, ops[pos]? = some x := ⟨_, List.getElem?_eq_getElem hpo⟩
        have hxe : ops[pos] = (xs, xq, xc) := (List.getElem?_eq_some_iff.1 hx).2
        have hxs : xs.size ≤ 1048576 := hsz.out _ (List.mem_of_getElem? hx)
        have hdo : ops.drop pos = (xs, xq, xc) :: ops.drop (pos + 1) := by rw [List.drop_eq_getElem_cons hpo, hxe]
        rw [hdo] at hRs
        obtain ⟨ao, oc, hv0, p1, p2, h3⟩ := hOp.out w1 hrefl
        simp only [Value.slice.injEq, true_and] at hv0; obtain ⟨rfl, rfl⟩ := hv0
        obtain ⟨ob, oo, ocs, hob0, hob, hoc⟩ := h3.resolve_left (fun h => by rw [h] at hpo; simp at hpo)
        simp only [Option.some.injEq, Addr.mk.injEq, and_true] at hob0; obtain ⟨rfl, rfl⟩ := hob0
        have hoblt := (Array.getElem?_eq_some_iff.1 hob).1
        obtain ⟨oa0, oa1, oa2⟩ := hoc pos _ hx
        have hbw1 : Below w1.heap.size w1 W1 := b2.out.trans (HS.below.mono (by omega))
        have hN1 : w1.heap.size ≤ w2.heap.size := hs12
        have hSf : ∀ W, (∀ j, j < W1.heap.size → j ≠ w2.heap.size → W.heap[j]? = W1.heap[j]?) → (fun w' : World => w'.cell? ⟨w.heap.size, 0, none⟩ = some (ptr R) ∧ w'.cell? ⟨pb, po + pos * 3, none⟩ = some (.string xs) ∧ w'.cell? ⟨pb, po + pos * 3 + 1, none⟩ = some (.bool xq) ∧ w'.cell? ⟨pb, po + pos * 3 + 2, none⟩ = some (.int .i64 (xc : Int))) W := fun W hW2 => by
         have e4 := ((hW2 w.heap.size (by have := hs1.out; omega) (by have := hs1.out; omega)).trans (hbw1.block _ (by have := hs1.out; omega))).trans H4.out
         have eo := ((hW2 pb (by omega) (by omega)).trans (hbw1.block _ hoblt)).trans hob
         exact ⟨cell_of_row _ _ 0 _ _ _ e4, (cell_of_row _ _ _ _ _ _ eo).trans oa0, (cell_of_row _ _ _ _ _ _ eo).trans oa1, (cell_of_row _ _ _ _ _ _ eo).trans oa2⟩
        have hRW : ∀ W, Below W1.heap.size W1 W → Below w2.heap.size w2 W := fun W hW2 => HS.below.trans (hW2.mono (by omega))
        have hfa : ∀ W, Below W1.heap.size W1 W → Calls Tryz.prog 111 #[ptr R, ptr w2.heap.size, .int .i32 (y.toNat : Int), .agg #[.string xs, .bool xq, .int .i64 (xc : Int)]] W fun e w' => FieldRes w2.heap.size ln xc w' e (fieldM cur y (xs, xq, xc)) ∧ But w2.heap.size W w' := fun W hW2 => by
         have hr := h2.out.later (hRW W hW2)
         exact field_any R ln w2.heap.size cur y (xs, xq, xc) W hch (hr.env hE) (by show xs.size ≤ _; omega) hr.c.2.1 ((hW2.block _ (by omega)).trans HS.ins)
        have hbd : ∀ j, fieldM cur y (xs, xq, xc) = some j → -2147483648 ≤ j.imm ∧ j.imm ≤ 2147483647 := fun j hj => field_imm hj HS.m1 HS.m2
        obtain ⟨L, hLo⟩ : ∃ L, ops.length = L := ⟨_, rfl⟩
        rw [hLo] at p1 ⊢
        have hpL : pos < L := by omega
        have g1 : decide ((pos : Int) ≥ (L : Int)) = false := decide_eq_false (by omega)
        have g2 : ¬ (L : Int) ≤ (pos : Int) := by omega
        have g3 : (pos : Int) < (L : Int) := by omega
        have hB0 : Below W1.heap.size W1 W1 := Below.refl _ _
        clear hob hoc oa0 oa1 oa2 h3 hx hxe hdo hpo
        replace hSf := Lib.hid hSf; replace hfa := Lib.hid hfa; replace HS := Lib.hid HS; replace hRW := Lib.hid hRW; replace hbw1 := Lib.hid hbw1; replace hbd := Lib.hid hbd; replace hLo := Lib.hid hLo
        cases hfm : fieldM cur y (xs, xq, xc) with
        | none =>
         have hFe : F = .inr xc := by rw [← hRs]; unfold fieldsM; rw [hfm]
         subst hFe
         rw [hfm] at hfa
         clear hRs hbd
         go_upto_region 10 with fail
         go_region_held3 (fun w' : World => w'.cell? ⟨w.heap.size, 0, none⟩ = some (ptr R) ∧ w'.cell? ⟨pb, po + pos * 3, none⟩ = some (.string xs) ∧ w'.cell? ⟨pb, po + pos * 3 + 1, none⟩ = some (.bool xq) ∧ w'.cell? ⟨pb, po + pos * 3 + 2, none⟩ = some (.int .i64 (xc : Int)))
          (first | exact hSf.out _ (fun j hj _ => hB0.block j hj) | exact hSf.out _ (fun j hj hn => hbut.block j hj hn))
          (first
          | (go_at_call 111
             refine (hfa.out _ (by first | with_reducible exact hB0 | with_reducible exact hB0.drew)).mono ?_
             rintro e w5 ⟨⟨fv, rfl, hft⟩, hbut⟩))
         obtain ⟨gf, rfl, hgf⟩ := hft
         have hb5 := (hRW.out _ hB0.drew).trans (hbut.below (Nat.le_refl _) (by have := hsz1.1; simp only [World.drew]; omega))
         have hfin := h2.out.below.trans (hb5.mono (by have := h2.out.hR; have := h2.out.lt; omega))
         clear hbut hb5
         replace hgf := Lib.hid hgf; replace hfin := Lib.hid hfin
         go_wp2_with fail
         go_ret
         exact ⟨⟨_, rfl, ⟨_, rfl, hgf.out⟩⟩, hfin.out⟩
        | some j =>
         rw [fieldsM, hfm] at hRs
         simp only at hRs
         rw [hfm] at hfa
         obtain ⟨m1, m2⟩ := hbd.out j hfm
         replace hRs := Lib.hid hRs
         clear hbd hfm
         go_upto_region 10 with fail
         go_region_held3 (fun w' : World => w'.cell? ⟨w.heap.size, 0, none⟩ = some (ptr R) ∧ w'.cell? ⟨pb, po + pos * 3, none⟩ = some (.string xs) ∧ w'.cell? ⟨pb, po + pos * 3 + 1, none⟩ = some (.bool xq) ∧ w'.cell? ⟨pb, po + pos * 3 + 2, none⟩ = some (.int .i64 (xc : Int)))
          (first | exact hSf.out _ (fun j hj _ => hB0.block j hj) | exact hSf.out _ (fun j hj hn => hbut.block j hj hn))
          (first
          | (go_at_call 111
             refine (hfa.out _ (by first | with_reducible exact hB0 | with_reducible exact hB0.drew)).mono ?_
             rintro e w5 ⟨⟨rfl, hins⟩, hbut⟩))
         have HS5 := (⟨HS.out.ins, HS.out.it, HS.out.lt, HS.out.below.drew, HS.out.m1, HS.out.m2⟩ : InLp w2.heap.size I w2 W1.drew cur (strS SL) (pos + 1)).but hbut hins m1 m2
         clear hbut hins
         replace HS5 := Lib.hid HS5
         go_wp2_with fail
         go_roundw
         case rel => exact ⟨j, pos + 1, HS5.out, by omega, hRs.out⟩
         case measure => rw [iterPos_of HS5.out.it, hpos0]; omega
       ·
        exfalso; have := hleq.out; omega
      ·obtain rfl : pos = SL.length := by omega
       have hnx : ∀ ty, (Instr.next (.pointer (some ⟨I, 0, none⟩)) true ty).run Tryz.prog wo = .ok (.tuple #[.bool false]) wo := fun ty => Lib.run_next_end_at wo _ (strS SL) SL.length ty hst0.it (by rw [hSz.out]; omega)
       have hFe : F = .inl cur := by
        rw [← hRs, List.drop_eq_nil_of_le (Nat.le_refl _)]
        cases ops.drop SL.length <;> rfl
       subst hFe
       clear hRs
       have HS := hst0
       clear hst0
       obtain ⟨L, hLo⟩ : ∃ L, ops.length = L := ⟨_, rfl⟩
       have k2 : (k : Int) < (L : Int) := by omega
       rw [hLo] at pp1 ⊢
       have hrx := h2.out.later HS.below
       have bwx := b2.out.trans (HS.below.mono hs12)
       obtain ⟨c4, c5a, c5b, c5c⟩ := hW.out _ bwx
       have hct := count_any R ln (ns, nq, nc) _ ops (strS SL).size wo hrx.c.2.1 (hOp.out _ bwx) (by rw [hSz.out]; have := hlen; omega)
       unfold wV at hct
       dsimp only at hct
       rw [hSz.out, hcm] at hct
       have hsz2 : ((SL.length : Nat) : Int) = ((strS SL).size : Int) := by rw [hSz.out]
       rw [hsz2] at hct
       rw [hLo] at hct
       replace hct := Lib.hid hct; replace bwx := Lib.hid bwx; replace HS := Lib.hid HS
       clear hsz2
       go_wp2_with fail
       refine hct.out.mono ?_
       rintro e w5 ⟨her, b5⟩
       clear c4 c5a c5b c5c hct
       obtain rfl : e = _ := her
       have h5 := hrx.later b5
       have B5 := bwx.out.trans (b5.mono bwx.out.size)
       have HI5 := (b5.block _ (by have := HS.out.size.1; omega)).trans HS.out.ins
       clear b5 hrx bwx
       obtain ⟨N6, hN6⟩ : ∃ N, w5.heap.size = N := ⟨_, rfl⟩
       obtain ⟨wa, hwa⟩ : ∃ wa, w5.alloc (.cells #[.int .i64 (L0 : Int)] 3) = wa := ⟨_, rfl⟩
       have ba : Below w5.heap.size w5 wa := by rw [← hwa]; exact (Below.refl _ _).alloc (Nat.le_refl _) _
       have H16 : wa.heap[N6]? = some (.cells #[.int .i64 (L0 : Int)] 3 (0, 0)) := by rw [← hwa, ← hN6]; exact heap_alloc_new w5 _
       have Ba := B5.trans (ba.mono B5.size)
       obtain ⟨c4, _, _, _⟩ := hW.out w5 B5
       have rr2 := h5.c.2.2.1
       have ha := h5.later ba
       have HI6 := (Keep.below ba).at_ HI5 (.inr (.inr (.inr (.inl rfl))))
       have Ka4 := (Ba.block _ (by have := hs1.out; omega)).trans H4.out
       have bd9 : Below wa.heap.size wa ((wa.alloc (.cells #[.int .u32 0] 22)).drew) := ((Below.refl _ _).alloc (Nat.le_refl _) _).drew
       have kd9 := Keep.below bd9
       have hd := ha.later bd9
       have r2 : wa.cell? ⟨R, 2, none⟩ = some (.slice aw L0 cw) := ha.c.2.2.1
       have r2a : ∀ o, (wa.alloc o).cell? ⟨R, 2, none⟩ = some (.slice aw L0 cw) := fun o => cell_alloc_up r2
       have hS : ∀ W, Keep wa W → (fun w' : World => w'.cell? ⟨w.heap.size, 0, none⟩ = some (ptr R)) W := fun W hW2 => cell_of_row _ _ 0 _ _ _ (hW2.at_ Ka4 (.inl rfl))
       clear ba bd9 ha B5 h5 HI5
       replace H16 := Lib.hid H16; replace Ba := Lib.hid Ba; replace HI6 := Lib.hid HI6; replace Ka4 := Lib.hid Ka4; replace hd := Lib.hid hd; replace hS := Lib.hid hS
       go_upto_region 17 with fail
       try rw [hN6]
       try rw [hwa]
       clear c4 rr2 hwa hN6
       refine wp_region_held_drew (S := (fun w' : World => w'.cell? ⟨w.heap.size, 0, none⟩ = some (ptr R))) (by kernel_rfl) (hS.out _ (Keep.below (Below.refl _ wa).drew)) (fun hHeld => ?_)
       refine wpAnyH_take (i := 0) (v := ?v17) rfl (by kernel_rfl) (by kernel_rfl) (by kernel_rfl) (fun _ _ _ h => h) (Or.inl ⟨by rfl, ?h17⟩) (by assumption) ?r17
       case h17 =>
        intro w' hSw
        try dsimp only at hSw
        go_simp
        try with_reducible rfl
       try simp only [Act.put, List.getElem_toArray, List.getElem_cons_succ, List.getElem_cons_zero, List.setIfInBounds_toArray, List.set_cons_zero, List.set_cons_succ]
       refine wpAnyH_take (i := 1) (v := ?v18) rfl (by kernel_rfl) (by kernel_rfl) (by kernel_rfl) (fun _ _ _ h => h) (Or.inl ⟨by rfl, ?h18⟩) (by assumption) ?r18
       case h18 =>
        intro w' hSw
        try dsimp only at hSw
        go_simp
        try with_reducible rfl
       try simp only [Act.put, List.getElem_toArray, List.getElem_cons_succ, List.getElem_cons_zero, List.setIfInBounds_toArray, List.set_cons_zero, List.set_cons_succ]
       refine wpAnyH_take (i := 2) (v := ?v19) rfl (by kernel_rfl) (by kernel_rfl) (by kernel_rfl) (fun _ _ _ h => h) (Or.inl ⟨by rfl, ?h19⟩) (by assumption) ?r19
       case h19 =>
        intro w' hSw
        try dsimp only at hSw
        go_simp
        try with_reducible rfl
       try simp only [Act.put, List.getElem_toArray, List.getElem_cons_succ, List.getElem_cons_zero, List.setIfInBounds_toArray, List.set_cons_zero, List.set_cons_succ]
       refine wpAnyH_take (i := 3) (v := ?v20) rfl (by kernel_rfl) (by kernel_rfl) (by kernel_rfl) (fun _ _ _ h => h) (Or.inl ⟨by rfl, ?h20⟩) (by assumption) ?r20
       case h20 =>
        intro w' hSw
        try dsimp only at hSw
        go_simp
        try with_reducible rfl
       try simp only [Act.put, List.getElem_toArray, List.getElem_cons_succ, List.getElem_cons_zero, List.setIfInBounds_toArray, List.set_cons_zero, List.set_cons_succ]
       refine wpAnyH_ready (rs := [4, 5]) (by kernel_rfl) (by simp) ?_
       refine AllReadyH.cons (o := _) rfl (fun K hK => ?step31) ?more31
       case step31 =>
        go_simp
        try dsimp only
        refine hK.out _ _ (hS.out _ (Keep.below (Below.refl _ wa).drew)) (fun hHeld => ?_)
        clear hK K
        try simp only [Act.put, List.getElem_toArray, List.getElem_cons_succ, List.getElem_cons_zero, List.setIfInBounds_toArray, List.set_cons_zero, List.set_cons_succ]
        refine wpAnyH_ready (rs := [5]) (by kernel_rfl) (by simp) ?_
        refine AllReadyH.cons (o := _) rfl (fun K hK => ?step25) ?more25
        case step25 =>
         go_simp
         try dsimp only
         refine hK.out _ _ (hS.out _ kd9) (fun hHeld => ?_)
         clear hK K
         try simp only [Act.put, List.getElem_toArray, List.getElem_cons_succ, List.getElem_cons_zero, List.setIfInBounds_toArray, List.set_cons_zero, List.set_cons_succ]
         refine wpAnyH_ready (rs := [6]) (by kernel_rfl) (by simp) ?_
         refine AllReadyH.cons (o := _) rfl (fun K hK => ?step24) ?more24
         case step24 =>
          rw [if_pos (by rfl)]
          obtain ⟨v6, wd, hra, hoa, hOa⟩ := run_one B ((wa.alloc (.cells #[.int .u32 0] 22)).drew) (.slice aw L0 cw) L0 (wi st.ws) (by have h := hd.out.ws; rw [hL0] at h; exact h) wa.heap.size (.int .u32 0) _ rfl (by show (wa.alloc (.cells #[.int .u32 0] 22)).cell? ⟨wa.heap.size, 0, none⟩ = some (.int .u32 0); exact lit_new rfl rfl) (by omega) (by have := hd.out.hR; have := hd.out.lt; omega)
          obtain ⟨g, cap, hv6, g1, g2⟩ := hoa.form (by omega)
          subst hv6
          obtain ⟨hRk, hz⟩ := hd.out.words (l := [0]) hOa (by rw [hL0]; exact hoa)
          have kg : Keep wa wd := kd9.trans (Keep.grown hd.out.ws (capT_no (.inl rfl)) hOa.1)
          have hb6 := hRk.trans hd.out.blk
          have kz : Keep wa (wd.setCell ⟨R, 2, none⟩ (.slice (some ⟨g, 0, none⟩) (L0 + 1) cap)) := kg.trans (Keep.set hb6 (capT_no (.inr (.inr (.inr rfl)))))
          have x2 : wd.cell? ⟨R, 2, none⟩ = some (.slice aw L0 cw) := cell_of_row _ _ 2 _ _ _ hb6
          have x2f := frozen_of_row wd R 2 _ _ hb6
          refine Lib.wp_append_run _ _ _ _ _ rfl _ _ rfl rfl _ _ hra ?_
          clear hra hOa hoa hRk hb6
          replace hz := Lib.hid hz; replace kz := Lib.hid kz
          try dsimp only
          refine hK.out _ _ (hS.out _ kg) (fun hHeld => ?_)
          clear hK K
          try simp only [Act.put, List.getElem_toArray, List.getElem_cons_succ, List.getElem_cons_zero, List.setIfInBounds_toArray, List.set_cons_zero, List.set_cons_succ]
          refine wpAnyH_take (i := 7) (v := ?v21) rfl (by kernel_rfl) (by kernel_rfl) (by kernel_rfl) (fun _ _ _ h => h) (Or.inl ⟨by rfl, ?h21⟩) (by assumption) ?r21
          case h21 =>
           intro w' hSw
           try dsimp only at hSw
           go_simp
           try with_reducible rfl
          try simp only [Act.put, List.getElem_toArray, List.getElem_cons_succ, List.getElem_cons_zero, List.setIfInBounds_toArray, List.set_cons_zero, List.set_cons_succ]
          refine wpAnyH_take (i := 8) (v := ?v22) rfl (by kernel_rfl) (by kernel_rfl) (by kernel_rfl) (fun _ _ _ h => h) (Or.inl ⟨by rfl, ?h22⟩) (by assumption) ?r22
          case h22 =>
           intro w' hSw
           try dsimp only at hSw
           go_simp
           try with_reducible rfl
          try simp only [Act.put, List.getElem_toArray, List.getElem_cons_succ, List.getElem_cons_zero, List.setIfInBounds_toArray, List.set_cons_zero, List.set_cons_succ]
          refine wpAnyH_ready (rs := [9]) (by kernel_rfl) (by simp) ?_
          refine AllReadyH.cons (o := _) rfl (fun K hK => ?step23) ?more23
          case step23 =>
           go_simp
           try dsimp only
           refine hK.out _ _ (hS.out _ kz.out) (fun hHeld => ?_)
           clear hK K
           try simp only [Act.put, List.getElem_toArray, List.getElem_cons_succ, List.getElem_cons_zero, List.setIfInBounds_toArray, List.set_cons_zero, List.set_cons_succ]
           refine wpAnyH_done (by kernel_rfl) ?_ _
           obtain ⟨wb, hwb⟩ : ∃ wb, wd.setCell ⟨R, 2, none⟩ (.slice (some ⟨g, 0, none⟩) (L0 + 1) cap) = wb := ⟨_, rfl⟩
           rw [hwb] at hz kz
           try rw [hwb]
           clear hwb x2 x2f r2 r2a kg kd9 hS hd
           obtain ⟨N7, hN7⟩ : ∃ N, wb.heap.size = N := ⟨_, rfl⟩
           obtain ⟨wc, hwc⟩ : ∃ wc, wb.alloc (.cells #[.func (.func 113) #[] #[ptr w2.heap.size, ptr w.heap.size, ptr N6]] 1) = wc := ⟨_, rfl⟩
           have bc : Below wb.heap.size wb wc := by rw [← hwc]; exact (Below.refl _ _).alloc (Nat.le_refl _) _
           have H17 : wc.heap[N7]? = some (.cells #[.func (.func 113) #[] #[ptr w2.heap.size, ptr w.heap.size, ptr N6]] 1 (0, 0)) := by rw [← hwc, ← hN7]; exact heap_alloc_new wb _
           have Kc := kz.out.trans (Keep.below bc)
           have hmf : ∀ (fn : Fn) (first cap : Array Value) (w : World), (Instr.makeFunc fn first cap).run Tryz.prog w = .ok (.func fn first cap) w := fun _ _ _ _ => rfl
           have hstf : ∀ (fn : Fn) (first cap : Array Value) (a : Addr) (m : Mode) (W : World), (store a (.func fn first cap) m).run Tryz.prog W = stored Tryz.prog W a (.func fn first cap) m := fun _ _ _ _ _ _ => run_store _ _ _ _ _ rfl
           have hzc := hz.out.later bc
           have hly := lay_instr (st := ⟨st.ws ++ [0], st.labs, st.lat⟩) (g := g) (cap := cap) (by rw [show (⟨st.ws ++ [0], st.labs, st.lat⟩ : Asm).ws.length = L0 + 1 by simp [hL0]]; exact hzc) hE L0 w.heap.size N6 w2.heap.size cur (by show L0 < (st.ws ++ [0]).length; simp [hL0]) HS.out.m1 HS.out.m2 (Kc.at_ (Ka4.out) (.inl rfl)) (Kc.at_ H16.out (.inr (.inr (.inl rfl)))) (Kc.at_ HI6.out (.inr (.inr (.inr (.inl rfl)))))
           have e1 : (st.ws ++ [0]).set L0 (encF cur) = st.ws ++ [encF cur] := by rw [List.set_append_right _ _ (by omega), hL0, Nat.sub_self]; rfl
           have e2 : (⟨st.ws ++ [0], st.labs, st.lat⟩ : Asm).ws.length = L0 + 1 := by simp [hL0]
           rw [e2] at hly
           simp only [e1] at hly
           have d17 : wc.cell? ⟨N7, 0, none⟩ = some (.func (.func 113) #[] #[ptr w2.heap.size, ptr w.heap.size, ptr N6]) := cell_of_row _ _ 0 _ _ _ H17
           clear hz hzc bc e1 e2
           replace hly := Lib.hid hly; replace H17 := Lib.hid H17; replace Kc := Lib.hid Kc
           go_upto_region 19 with fail
           try rw [hN7]
           try rw [hwc]
           clear hwc hN7
           go_wp2_with fail
           refine hly.out.mono ?_
           rintro e w7 ⟨rfl, h7, k7, _⟩
           have K7 := Kc.out.trans k7
           have H17b := k7.at_ H17.out (.inr (.inr (.inr (.inr (.inl rfl)))))
           have hix := fun W => idx_any (strS SL) 111 W
           have hi2 : Lib.indexByte (strS SL).data.toList (111 : Int).toNat.toUInt8 = ((k : Nat) : Int) := hidx.out.1.trans (by rw [hoA])
           rw [hi2] at hix
           clear k7 hly d17 Kc H17 kz hi2
           replace hix := Lib.hid hix; replace h7 := Lib.hid h7; replace K7 := Lib.hid K7; replace H17b := Lib.hid H17b
           go_wp2_with fail
           refine (hix.out _).mono ?_
           rintro e w8 ⟨rfl, hw8⟩
           rw [hw8]
           clear hw8 w8 hix
           have K17 := (Keep.below Ba.out).trans K7.out
           obtain ⟨o0, o1, o2⟩ := hOk.out w7 K17
           have hin := isnm_any (zs, zq, zc) w7
           unfold wV at hin
           dsimp only at hin
           rw [hnm] at hin
           replace hin := Lib.hid hin
           go_wp2_with fail
           refine hin.out.mono ?_
           rintro e w8 ⟨rfl, b3⟩
           have h8 := h7.out.later b3
           have K8 := K17.trans (Keep.below b3)
           have K78 := Keep.below b3
           clear b3 hin o0 o1 o2 h7 K17
           clear K8 K78
           replace h8 := Lib.hid h8
           go_wp2_with fail
           go_ret
           have hfin : RAt B w0 w8 R base ln ⟨st.ws ++ [encF cur], st.labs, st.lat⟩ := ⟨_, _, _, _, _, _, h8.out, hfl.out⟩
           exact ⟨rfl, by first | exact hfin | (simp only [List.append_nil]; exact hfin) | (simp only [hlm, List.append_nil]; exact hfin)⟩
          exact AllReadyH.nil
         exact AllReadyH.nil
        exact AllReadyH.nil
       refine AllReadyH.cons (o := _) rfl (fun K hK => ?step32) ?more32
       case step32 =>
        go_simp
        try dsimp only
        refine hK.out _ _ (hS.out _ kd9) (fun hHeld => ?_)
        clear hK K
        try simp only [Act.put, List.getElem_toArray, List.getElem_cons_succ, List.getElem_cons_zero, List.setIfInBounds_toArray, List.set_cons_zero, List.set_cons_succ]
        refine wpAnyH_ready (rs := [4]) (by kernel_rfl) (by simp) ?_
        refine AllReadyH.cons (o := _) rfl (fun K hK => ?step30) ?more30
        case step30 =>
         go_simp
         try dsimp only
         refine hK.out _ _ (hS.out _ kd9) (fun hHeld => ?_)
         clear hK K
         try simp only [Act.put, List.getElem_toArray, List.getElem_cons_succ, List.getElem_cons_zero, List.setIfInBounds_toArray, List.set_cons_zero, List.set_cons_succ]
         refine wpAnyH_ready (rs := [6]) (by kernel_rfl) (by simp) ?_
         refine AllReadyH.cons (o := _) rfl (fun K hK => ?step29) ?more29
         case step29 =>
          rw [if_pos (by rfl)]
          obtain ⟨v6, wd, hra, hoa, hOa⟩ := run_one B ((wa.alloc (.cells #[.int .u32 0] 22)).drew) (.slice aw L0 cw) L0 (wi st.ws) (by have h := hd.out.ws; rw [hL0] at h; exact h) wa.heap.size (.int .u32 0) _ rfl (by show (wa.alloc (.cells #[.int .u32 0] 22)).cell? ⟨wa.heap.size, 0, none⟩ = some (.int .u32 0); exact lit_new rfl rfl) (by omega) (by have := hd.out.hR; have := hd.out.lt; omega)
          obtain ⟨g, cap, hv6, g1, g2⟩ := hoa.form (by omega)
          subst hv6
          obtain ⟨hRk, hz⟩ := hd.out.words (l := [0]) hOa (by rw [hL0]; exact hoa)
          have kg : Keep wa wd := kd9.trans (Keep.grown hd.out.ws (capT_no (.inl rfl)) hOa.1)
          have hb6 := hRk.trans hd.out.blk
          have kz : Keep wa (wd.setCell ⟨R, 2, none⟩ (.slice (some ⟨g, 0, none⟩) (L0 + 1) cap)) := kg.trans (Keep.set hb6 (capT_no (.inr (.inr (.inr rfl)))))
          have x2 : wd.cell? ⟨R, 2, none⟩ = some (.slice aw L0 cw) := cell_of_row _ _ 2 _ _ _ hb6
          have x2f := frozen_of_row wd R 2 _ _ hb6
          refine Lib.wp_append_run _ _ _ _ _ rfl _ _ rfl rfl _ _ hra ?_
          clear hra hOa hoa hRk hb6
          replace hz := Lib.hid hz; replace kz := Lib.hid kz
          try dsimp only
          refine hK.out _ _ (hS.out _ kg) (fun hHeld => ?_)
          clear hK K
          try simp only [Act.put, List.getElem_toArray, List.getElem_cons_succ, List.getElem_cons_zero, List.setIfInBounds_toArray, List.set_cons_zero, List.set_cons_succ]
          refine wpAnyH_take (i := 7) (v := ?v26) rfl (by kernel_rfl) (by kernel_rfl) (by kernel_rfl) (fun _ _ _ h => h) (Or.inl ⟨by rfl, ?h26⟩) (by assumption) ?r26
          case h26 =>
           intro w' hSw
           try dsimp only at hSw
           go_simp
           try with_reducible rfl
          try simp only [Act.put, List.getElem_toArray, List.getElem_cons_succ, List.getElem_cons_zero, List.setIfInBounds_toArray, List.set_cons_zero, List.set_cons_succ]
          refine wpAnyH_take (i := 8) (v := ?v27) rfl (by kernel_rfl) (by kernel_rfl) (by kernel_rfl) (fun _ _ _ h => h) (Or.inl ⟨by rfl, ?h27⟩) (by assumption) ?r27
          case h27 =>
           intro w' hSw
           try dsimp only at hSw
           go_simp
           try with_reducible rfl
          try simp only [Act.put, List.getElem_toArray, List.getElem_cons_succ, List.getElem_cons_zero, List.setIfInBounds_toArray, List.set_cons_zero, List.set_cons_succ]
          refine wpAnyH_ready (rs := [9]) (by kernel_rfl) (by simp) ?_
          refine AllReadyH.cons (o := _) rfl (fun K hK => ?step28) ?more28
          case step28 =>
           go_simp
           try dsimp only
           refine hK.out _ _ (hS.out _ kz.out) (fun hHeld => ?_)
           clear hK K
           try simp only [Act.put, List.getElem_toArray, List.getElem_cons_succ, List.getElem_cons_zero, List.setIfInBounds_toArray, List.set_cons_zero, List.set_cons_succ]
           refine wpAnyH_done (by kernel_rfl) ?_ _
           obtain ⟨wb, hwb⟩ : ∃ wb, wd.setCell ⟨R, 2, none⟩ (.slice (some ⟨g, 0, none⟩) (L0 + 1) cap) = wb := ⟨_, rfl⟩
           rw [hwb] at hz kz
           try rw [hwb]
           clear hwb x2 x2f r2 r2a kg kd9 hS hd
           obtain ⟨N7, hN7⟩ : ∃ N, wb.heap.size = N := ⟨_, rfl⟩
           obtain ⟨wc, hwc⟩ : ∃ wc, wb.alloc (.cells #[.func (.func 113) #[] #[ptr w2.heap.size, ptr w.heap.size, ptr N6]] 1) = wc := ⟨_, rfl⟩
           have bc : Below wb.heap.size wb wc := by rw [← hwc]; exact (Below.refl _ _).alloc (Nat.le_refl _) _
           have H17 : wc.heap[N7]? = some (.cells #[.func (.func 113) #[] #[ptr w2.heap.size, ptr w.heap.size, ptr N6]] 1 (0, 0)) := by rw [← hwc, ← hN7]; exact heap_alloc_new wb _
           have Kc := kz.out.trans (Keep.below bc)
           have hmf : ∀ (fn : Fn) (first cap : Array Value) (w : World), (Instr.makeFunc fn first cap).run Tryz.prog w = .ok (.func fn first cap) w := fun _ _ _ _ => rfl
           have hstf : ∀ (fn : Fn) (first cap : Array Value) (a : Addr) (m : Mode) (W : World), (store a (.func fn first cap) m).run Tryz.prog W = stored Tryz.prog W a (.func fn first cap) m := fun _ _ _ _ _ _ => run_store _ _ _ _ _ rfl
           have hzc := hz.out.later bc
           have hly := lay_instr (st := ⟨st.ws ++ [0], st.labs, st.lat⟩) (g := g) (cap := cap) (by rw [show (⟨st.ws ++ [0], st.labs, st.lat⟩ : Asm).ws.length = L0 + 1 by simp [hL0]]; exact hzc) hE L0 w.heap.size N6 w2.heap.size cur (by show L0 < (st.ws ++ [0]).length; simp [hL0]) HS.out.m1 HS.out.m2 (Kc.at_ (Ka4.out) (.inl rfl)) (Kc.at_ H16.out (.inr (.inr (.inl rfl)))) (Kc.at_ HI6.out (.inr (.inr (.inr (.inl rfl)))))
           have e1 : (st.ws ++ [0]).set L0 (encF cur) = st.ws ++ [encF cur] := by rw [List.set_append_right _ _ (by omega), hL0, Nat.sub_self]; rfl
           have e2 : (⟨st.ws ++ [0], st.labs, st.lat⟩ : Asm).ws.length = L0 + 1 := by simp [hL0]
           rw [e2] at hly
           simp only [e1] at hly
           have d17 : wc.cell? ⟨N7, 0, none⟩ = some (.func (.func 113) #[] #[ptr w2.heap.size, ptr w.heap.size, ptr N6]) := cell_of_row _ _ 0 _ _ _ H17
           clear hz hzc bc e1 e2
           replace hly := Lib.hid hly; replace H17 := Lib.hid H17; replace Kc := Lib.hid Kc
           go_upto_region 19 with fail
           try rw [hN7]
           try rw [hwc]
           clear hwc hN7
           go_wp2_with fail
           refine hly.out.mono ?_
           rintro e w7 ⟨rfl, h7, k7, _⟩
           have K7 := Kc.out.trans k7
           have H17b := k7.at_ H17.out (.inr (.inr (.inr (.inr (.inl rfl)))))
           have hix := fun W => idx_any (strS SL) 111 W
           have hi2 : Lib.indexByte (strS SL).data.toList (111 : Int).toNat.toUInt8 = ((k : Nat) : Int) := hidx.out.1.trans (by rw [hoA])
           rw [hi2] at hix
           clear k7 hly d17 Kc H17 kz hi2
           replace hix := Lib.hid hix; replace h7 := Lib.hid h7; replace K7 := Lib.hid K7; replace H17b := Lib.hid H17b
           go_wp2_with fail
           refine (hix.out _).mono ?_
           rintro e w8 ⟨rfl, hw8⟩
           rw [hw8]
           clear hw8 w8 hix
           have K17 := (Keep.below Ba.out).trans K7.out
           obtain ⟨o0, o1, o2⟩ := hOk.out w7 K17
           have hin := isnm_any (zs, zq, zc) w7
           unfold wV at hin
           dsimp only at hin
           rw [hnm] at hin
           replace hin := Lib.hid hin
           go_wp2_with fail
           refine hin.out.mono ?_
           rintro e w8 ⟨rfl, b3⟩
           have h8 := h7.out.later b3
           have K8 := K17.trans (Keep.below b3)
           have K78 := Keep.below b3
           clear b3 hin o0 o1 o2 h7 K17
           clear K8 K78
           replace h8 := Lib.hid h8
           go_wp2_with fail
           go_ret
           have hfin : RAt B w0 w8 R base ln ⟨st.ws ++ [encF cur], st.labs, st.lat⟩ := ⟨_, _, _, _, _, _, h8.out, hfl.out⟩
           exact ⟨rfl, by first | exact hfin | (simp only [List.append_nil]; exact hfin) | (simp only [hlm, List.append_nil]; exact hfin)⟩
          exact AllReadyH.nil
         exact AllReadyH.nil
        exact AllReadyH.nil
       exact AllReadyH.nil
    | true =>
     have hlm : ∀ t p l, latM t p l (zs, zq, zc) = [⟨t, p, zs, l, zc⟩] := fun t p l => by unfold latM; rw [if_pos hnm]
     have hzq : zq = false := by unfold isNameF at hnm; simp at hnm; exact hnm.1
     subst hzq
     obtain ⟨c4, c5a, c5b, c5c⟩ := hW.out _ hrefl
     go_enter Tryz.func85, Tryz.ntmps85
     go_upto_region 1 with fail
     try rw [hw1]
     clear hw1
     go_wp2_with fail
     refine hrm.out.mono ?_
     rintro e w2 ⟨her, b2⟩
     obtain rfl : e = _ := her
     have h2 := h1.out.later b2
     clear c4 c5a c5b c5c hrm h1
     have hOne : (#[.int .i64 (op : Int), .int .i64 0, .int .i64 0, .int .i64 0, .int .i64 0, .int .i32 0] : Array Value).all (·.oneCell') = true := by simp [Value.oneCell']
     replace h2 := Lib.hid h2
     go_upto_region 5 with (refine wpList_store_whole rfl 92 _ _ rfl w2.heap.size #[.int .i64 (op : Int), .int .i64 0, .int .i64 0, .int .i64 0, .int .i64 0, .int .i32 0] rfl rfl 92 _ (heap_alloc_new w2 _) infoIns rfl hOne ?_; intro w3 hB3 g3)
     have b3 : Below w2.heap.size w2 w3 := ⟨g3.os, g3.tape, g3.output, by have := g3.size; simp at this; omega, fun k hk => (g3.block k (by simp; omega) (by simp; omega)).trans (heap_alloc_old w2 _ hk)⟩
     have hs3 : w2.heap.size + 1 ≤ w3.heap.size := by have := g3.size; simpa using this
     have hT3 := ((h2.out.later b3).env hE).tabs
     obtain ⟨w4, hw4⟩ : ∃ w4, w3.iter (strS SL) 0 = w4 := ⟨_, rfl⟩
     obtain ⟨I, hI⟩ : ∃ I, w3.heap.size = I := ⟨_, rfl⟩
     have hI0 : InLp w2.heap.size I w2 w4 { ins0 with op := (op : Int) } (strS SL) 0 := by
      refine ⟨?_, ?_, by omega, ?_, by show (-2147483648 : Int) ≤ 0; decide, by show (0 : Int) ≤ 2147483647; decide⟩
      ·rw [← hw4]; exact (heap_alloc_old w3 (.stringIter (strS SL) 0) (by omega)).trans hB3
      ·rw [← hw4, ← hI]; exact heap_alloc_new w3 (.stringIter (strS SL) 0)
      ·rw [← hw4]; exact b3.alloc (by omega) (.stringIter (strS SL) 0)
     have hs12 := b2.size
     replace hT3 := Lib.hid hT3; replace hI0 := Lib.hid hI0; replace b2 := Lib.hid b2
     clear b3 g3 hB3 hOne
     go_wp2_with fail
     refine (hsha.out _ hT3.out).mono ?_
     rintro e w5 ⟨rfl, hw5⟩
     rw [hw5]
     clear hw5 w5
     go_upto_region 7 with fail
     try rw [hw4]
     try rw [hI]
     go_loopw [12, 13, 14] (fun _ _ _ wr => ∃ (cur : Ins) (pos : Nat), InLp w2.heap.size I w2 wr cur (strS SL) pos ∧ pos ≤ SL.length ∧ fieldsM (SL.drop pos) (ops.drop pos) cur = F) (fun _ _ _ wl => SL.length - wl.iterPos I)
     case atStart => exact ⟨_, 0, hI0.out, Nat.zero_le _, hF.out⟩
     case round =>
      obtain ⟨wo, rfl⟩ : ∃ wo, wo = wr := ⟨wr, rfl⟩
      obtain ⟨cur, pos, hst0, hpl, hRs⟩ := hrel
      clear hI0 hF hT3 hw4
      have hpos0 := iterPos_of hst0.it
      by_cases hp : pos < SL.length
      ·obtain ⟨y, hy⟩ : ∃ y, SL[pos] = y := ⟨_, rfl⟩
       have hya : y.toNat < 128 := by rw [← hy]; exact hasc.out _ (List.getElem_mem hp)
       have hch := hlet.out y (by rw [← hy]; exact List.getElem_mem hp)
       have hys : (strS SL)[pos]'(by rw [hSz.out]; exact hp) = y := by rw [← hy]; rfl
       have hnx : ∀ ty, (Instr.next (.pointer (some ⟨I, 0, none⟩)) true ty).run Tryz.prog wo = .ok (.tuple #[.bool true, .int .i64 pos, .int .i32 y.toNat]) (wo.iterAt I (strS SL) (pos + 1)) := fun ty => by
        have := Lib.run_next_ascii_at (P := Tryz.prog) wo I (strS SL) pos ty hst0.it (by rw [hSz.out]; exact hp) (by rw [hys]; exact hya)
        rw [hys] at this; exact this
       have HS := hst0.next (pos + 1)
       have hdr : SL.drop pos = y :: SL.drop (pos + 1) := by rw [List.drop_eq_getElem_cons hp, hy]
       rw [hdr] at hRs
       obtain ⟨W1, hW1⟩ : ∃ W1, wo.iterAt I (strS SL) (pos + 1) = W1 := ⟨_, rfl⟩
       rw [hW1] at hnx HS
       clear hW1 hst0 hy hys hdr
       have hsz1 := HS.size
       have i0 : (0 : Int) ≤ (pos : Int) := by omega
       by_cases hpo : pos < ops.length
       ·obtain ⟨⟨xs, xq, xc⟩, hx⟩ : ∃ x, ops[pos]? = some x := ⟨_, List.getElem?_eq_getElem hpo⟩
        have hxe : ops[pos] = (xs, xq, xc) := (List.getElem?_eq_some_iff.1 hx).2
        have hxs : xs.size ≤ 1048576 := hsz.out _ (List.mem_of_getElem? hx)
        have hdo : ops.drop pos = (xs, xq, xc) :: ops.drop (pos + 1) := by rw [List.drop_eq_getElem_cons hpo, hxe]
        rw [hdo] at hRs
        obtain ⟨ao, oc, hv0, p1, p2, h3⟩ := hOp.out w1 hrefl
        simp only [Value.slice.injEq, true_and] at hv0; obtain ⟨rfl, rfl⟩ := hv0
        obtain ⟨ob, oo, ocs, hob0, hob, hoc⟩ := h3.resolve_left (fun h => by rw [h] at hpo; simp at hpo)
        simp only [Option.some.injEq, Addr.mk.injEq, and_true] at hob0; obtain ⟨rfl, rfl⟩ := hob0
        have hoblt := (Array.getElem?_eq_some_iff.1 hob).1
        obtain ⟨oa0, oa1, oa2⟩ := hoc pos _ hx
        have hbw1 : Below w1.heap.size w1 W1 := b2.out.trans (HS.below.mono (by omega))
        have hN1 : w1.heap.size ≤ w2.heap.size := hs12
        have hSf : ∀ W, (∀ j, j < W1.heap.size → j ≠ w2.heap.size → W.heap[j]? = W1.heap[j]?) → (fun w' : World => w'.cell? ⟨w.heap.size, 0, none⟩ = some (ptr R) ∧ w'.cell? ⟨pb, po + pos * 3, none⟩ = some (.string xs) ∧ w'.cell? ⟨pb, po + pos * 3 + 1, none⟩ = some (.bool xq) ∧ w'.cell? ⟨pb, po + pos * 3 + 2, none⟩ = some (.int .i64 (xc : Int))) W := fun W hW2 => by
         have e4 := ((hW2 w.heap.size (by have := hs1.out; omega) (by have := hs1.out; omega)).trans (hbw1.block _ (by have := hs1.out; omega))).trans H4.out
         have eo := ((hW2 pb (by omega) (by omega)).trans (hbw1.block _ hoblt)).trans hob
         exact ⟨cell_of_row _ _ 0 _ _ _ e4, (cell_of_row _ _ _ _ _ _ eo).trans oa0, (cell_of_row _ _ _ _ _ _ eo).trans oa1, (cell_of_row _ _ _ _ _ _ eo).trans oa2⟩
        have hRW : ∀ W, Below W1.heap.size W1 W → Below w2.heap.size w2 W := fun W hW2 => HS.below.trans (hW2.mono (by omega))
        have hfa : ∀ W, Below W1.heap.size W1 W → Calls Tryz.prog 111 #[ptr R, ptr w2.heap.size, .int .i32 (y.toNat : Int), .agg #[.string xs, .bool xq, .int .i64 (xc : Int)]] W fun e w' => FieldRes w2.heap.size ln xc w' e (fieldM cur y (xs, xq, xc)) ∧ But w2.heap.size W w' := fun W hW2 => by
         have hr := h2.out.later (hRW W hW2)
         exact field_any R ln w2.heap.size cur y (xs, xq, xc) W hch (hr.env hE) (by show xs.size ≤ _; omega) hr.c.2.1 ((hW2.block _ (by omega)).trans HS.ins)
        have hbd : ∀ j, fieldM cur y (xs, xq, xc) = some j → -2147483648 ≤ j.imm ∧ j.imm ≤ 2147483647 := fun j hj => field_imm hj HS.m1 HS.m2
        obtain ⟨L, hLo⟩ : ∃ L, ops.length = L := ⟨_, rfl⟩
        rw [hLo] at p1 ⊢
        have hpL : pos < L := by omega
        have g1 : decide ((pos : Int) ≥ (L : Int)) = false := decide_eq_false (by omega)
        have g2 : ¬ (L : Int) ≤ (pos : Int) := by omega
        have g3 : (pos : Int) < (L : Int) := by omega
        have hB0 : Below W1.heap.size W1 W1 := Below.refl _ _
        clear hob hoc oa0 oa1 oa2 h3 hx hxe hdo hpo
        replace hSf := Lib.hid hSf; replace hfa := Lib.hid hfa; replace HS := Lib.hid HS; replace hRW := Lib.hid hRW; replace hbw1 := Lib.hid hbw1; replace hbd := Lib.hid hbd; replace hLo := Lib.hid hLo
        cases hfm : fieldM cur y (xs, xq, xc) with
        | none =>
         have hFe : F = .inr xc := by rw [← hRs]; unfold fieldsM; rw [hfm]
         subst hFe
         rw [hfm] at hfa
         clear hRs hbd
         go_upto_region 10 with fail
         go_region_held3 (fun w' : World => w'.cell? ⟨w.heap.size, 0, none⟩ = some (ptr R) ∧ w'.cell? ⟨pb, po + pos * 3, none⟩ = some (.string xs) ∧ w'.cell? ⟨pb, po + pos * 3 + 1, none⟩ = some (.bool xq) ∧ w'.cell? ⟨pb, po + pos * 3 + 2, none⟩ = some (.int .i64 (xc : Int)))
          (first | exact hSf.out _ (fun j hj _ => hB0.block j hj) | exact hSf.out _ (fun j hj hn => hbut.block j hj hn))
          (first
          | (go_at_call 111
             refine (hfa.out _ (by first | with_reducible exact hB0 | with_reducible exact hB0.drew)).mono ?_
             rintro e w5 ⟨⟨fv, rfl, hft⟩, hbut⟩))
         obtain ⟨gf, rfl, hgf⟩ := hft
         have hb5 := (hRW.out _ hB0.drew).trans (hbut.below (Nat.le_refl _) (by have := hsz1.1; simp only [World.drew]; omega))
         have hfin := h2.out.below.trans (hb5.mono (by have := h2.out.hR; have := h2.out.lt; omega))
         clear hbut hb5
         replace hgf := Lib.hid hgf; replace hfin := Lib.hid hfin
         go_wp2_with fail
         go_ret
         exact ⟨⟨_, rfl, ⟨_, rfl, hgf.out⟩⟩, hfin.out⟩
        | some j =>
         rw [fieldsM, hfm] at hRs
         simp only at hRs
         rw [hfm] at hfa
         obtain ⟨m1, m2⟩ := hbd.out j hfm
         replace hRs := Lib.hid hRs
         clear hbd hfm
         go_upto_region 10 with fail
         go_region_held3 (fun w' : World => w'.cell? ⟨w.heap.size, 0, none⟩ = some (ptr R) ∧ w'.cell? ⟨pb, po + pos * 3, none⟩ = some (.string xs) ∧ w'.cell? ⟨pb, po + pos * 3 + 1, none⟩ = some (.bool xq) ∧ w'.cell? ⟨pb, po + pos * 3 + 2, none⟩ = some (.int .i64 (xc : Int)))
          (first | exact hSf.out _ (fun j hj _ => hB0.block j hj) | exact hSf.out _ (fun j hj hn => hbut.block j hj hn))
          (first
          | (go_at_call 111
             refine (hfa.out _ (by first | with_reducible exact hB0 | with_reducible exact hB0.drew)).mono ?_
             rintro e w5 ⟨⟨rfl, hins⟩, hbut⟩))
         have HS5 := (⟨HS.out.ins, HS.out.it, HS.out.lt, HS.out.below.drew, HS.out.m1, HS.out.m2⟩ : InLp w2.heap.size I w2 W1.drew cur (strS SL) (pos + 1)).but hbut hins m1 m2
         clear hbut hins
         replace HS5 := Lib.hid HS5
         go_wp2_with fail
         go_roundw
         case rel => exact ⟨j, pos + 1, HS5.out, by omega, hRs.out⟩
         case measure => rw [iterPos_of HS5.out.it, hpos0]; omega
       ·
        exfalso; have := hleq.out; omega
      ·obtain rfl : pos = SL.length := by omega
       have hnx : ∀ ty, (Instr.next (.pointer (some ⟨I, 0, none⟩)) true ty).run Tryz.prog wo = .ok (.tuple #[.bool false]) wo := fun ty => Lib.run_next_end_at wo _ (strS SL) SL.length ty hst0.it (by rw [hSz.out]; omega)
       have hFe : F = .inl cur := by
        rw [← hRs, List.drop_eq_nil_of_le (Nat.le_refl _)]
        cases ops.drop SL.length <;> rfl
       subst hFe
       clear hRs
       have HS := hst0
       clear hst0
       obtain ⟨L, hLo⟩ : ∃ L, ops.length = L := ⟨_, rfl⟩
       have k2 : (k : Int) < (L : Int) := by omega
       rw [hLo] at pp1 ⊢
       have hrx := h2.out.later HS.below
       have bwx := b2.out.trans (HS.below.mono hs12)
       obtain ⟨c4, c5a, c5b, c5c⟩ := hW.out _ bwx
       have hct := count_any R ln (ns, nq, nc) _ ops (strS SL).size wo hrx.c.2.1 (hOp.out _ bwx) (by rw [hSz.out]; have := hlen; omega)
       unfold wV at hct
       dsimp only at hct
       rw [hSz.out, hcm] at hct
       have hsz2 : ((SL.length : Nat) : Int) = ((strS SL).size : Int) := by rw [hSz.out]
       rw [hsz2] at hct
       rw [hLo] at hct
       replace hct := Lib.hid hct; replace bwx := Lib.hid bwx; replace HS := Lib.hid HS
       clear hsz2
       go_wp2_with fail
       refine hct.out.mono ?_
       rintro e w5 ⟨her, b5⟩
       clear c4 c5a c5b c5c hct
       obtain rfl : e = _ := her
       have h5 := hrx.later b5
       have B5 := bwx.out.trans (b5.mono bwx.out.size)
       have HI5 := (b5.block _ (by have := HS.out.size.1; omega)).trans HS.out.ins
       clear b5 hrx bwx
       obtain ⟨N6, hN6⟩ : ∃ N, w5.heap.size = N := ⟨_, rfl⟩
       obtain ⟨wa, hwa⟩ : ∃ wa, w5.alloc (.cells #[.int .i64 (L0 : Int)] 3) = wa := ⟨_, rfl⟩
       have ba : Below w5.heap.size w5 wa := by rw [← hwa]; exact (Below.refl _ _).alloc (Nat.le_refl _) _
       have H16 : wa.heap[N6]? = some (.cells #[.int .i64 (L0 : Int)] 3 (0, 0)) := by rw [← hwa, ← hN6]; exact heap_alloc_new w5 _
       have Ba := B5.trans (ba.mono B5.size)
       obtain ⟨c4, _, _, _⟩ := hW.out w5 B5
       have rr2 := h5.c.2.2.1
       have ha := h5.later ba
       have HI6 := (Keep.below ba).at_ HI5 (.inr (.inr (.inr (.inl rfl))))
       have Ka4 := (Ba.block _ (by have := hs1.out; omega)).trans H4.out
       have bd9 : Below wa.heap.size wa ((wa.alloc (.cells #[.int .u32 0] 22)).drew) := ((Below.refl _ _).alloc (Nat.le_refl _) _).drew
       have kd9 := Keep.below bd9
       have hd := ha.later bd9
       have r2 : wa.cell? ⟨R, 2, none⟩ = some (.slice aw L0 cw) := ha.c.2.2.1
       have r2a : ∀ o, (wa.alloc o).cell? ⟨R, 2, none⟩ = some (.slice aw L0 cw) := fun o => cell_alloc_up r2
       have hS : ∀ W, Keep wa W → (fun w' : World => w'.cell? ⟨w.heap.size, 0, none⟩ = some (ptr R)) W := fun W hW2 => cell_of_row _ _ 0 _ _ _ (hW2.at_ Ka4 (.inl rfl))
       clear ba bd9 ha B5 h5 HI5
       replace H16 := Lib.hid H16; replace Ba := Lib.hid Ba; replace HI6 := Lib.hid HI6; replace Ka4 := Lib.hid Ka4; replace hd := Lib.hid hd; replace hS := Lib.hid hS
       go_upto_region 17 with fail
       try rw [hN6]
       try rw [hwa]
       clear c4 rr2 hwa hN6
       refine wp_region_held_drew (S := (fun w' : World => w'.cell? ⟨w.heap.size, 0, none⟩ = some (ptr R))) (by kernel_rfl) (hS.out _ (Keep.below (Below.refl _ wa).drew)) (fun hHeld => ?_)
       refine wpAnyH_take (i := 0) (v := ?v33) rfl (by kernel_rfl) (by kernel_rfl) (by kernel_rfl) (fun _ _ _ h => h) (Or.inl ⟨by rfl, ?h33⟩) (by assumption) ?r33
       case h33 =>
        intro w' hSw
        try dsimp only at hSw
        go_simp
        try with_reducible rfl
       try simp only [Act.put, List.getElem_toArray, List.getElem_cons_succ, List.getElem_cons_zero, List.setIfInBounds_toArray, List.set_cons_zero, List.set_cons_succ]
       refine wpAnyH_take (i := 1) (v := ?v34) rfl (by kernel_rfl) (by kernel_rfl) (by kernel_rfl) (fun _ _ _ h => h) (Or.inl ⟨by rfl, ?h34⟩) (by assumption) ?r34
       case h34 =>
        intro w' hSw
        try dsimp only at hSw
        go_simp
        try with_reducible rfl
       try simp only [Act.put, List.getElem_toArray, List.getElem_cons_succ, List.getElem_cons_zero, List.setIfInBounds_toArray, List.set_cons_zero, List.set_cons_succ]
       refine wpAnyH_take (i := 2) (v := ?v35) rfl (by kernel_rfl) (by kernel_rfl) (by kernel_rfl) (fun _ _ _ h => h) (Or.inl ⟨by rfl, ?h35⟩) (by assumption) ?r35
       case h35 =>
        intro w' hSw
        try dsimp only at hSw
        go_simp
        try with_reducible rfl
       try simp only [Act.put, List.getElem_toArray, List.getElem_cons_succ, List.getElem_cons_zero, List.setIfInBounds_toArray, List.set_cons_zero, List.set_cons_succ]
       refine wpAnyH_take (i := 3) (v := ?v36) rfl (by kernel_rfl) (by kernel_rfl) (by kernel_rfl) (fun _ _ _ h => h) (Or.inl ⟨by rfl, ?h36⟩) (by assumption) ?r36
       case h36 =>
        intro w' hSw
        try dsimp only at hSw
        go_simp
        try with_reducible rfl
       try simp only [Act.put, List.getElem_toArray, List.getElem_cons_succ, List.getElem_cons_zero, List.setIfInBounds_toArray, List.set_cons_zero, List.set_cons_succ]
       refine wpAnyH_ready (rs := [4, 5]) (by kernel_rfl) (by simp) ?_
       refine AllReadyH.cons (o := _) rfl (fun K hK => ?step115) ?more115
       case step115 =>
        go_simp
        try dsimp only
        refine hK.out _ _ (hS.out _ (Keep.below (Below.refl _ wa).drew)) (fun hHeld => ?_)
        clear hK K
        try simp only [Act.put, List.getElem_toArray, List.getElem_cons_succ, List.getElem_cons_zero, List.setIfInBounds_toArray, List.set_cons_zero, List.set_cons_succ]
        refine wpAnyH_ready (rs := [5]) (by kernel_rfl) (by simp) ?_
        refine AllReadyH.cons (o := _) rfl (fun K hK => ?step75) ?more75
        case step75 =>
         go_simp
         try dsimp only
         refine hK.out _ _ (hS.out _ kd9) (fun hHeld => ?_)
         clear hK K
         try simp only [Act.put, List.getElem_toArray, List.getElem_cons_succ, List.getElem_cons_zero, List.setIfInBounds_toArray, List.set_cons_zero, List.set_cons_succ]
         refine wpAnyH_ready (rs := [6]) (by kernel_rfl) (by simp) ?_
         refine AllReadyH.cons (o := _) rfl (fun K hK => ?step74) ?more74
         case step74 =>
          rw [if_pos (by rfl)]
          obtain ⟨v6, wd, hra, hoa, hOa⟩ := run_one B ((wa.alloc (.cells #[.int .u32 0] 22)).drew) (.slice aw L0 cw) L0 (wi st.ws) (by have h := hd.out.ws; rw [hL0] at h; exact h) wa.heap.size (.int .u32 0) _ rfl (by show (wa.alloc (.cells #[.int .u32 0] 22)).cell? ⟨wa.heap.size, 0, none⟩ = some (.int .u32 0); exact lit_new rfl rfl) (by omega) (by have := hd.out.hR; have := hd.out.lt; omega)
          obtain ⟨g, cap, hv6, g1, g2⟩ := hoa.form (by omega)
          subst hv6
          obtain ⟨hRk, hz⟩ := hd.out.words (l := [0]) hOa (by rw [hL0]; exact hoa)
          have kg : Keep wa wd := kd9.trans (Keep.grown hd.out.ws (capT_no (.inl rfl)) hOa.1)
          have hb6 := hRk.trans hd.out.blk
          have kz : Keep wa (wd.setCell ⟨R, 2, none⟩ (.slice (some ⟨g, 0, none⟩) (L0 + 1) cap)) := kg.trans (Keep.set hb6 (capT_no (.inr (.inr (.inr rfl)))))
          have x2 : wd.cell? ⟨R, 2, none⟩ = some (.slice aw L0 cw) := cell_of_row _ _ 2 _ _ _ hb6
          have x2f := frozen_of_row wd R 2 _ _ hb6
          refine Lib.wp_append_run _ _ _ _ _ rfl _ _ rfl rfl _ _ hra ?_
          clear hra hOa hoa hRk hb6
          replace hz := Lib.hid hz; replace kz := Lib.hid kz
          try dsimp only
          refine hK.out _ _ (hS.out _ kg) (fun hHeld => ?_)
          clear hK K
          try simp only [Act.put, List.getElem_toArray, List.getElem_cons_succ, List.getElem_cons_zero, List.setIfInBounds_toArray, List.set_cons_zero, List.set_cons_succ]
          refine wpAnyH_take (i := 7) (v := ?v37) rfl (by kernel_rfl) (by kernel_rfl) (by kernel_rfl) (fun _ _ _ h => h) (Or.inl ⟨by rfl, ?h37⟩) (by assumption) ?r37
          case h37 =>
           intro w' hSw
           try dsimp only at hSw
           go_simp
           try with_reducible rfl
          try simp only [Act.put, List.getElem_toArray, List.getElem_cons_succ, List.getElem_cons_zero, List.setIfInBounds_toArray, List.set_cons_zero, List.set_cons_succ]
          refine wpAnyH_take (i := 8) (v := ?v38) rfl (by kernel_rfl) (by kernel_rfl) (by kernel_rfl) (fun _ _ _ h => h) (Or.inl ⟨by rfl, ?h38⟩) (by assumption) ?r38
          case h38 =>
           intro w' hSw
           try dsimp only at hSw
           go_simp
           try with_reducible rfl
          try simp only [Act.put, List.getElem_toArray, List.getElem_cons_succ, List.getElem_cons_zero, List.setIfInBounds_toArray, List.set_cons_zero, List.set_cons_succ]
          refine wpAnyH_ready (rs := [9]) (by kernel_rfl) (by simp) ?_
          refine AllReadyH.cons (o := _) rfl (fun K hK => ?step73) ?more73
          case step73 =>
           go_simp
           try dsimp only
           refine hK.out _ _ (hS.out _ kz.out) (fun hHeld => ?_)
           clear hK K
           try simp only [Act.put, List.getElem_toArray, List.getElem_cons_succ, List.getElem_cons_zero, List.setIfInBounds_toArray, List.set_cons_zero, List.set_cons_succ]
           refine wpAnyH_done (by kernel_rfl) ?_ _
           obtain ⟨wb, hwb⟩ : ∃ wb, wd.setCell ⟨R, 2, none⟩ (.slice (some ⟨g, 0, none⟩) (L0 + 1) cap) = wb := ⟨_, rfl⟩
           rw [hwb] at hz kz
           try rw [hwb]
           clear hwb x2 x2f r2 r2a kg kd9 hS hd
           obtain ⟨N7, hN7⟩ : ∃ N, wb.heap.size = N := ⟨_, rfl⟩
           obtain ⟨wc, hwc⟩ : ∃ wc, wb.alloc (.cells #[.func (.func 113) #[] #[ptr w2.heap.size, ptr w.heap.size, ptr N6]] 1) = wc := ⟨_, rfl⟩
           have bc : Below wb.heap.size wb wc := by rw [← hwc]; exact (Below.refl _ _).alloc (Nat.le_refl _) _
           have H17 : wc.heap[N7]? = some (.cells #[.func (.func 113) #[] #[ptr w2.heap.size, ptr w.heap.size, ptr N6]] 1 (0, 0)) := by rw [← hwc, ← hN7]; exact heap_alloc_new wb _
           have Kc := kz.out.trans (Keep.below bc)
           have hmf : ∀ (fn : Fn) (first cap : Array Value) (w : World), (Instr.makeFunc fn first cap).run Tryz.prog w = .ok (.func fn first cap) w := fun _ _ _ _ => rfl
           have hstf : ∀ (fn : Fn) (first cap : Array Value) (a : Addr) (m : Mode) (W : World), (store a (.func fn first cap) m).run Tryz.prog W = stored Tryz.prog W a (.func fn first cap) m := fun _ _ _ _ _ _ => run_store _ _ _ _ _ rfl
           have hzc := hz.out.later bc
           have hly := lay_instr (st := ⟨st.ws ++ [0], st.labs, st.lat⟩) (g := g) (cap := cap) (by rw [show (⟨st.ws ++ [0], st.labs, st.lat⟩ : Asm).ws.length = L0 + 1 by simp [hL0]]; exact hzc) hE L0 w.heap.size N6 w2.heap.size cur (by show L0 < (st.ws ++ [0]).length; simp [hL0]) HS.out.m1 HS.out.m2 (Kc.at_ (Ka4.out) (.inl rfl)) (Kc.at_ H16.out (.inr (.inr (.inl rfl)))) (Kc.at_ HI6.out (.inr (.inr (.inr (.inl rfl)))))
           have e1 : (st.ws ++ [0]).set L0 (encF cur) = st.ws ++ [encF cur] := by rw [List.set_append_right _ _ (by omega), hL0, Nat.sub_self]; rfl
           have e2 : (⟨st.ws ++ [0], st.labs, st.lat⟩ : Asm).ws.length = L0 + 1 := by simp [hL0]
           rw [e2] at hly
           simp only [e1] at hly
           have d17 : wc.cell? ⟨N7, 0, none⟩ = some (.func (.func 113) #[] #[ptr w2.heap.size, ptr w.heap.size, ptr N6]) := cell_of_row _ _ 0 _ _ _ H17
           clear hz hzc bc e1 e2
           replace hly := Lib.hid hly; replace H17 := Lib.hid H17; replace Kc := Lib.hid Kc
           go_upto_region 19 with fail
           try rw [hN7]
           try rw [hwc]
           clear hwc hN7
           go_wp2_with fail
           refine hly.out.mono ?_
           rintro e w7 ⟨rfl, h7, k7, _⟩
           have K7 := Kc.out.trans k7
           have H17b := k7.at_ H17.out (.inr (.inr (.inr (.inr (.inl rfl)))))
           have hix := fun W => idx_any (strS SL) 111 W
           have hi2 : Lib.indexByte (strS SL).data.toList (111 : Int).toNat.toUInt8 = ((k : Nat) : Int) := hidx.out.1.trans (by rw [hoA])
           rw [hi2] at hix
           clear k7 hly d17 Kc H17 kz hi2
           replace hix := Lib.hid hix; replace h7 := Lib.hid h7; replace K7 := Lib.hid K7; replace H17b := Lib.hid H17b
           go_wp2_with fail
           refine (hix.out _).mono ?_
           rintro e w8 ⟨rfl, hw8⟩
           rw [hw8]
           clear hw8 w8 hix
           have K17 := (Keep.below Ba.out).trans K7.out
           obtain ⟨o0, o1, o2⟩ := hOk.out w7 K17
           have hin := isnm_any (zs, false, zc) w7
           unfold wV at hin
           dsimp only at hin
           rw [hnm] at hin
           replace hin := Lib.hid hin
           go_wp2_with fail
           refine hin.out.mono ?_
           rintro e w8 ⟨rfl, b3⟩
           have h8 := h7.out.later b3
           have K8 := K17.trans (Keep.below b3)
           have K78 := Keep.below b3
           clear b3 hin o0 o1 o2 h7 K17
           obtain ⟨o0, o1, o2⟩ := hOk.out w8 K8
           have c4 : w8.cell? ⟨w.heap.size, 0, none⟩ = some (ptr R) := cell_of_row _ _ 0 _ _ _ (K8.at_ H4.out (.inl rfl))
           have r1 := h8.c.2.1
           replace h8 := Lib.hid h8
           have q1 : ∀ o, (w8.alloc o).cell? ⟨w.heap.size, 0, none⟩ = some (ptr R) := fun o => cell_alloc_up c4
           have q2 : ∀ o o', ((w8.alloc o).alloc o').cell? ⟨w.heap.size, 0, none⟩ = some (ptr R) := fun o o' => cell_alloc_up (cell_alloc_up c4)
           have q3 : ∀ o, (w8.alloc o).cell? ⟨R, 1, none⟩ = some (.int .i64 (ln : Int)) := fun o => cell_alloc_up r1
           have q4 : ∀ o o', ((w8.alloc o).alloc o').cell? ⟨R, 1, none⟩ = some (.int .i64 (ln : Int)) := fun o o' => cell_alloc_up (cell_alloc_up r1)
           have q5 : ∀ o, (w8.alloc o).cell? ⟨pb, po + k * 3, none⟩ = some (.string zs) := fun o => cell_alloc_up o0
           have q6 : ∀ o o', ((w8.alloc o).alloc o').cell? ⟨pb, po + k * 3, none⟩ = some (.string zs) := fun o o' => cell_alloc_up (cell_alloc_up o0)
           have q7 : ∀ o, (w8.alloc o).cell? ⟨pb, po + k * 3 + 1, none⟩ = some (.bool false) := fun o => cell_alloc_up o1
           have q8 : ∀ o o', ((w8.alloc o).alloc o').cell? ⟨pb, po + k * 3 + 1, none⟩ = some (.bool false) := fun o o' => cell_alloc_up (cell_alloc_up o1)
           have q9 : ∀ o, (w8.alloc o).cell? ⟨pb, po + k * 3 + 2, none⟩ = some (.int .i64 (zc : Int)) := fun o => cell_alloc_up o2
           have q10 : ∀ o o', ((w8.alloc o).alloc o').cell? ⟨pb, po + k * 3 + 2, none⟩ = some (.int .i64 (zc : Int)) := fun o o' => cell_alloc_up (cell_alloc_up o2)
           go_upto_region 22 with fail
           go_region
           ·
            obtain ⟨wc9, hwc⟩ : ∃ wc, ((w8.alloc (.cells #[.string zs, .bool false, .int .i64 (zc : Int)] 152)).alloc (.cells #[.int .i64 (ln : Int)] 3)).drew = wc := ⟨_, rfl⟩
            have bc : Below w8.heap.size w8 wc9 := by rw [← hwc]; exact (((Below.refl _ _).alloc (Nat.le_refl _) _).alloc (by simp) _).drew
            have hbw : wc9.heap[w8.heap.size]? = some (.cells #[.string zs, .bool false, .int .i64 (zc : Int)] 152 (0, 0)) := by rw [← hwc]; exact (heap_alloc_old _ _ (by simp)).trans (heap_alloc_new w8 _)
            have hbl : wc9.heap[w8.heap.size + 1]? = some (.cells #[.int .i64 (ln : Int)] 3 (0, 0)) := by rw [← hwc]; exact (congrArg (fun k => _[k]?) (by simp)).trans (heap_alloc_new (w8.alloc _) _)
            try rw [hwc]
            clear hwc q1 q2 q3 q4 q5 q6 q7 q8 q9 q10 o0 o1 o2 c4 r1
            have h9 := (h8.out.later bc).later ((Below.refl _ wc9).drew)
            have K9 := K8.trans (Keep.below bc)
            have K79 := K7.out.trans (K78.trans (Keep.below bc))
            have H49 := K9.at_ H4.out (.inl rfl)
            have H69 := K79.at_ H16.out (.inr (.inr (.inl rfl)))
            have HI9 := K79.at_ HI6.out (.inr (.inr (.inr (.inl rfl))))
            have H79 := (K78.trans (Keep.below bc)).at_ H17b.out (.inr (.inr (.inr (.inr (.inl rfl)))))
            have hS9 : ∀ W, Keep wc9 W → (fun w' : World => w'.cell? ⟨w.heap.size, 0, none⟩ = some (ptr R)) W := fun W hW2 => cell_of_row _ _ 0 _ _ _ (hW2.at_ H49 (.inl rfl))
            obtain ⟨F9, hF9⟩ : ∃ F, Value.func (.func 115) #[] #[ptr w.heap.size, ptr (w8.heap.size), ptr (w8.heap.size + 1), ptr N6, ptr w2.heap.size, ptr N7] = F := ⟨_, rfl⟩
            have hpe : ∀ W, Keep wc9 W → Pend W R w2.heap.size F9 ⟨.jmp cur, L0, zs, ln, zc⟩ := fun W hW2 =>
             ⟨w.heap.size, _, _, N6, N7, hF9.symm, hW2.at_ H49 (.inl rfl), hW2.at_ hbw (.inr (.inl rfl)), hW2.at_ hbl (.inr (.inr (.inl rfl))), hW2.at_ H69 (.inr (.inr (.inl rfl))), hW2.at_ HI9 (.inr (.inr (.inr (.inl rfl)))), hW2.at_ H79 (.inr (.inr (.inr (.inr (.inl rfl)))))⟩
            have r5 : wc9.cell? ⟨R, 5, none⟩ = some vf := h9.c.2.2.2.2.2
            have r5a : ∀ o, (wc9.alloc o).cell? ⟨R, 5, none⟩ = some vf := fun o => cell_alloc_up r5
            have bd9 : Below wc9.heap.size wc9 ((wc9.alloc (.cells #[F9] 118)).drew) := ((Below.refl _ _).alloc (Nat.le_refl _) _).drew
            have kd9 := Keep.below bd9
            have hd9 := (h8.out.later bc).later bd9
            have hmf : ∀ (fn : Fn) (first cap : Array Value) (w : World), (Instr.makeFunc fn first cap).run Tryz.prog w = .ok (.func fn first cap) w := fun _ _ _ _ => rfl
            clear bd9 K9 K79 H69 H79
            replace hF9 := Lib.hid hF9; replace h9 := Lib.hid h9; replace HI9 := Lib.hid HI9; replace hS9 := Lib.hid hS9; replace hpe := Lib.hid hpe; replace hbw := Lib.hid hbw; replace hbl := Lib.hid hbl; replace H49 := Lib.hid H49
            go_upto_region 23 with fail
            refine wp_region_held_drew (S := (fun w' : World => w'.cell? ⟨w.heap.size, 0, none⟩ = some (ptr R))) (by kernel_rfl) (hS9.out _ (Keep.below (Below.refl _ wc9).drew)) (fun hHeld => ?_)
            refine wpAnyH_take (i := 0) (v := ?v49) rfl (by kernel_rfl) (by kernel_rfl) (by kernel_rfl) (fun _ _ _ h => h) (Or.inl ⟨by rfl, ?h49⟩) (by assumption) ?r49
            case h49 =>
             intro w' hSw
             try dsimp only at hSw
             go_simp
             try with_reducible rfl
            try simp only [Act.put, List.getElem_toArray, List.getElem_cons_succ, List.getElem_cons_zero, List.setIfInBounds_toArray, List.set_cons_zero, List.set_cons_succ]
            refine wpAnyH_take (i := 1) (v := ?v50) rfl (by kernel_rfl) (by kernel_rfl) (by kernel_rfl) (fun _ _ _ h => h) (Or.inl ⟨by rfl, ?h50⟩) (by assumption) ?r50
            case h50 =>
             intro w' hSw
             try dsimp only at hSw
             go_simp
             try with_reducible rfl
            try simp only [Act.put, List.getElem_toArray, List.getElem_cons_succ, List.getElem_cons_zero, List.setIfInBounds_toArray, List.set_cons_zero, List.set_cons_succ]
            refine wpAnyH_take (i := 2) (v := ?v51) rfl (by kernel_rfl) (by kernel_rfl) (by kernel_rfl) (fun _ _ _ h => h) (Or.inl ⟨by rfl, ?h51⟩) (by assumption) ?r51
            case h51 =>
             intro w' hSw
             try dsimp only at hSw
             go_simp
             try with_reducible rfl
            try simp only [Act.put, List.getElem_toArray, List.getElem_cons_succ, List.getElem_cons_zero, List.setIfInBounds_toArray, List.set_cons_zero, List.set_cons_succ]
            refine wpAnyH_take (i := 3) (v := ?v52) rfl (by kernel_rfl) (by kernel_rfl) (by kernel_rfl) (fun _ _ _ h => h) (Or.inl ⟨by rfl, ?h52⟩) (by assumption) ?r52
            case h52 =>
             intro w' hSw
             try dsimp only at hSw
             go_simp
             try with_reducible rfl
            try simp only [Act.put, List.getElem_toArray, List.getElem_cons_succ, List.getElem_cons_zero, List.setIfInBounds_toArray, List.set_cons_zero, List.set_cons_succ]
            refine wpAnyH_take (i := 5) (v := ?v53) rfl (by kernel_rfl) (by kernel_rfl) (by kernel_rfl) (fun _ _ _ h => h) (Or.inl ⟨by rfl, ?h53⟩) (by assumption) ?r53
            case h53 =>
             intro w' hSw
             try dsimp only at hSw
             go_simp
             try with_reducible rfl
            try simp only [Act.put, List.getElem_toArray, List.getElem_cons_succ, List.getElem_cons_zero, List.setIfInBounds_toArray, List.set_cons_zero, List.set_cons_succ]
            refine wpAnyH_ready (rs := [4, 6]) (by kernel_rfl) (by simp) ?_
            refine AllReadyH.cons (o := _) rfl (fun K hK => ?step54) ?more54
            case step54 =>
             go_simp
             try dsimp only
             refine hK.out _ _ (hS9.out _ (Keep.below (Below.refl _ wc9).drew)) (fun hHeld => ?_)
             clear hK K
             try simp only [Act.put, List.getElem_toArray, List.getElem_cons_succ, List.getElem_cons_zero, List.setIfInBounds_toArray, List.set_cons_zero, List.set_cons_succ]
             refine wpAnyH_ready (rs := [6]) (by kernel_rfl) (by simp) ?_
             refine AllReadyH.cons (o := _) rfl (fun K hK => ?step43) ?more43
             case step43 =>
              go_simp
              try rw [hF9.out]
              try dsimp only
              refine hK.out _ _ (hS9.out _ kd9) (fun hHeld => ?_)
              clear hK K
              try simp only [Act.put, List.getElem_toArray, List.getElem_cons_succ, List.getElem_cons_zero, List.setIfInBounds_toArray, List.set_cons_zero, List.set_cons_succ]
              refine wpAnyH_ready (rs := [7]) (by kernel_rfl) (by simp) ?_
              refine AllReadyH.cons (o := _) rfl (fun K hK => ?step42) ?more42
              case step42 =>
               rw [if_pos (by rfl)]
               obtain ⟨v9, wd9, hra, hoa, hOa⟩ := run_wait B ((wc9.alloc (.cells #[F9] 118)).drew) vf fs.length fs hd9.lat wc9.heap.size F9 _ (by rw [← hF9.out]; rfl) (by show (wc9.alloc (.cells #[F9] 118)).cell? ⟨wc9.heap.size, 0, none⟩ = some F9; exact lit_new rfl rfl) (by rw [hfl.out]; omega) (by have := hd9.hR; have := hd9.lt; omega)
               have hp : Pend ((wc9.alloc (.cells #[F9] 118)).drew) R w2.heap.size F9 ⟨.jmp cur, L0, zs, ln, zc⟩ := hpe.out _ kd9
               obtain ⟨hRk, hz⟩ := hd9.wait (x := ⟨.jmp cur, L0, zs, ln, zc⟩) (b := w2.heap.size) hOa hfl.out (by show wd9.ownsRow B _ 1 v9 (st.lat.length + 1) (fs ++ [F9]); rw [← hfl.out]; exact hoa) ⟨by have := hbsN.out.1; have := hs1.out; omega, fun c hc => by have := hbsN.out.2 c hc; have := hs1.out; omega⟩ (by have := (Array.getElem?_eq_some_iff.1 (kd9.at_ HI9.out (.inr (.inr (.inr (.inl rfl)))))).1; exact this) hp
               have kg : Keep wc9 wd9 := kd9.trans (Keep.grown hd9.lat (capT_no (.inr (.inr (.inl rfl)))) hOa.1)
               have hb6 := hRk.trans hd9.blk
               have kz : Keep wc9 (wd9.setCell ⟨R, 5, none⟩ v9) := kg.trans (Keep.set hb6 (capT_no (.inr (.inr (.inr rfl)))))
               have x5 : wd9.cell? ⟨R, 5, none⟩ = some vf := cell_of_row _ _ 5 _ _ _ hb6
               have x5f := frozen_of_row wd9 R 5 _ _ hb6
               obtain ⟨ao9, ca9, rfl, _, _⟩ := own_shape hoa
               refine Lib.wp_append_run _ _ _ _ _ rfl _ _ rfl rfl _ _ hra ?_
               clear hra hOa hoa hRk hb6 hp
               replace hz := Lib.hid hz; replace kz := Lib.hid kz
               try dsimp only
               refine hK.out _ _ (hS9.out _ kg) (fun hHeld => ?_)
               clear hK K
               try simp only [Act.put, List.getElem_toArray, List.getElem_cons_succ, List.getElem_cons_zero, List.setIfInBounds_toArray, List.set_cons_zero, List.set_cons_succ]
               refine wpAnyH_take (i := 8) (v := ?v39) rfl (by kernel_rfl) (by kernel_rfl) (by kernel_rfl) (fun _ _ _ h => h) (Or.inl ⟨by rfl, ?h39⟩) (by assumption) ?r39
               case h39 =>
                intro w' hSw
                try dsimp only at hSw
                go_simp
                try with_reducible rfl
               try simp only [Act.put, List.getElem_toArray, List.getElem_cons_succ, List.getElem_cons_zero, List.setIfInBounds_toArray, List.set_cons_zero, List.set_cons_succ]
               refine wpAnyH_take (i := 9) (v := ?v40) rfl (by kernel_rfl) (by kernel_rfl) (by kernel_rfl) (fun _ _ _ h => h) (Or.inl ⟨by rfl, ?h40⟩) (by assumption) ?r40
               case h40 =>
                intro w' hSw
                try dsimp only at hSw
                go_simp
                try with_reducible rfl
               try simp only [Act.put, List.getElem_toArray, List.getElem_cons_succ, List.getElem_cons_zero, List.setIfInBounds_toArray, List.set_cons_zero, List.set_cons_succ]
               refine wpAnyH_ready (rs := [10]) (by kernel_rfl) (by simp) ?_
               refine AllReadyH.cons (o := _) rfl (fun K hK => ?step41) ?more41
               case step41 =>
                go_simp
                try dsimp only
                refine hK.out _ _ (hS9.out _ kz.out) (fun hHeld => ?_)
                clear hK K
                try simp only [Act.put, List.getElem_toArray, List.getElem_cons_succ, List.getElem_cons_zero, List.setIfInBounds_toArray, List.set_cons_zero, List.set_cons_succ]
                refine wpAnyH_done (by kernel_rfl) ?_ _
                clear hS9 x5 x5f r5 r5a kg kd9 hd9 hpe h9
                go_wp2_with fail
                go_ret
                have hfin : RAt B w0 _ R base ln ⟨st.ws ++ [encF cur], st.labs, st.lat ++ [⟨.jmp cur, L0, zs, ln, zc⟩]⟩ := ⟨_, _, _, _, _, _, hz.out, by show (fs ++ [F9]).length = (st.lat ++ [_]).length; rw [List.length_append, List.length_append, hfl.out]; rfl⟩
                exact ⟨rfl, by first | exact hfin | (rw [hL0]; exact hfin) | (simp only [hlm]; exact hfin) | (simp only [hlm, hL0]; exact hfin)⟩
               exact AllReadyH.nil
              exact AllReadyH.nil
             exact AllReadyH.nil
            refine AllReadyH.cons (o := _) rfl (fun K hK => ?step55) ?more55
            case step55 =>
             go_simp
             try rw [hF9.out]
             try dsimp only
             refine hK.out _ _ (hS9.out _ kd9) (fun hHeld => ?_)
             clear hK K
             try simp only [Act.put, List.getElem_toArray, List.getElem_cons_succ, List.getElem_cons_zero, List.setIfInBounds_toArray, List.set_cons_zero, List.set_cons_succ]
             refine wpAnyH_ready (rs := [4]) (by kernel_rfl) (by simp) ?_
             refine AllReadyH.cons (o := _) rfl (fun K hK => ?step48) ?more48
             case step48 =>
              go_simp
              try dsimp only
              refine hK.out _ _ (hS9.out _ kd9) (fun hHeld => ?_)
              clear hK K
              try simp only [Act.put, List.getElem_toArray, List.getElem_cons_succ, List.getElem_cons_zero, List.setIfInBounds_toArray, List.set_cons_zero, List.set_cons_succ]
              refine wpAnyH_ready (rs := [7]) (by kernel_rfl) (by simp) ?_
              refine AllReadyH.cons (o := _) rfl (fun K hK => ?step47) ?more47
              case step47 =>
               rw [if_pos (by rfl)]
               obtain ⟨v9, wd9, hra, hoa, hOa⟩ := run_wait B ((wc9.alloc (.cells #[F9] 118)).drew) vf fs.length fs hd9.lat wc9.heap.size F9 _ (by rw [← hF9.out]; rfl) (by show (wc9.alloc (.cells #[F9] 118)).cell? ⟨wc9.heap.size, 0, none⟩ = some F9; exact lit_new rfl rfl) (by rw [hfl.out]; omega) (by have := hd9.hR; have := hd9.lt; omega)
               have hp : Pend ((wc9.alloc (.cells #[F9] 118)).drew) R w2.heap.size F9 ⟨.jmp cur, L0, zs, ln, zc⟩ := hpe.out _ kd9
               obtain ⟨hRk, hz⟩ := hd9.wait (x := ⟨.jmp cur, L0, zs, ln, zc⟩) (b := w2.heap.size) hOa hfl.out (by show wd9.ownsRow B _ 1 v9 (st.lat.length + 1) (fs ++ [F9]); rw [← hfl.out]; exact hoa) ⟨by have := hbsN.out.1; have := hs1.out; omega, fun c hc => by have := hbsN.out.2 c hc; have := hs1.out; omega⟩ (by have := (Array.getElem?_eq_some_iff.1 (kd9.at_ HI9.out (.inr (.inr (.inr (.inl rfl)))))).1; exact this) hp
               have kg : Keep wc9 wd9 := kd9.trans (Keep.grown hd9.lat (capT_no (.inr (.inr (.inl rfl)))) hOa.1)
               have hb6 := hRk.trans hd9.blk
               have kz : Keep wc9 (wd9.setCell ⟨R, 5, none⟩ v9) := kg.trans (Keep.set hb6 (capT_no (.inr (.inr (.inr rfl)))))
               have x5 : wd9.cell? ⟨R, 5, none⟩ = some vf := cell_of_row _ _ 5 _ _ _ hb6
               have x5f := frozen_of_row wd9 R 5 _ _ hb6
               obtain ⟨ao9, ca9, rfl, _, _⟩ := own_shape hoa
               refine Lib.wp_append_run _ _ _ _ _ rfl _ _ rfl rfl _ _ hra ?_
               clear hra hOa hoa hRk hb6 hp
               replace hz := Lib.hid hz; replace kz := Lib.hid kz
               try dsimp only
               refine hK.out _ _ (hS9.out _ kg) (fun hHeld => ?_)
               clear hK K
               try simp only [Act.put, List.getElem_toArray, List.getElem_cons_succ, List.getElem_cons_zero, List.setIfInBounds_toArray, List.set_cons_zero, List.set_cons_succ]
               refine wpAnyH_take (i := 8) (v := ?v44) rfl (by kernel_rfl) (by kernel_rfl) (by kernel_rfl) (fun _ _ _ h => h) (Or.inl ⟨by rfl, ?h44⟩) (by assumption) ?r44
               case h44 =>
                intro w' hSw
                try dsimp only at hSw
                go_simp
                try with_reducible rfl
               try simp only [Act.put, List.getElem_toArray, List.getElem_cons_succ, List.getElem_cons_zero, List.setIfInBounds_toArray, List.set_cons_zero, List.set_cons_succ]
               refine wpAnyH_take (i := 9) (v := ?v45) rfl (by kernel_rfl) (by kernel_rfl) (by kernel_rfl) (fun _ _ _ h => h) (Or.inl ⟨by rfl, ?h45⟩) (by assumption) ?r45
               case h45 =>
                intro w' hSw
                try dsimp only at hSw
                go_simp
                try with_reducible rfl
               try simp only [Act.put, List.getElem_toArray, List.getElem_cons_succ, List.getElem_cons_zero, List.setIfInBounds_toArray, List.set_cons_zero, List.set_cons_succ]
               refine wpAnyH_ready (rs := [10]) (by kernel_rfl) (by simp) ?_
               refine AllReadyH.cons (o := _) rfl (fun K hK => ?step46) ?more46
               case step46 =>
                go_simp
                try dsimp only
                refine hK.out _ _ (hS9.out _ kz.out) (fun hHeld => ?_)
                clear hK K
                try simp only [Act.put, List.getElem_toArray, List.getElem_cons_succ, List.getElem_cons_zero, List.setIfInBounds_toArray, List.set_cons_zero, List.set_cons_succ]
                refine wpAnyH_done (by kernel_rfl) ?_ _
                clear hS9 x5 x5f r5 r5a kg kd9 hd9 hpe h9
                go_wp2_with fail
                go_ret
                have hfin : RAt B w0 _ R base ln ⟨st.ws ++ [encF cur], st.labs, st.lat ++ [⟨.jmp cur, L0, zs, ln, zc⟩]⟩ := ⟨_, _, _, _, _, _, hz.out, by show (fs ++ [F9]).length = (st.lat ++ [_]).length; rw [List.length_append, List.length_append, hfl.out]; rfl⟩
                exact ⟨rfl, by first | exact hfin | (rw [hL0]; exact hfin) | (simp only [hlm]; exact hfin) | (simp only [hlm, hL0]; exact hfin)⟩
               exact AllReadyH.nil
              exact AllReadyH.nil
             exact AllReadyH.nil
            exact AllReadyH.nil
           ·
            obtain ⟨wc9, hwc⟩ : ∃ wc, ((w8.alloc (.cells #[.int .i64 (ln : Int)] 3)).alloc (.cells #[.string zs, .bool false, .int .i64 (zc : Int)] 152)).drew = wc := ⟨_, rfl⟩
            have bc : Below w8.heap.size w8 wc9 := by rw [← hwc]; exact (((Below.refl _ _).alloc (Nat.le_refl _) _).alloc (by simp) _).drew
            have hbw : wc9.heap[w8.heap.size + 1]? = some (.cells #[.string zs, .bool false, .int .i64 (zc : Int)] 152 (0, 0)) := by rw [← hwc]; exact (congrArg (fun k => _[k]?) (by simp)).trans (heap_alloc_new (w8.alloc _) _)
            have hbl : wc9.heap[w8.heap.size]? = some (.cells #[.int .i64 (ln : Int)] 3 (0, 0)) := by rw [← hwc]; exact (heap_alloc_old _ _ (by simp)).trans (heap_alloc_new w8 _)
            try rw [hwc]
            clear hwc q1 q2 q3 q4 q5 q6 q7 q8 q9 q10 o0 o1 o2 c4 r1
            have h9 := (h8.out.later bc).later ((Below.refl _ wc9).drew)
            have K9 := K8.trans (Keep.below bc)
            have K79 := K7.out.trans (K78.trans (Keep.below bc))
            have H49 := K9.at_ H4.out (.inl rfl)
            have H69 := K79.at_ H16.out (.inr (.inr (.inl rfl)))
            have HI9 := K79.at_ HI6.out (.inr (.inr (.inr (.inl rfl))))
            have H79 := (K78.trans (Keep.below bc)).at_ H17b.out (.inr (.inr (.inr (.inr (.inl rfl)))))
            have hS9 : ∀ W, Keep wc9 W → (fun w' : World => w'.cell? ⟨w.heap.size, 0, none⟩ = some (ptr R)) W := fun W hW2 => cell_of_row _ _ 0 _ _ _ (hW2.at_ H49 (.inl rfl))
            obtain ⟨F9, hF9⟩ : ∃ F, Value.func (.func 115) #[] #[ptr w.heap.size, ptr (w8.heap.size + 1), ptr (w8.heap.size), ptr N6, ptr w2.heap.size, ptr N7] = F := ⟨_, rfl⟩
            have hpe : ∀ W, Keep wc9 W → Pend W R w2.heap.size F9 ⟨.jmp cur, L0, zs, ln, zc⟩ := fun W hW2 =>
             ⟨w.heap.size, _, _, N6, N7, hF9.symm, hW2.at_ H49 (.inl rfl), hW2.at_ hbw (.inr (.inl rfl)), hW2.at_ hbl (.inr (.inr (.inl rfl))), hW2.at_ H69 (.inr (.inr (.inl rfl))), hW2.at_ HI9 (.inr (.inr (.inr (.inl rfl)))), hW2.at_ H79 (.inr (.inr (.inr (.inr (.inl rfl)))))⟩
            have r5 : wc9.cell? ⟨R, 5, none⟩ = some vf := h9.c.2.2.2.2.2
            have r5a : ∀ o, (wc9.alloc o).cell? ⟨R, 5, none⟩ = some vf := fun o => cell_alloc_up r5
            have bd9 : Below wc9.heap.size wc9 ((wc9.alloc (.cells #[F9] 118)).drew) := ((Below.refl _ _).alloc (Nat.le_refl _) _).drew
            have kd9 := Keep.below bd9
            have hd9 := (h8.out.later bc).later bd9
            have hmf : ∀ (fn : Fn) (first cap : Array Value) (w : World), (Instr.makeFunc fn first cap).run Tryz.prog w = .ok (.func fn first cap) w := fun _ _ _ _ => rfl
            clear bd9 K9 K79 H69 H79
            replace hF9 := Lib.hid hF9; replace h9 := Lib.hid h9; replace HI9 := Lib.hid HI9; replace hS9 := Lib.hid hS9; replace hpe := Lib.hid hpe; replace hbw := Lib.hid hbw; replace hbl := Lib.hid hbl; replace H49 := Lib.hid H49
            go_upto_region 23 with fail
            refine wp_region_held_drew (S := (fun w' : World => w'.cell? ⟨w.heap.size, 0, none⟩ = some (ptr R))) (by kernel_rfl) (hS9.out _ (Keep.below (Below.refl _ wc9).drew)) (fun hHeld => ?_)
            refine wpAnyH_take (i := 0) (v := ?v66) rfl (by kernel_rfl) (by kernel_rfl) (by kernel_rfl) (fun _ _ _ h => h) (Or.inl ⟨by rfl, ?h66⟩) (by assumption) ?r66
            case h66 =>
             intro w' hSw
             try dsimp only at hSw
             go_simp
             try with_reducible rfl
            try simp only [Act.put, List.getElem_toArray, List.getElem_cons_succ, List.getElem_cons_zero, List.setIfInBounds_toArray, List.set_cons_zero, List.set_cons_succ]
            refine wpAnyH_take (i := 1) (v := ?v67) rfl (by kernel_rfl) (by kernel_rfl) (by kernel_rfl) (fun _ _ _ h => h) (Or.inl ⟨by rfl, ?h67⟩) (by assumption) ?r67
            case h67 =>
             intro w' hSw
             try dsimp only at hSw
             go_simp
             try with_reducible rfl
            try simp only [Act.put, List.getElem_toArray, List.getElem_cons_succ, List.getElem_cons_zero, List.setIfInBounds_toArray, List.set_cons_zero, List.set_cons_succ]
            refine wpAnyH_take (i := 2) (v := ?v68) rfl (by kernel_rfl) (by kernel_rfl) (by kernel_rfl) (fun _ _ _ h => h) (Or.inl ⟨by rfl, ?h68⟩) (by assumption) ?r68
            case h68 =>
             intro w' hSw
             try dsimp only at hSw
             go_simp
             try with_reducible rfl
            try simp only [Act.put, List.getElem_toArray, List.getElem_cons_succ, List.getElem_cons_zero, List.setIfInBounds_toArray, List.set_cons_zero, List.set_cons_succ]
            refine wpAnyH_take (i := 3) (v := ?v69) rfl (by kernel_rfl) (by kernel_rfl) (by kernel_rfl) (fun _ _ _ h => h) (Or.inl ⟨by rfl, ?h69⟩) (by assumption) ?r69
            case h69 =>
             intro w' hSw
             try dsimp only at hSw
             go_simp
             try with_reducible rfl
            try simp only [Act.put, List.getElem_toArray, List.getElem_cons_succ, List.getElem_cons_zero, List.setIfInBounds_toArray, List.set_cons_zero, List.set_cons_succ]
            refine wpAnyH_take (i := 5) (v := ?v70) rfl (by kernel_rfl) (by kernel_rfl) (by kernel_rfl) (fun _ _ _ h => h) (Or.inl ⟨by rfl, ?h70⟩) (by assumption) ?r70
            case h70 =>
             intro w' hSw
             try dsimp only at hSw
             go_simp
             try with_reducible rfl
            try simp only [Act.put, List.getElem_toArray, List.getElem_cons_succ, List.getElem_cons_zero, List.setIfInBounds_toArray, List.set_cons_zero, List.set_cons_succ]
            refine wpAnyH_ready (rs := [4, 6]) (by kernel_rfl) (by simp) ?_
            refine AllReadyH.cons (o := _) rfl (fun K hK => ?step71) ?more71
            case step71 =>
             go_simp
             try dsimp only
             refine hK.out _ _ (hS9.out _ (Keep.below (Below.refl _ wc9).drew)) (fun hHeld => ?_)
             clear hK K
             try simp only [Act.put, List.getElem_toArray, List.getElem_cons_succ, List.getElem_cons_zero, List.setIfInBounds_toArray, List.set_cons_zero, List.set_cons_succ]
             refine wpAnyH_ready (rs := [6]) (by kernel_rfl) (by simp) ?_
             refine AllReadyH.cons (o := _) rfl (fun K hK => ?step60) ?more60
             case step60 =>
              go_simp
              try rw [hF9.out]
              try dsimp only
              refine hK.out _ _ (hS9.out _ kd9) (fun hHeld => ?_)
              clear hK K
              try simp only [Act.put, List.getElem_toArray, List.getElem_cons_succ, List.getElem_cons_zero, List.setIfInBounds_toArray, List.set_cons_zero, List.set_cons_succ]
              refine wpAnyH_ready (rs := [7]) (by kernel_rfl) (by simp) ?_
              refine AllReadyH.cons (o := _) rfl (fun K hK => ?step59) ?more59
              case step59 =>
               rw [if_pos (by rfl)]
               obtain ⟨v9, wd9, hra, hoa, hOa⟩ := run_wait B ((wc9.alloc (.cells #[F9] 118)).drew) vf fs.length fs hd9.lat wc9.heap.size F9 _ (by rw [← hF9.out]; rfl) (by show (wc9.alloc (.cells #[F9] 118)).cell? ⟨wc9.heap.size, 0, none⟩ = some F9; exact lit_new rfl rfl) (by rw [hfl.out]; omega) (by have := hd9.hR; have := hd9.lt; omega)
               have hp : Pend ((wc9.alloc (.cells #[F9] 118)).drew) R w2.heap.size F9 ⟨.jmp cur, L0, zs, ln, zc⟩ := hpe.out _ kd9
               obtain ⟨hRk, hz⟩ := hd9.wait (x := ⟨.jmp cur, L0, zs, ln, zc⟩) (b := w2.heap.size) hOa hfl.out (by show wd9.ownsRow B _ 1 v9 (st.lat.length + 1) (fs ++ [F9]); rw [← hfl.out]; exact hoa) ⟨by have := hbsN.out.1; have := hs1.out; omega, fun c hc => by have := hbsN.out.2 c hc; have := hs1.out; omega⟩ (by have := (Array.getElem?_eq_some_iff.1 (kd9.at_ HI9.out (.inr (.inr (.inr (.inl rfl)))))).1; exact this) hp
               have kg : Keep wc9 wd9 := kd9.trans (Keep.grown hd9.lat (capT_no (.inr (.inr (.inl rfl)))) hOa.1)
               have hb6 := hRk.trans hd9.blk
               have kz : Keep wc9 (wd9.setCell ⟨R, 5, none⟩ v9) := kg.trans (Keep.set hb6 (capT_no (.inr (.inr (.inr rfl)))))
               have x5 : wd9.cell? ⟨R, 5, none⟩ = some vf := cell_of_row _ _ 5 _ _ _ hb6
               have x5f := frozen_of_row wd9 R 5 _ _ hb6
               obtain ⟨ao9, ca9, rfl, _, _⟩ := own_shape hoa
               refine Lib.wp_append_run _ _ _ _ _ rfl _ _ rfl rfl _ _ hra ?_
               clear hra hOa hoa hRk hb6 hp
               replace hz := Lib.hid hz; replace kz := Lib.hid kz
               try dsimp only
               refine hK.out _ _ (hS9.out _ kg) (fun hHeld => ?_)
               clear hK K
               try simp only [Act.put, List.getElem_toArray, List.getElem_cons_succ, List.getElem_cons_zero, List.setIfInBounds_toArray, List.set_cons_zero, List.set_cons_succ]
               refine wpAnyH_take (i := 8) (v := ?v56) rfl (by kernel_rfl) (by kernel_rfl) (by kernel_rfl) (fun _ _ _ h => h) (Or.inl ⟨by rfl, ?h56⟩) (by assumption) ?r56
               case h56 =>
                intro w' hSw
                try dsimp only at hSw
                go_simp
                try with_reducible rfl
               try simp only [Act.put, List.getElem_toArray, List.getElem_cons_succ, List.getElem_cons_zero, List.setIfInBounds_toArray, List.set_cons_zero, List.set_cons_succ]
               refine wpAnyH_take (i := 9) (v := ?v57) rfl (by kernel_rfl) (by kernel_rfl) (by kernel_rfl) (fun _ _ _ h => h) (Or.inl ⟨by rfl, ?h57⟩) (by assumption) ?r57
               case h57 =>
                intro w' hSw
                try dsimp only at hSw
                go_simp
                try with_reducible rfl
               try simp only [Act.put, List.getElem_toArray, List.getElem_cons_succ, List.getElem_cons_zero, List.setIfInBounds_toArray, List.set_cons_zero, List.set_cons_succ]
               refine wpAnyH_ready (rs := [10]) (by kernel_rfl) (by simp) ?_
               refine AllReadyH.cons (o := _) rfl (fun K hK => ?step58) ?more58
               case step58 =>
                go_simp
                try dsimp only
                refine hK.out _ _ (hS9.out _ kz.out) (fun hHeld => ?_)
                clear hK K
                try simp only [Act.put, List.getElem_toArray, List.getElem_cons_succ, List.getElem_cons_zero, List.setIfInBounds_toArray, List.set_cons_zero, List.set_cons_succ]
                refine wpAnyH_done (by kernel_rfl) ?_ _
                clear hS9 x5 x5f r5 r5a kg kd9 hd9 hpe h9
                go_wp2_with fail
                go_ret
                have hfin : RAt B w0 _ R base ln ⟨st.ws ++ [encF cur], st.labs, st.lat ++ [⟨.jmp cur, L0, zs, ln, zc⟩]⟩ := ⟨_, _, _, _, _, _, hz.out, by show (fs ++ [F9]).length = (st.lat ++ [_]).length; rw [List.length_append, List.length_append, hfl.out]; rfl⟩
                exact ⟨rfl, by first | exact hfin | (rw [hL0]; exact hfin) | (simp only [hlm]; exact hfin) | (simp only [hlm, hL0]; exact hfin)⟩
               exact AllReadyH.nil
              exact AllReadyH.nil
             exact AllReadyH.nil
            refine AllReadyH.cons (o := _) rfl (fun K hK => ?step72) ?more72
            case step72 =>
             go_simp
             try rw [hF9.out]
             try dsimp only
             refine hK.out _ _ (hS9.out _ kd9) (fun hHeld => ?_)
             clear hK K
             try simp only [Act.put, List.getElem_toArray, List.getElem_cons_succ, List.getElem_cons_zero, List.setIfInBounds_toArray, List.set_cons_zero, List.set_cons_succ]
             refine wpAnyH_ready (rs := [4]) (by kernel_rfl) (by simp) ?_
             refine AllReadyH.cons (o := _) rfl (fun K hK => ?step65) ?more65
             case step65 =>
              go_simp
              try dsimp only
              refine hK.out _ _ (hS9.out _ kd9) (fun hHeld => ?_)
              clear hK K
              try simp only [Act.put, List.getElem_toArray, List.getElem_cons_succ, List.getElem_cons_zero, List.setIfInBounds_toArray, List.set_cons_zero, List.set_cons_succ]
              refine wpAnyH_ready (rs := [7]) (by kernel_rfl) (by simp) ?_
              refine AllReadyH.cons (o := _) rfl (fun K hK => ?step64) ?more64
              case step64 =>
               rw [if_pos (by rfl)]
               obtain ⟨v9, wd9, hra, hoa, hOa⟩ := run_wait B ((wc9.alloc (.cells #[F9] 118)).drew) vf fs.length fs hd9.lat wc9.heap.size F9 _ (by rw [← hF9.out]; rfl) (by show (wc9.alloc (.cells #[F9] 118)).cell? ⟨wc9.heap.size, 0, none⟩ = some F9; exact lit_new rfl rfl) (by rw [hfl.out]; omega) (by have := hd9.hR; have := hd9.lt; omega)
               have hp : Pend ((wc9.alloc (.cells #[F9] 118)).drew) R w2.heap.size F9 ⟨.jmp cur, L0, zs, ln, zc⟩ := hpe.out _ kd9
               obtain ⟨hRk, hz⟩ := hd9.wait (x := ⟨.jmp cur, L0, zs, ln, zc⟩) (b := w2.heap.size) hOa hfl.out (by show wd9.ownsRow B _ 1 v9 (st.lat.length + 1) (fs ++ [F9]); rw [← hfl.out]; exact hoa) ⟨by have := hbsN.out.1; have := hs1.out; omega, fun c hc => by have := hbsN.out.2 c hc; have := hs1.out; omega⟩ (by have := (Array.getElem?_eq_some_iff.1 (kd9.at_ HI9.out (.inr (.inr (.inr (.inl rfl)))))).1; exact this) hp
               have kg : Keep wc9 wd9 := kd9.trans (Keep.grown hd9.lat (capT_no (.inr (.inr (.inl rfl)))) hOa.1)
               have hb6 := hRk.trans hd9.blk
               have kz : Keep wc9 (wd9.setCell ⟨R, 5, none⟩ v9) := kg.trans (Keep.set hb6 (capT_no (.inr (.inr (.inr rfl)))))
               have x5 : wd9.cell? ⟨R, 5, none⟩ = some vf := cell_of_row _ _ 5 _ _ _ hb6
               have x5f := frozen_of_row wd9 R 5 _ _ hb6
               obtain ⟨ao9, ca9, rfl, _, _⟩ := own_shape hoa
               refine Lib.wp_append_run _ _ _ _ _ rfl _ _ rfl rfl _ _ hra ?_
               clear hra hOa hoa hRk hb6 hp
               replace hz := Lib.hid hz; replace kz := Lib.hid kz
               try dsimp only
               refine hK.out _ _ (hS9.out _ kg) (fun hHeld => ?_)
               clear hK K
               try simp only [Act.put, List.getElem_toArray, List.getElem_cons_succ, List.getElem_cons_zero, List.setIfInBounds_toArray, List.set_cons_zero, List.set_cons_succ]
               refine wpAnyH_take (i := 8) (v := ?v61) rfl (by kernel_rfl) (by kernel_rfl) (by kernel_rfl) (fun _ _ _ h => h) (Or.inl ⟨by rfl, ?h61⟩) (by assumption) ?r61
               case h61 =>
                intro w' hSw
                try dsimp only at hSw
                go_simp
                try with_reducible rfl
               try simp only [Act.put, List.getElem_toArray, List.getElem_cons_succ, List.getElem_cons_zero, List.setIfInBounds_toArray, List.set_cons_zero, List.set_cons_succ]
               refine wpAnyH_take (i := 9) (v := ?v62) rfl (by kernel_rfl) (by kernel_rfl) (by kernel_rfl) (fun _ _ _ h => h) (Or.inl ⟨by rfl, ?h62⟩) (by assumption) ?r62
               case h62 =>
                intro w' hSw
                try dsimp only at hSw
                go_simp
                try with_reducible rfl
               try simp only [Act.put, List.getElem_toArray, List.getElem_cons_succ, List.getElem_cons_zero, List.setIfInBounds_toArray, List.set_cons_zero, List.set_cons_succ]
               refine wpAnyH_ready (rs := [10]) (by kernel_rfl) (by simp) ?_
               refine AllReadyH.cons (o := _) rfl (fun K hK => ?step63) ?more63
               case step63 =>
                go_simp
                try dsimp only
                refine hK.out _ _ (hS9.out _ kz.out) (fun hHeld => ?_)
                clear hK K
                try simp only [Act.put, List.getElem_toArray, List.getElem_cons_succ, List.getElem_cons_zero, List.setIfInBounds_toArray, List.set_cons_zero, List.set_cons_succ]
                refine wpAnyH_done (by kernel_rfl) ?_ _
                clear hS9 x5 x5f r5 r5a kg kd9 hd9 hpe h9
                go_wp2_with fail
                go_ret
                have hfin : RAt B w0 _ R base ln ⟨st.ws ++ [encF cur], st.labs, st.lat ++ [⟨.jmp cur, L0, zs, ln, zc⟩]⟩ := ⟨_, _, _, _, _, _, hz.out, by show (fs ++ [F9]).length = (st.lat ++ [_]).length; rw [List.length_append, List.length_append, hfl.out]; rfl⟩
                exact ⟨rfl, by first | exact hfin | (rw [hL0]; exact hfin) | (simp only [hlm]; exact hfin) | (simp only [hlm, hL0]; exact hfin)⟩
               exact AllReadyH.nil
              exact AllReadyH.nil
             exact AllReadyH.nil
            exact AllReadyH.nil
          exact AllReadyH.nil
         exact AllReadyH.nil
        exact AllReadyH.nil
       refine AllReadyH.cons (o := _) rfl (fun K hK => ?step116) ?more116
       case step116 =>
        go_simp
        try dsimp only
        refine hK.out _ _ (hS.out _ kd9) (fun hHeld => ?_)
        clear hK K
        try simp only [Act.put, List.getElem_toArray, List.getElem_cons_succ, List.getElem_cons_zero, List.setIfInBounds_toArray, List.set_cons_zero, List.set_cons_succ]
        refine wpAnyH_ready (rs := [4]) (by kernel_rfl) (by simp) ?_
        refine AllReadyH.cons (o := _) rfl (fun K hK => ?step114) ?more114
        case step114 =>
         go_simp
         try dsimp only
         refine hK.out _ _ (hS.out _ kd9) (fun hHeld => ?_)
         clear hK K
         try simp only [Act.put, List.getElem_toArray, List.getElem_cons_succ, List.getElem_cons_zero, List.setIfInBounds_toArray, List.set_cons_zero, List.set_cons_succ]
         refine wpAnyH_ready (rs := [6]) (by kernel_rfl) (by simp) ?_
         refine AllReadyH.cons (o := _) rfl (fun K hK => ?step113) ?more113
         case step113 =>
          rw [if_pos (by rfl)]
          obtain ⟨v6, wd, hra, hoa, hOa⟩ := run_one B ((wa.alloc (.cells #[.int .u32 0] 22)).drew) (.slice aw L0 cw) L0 (wi st.ws) (by have h := hd.out.ws; rw [hL0] at h; exact h) wa.heap.size (.int .u32 0) _ rfl (by show (wa.alloc (.cells #[.int .u32 0] 22)).cell? ⟨wa.heap.size, 0, none⟩ = some (.int .u32 0); exact lit_new rfl rfl) (by omega) (by have := hd.out.hR; have := hd.out.lt; omega)
          obtain ⟨g, cap, hv6, g1, g2⟩ := hoa.form (by omega)
          subst hv6
          obtain ⟨hRk, hz⟩ := hd.out.words (l := [0]) hOa (by rw [hL0]; exact hoa)
          have kg : Keep wa wd := kd9.trans (Keep.grown hd.out.ws (capT_no (.inl rfl)) hOa.1)
          have hb6 := hRk.trans hd.out.blk
          have kz : Keep wa (wd.setCell ⟨R, 2, none⟩ (.slice (some ⟨g, 0, none⟩) (L0 + 1) cap)) := kg.trans (Keep.set hb6 (capT_no (.inr (.inr (.inr rfl)))))
          have x2 : wd.cell? ⟨R, 2, none⟩ = some (.slice aw L0 cw) := cell_of_row _ _ 2 _ _ _ hb6
          have x2f := frozen_of_row wd R 2 _ _ hb6
          refine Lib.wp_append_run _ _ _ _ _ rfl _ _ rfl rfl _ _ hra ?_
          clear hra hOa hoa hRk hb6
          replace hz := Lib.hid hz; replace kz := Lib.hid kz
          try dsimp only
          refine hK.out _ _ (hS.out _ kg) (fun hHeld => ?_)
          clear hK K
          try simp only [Act.put, List.getElem_toArray, List.getElem_cons_succ, List.getElem_cons_zero, List.setIfInBounds_toArray, List.set_cons_zero, List.set_cons_succ]
          refine wpAnyH_take (i := 7) (v := ?v76) rfl (by kernel_rfl) (by kernel_rfl) (by kernel_rfl) (fun _ _ _ h => h) (Or.inl ⟨by rfl, ?h76⟩) (by assumption) ?r76
          case h76 =>
           intro w' hSw
           try dsimp only at hSw
           go_simp
           try with_reducible rfl
          try simp only [Act.put, List.getElem_toArray, List.getElem_cons_succ, List.getElem_cons_zero, List.setIfInBounds_toArray, List.set_cons_zero, List.set_cons_succ]
          refine wpAnyH_take (i := 8) (v := ?v77) rfl (by kernel_rfl) (by kernel_rfl) (by kernel_rfl) (fun _ _ _ h => h) (Or.inl ⟨by rfl, ?h77⟩) (by assumption) ?r77
          case h77 =>
           intro w' hSw
           try dsimp only at hSw
           go_simp
           try with_reducible rfl
          try simp only [Act.put, List.getElem_toArray, List.getElem_cons_succ, List.getElem_cons_zero, List.setIfInBounds_toArray, List.set_cons_zero, List.set_cons_succ]
          refine wpAnyH_ready (rs := [9]) (by kernel_rfl) (by simp) ?_
          refine AllReadyH.cons (o := _) rfl (fun K hK => ?step112) ?more112
          case step112 =>
           go_simp
           try dsimp only
           refine hK.out _ _ (hS.out _ kz.out) (fun hHeld => ?_)
           clear hK K
           try simp only [Act.put, List.getElem_toArray, List.getElem_cons_succ, List.getElem_cons_zero, List.setIfInBounds_toArray, List.set_cons_zero, List.set_cons_succ]
           refine wpAnyH_done (by kernel_rfl) ?_ _
           obtain ⟨wb, hwb⟩ : ∃ wb, wd.setCell ⟨R, 2, none⟩ (.slice (some ⟨g, 0, none⟩) (L0 + 1) cap) = wb := ⟨_, rfl⟩
           rw [hwb] at hz kz
           try rw [hwb]
           clear hwb x2 x2f r2 r2a kg kd9 hS hd
           obtain ⟨N7, hN7⟩ : ∃ N, wb.heap.size = N := ⟨_, rfl⟩
           obtain ⟨wc, hwc⟩ : ∃ wc, wb.alloc (.cells #[.func (.func 113) #[] #[ptr w2.heap.size, ptr w.heap.size, ptr N6]] 1) = wc := ⟨_, rfl⟩
           have bc : Below wb.heap.size wb wc := by rw [← hwc]; exact (Below.refl _ _).alloc (Nat.le_refl _) _
           have H17 : wc.heap[N7]? = some (.cells #[.func (.func 113) #[] #[ptr w2.heap.size, ptr w.heap.size, ptr N6]] 1 (0, 0)) := by rw [← hwc, ← hN7]; exact heap_alloc_new wb _
           have Kc := kz.out.trans (Keep.below bc)
           have hmf : ∀ (fn : Fn) (first cap : Array Value) (w : World), (Instr.makeFunc fn first cap).run Tryz.prog w = .ok (.func fn first cap) w := fun _ _ _ _ => rfl
           have hstf : ∀ (fn : Fn) (first cap : Array Value) (a : Addr) (m : Mode) (W : World), (store a (.func fn first cap) m).run Tryz.prog W = stored Tryz.prog W a (.func fn first cap) m := fun _ _ _ _ _ _ => run_store _ _ _ _ _ rfl
           have hzc := hz.out.later bc
           have hly := lay_instr (st := ⟨st.ws ++ [0], st.labs, st.lat⟩) (g := g) (cap := cap) (by rw [show (⟨st.ws ++ [0], st.labs, st.lat⟩ : Asm).ws.length = L0 + 1 by simp [hL0]]; exact hzc) hE L0 w.heap.size N6 w2.heap.size cur (by show L0 < (st.ws ++ [0]).length; simp [hL0]) HS.out.m1 HS.out.m2 (Kc.at_ (Ka4.out) (.inl rfl)) (Kc.at_ H16.out (.inr (.inr (.inl rfl)))) (Kc.at_ HI6.out (.inr (.inr (.inr (.inl rfl)))))
           have e1 : (st.ws ++ [0]).set L0 (encF cur) = st.ws ++ [encF cur] := by rw [List.set_append_right _ _ (by omega), hL0, Nat.sub_self]; rfl
           have e2 : (⟨st.ws ++ [0], st.labs, st.lat⟩ : Asm).ws.length = L0 + 1 := by simp [hL0]
           rw [e2] at hly
           simp only [e1] at hly
           have d17 : wc.cell? ⟨N7, 0, none⟩ = some (.func (.func 113) #[] #[ptr w2.heap.size, ptr w.heap.size, ptr N6]) := cell_of_row _ _ 0 _ _ _ H17
           clear hz hzc bc e1 e2
           replace hly := Lib.hid hly; replace H17 := Lib.hid H17; replace Kc := Lib.hid Kc
           go_upto_region 19 with fail
           try rw [hN7]
           try rw [hwc]
           clear hwc hN7
           go_wp2_with fail
           refine hly.out.mono ?_
           rintro e w7 ⟨rfl, h7, k7, _⟩
           have K7 := Kc.out.trans k7
           have H17b := k7.at_ H17.out (.inr (.inr (.inr (.inr (.inl rfl)))))
           have hix := fun W => idx_any (strS SL) 111 W
           have hi2 : Lib.indexByte (strS SL).data.toList (111 : Int).toNat.toUInt8 = ((k : Nat) : Int) := hidx.out.1.trans (by rw [hoA])
           rw [hi2] at hix
           clear k7 hly d17 Kc H17 kz hi2
           replace hix := Lib.hid hix; replace h7 := Lib.hid h7; replace K7 := Lib.hid K7; replace H17b := Lib.hid H17b
           go_wp2_with fail
           refine (hix.out _).mono ?_
           rintro e w8 ⟨rfl, hw8⟩
           rw [hw8]
           clear hw8 w8 hix
           have K17 := (Keep.below Ba.out).trans K7.out
           obtain ⟨o0, o1, o2⟩ := hOk.out w7 K17
           have hin := isnm_any (zs, false, zc) w7
           unfold wV at hin
           dsimp only at hin
           rw [hnm] at hin
           replace hin := Lib.hid hin
           go_wp2_with fail
           refine hin.out.mono ?_
           rintro e w8 ⟨rfl, b3⟩
           have h8 := h7.out.later b3
           have K8 := K17.trans (Keep.below b3)
           have K78 := Keep.below b3
           clear b3 hin o0 o1 o2 h7 K17
           obtain ⟨o0, o1, o2⟩ := hOk.out w8 K8
           have c4 : w8.cell? ⟨w.heap.size, 0, none⟩ = some (ptr R) := cell_of_row _ _ 0 _ _ _ (K8.at_ H4.out (.inl rfl))
           have r1 := h8.c.2.1
           replace h8 := Lib.hid h8
           have q1 : ∀ o, (w8.alloc o).cell? ⟨w.heap.size, 0, none⟩ = some (ptr R) := fun o => cell_alloc_up c4
           have q2 : ∀ o o', ((w8.alloc o).alloc o').cell? ⟨w.heap.size, 0, none⟩ = some (ptr R) := fun o o' => cell_alloc_up (cell_alloc_up c4)
           have q3 : ∀ o, (w8.alloc o).cell? ⟨R, 1, none⟩ = some (.int .i64 (ln : Int)) := fun o => cell_alloc_up r1
           have q4 : ∀ o o', ((w8.alloc o).alloc o').cell? ⟨R, 1, none⟩ = some (.int .i64 (ln : Int)) := fun o o' => cell_alloc_up (cell_alloc_up r1)
           have q5 : ∀ o, (w8.alloc o).cell? ⟨pb, po + k * 3, none⟩ = some (.string zs) := fun o => cell_alloc_up o0
           have q6 : ∀ o o', ((w8.alloc o).alloc o').cell? ⟨pb, po + k * 3, none⟩ = some (.string zs) := fun o o' => cell_alloc_up (cell_alloc_up o0)
           have q7 : ∀ o, (w8.alloc o).cell? ⟨pb, po + k * 3 + 1, none⟩ = some (.bool false) := fun o => cell_alloc_up o1
           have q8 : ∀ o o', ((w8.alloc o).alloc o').cell? ⟨pb, po + k * 3 + 1, none⟩ = some (.bool false) := fun o o' => cell_alloc_up (cell_alloc_up o1)
           have q9 : ∀ o, (w8.alloc o).cell? ⟨pb, po + k * 3 + 2, none⟩ = some (.int .i64 (zc : Int)) := fun o => cell_alloc_up o2
           have q10 : ∀ o o', ((w8.alloc o).alloc o').cell? ⟨pb, po + k * 3 + 2, none⟩ = some (.int .i64 (zc : Int)) := fun o o' => cell_alloc_up (cell_alloc_up o2)
           go_upto_region 22 with fail
           go_region
           ·
            obtain ⟨wc9, hwc⟩ : ∃ wc, ((w8.alloc (.cells #[.string zs, .bool false, .int .i64 (zc : Int)] 152)).alloc (.cells #[.int .i64 (ln : Int)] 3)).drew = wc := ⟨_, rfl⟩
            have bc : Below w8.heap.size w8 wc9 := by rw [← hwc]; exact (((Below.refl _ _).alloc (Nat.le_refl _) _).alloc (by simp) _).drew
            have hbw : wc9.heap[w8.heap.size]? = some (.cells #[.string zs, .bool false, .int .i64 (zc : Int)] 152 (0, 0)) := by rw [← hwc]; exact (heap_alloc_old _ _ (by simp)).trans (heap_alloc_new w8 _)
            have hbl : wc9.heap[w8.heap.size + 1]? = some (.cells #[.int .i64 (ln : Int)] 3 (0, 0)) := by rw [← hwc]; exact (congrArg (fun k => _[k]?) (by simp)).trans (heap_alloc_new (w8.alloc _) _)
            try rw [hwc]
            clear hwc q1 q2 q3 q4 q5 q6 q7 q8 q9 q10 o0 o1 o2 c4 r1
            have h9 := (h8.out.later bc).later ((Below.refl _ wc9).drew)
            have K9 := K8.trans (Keep.below bc)
            have K79 := K7.out.trans (K78.trans (Keep.below bc))
            have H49 := K9.at_ H4.out (.inl rfl)
            have H69 := K79.at_ H16.out (.inr (.inr (.inl rfl)))
            have HI9 := K79.at_ HI6.out (.inr (.inr (.inr (.inl rfl))))
            have H79 := (K78.trans (Keep.below bc)).at_ H17b.out (.inr (.inr (.inr (.inr (.inl rfl)))))
            have hS9 : ∀ W, Keep wc9 W → (fun w' : World => w'.cell? ⟨w.heap.size, 0, none⟩ = some (ptr R)) W := fun W hW2 => cell_of_row _ _ 0 _ _ _ (hW2.at_ H49 (.inl rfl))
            obtain ⟨F9, hF9⟩ : ∃ F, Value.func (.func 115) #[] #[ptr w.heap.size, ptr (w8.heap.size), ptr (w8.heap.size + 1), ptr N6, ptr w2.heap.size, ptr N7] = F := ⟨_, rfl⟩
            have hpe : ∀ W, Keep wc9 W → Pend W R w2.heap.size F9 ⟨.jmp cur, L0, zs, ln, zc⟩ := fun W hW2 =>
             ⟨w.heap.size, _, _, N6, N7, hF9.symm, hW2.at_ H49 (.inl rfl), hW2.at_ hbw (.inr (.inl rfl)), hW2.at_ hbl (.inr (.inr (.inl rfl))), hW2.at_ H69 (.inr (.inr (.inl rfl))), hW2.at_ HI9 (.inr (.inr (.inr (.inl rfl)))), hW2.at_ H79 (.inr (.inr (.inr (.inr (.inl rfl)))))⟩
            have r5 : wc9.cell? ⟨R, 5, none⟩ = some vf := h9.c.2.2.2.2.2
            have r5a : ∀ o, (wc9.alloc o).cell? ⟨R, 5, none⟩ = some vf := fun o => cell_alloc_up r5
            have bd9 : Below wc9.heap.size wc9 ((wc9.alloc (.cells #[F9] 118)).drew) := ((Below.refl _ _).alloc (Nat.le_refl _) _).drew
            have kd9 := Keep.below bd9
            have hd9 := (h8.out.later bc).later bd9
            have hmf : ∀ (fn : Fn) (first cap : Array Value) (w : World), (Instr.makeFunc fn first cap).run Tryz.prog w = .ok (.func fn first cap) w := fun _ _ _ _ => rfl
            clear bd9 K9 K79 H69 H79
            replace hF9 := Lib.hid hF9; replace h9 := Lib.hid h9; replace HI9 := Lib.hid HI9; replace hS9 := Lib.hid hS9; replace hpe := Lib.hid hpe; replace hbw := Lib.hid hbw; replace hbl := Lib.hid hbl; replace H49 := Lib.hid H49
            go_upto_region 23 with fail
            refine wp_region_held_drew (S := (fun w' : World => w'.cell? ⟨w.heap.size, 0, none⟩ = some (ptr R))) (by kernel_rfl) (hS9.out _ (Keep.below (Below.refl _ wc9).drew)) (fun hHeld => ?_)
            refine wpAnyH_take (i := 0) (v := ?v88) rfl (by kernel_rfl) (by kernel_rfl) (by kernel_rfl) (fun _ _ _ h => h) (Or.inl ⟨by rfl, ?h88⟩) (by assumption) ?r88
            case h88 =>
             intro w' hSw
             try dsimp only at hSw
             go_simp
             try with_reducible rfl
            try simp only [Act.put, List.getElem_toArray, List.getElem_cons_succ, List.getElem_cons_zero, List.setIfInBounds_toArray, List.set_cons_zero, List.set_cons_succ]
            refine wpAnyH_take (i := 1) (v := ?v89) rfl (by kernel_rfl) (by kernel_rfl) (by kernel_rfl) (fun _ _ _ h => h) (Or.inl ⟨by rfl, ?h89⟩) (by assumption) ?r89
            case h89 =>
             intro w' hSw
             try dsimp only at hSw
             go_simp
             try with_reducible rfl
            try simp only [Act.put, List.getElem_toArray, List.getElem_cons_succ, List.getElem_cons_zero, List.setIfInBounds_toArray, List.set_cons_zero, List.set_cons_succ]
            refine wpAnyH_take (i := 2) (v := ?v90) rfl (by kernel_rfl) (by kernel_rfl) (by kernel_rfl) (fun _ _ _ h => h) (Or.inl ⟨by rfl, ?h90⟩) (by assumption) ?r90
            case h90 =>
             intro w' hSw
             try dsimp only at hSw
             go_simp
             try with_reducible rfl
            try simp only [Act.put, List.getElem_toArray, List.getElem_cons_succ, List.getElem_cons_zero, List.setIfInBounds_toArray, List.set_cons_zero, List.set_cons_succ]
            refine wpAnyH_take (i := 3) (v := ?v91) rfl (by kernel_rfl) (by kernel_rfl) (by kernel_rfl) (fun _ _ _ h => h) (Or.inl ⟨by rfl, ?h91⟩) (by assumption) ?r91
            case h91 =>
             intro w' hSw
             try dsimp only at hSw
             go_simp
             try with_reducible rfl
            try simp only [Act.put, List.getElem_toArray, List.getElem_cons_succ, List.getElem_cons_zero, List.setIfInBounds_toArray, List.set_cons_zero, List.set_cons_succ]
            refine wpAnyH_take (i := 5) (v := ?v92) rfl (by kernel_rfl) (by kernel_rfl) (by kernel_rfl) (fun _ _ _ h => h) (Or.inl ⟨by rfl, ?h92⟩) (by assumption) ?r92
            case h92 =>
             intro w' hSw
             try dsimp only at hSw
             go_simp
             try with_reducible rfl
            try simp only [Act.put, List.getElem_toArray, List.getElem_cons_succ, List.getElem_cons_zero, List.setIfInBounds_toArray, List.set_cons_zero, List.set_cons_succ]
            refine wpAnyH_ready (rs := [4, 6]) (by kernel_rfl) (by simp) ?_
            refine AllReadyH.cons (o := _) rfl (fun K hK => ?step93) ?more93
            case step93 =>
             go_simp
             try dsimp only
             refine hK.out _ _ (hS9.out _ (Keep.below (Below.refl _ wc9).drew)) (fun hHeld => ?_)
             clear hK K
             try simp only [Act.put, List.getElem_toArray, List.getElem_cons_succ, List.getElem_cons_zero, List.setIfInBounds_toArray, List.set_cons_zero, List.set_cons_succ]
             refine wpAnyH_ready (rs := [6]) (by kernel_rfl) (by simp) ?_
             refine AllReadyH.cons (o := _) rfl (fun K hK => ?step82) ?more82
             case step82 =>
              go_simp
              try rw [hF9.out]
              try dsimp only
              refine hK.out _ _ (hS9.out _ kd9) (fun hHeld => ?_)
              clear hK K
              try simp only [Act.put, List.getElem_toArray, List.getElem_cons_succ, List.getElem_cons_zero, List.setIfInBounds_toArray, List.set_cons_zero, List.set_cons_succ]
              refine wpAnyH_ready (rs := [7]) (by kernel_rfl) (by simp) ?_
              refine AllReadyH.cons (o := _) rfl (fun K hK => ?step81) ?more81
              case step81 =>
               rw [if_pos (by rfl)]
               obtain ⟨v9, wd9, hra, hoa, hOa⟩ := run_wait B ((wc9.alloc (.cells #[F9] 118)).drew) vf fs.length fs hd9.lat wc9.heap.size F9 _ (by rw [← hF9.out]; rfl) (by show (wc9.alloc (.cells #[F9] 118)).cell? ⟨wc9.heap.size, 0, none⟩ = some F9; exact lit_new rfl rfl) (by rw [hfl.out]; omega) (by have := hd9.hR; have := hd9.lt; omega)
               have hp : Pend ((wc9.alloc (.cells #[F9] 118)).drew) R w2.heap.size F9 ⟨.jmp cur, L0, zs, ln, zc⟩ := hpe.out _ kd9
               obtain ⟨hRk, hz⟩ := hd9.wait (x := ⟨.jmp cur, L0, zs, ln, zc⟩) (b := w2.heap.size) hOa hfl.out (by show wd9.ownsRow B _ 1 v9 (st.lat.length + 1) (fs ++ [F9]); rw [← hfl.out]; exact hoa) ⟨by have := hbsN.out.1; have := hs1.out; omega, fun c hc => by have := hbsN.out.2 c hc; have := hs1.out; omega⟩ (by have := (Array.getElem?_eq_some_iff.1 (kd9.at_ HI9.out (.inr (.inr (.inr (.inl rfl)))))).1; exact this) hp
               have kg : Keep wc9 wd9 := kd9.trans (Keep.grown hd9.lat (capT_no (.inr (.inr (.inl rfl)))) hOa.1)
               have hb6 := hRk.trans hd9.blk
               have kz : Keep wc9 (wd9.setCell ⟨R, 5, none⟩ v9) := kg.trans (Keep.set hb6 (capT_no (.inr (.inr (.inr rfl)))))
               have x5 : wd9.cell? ⟨R, 5, none⟩ = some vf := cell_of_row _ _ 5 _ _ _ hb6
               have x5f := frozen_of_row wd9 R 5 _ _ hb6
               obtain ⟨ao9, ca9, rfl, _, _⟩ := own_shape hoa
               refine Lib.wp_append_run _ _ _ _ _ rfl _ _ rfl rfl _ _ hra ?_
               clear hra hOa hoa hRk hb6 hp
               replace hz := Lib.hid hz; replace kz := Lib.hid kz
               try dsimp only
               refine hK.out _ _ (hS9.out _ kg) (fun hHeld => ?_)
               clear hK K
               try simp only [Act.put, List.getElem_toArray, List.getElem_cons_succ, List.getElem_cons_zero, List.setIfInBounds_toArray, List.set_cons_zero, List.set_cons_succ]
               refine wpAnyH_take (i := 8) (v := ?v78) rfl (by kernel_rfl) (by kernel_rfl) (by kernel_rfl) (fun _ _ _ h => h) (Or.inl ⟨by rfl, ?h78⟩) (by assumption) ?r78
               case h78 =>
                intro w' hSw
                try dsimp only at hSw
                go_simp
                try with_reducible rfl
               try simp only [Act.put, List.getElem_toArray, List.getElem_cons_succ, List.getElem_cons_zero, List.setIfInBounds_toArray, List.set_cons_zero, List.set_cons_succ]
               refine wpAnyH_take (i := 9) (v := ?v79) rfl (by kernel_rfl) (by kernel_rfl) (by kernel_rfl) (fun _ _ _ h => h) (Or.inl ⟨by rfl, ?h79⟩) (by assumption) ?r79
               case h79 =>
                intro w' hSw
                try dsimp only at hSw
                go_simp
                try with_reducible rfl
               try simp only [Act.put, List.getElem_toArray, List.getElem_cons_succ, List.getElem_cons_zero, List.setIfInBounds_toArray, List.set_cons_zero, List.set_cons_succ]
               refine wpAnyH_ready (rs := [10]) (by kernel_rfl) (by simp) ?_
               refine AllReadyH.cons (o := _) rfl (fun K hK => ?step80) ?more80
               case step80 =>
                go_simp
                try dsimp only
                refine hK.out _ _ (hS9.out _ kz.out) (fun hHeld => ?_)
                clear hK K
                try simp only [Act.put, List.getElem_toArray, List.getElem_cons_succ, List.getElem_cons_zero, List.setIfInBounds_toArray, List.set_cons_zero, List.set_cons_succ]
                refine wpAnyH_done (by kernel_rfl) ?_ _
                clear hS9 x5 x5f r5 r5a kg kd9 hd9 hpe h9
                go_wp2_with fail
                go_ret
                have hfin : RAt B w0 _ R base ln ⟨st.ws ++ [encF cur], st.labs, st.lat ++ [⟨.jmp cur, L0, zs, ln, zc⟩]⟩ := ⟨_, _, _, _, _, _, hz.out, by show (fs ++ [F9]).length = (st.lat ++ [_]).length; rw [List.length_append, List.length_append, hfl.out]; rfl⟩
                exact ⟨rfl, by first | exact hfin | (rw [hL0]; exact hfin) | (simp only [hlm]; exact hfin) | (simp only [hlm, hL0]; exact hfin)⟩
               exact AllReadyH.nil
              exact AllReadyH.nil
             exact AllReadyH.nil
            refine AllReadyH.cons (o := _) rfl (fun K hK => ?step94) ?more94
            case step94 =>
             go_simp
             try rw [hF9.out]
             try dsimp only
             refine hK.out _ _ (hS9.out _ kd9) (fun hHeld => ?_)
             clear hK K
             try simp only [Act.put, List.getElem_toArray, List.getElem_cons_succ, List.getElem_cons_zero, List.setIfInBounds_toArray, List.set_cons_zero, List.set_cons_succ]
             refine wpAnyH_ready (rs := [4]) (by kernel_rfl) (by simp) ?_
             refine AllReadyH.cons (o := _) rfl (fun K hK => ?step87) ?more87
             case step87 =>
              go_simp
              try dsimp only
              refine hK.out _ _ (hS9.out _ kd9) (fun hHeld => ?_)
              clear hK K
              try simp only [Act.put, List.getElem_toArray, List.getElem_cons_succ, List.getElem_cons_zero, List.setIfInBounds_toArray, List.set_cons_zero, List.set_cons_succ]
              refine wpAnyH_ready (rs := [7]) (by kernel_rfl) (by simp) ?_
              refine AllReadyH.cons (o := _) rfl (fun K hK => ?step86) ?more86
              case step86 =>
               rw [if_pos (by rfl)]
               obtain ⟨v9, wd9, hra, hoa, hOa⟩ := run_wait B ((wc9.alloc (.cells #[F9] 118)).drew) vf fs.length fs hd9.lat wc9.heap.size F9 _ (by rw [← hF9.out]; rfl) (by show (wc9.alloc (.cells #[F9] 118)).cell? ⟨wc9.heap.size, 0, none⟩ = some F9; exact lit_new rfl rfl) (by rw [hfl.out]; omega) (by have := hd9.hR; have := hd9.lt; omega)
               have hp : Pend ((wc9.alloc (.cells #[F9] 118)).drew) R w2.heap.size F9 ⟨.jmp cur, L0, zs, ln, zc⟩ := hpe.out _ kd9
               obtain ⟨hRk, hz⟩ := hd9.wait (x := ⟨.jmp cur, L0, zs, ln, zc⟩) (b := w2.heap.size) hOa hfl.out (by show wd9.ownsRow B _ 1 v9 (st.lat.length + 1) (fs ++ [F9]); rw [← hfl.out]; exact hoa) ⟨by have := hbsN.out.1; have := hs1.out; omega, fun c hc => by have := hbsN.out.2 c hc; have := hs1.out; omega⟩ (by have := (Array.getElem?_eq_some_iff.1 (kd9.at_ HI9.out (.inr (.inr (.inr (.inl rfl)))))).1; exact this) hp
               have kg : Keep wc9 wd9 := kd9.trans (Keep.grown hd9.lat (capT_no (.inr (.inr (.inl rfl)))) hOa.1)
               have hb6 := hRk.trans hd9.blk
               have kz : Keep wc9 (wd9.setCell ⟨R, 5, none⟩ v9) := kg.trans (Keep.set hb6 (capT_no (.inr (.inr (.inr rfl)))))
               have x5 : wd9.cell? ⟨R, 5, none⟩ = some vf := cell_of_row _ _ 5 _ _ _ hb6
               have x5f := frozen_of_row wd9 R 5 _ _ hb6
               obtain ⟨ao9, ca9, rfl, _, _⟩ := own_shape hoa
               refine Lib.wp_append_run _ _ _ _ _ rfl _ _ rfl rfl _ _ hra ?_
               clear hra hOa hoa hRk hb6 hp
               replace hz := Lib.hid hz; replace kz := Lib.hid kz
               try dsimp only
               refine hK.out _ _ (hS9.out _ kg) (fun hHeld => ?_)
               clear hK K
               try simp only [Act.put, List.getElem_toArray, List.getElem_cons_succ, List.getElem_cons_zero, List.setIfInBounds_toArray, List.set_cons_zero, List.set_cons_succ]
               refine wpAnyH_take (i := 8) (v := ?v83) rfl (by kernel_rfl) (by kernel_rfl) (by kernel_rfl) (fun _ _ _ h => h) (Or.inl ⟨by rfl, ?h83⟩) (by assumption) ?r83
               case h83 =>
                intro w' hSw
                try dsimp only at hSw
                go_simp
                try with_reducible rfl
               try simp only [Act.put, List.getElem_toArray, List.getElem_cons_succ, List.getElem_cons_zero, List.setIfInBounds_toArray, List.set_cons_zero, List.set_cons_succ]
               refine wpAnyH_take (i := 9) (v := ?v84) rfl (by kernel_rfl) (by kernel_rfl) (by kernel_rfl) (fun _ _ _ h => h) (Or.inl ⟨by rfl, ?h84⟩) (by assumption) ?r84
               case h84 =>
                intro w' hSw
                try dsimp only at hSw
                go_simp
                try with_reducible rfl
               try simp only [Act.put, List.getElem_toArray, List.getElem_cons_succ, List.getElem_cons_zero, List.setIfInBounds_toArray, List.set_cons_zero, List.set_cons_succ]
               refine wpAnyH_ready (rs := [10]) (by kernel_rfl) (by simp) ?_
               refine AllReadyH.cons (o := _) rfl (fun K hK => ?step85) ?more85
               case step85 =>
                go_simp
                try dsimp only
                refine hK.out _ _ (hS9.out _ kz.out) (fun hHeld => ?_)
                clear hK K
                try simp only [Act.put, List.getElem_toArray, List.getElem_cons_succ, List.getElem_cons_zero, List.setIfInBounds_toArray, List.set_cons_zero, List.set_cons_succ]
                refine wpAnyH_done (by kernel_rfl) ?_ _
                clear hS9 x5 x5f r5 r5a kg kd9 hd9 hpe h9
                go_wp2_with fail
                go_ret
                have hfin : RAt B w0 _ R base ln ⟨st.ws ++ [encF cur], st.labs, st.lat ++ [⟨.jmp cur, L0, zs, ln, zc⟩]⟩ := ⟨_, _, _, _, _, _, hz.out, by show (fs ++ [F9]).length = (st.lat ++ [_]).length; rw [List.length_append, List.length_append, hfl.out]; rfl⟩
                exact ⟨rfl, by first | exact hfin | (rw [hL0]; exact hfin) | (simp only [hlm]; exact hfin) | (simp only [hlm, hL0]; exact hfin)⟩
               exact AllReadyH.nil
              exact AllReadyH.nil
             exact AllReadyH.nil
            exact AllReadyH.nil
           ·
            obtain ⟨wc9, hwc⟩ : ∃ wc, ((w8.alloc (.cells #[.int .i64 (ln : Int)] 3)).alloc (.cells #[.string zs, .bool false, .int .i64 (zc : Int)] 152)).drew = wc := ⟨_, rfl⟩
            have bc : Below w8.heap.size w8 wc9 := by rw [← hwc]; exact (((Below.refl _ _).alloc (Nat.le_refl _) _).alloc (by simp) _).drew
            have hbw : wc9.heap[w8.heap.size + 1]? = some (.cells #[.string zs, .bool false, .int .i64 (zc : Int)] 152 (0, 0)) := by rw [← hwc]; exact (congrArg (fun k => _[k]?) (by simp)).trans (heap_alloc_new (w8.alloc _) _)
            have hbl : wc9.heap[w8.heap.size]? = some (.cells #[.int .i64 (ln : Int)] 3 (0, 0)) := by rw [← hwc]; exact (heap_alloc_old _ _ (by simp)).trans (heap_alloc_new w8 _)
            try rw [hwc]
            clear hwc q1 q2 q3 q4 q5 q6 q7 q8 q9 q10 o0 o1 o2 c4 r1
            have h9 := (h8.out.later bc).later ((Below.refl _ wc9).drew)
            have K9 := K8.trans (Keep.below bc)
            have K79 := K7.out.trans (K78.trans (Keep.below bc))
            have H49 := K9.at_ H4.out (.inl rfl)
            have H69 := K79.at_ H16.out (.inr (.inr (.inl rfl)))
            have HI9 := K79.at_ HI6.out (.inr (.inr (.inr (.inl rfl))))
            have H79 := (K78.trans (Keep.below bc)).at_ H17b.out (.inr (.inr (.inr (.inr (.inl rfl)))))
            have hS9 : ∀ W, Keep wc9 W → (fun w' : World => w'.cell? ⟨w.heap.size, 0, none⟩ = some (ptr R)) W := fun W hW2 => cell_of_row _ _ 0 _ _ _ (hW2.at_ H49 (.inl rfl))
            obtain ⟨F9, hF9⟩ : ∃ F, Value.func (.func 115) #[] #[ptr w.heap.size, ptr (w8.heap.size + 1), ptr (w8.heap.size), ptr N6, ptr w2.heap.size, ptr N7] = F := ⟨_, rfl⟩
            have hpe : ∀ W, Keep wc9 W → Pend W R w2.heap.size F9 ⟨.jmp cur, L0, zs, ln, zc⟩ := fun W hW2 =>
             ⟨w.heap.size, _, _, N6, N7, hF9.symm, hW2.at_ H49 (.inl rfl), hW2.at_ hbw (.inr (.inl rfl)), hW2.at_ hbl (.inr (.inr (.inl rfl))), hW2.at_ H69 (.inr (.inr (.inl rfl))), hW2.at_ HI9 (.inr (.inr (.inr (.inl rfl)))), hW2.at_ H79 (.inr (.inr (.inr (.inr (.inl rfl)))))⟩
            have r5 : wc9.cell? ⟨R, 5, none⟩ = some vf := h9.c.2.2.2.2.2
            have r5a : ∀ o, (wc9.alloc o).cell? ⟨R, 5, none⟩ = some vf := fun o => cell_alloc_up r5
            have bd9 : Below wc9.heap.size wc9 ((wc9.alloc (.cells #[F9] 118)).drew) := ((Below.refl _ _).alloc (Nat.le_refl _) _).drew
            have kd9 := Keep.below bd9
            have hd9 := (h8.out.later bc).later bd9
            have hmf : ∀ (fn : Fn) (first cap : Array Value) (w : World), (Instr.makeFunc fn first cap).run Tryz.prog w = .ok (.func fn first cap) w := fun _ _ _ _ => rfl
            clear bd9 K9 K79 H69 H79
            replace hF9 := Lib.hid hF9; replace h9 := Lib.hid h9; replace HI9 := Lib.hid HI9; replace hS9 := Lib.hid hS9; replace hpe := Lib.hid hpe; replace hbw := Lib.hid hbw; replace hbl := Lib.hid hbl; replace H49 := Lib.hid H49
            go_upto_region 23 with fail
            refine wp_region_held_drew (S := (fun w' : World => w'.cell? ⟨w.heap.size, 0, none⟩ = some (ptr R))) (by kernel_rfl) (hS9.out _ (Keep.below (Below.refl _ wc9).drew)) (fun hHeld => ?_)
            refine wpAnyH_take (i := 0) (v := ?v105) rfl (by kernel_rfl) (by kernel_rfl) (by kernel_rfl) (fun _ _ _ h => h) (Or.inl ⟨by rfl, ?h105⟩) (by assumption) ?r105
            case h105 =>
             intro w' hSw
             try dsimp only at hSw
             go_simp
             try with_reducible rfl
            try simp only [Act.put, List.getElem_toArray, List.getElem_cons_succ, List.getElem_cons_zero, List.setIfInBounds_toArray, List.set_cons_zero, List.set_cons_succ]
            refine wpAnyH_take (i := 1) (v := ?v106) rfl (by kernel_rfl) (by kernel_rfl) (by kernel_rfl) (fun _ _ _ h => h) (Or.inl ⟨by rfl, ?h106⟩) (by assumption) ?r106
            case h106 =>
             intro w' hSw
             try dsimp only at hSw
             go_simp
             try with_reducible rfl
            try simp only [Act.put, List.getElem_toArray, List.getElem_cons_succ, List.getElem_cons_zero, List.setIfInBounds_toArray, List.set_cons_zero, List.set_cons_succ]
            refine wpAnyH_take (i := 2) (v := ?v107) rfl (by kernel_rfl) (by kernel_rfl) (by kernel_rfl) (fun _ _ _ h => h) (Or.inl ⟨by rfl, ?h107⟩) (by assumption) ?r107
            case h107 =>
             intro w' hSw
             try dsimp only at hSw
             go_simp
             try with_reducible rfl
            try simp only [Act.put, List.getElem_toArray, List.getElem_cons_succ, List.getElem_cons_zero, List.setIfInBounds_toArray, List.set_cons_zero, List.set_cons_succ]
            refine wpAnyH_take (i := 3) (v := ?v108) rfl (by kernel_rfl) (by kernel_rfl) (by kernel_rfl) (fun _ _ _ h => h) (Or.inl ⟨by rfl, ?h108⟩) (by assumption) ?r108
            case h108 =>
             intro w' hSw
             try dsimp only at hSw
             go_simp
             try with_reducible rfl
            try simp only [Act.put, List.getElem_toArray, List.getElem_cons_succ, List.getElem_cons_zero, List.setIfInBounds_toArray, List.set_cons_zero, List.set_cons_succ]
            refine wpAnyH_take (i := 5) (v := ?v109) rfl (by kernel_rfl) (by kernel_rfl) (by kernel_rfl) (fun _ _ _ h => h) (Or.inl ⟨by rfl, ?h109⟩) (by assumption) ?r109
            case h109 =>
             intro w' hSw
             try dsimp only at hSw
             go_simp
             try with_reducible rfl
            try simp only [Act.put, List.getElem_toArray, List.getElem_cons_succ, List.getElem_cons_zero, List.setIfInBounds_toArray, List.set_cons_zero, List.set_cons_succ]
            refine wpAnyH_ready (rs := [4, 6]) (by kernel_rfl) (by simp) ?_
            refine AllReadyH.cons (o := _) rfl (fun K hK => ?step110) ?more110
            case step110 =>
             go_simp
             try dsimp only
             refine hK.out _ _ (hS9.out _ (Keep.below (Below.refl _ wc9).drew)) (fun hHeld => ?_)
             clear hK K
             try simp only [Act.put, List.getElem_toArray, List.getElem_cons_succ, List.getElem_cons_zero, List.setIfInBounds_toArray, List.set_cons_zero, List.set_cons_succ]
             refine wpAnyH_ready (rs := [6]) (by kernel_rfl) (by simp) ?_
             refine AllReadyH.cons (o := _) rfl (fun K hK => ?step99) ?more99
             case step99 =>
              go_simp
              try rw [hF9.out]
              try dsimp only
              refine hK.out _ _ (hS9.out _ kd9) (fun hHeld => ?_)
              clear hK K
              try simp only [Act.put, List.getElem_toArray, List.getElem_cons_succ, List.getElem_cons_zero, List.setIfInBounds_toArray, List.set_cons_zero, List.set_cons_succ]
              refine wpAnyH_ready (rs := [7]) (by kernel_rfl) (by simp) ?_
              refine AllReadyH.cons (o := _) rfl (fun K hK => ?step98) ?more98
              case step98 =>
               rw [if_pos (by rfl)]
               obtain ⟨v9, wd9, hra, hoa, hOa⟩ := run_wait B ((wc9.alloc (.cells #[F9] 118)).drew) vf fs.length fs hd9.lat wc9.heap.size F9 _ (by rw [← hF9.out]; rfl) (by show (wc9.alloc (.cells #[F9] 118)).cell? ⟨wc9.heap.size, 0, none⟩ = some F9; exact lit_new rfl rfl) (by rw [hfl.out]; omega) (by have := hd9.hR; have := hd9.lt; omega)
               have hp : Pend ((wc9.alloc (.cells #[F9] 118)).drew) R w2.heap.size F9 ⟨.jmp cur, L0, zs, ln, zc⟩ := hpe.out _ kd9
               obtain ⟨hRk, hz⟩ := hd9.wait (x := ⟨.jmp cur, L0, zs, ln, zc⟩) (b := w2.heap.size) hOa hfl.out (by show wd9.ownsRow B _ 1 v9 (st.lat.length + 1) (fs ++ [F9]); rw [← hfl.out]; exact hoa) ⟨by have := hbsN.out.1; have := hs1.out; omega, fun c hc => by have := hbsN.out.2 c hc; have := hs1.out; omega⟩ (by have := (Array.getElem?_eq_some_iff.1 (kd9.at_ HI9.out (.inr (.inr (.inr (.inl rfl)))))).1; exact this) hp
               have kg : Keep wc9 wd9 := kd9.trans (Keep.grown hd9.lat (capT_no (.inr (.inr (.inl rfl)))) hOa.1)
               have hb6 := hRk.trans hd9.blk
               have kz : Keep wc9 (wd9.setCell ⟨R, 5, none⟩ v9) := kg.trans (Keep.set hb6 (capT_no (.inr (.inr (.inr rfl)))))
               have x5 : wd9.cell? ⟨R, 5, none⟩ = some vf := cell_of_row _ _ 5 _ _ _ hb6
               have x5f := frozen_of_row wd9 R 5 _ _ hb6
               obtain ⟨ao9, ca9, rfl, _, _⟩ := own_shape hoa
               refine Lib.wp_append_run _ _ _ _ _ rfl _ _ rfl rfl _ _ hra ?_
               clear hra hOa hoa hRk hb6 hp
               replace hz := Lib.hid hz; replace kz := Lib.hid kz
               try dsimp only
               refine hK.out _ _ (hS9.out _ kg) (fun hHeld => ?_)
               clear hK K
               try simp only [Act.put, List.getElem_toArray, List.getElem_cons_succ, List.getElem_cons_zero, List.setIfInBounds_toArray, List.set_cons_zero, List.set_cons_succ]
               refine wpAnyH_take (i := 8) (v := ?v95) rfl (by kernel_rfl) (by kernel_rfl) (by kernel_rfl) (fun _ _ _ h => h) (Or.inl ⟨by rfl, ?h95⟩) (by assumption) ?r95
               case h95 =>
                intro w' hSw
                try dsimp only at hSw
                go_simp
                try with_reducible rfl
               try simp only [Act.put, List.getElem_toArray, List.getElem_cons_succ, List.getElem_cons_zero, List.setIfInBounds_toArray, List.set_cons_zero, List.set_cons_succ]
               refine wpAnyH_take (i := 9) (v := ?v96) rfl (by kernel_rfl) (by kernel_rfl) (by kernel_rfl) (fun _ _ _ h => h) (Or.inl ⟨by rfl, ?h96⟩) (by assumption) ?r96
               case h96 =>
                intro w' hSw
                try dsimp only at hSw
                go_simp
                try with_reducible rfl
               try simp only [Act.put, List.getElem_toArray, List.getElem_cons_succ, List.getElem_cons_zero, List.setIfInBounds_toArray, List.set_cons_zero, List.set_cons_succ]
               refine wpAnyH_ready (rs := [10]) (by kernel_rfl) (by simp) ?_
               refine AllReadyH.cons (o := _) rfl (fun K hK => ?step97) ?more97
               case step97 =>
                go_simp
                try dsimp only
                refine hK.out _ _ (hS9.out _ kz.out) (fun hHeld => ?_)
                clear hK K
                try simp only [Act.put, List.getElem_toArray, List.getElem_cons_succ, List.getElem_cons_zero, List.setIfInBounds_toArray, List.set_cons_zero, List.set_cons_succ]
                refine wpAnyH_done (by kernel_rfl) ?_ _
                clear hS9 x5 x5f r5 r5a kg kd9 hd9 hpe h9
                go_wp2_with fail
                go_ret
                have hfin : RAt B w0 _ R base ln ⟨st.ws ++ [encF cur], st.labs, st.lat ++ [⟨.jmp cur, L0, zs, ln, zc⟩]⟩ := ⟨_, _, _, _, _, _, hz.out, by show (fs ++ [F9]).length = (st.lat ++ [_]).length; rw [List.length_append, List.length_append, hfl.out]; rfl⟩
                exact ⟨rfl, by first | exact hfin | (rw [hL0]; exact hfin) | (simp only [hlm]; exact hfin) | (simp only [hlm, hL0]; exact hfin)⟩
               exact AllReadyH.nil
              exact AllReadyH.nil
             exact AllReadyH.nil
            refine AllReadyH.cons (o := _) rfl (fun K hK => ?step111) ?more111
            case step111 =>
             go_simp
             try rw [hF9.out]
             try dsimp only
             refine hK.out _ _ (hS9.out _ kd9) (fun hHeld => ?_)
             clear hK K
             try simp only [Act.put, List.getElem_toArray, List.getElem_cons_succ, List.getElem_cons_zero, List.setIfInBounds_toArray, List.set_cons_zero, List.set_cons_succ]
             refine wpAnyH_ready (rs := [4]) (by kernel_rfl) (by simp) ?_
             refine AllReadyH.cons (o := _) rfl (fun K hK => ?step104) ?more104
             case step104 =>
              go_simp
              try dsimp only
              refine hK.out _ _ (hS9.out _ kd9) (fun hHeld => ?_)
              clear hK K
              try simp only [Act.put, List.getElem_toArray, List.getElem_cons_succ, List.getElem_cons_zero, List.setIfInBounds_toArray, List.set_cons_zero, List.set_cons_succ]
              refine wpAnyH_ready (rs := [7]) (by kernel_rfl) (by simp) ?_
              refine AllReadyH.cons (o := _) rfl (fun K hK => ?step103) ?more103
              case step103 =>
               rw [if_pos (by rfl)]
               obtain ⟨v9, wd9, hra, hoa, hOa⟩ := run_wait B ((wc9.alloc (.cells #[F9] 118)).drew) vf fs.length fs hd9.lat wc9.heap.size F9 _ (by rw [← hF9.out]; rfl) (by show (wc9.alloc (.cells #[F9] 118)).cell? ⟨wc9.heap.size, 0, none⟩ = some F9; exact lit_new rfl rfl) (by rw [hfl.out]; omega) (by have := hd9.hR; have := hd9.lt; omega)
               have hp : Pend ((wc9.alloc (.cells #[F9] 118)).drew) R w2.heap.size F9 ⟨.jmp cur, L0, zs, ln, zc⟩ := hpe.out _ kd9
               obtain ⟨hRk, hz⟩ := hd9.wait (x := ⟨.jmp cur, L0, zs, ln, zc⟩) (b := w2.heap.size) hOa hfl.out (by show wd9.ownsRow B _ 1 v9 (st.lat.length + 1) (fs ++ [F9]); rw [← hfl.out]; exact hoa) ⟨by have := hbsN.out.1; have := hs1.out; omega, fun c hc => by have := hbsN.out.2 c hc; have := hs1.out; omega⟩ (by have := (Array.getElem?_eq_some_iff.1 (kd9.at_ HI9.out (.inr (.inr (.inr (.inl rfl)))))).1; exact this) hp
               have kg : Keep wc9 wd9 := kd9.trans (Keep.grown hd9.lat (capT_no (.inr (.inr (.inl rfl)))) hOa.1)
               have hb6 := hRk.trans hd9.blk
               have kz : Keep wc9 (wd9.setCell ⟨R, 5, none⟩ v9) := kg.trans (Keep.set hb6 (capT_no (.inr (.inr (.inr rfl)))))
               have x5 : wd9.cell? ⟨R, 5, none⟩ = some vf := cell_of_row _ _ 5 _ _ _ hb6
               have x5f := frozen_of_row wd9 R 5 _ _ hb6
               obtain ⟨ao9, ca9, rfl, _, _⟩ := own_shape hoa
               refine Lib.wp_append_run _ _ _ _ _ rfl _ _ rfl rfl _ _ hra ?_
               clear hra hOa hoa hRk hb6 hp
               replace hz := Lib.hid hz; replace kz := Lib.hid kz
               try dsimp only
               refine hK.out _ _ (hS9.out _ kg) (fun hHeld => ?_)
               clear hK K
               try simp only [Act.put, List.getElem_toArray, List.getElem_cons_succ, List.getElem_cons_zero, List.setIfInBounds_toArray, List.set_cons_zero, List.set_cons_succ]
               refine wpAnyH_take (i := 8) (v := ?v100) rfl (by kernel_rfl) (by kernel_rfl) (by kernel_rfl) (fun _ _ _ h => h) (Or.inl ⟨by rfl, ?h100⟩) (by assumption) ?r100
               case h100 =>
                intro w' hSw
                try dsimp only at hSw
                go_simp
                try with_reducible rfl
               try simp only [Act.put, List.getElem_toArray, List.getElem_cons_succ, List.getElem_cons_zero, List.setIfInBounds_toArray, List.set_cons_zero, List.set_cons_succ]
               refine wpAnyH_take (i := 9) (v := ?v101) rfl (by kernel_rfl) (by kernel_rfl) (by kernel_rfl) (fun _ _ _ h => h) (Or.inl ⟨by rfl, ?h101⟩) (by assumption) ?r101
               case h101 =>
                intro w' hSw
                try dsimp only at hSw
                go_simp
                try with_reducible rfl
               try simp only [Act.put, List.getElem_toArray, List.getElem_cons_succ, List.getElem_cons_zero, List.setIfInBounds_toArray, List.set_cons_zero, List.set_cons_succ]
               refine wpAnyH_ready (rs := [10]) (by kernel_rfl) (by simp) ?_
               refine AllReadyH.cons (o := _) rfl (fun K hK => ?step102) ?more102
               case step102 =>
                go_simp
                try dsimp only
                refine hK.out _ _ (hS9.out _ kz.out) (fun hHeld => ?_)
                clear hK K
                try simp only [Act.put, List.getElem_toArray, List.getElem_cons_succ, List.getElem_cons_zero, List.setIfInBounds_toArray, List.set_cons_zero, List.set_cons_succ]
                refine wpAnyH_done (by kernel_rfl) ?_ _
                clear hS9 x5 x5f r5 r5a kg kd9 hd9 hpe h9
                go_wp2_with fail
                go_ret
                have hfin : RAt B w0 _ R base ln ⟨st.ws ++ [encF cur], st.labs, st.lat ++ [⟨.jmp cur, L0, zs, ln, zc⟩]⟩ := ⟨_, _, _, _, _, _, hz.out, by show (fs ++ [F9]).length = (st.lat ++ [_]).length; rw [List.length_append, List.length_append, hfl.out]; rfl⟩
                exact ⟨rfl, by first | exact hfin | (rw [hL0]; exact hfin) | (simp only [hlm]; exact hfin) | (simp only [hlm, hL0]; exact hfin)⟩
               exact AllReadyH.nil
              exact AllReadyH.nil
             exact AllReadyH.nil
            exact AllReadyH.nil
          exact AllReadyH.nil
         exact AllReadyH.nil
        exact AllReadyH.nil
       exact AllReadyH.nil
end Go.Proofs.YtiknookfnameiaaGreatDoor
