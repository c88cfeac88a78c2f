/- The contract of asm's fixed, of a load (printed by genMFx2.py). -/
import Derived.Test.YtiknookfnameiaaGreatDoorMFx2Jn
namespace Go.Proofs.YtiknookfnameiaaGreatDoor
open Go.RowKit WP
set_option linter.unusedSimpArgs false
set_option linter.unusedVariables false
set_option maxRecDepth 100000 in
set_option maxHeartbeats 4000000 in
theorem fixed_li {B : Nat} {w0 w : World} {R : Nat} {base : Int} {ln : Nat} {st : Asm} (hR : RAt B w0 w R base ln st) (hE : AEnv w0) (hst : st.ws.length ≤ 2048) (hlat : st.lat.length ≤ 2048) (name : W) (ops : List W) (v : Value) (hops : WsAt w v ops) (hsz : ∀ x ∈ ops, x.1.size ≤ 1048576) (shape : ByteArray) (k : Nat) (hsh : shape.size = k + 1) (hk : k ≤ 1) (hol : ops.length ≤ 1048576) (a : Int) (ba : Nat) (hL : LayK w (Wht.li a) 120 #[ptr ba]) :
  Calls Tryz.prog 86 #[ptr R, wV name, .string shape, v, .func (.func 120) #[] #[ptr ba], .int .i64 ((Wht.li a).size : Int)] w fun e w' => StRes B w0 R base ln w' e (fixedM ln name k ops (Wht.li a) (Wht.li a).size st) := by
 obtain ⟨vw, vl, mb, vf, fs, bs, h, hfl⟩ := hR
 obtain ⟨ns, nq, nc⟩ := name
 have hn := hL.size
 obtain ⟨n, hnn⟩ : ∃ n, (Wht.li a).size = n := ⟨_, rfl⟩
 rw [hnn] at hn ⊢
 obtain ⟨aw, cw, rfl, w1a, w1b⟩ := own_shape h.ws
 obtain ⟨L0, hL0⟩ : ∃ L, st.ws.length = L := ⟨_, rfl⟩
 obtain ⟨w1, hw1⟩ : ∃ w1, (((w.alloc (.cells #[ptr R] 68)).alloc (.cells #[.string ns, .bool nq, .int .i64 (nc : Int)] 152)).alloc (.cells #[.func (.func 120) #[] #[ptr ba]] 188)).alloc (.cells #[.int .i64 (n : Int)] 3) = w1 := ⟨_, rfl⟩
 have b1 : Below w.heap.size w w1 := by rw [← hw1]; exact ((((Below.refl _ _).alloc (Nat.le_refl _) _).alloc (by simp) _).alloc (by simp; omega) _).alloc (by simp <;> omega) _
 have H6 : w1.heap[w.heap.size]? = some (.cells #[ptr R] 68 (0, 0)) := by
  rw [← hw1, heap_alloc_old _ _ (by simp; omega), heap_alloc_old _ _ (by simp; omega), heap_alloc_old _ _ (by simp)]; exact heap_alloc_new w _
 have H7 : w1.heap[w.heap.size + 1]? = some (.cells #[.string ns, .bool nq, .int .i64 (nc : Int)] 152 (0, 0)) := by
  rw [← hw1, heap_alloc_old _ _ (by simp), heap_alloc_old _ _ (by simp)]
  exact (congrArg (fun k => _[k]?) (by simp)).trans (heap_alloc_new (w.alloc (.cells #[ptr R] 68)) _)
 have H10 : w1.heap[w.heap.size + 1 + 1]? = some (.cells #[.func (.func 120) #[] #[ptr ba]] 188 (0, 0)) := by
  rw [← hw1, heap_alloc_old _ _ (by simp)]
  exact (congrArg (fun k => _[k]?) (by simp)).trans (heap_alloc_new ((w.alloc (.cells #[ptr R] 68)).alloc (.cells #[.string ns, .bool nq, .int .i64 (nc : Int)] 152)) _)
 have H11 : w1.heap[w.heap.size + 1 + 1 + 1]? = some (.cells #[.int .i64 (n : Int)] 3 (0, 0)) := by
  rw [← hw1]
  exact (congrArg (fun k => _[k]?) (by simp)).trans (heap_alloc_new (((w.alloc (.cells #[ptr R] 68)).alloc (.cells #[.string ns, .bool nq, .int .i64 (nc : Int)] 152)).alloc (.cells #[.func (.func 120) #[] #[ptr ba]] 188)) _)
 have h1 := h.later b1
 have hK1 := Keep.below b1
 have hbsN : B ≤ w.heap.size ∧ ∀ c ∈ bs, c < w.heap.size := ⟨by have := h.hR; have := h.lt; omega, h.pend.lt⟩
 have hW : ∀ W, Keep w1 W → (W.cell? ⟨w.heap.size, 0, none⟩ = some (ptr R) ∧ (W.cell? ⟨w.heap.size + 1, 0, none⟩ = some (.string ns) ∧ W.cell? ⟨w.heap.size + 1, 1, none⟩ = some (.bool nq) ∧ W.cell? ⟨w.heap.size + 1, 2, none⟩ = some (.int .i64 (nc : Int))) ∧ W.cell? ⟨w.heap.size + 1 + 1, 0, none⟩ = some (.func (.func 120) #[] #[ptr ba]) ∧ W.cell? ⟨w.heap.size + 1 + 1 + 1, 0, none⟩ = some (.int .i64 (n : Int))) ∧ LayK W (Wht.li a) 120 #[ptr ba] := fun W hW =>
  ⟨⟨cell_of_row _ _ 0 _ _ _ (hW.at_ H6 (.inl rfl)), ⟨cell_of_row _ _ 0 _ _ _ (hW.at_ H7 (.inr (.inl rfl))), cell_of_row _ _ 1 _ _ _ (hW.at_ H7 (.inr (.inl rfl))), cell_of_row _ _ 2 _ _ _ (hW.at_ H7 (.inr (.inl rfl)))⟩, cell_of_row _ _ 0 _ _ _ (hW.at_ H10 (.inr (.inr (.inr (.inr (.inr (.inl rfl))))))), cell_of_row _ _ 0 _ _ _ (hW.at_ H11 (.inr (.inr (.inl rfl))))⟩, (hL.keep hK1).keep hW⟩
 have hOp : ∀ W, Keep w1 W → WsAt W v ops := fun W hW => (hops.keep hK1).keep hW
 have hrm := room_any h1 (ns, nq, nc) n (by omega) (by omega)
 unfold wV at hrm ⊢
 dsimp only at hrm ⊢
 have hk1 : IntKind.i64.wrap ((shape.size : Int) - 1) = (k : Int) := by rw [hsh]; rw [wrapI _ (by omega) (by omega)]; omega
 have hrefl : Keep w1 w1 := Keep.refl _
 clear hops hL hK1 h
 replace h1 := Lib.hid h1; replace hW := Lib.hid hW; replace hOp := Lib.hid hOp; replace hrm := Lib.hid hrm; replace H6 := Lib.hid H6; replace H7 := Lib.hid H7; replace H10 := Lib.hid H10; replace H11 := Lib.hid H11; replace hnn := Lib.hid hnn; replace hsh := Lib.hid hsh; replace hfl := Lib.hid hfl; replace hsz := Lib.hid hsz; replace hbsN := Lib.hid hbsN; replace b1 := Lib.hid b1
 rw [hL0] at h1
 unfold fixedM
 cases hr : roomM ln (ns, nq, nc) st n with
 | some f =>
  rw [hr] at hrm
  simp only
  obtain ⟨⟨c6, ⟨c7a, c7b, c7c⟩, c10, c11⟩, _⟩ := hW.out _ hrefl
  go_enter Tryz.func86, Tryz.ntmps86
  go_upto_region 1 with fail
  try rw [hw1]
  clear hw1
  go_wp2_with fail
  refine hrm.out.mono ?_
  rintro e w2 ⟨her, b2⟩
  obtain ⟨fv, rfl, gf, rfl, hgf⟩ := her
  have hfin := h1.out.below.trans (b2.mono (by have := h1.out.hR; have := h1.out.lt; omega))
  clear b2
  replace hgf := Lib.hid hgf; replace hfin := Lib.hid hfin
  go_wp2_with fail
  go_ret
  exact ⟨⟨_, rfl, ⟨_, rfl, hgf.out⟩⟩, hfin.out⟩
 | none =>
  have hroom := room_no hr
  rw [hL0] at hroom
  rw [hr] at hrm
  simp only
  clear hr
  by_cases hkl : k < ops.length
  ·
   obtain ⟨⟨xs, xq, xc⟩, hx⟩ : ∃ x, ops[k]? = some x := ⟨_, List.getElem?_eq_getElem hkl⟩
   have hgd : ∀ d : W, ops.getD k d = (xs, xq, xc) := fun d => by rw [List.getD_eq_getElem?_getD, hx]; rfl
   have hxs : xs.size ≤ 1048576 := hsz.out _ (List.mem_of_getElem? hx)
   obtain ⟨ao, oc, rfl, p1, p2, h3⟩ := hOp.out w1 hrefl
   obtain ⟨ob, oo, ocs, rfl, hob, hoc⟩ := h3.resolve_left (fun h => by rw [h] at hkl; simp at hkl)
   have hO : ∀ W, Keep w1 W → W.cell? ⟨ob, oo + k * 3, none⟩ = some (.string xs) ∧ W.cell? ⟨ob, oo + k * 3 + 1, none⟩ = some (.bool xq) ∧ W.cell? ⟨ob, oo + k * 3 + 2, none⟩ = some (.int .i64 (xc : Int)) := fun W hW2 => by
    have hb := hW2.at_ hob (.inr (.inl rfl))
    obtain ⟨a, b, c⟩ := hoc k _ hx
    exact ⟨(cell_of_row _ _ _ _ _ _ hb).trans a, (cell_of_row _ _ _ _ _ _ hb).trans b, (cell_of_row _ _ _ _ _ _ hb).trans c⟩
   simp only [hgd]
   clear hx hob hoc h3
   replace hO := Lib.hid hO; replace hgd := Lib.hid hgd
   cases hnm : isNameF (xs, xq, xc) with
   | false =>
    rw [if_pos ⟨hkl, rfl⟩]
    have hlm : ∀ t p l, latM t p l (xs, xq, xc) = [] := fun t p l => by unfold latM; rw [if_neg (by rw [hnm]; simp)]
    cases hnu : numberM (xs, xq, xc) with
    | none =>
     simp only
     obtain ⟨L, hLo⟩ : ∃ L, ops.length = L := ⟨_, rfl⟩
     have hLL := hLo
     rw [hLo] at hkl hol
     rw [hLo]
     replace hLo := Lib.hid hLo; replace hLL := Lib.hid hLL
     have g1 : decide ((L : Int) > (k : Int)) = true := decide_eq_true (by omega)
     have g2 : (k : Int) < (L : Int) := by omega
     have g3 : (0 : Int) ≤ (k : Int) := by omega
     obtain ⟨⟨c6, ⟨c7a, c7b, c7c⟩, c10, c11⟩, _⟩ := hW.out _ hrefl
     go_enter Tryz.func86, Tryz.ntmps86
     go_upto_region 1 with fail
     try rw [hw1]
     clear hw1
     go_wp2_with fail
     refine hrm.out.mono ?_
     rintro e w2 ⟨her, b2⟩
     obtain rfl : e = _ := her
     have h2 := h1.out.later b2
     have K2 := Keep.below b2
     clear b2 c6 c7a c7b c7c c10 c11 hrm h1
     obtain ⟨o0, o1, o2⟩ := hO.out w2 K2
     have hin := isnm_any (xs, xq, xc) w2
     unfold wV at hin
     dsimp only at hin
     rw [hnm] at hin
     replace hin := Lib.hid hin
     go_wp2_with fail
     refine hin.out.mono ?_
     rintro e w3 ⟨rfl, b3⟩
     have h3 := h2.later b3
     have K3 := K2.trans (Keep.below b3)
     clear b3 hin o0 o1 o2 h2 K2
     obtain ⟨o0, o1, o2⟩ := hO.out w3 K3
     have hnn2 := anum_any (xs, xq, xc) w3 (by show xs.size ≤ _; omega) (h3.env hE).pk.e
     unfold wV at hnn2
     dsimp only at hnn2
     rw [hnu] at hnn2
     simp only [Option.getD_some, Option.getD_none, Option.isSome_some, Option.isSome_none] at hnn2
     replace hnn2 := Lib.hid hnn2
     go_wp2_with fail
     refine hnn2.out.mono ?_
     rintro e w4 ⟨rfl, b3⟩
     have h4 := h3.later b3
     have K4 := K3.trans (Keep.below b3)
     clear b3 hnn2 o0 o1 o2 h3 K3
     obtain ⟨o0, o1, o2⟩ := hO.out w4 K4
     have hat := at_any R ln xc 61
     have hatW : ∀ W, Below w4.heap.size w4 W → W.cell? ⟨R, 1, none⟩ = some (.int .i64 (ln : Int)) := fun W hW2 => (h4.later hW2).c.2.1
     have hS : ∀ W, Below w4.heap.size w4 W → (fun w' : World => w'.cell? ⟨w.heap.size, 0, none⟩ = some (ptr R) ∧ w'.cell? ⟨ob, oo + k * 3 + 2, none⟩ = some (.int .i64 (xc : Int))) W := fun W hW2 =>
      ⟨(hW.out W (K4.trans (Keep.below hW2))).1.1, (hO.out W (K4.trans (Keep.below hW2))).2.2⟩
     have hB0 : Below w4.heap.size w4 w4 := Below.refl _ _
     have hbel := h4.below
     have hBs : B ≤ w4.heap.size := by have := h4.hR; have := h4.lt; omega
     clear o0 o1 o2 h4 K4
     replace hS := Lib.hid hS; replace hat := Lib.hid hat; replace hatW := Lib.hid hatW; replace hbel := Lib.hid hbel
     go_upto_region 9 with fail
     go_region_held3 (fun w' : World => w'.cell? ⟨w.heap.size, 0, none⟩ = some (ptr R) ∧ w'.cell? ⟨ob, oo + k * 3 + 2, none⟩ = some (.int .i64 (xc : Int)))
      (exact hS.out _ (by first | with_reducible exact hB0 | with_reducible exact hB0.drew))
      (first
      | (go_at_call 39
         refine (hat.out _ (hatW.out _ (by first | with_reducible exact hB0 | with_reducible exact hB0.drew))).mono ?_
         rintro e w5 ⟨fv, rfl, hft, b5⟩
         replace hB0 := Below.trans (by first | with_reducible exact hB0 | with_reducible exact hB0.drew) (b5.mono (by exact hB0.size))
         clear b5))
     have hfin := hbel.out.trans (hB0.mono hBs)
     clear hB0
     replace hft := Lib.hid hft; replace hfin := Lib.hid hfin
     go_wp2_with fail
     go_ret
     exact ⟨⟨_, rfl, hft.out⟩, hfin.out⟩
    | some y =>
     simp only
     have hy : 0 ≤ y ∧ y < 4294967296 := number_bd _ _ hnu
     obtain ⟨hy0, hy1⟩ := hy
     cases hcm : countM ln (ns, nq, nc) ops (k + 1) with
     | some f =>
      simp only
      obtain ⟨L, hLo⟩ : ∃ L, ops.length = L := ⟨_, rfl⟩
      have hLL := hLo
      rw [hLo] at hkl hol
      rw [hLo]
      replace hLo := Lib.hid hLo; replace hLL := Lib.hid hLL
      have g1 : decide ((L : Int) > (k : Int)) = true := decide_eq_true (by omega)
      have g2 : (k : Int) < (L : Int) := by omega
      have g3 : (0 : Int) ≤ (k : Int) := by omega
      obtain ⟨⟨c6, ⟨c7a, c7b, c7c⟩, c10, c11⟩, _⟩ := hW.out _ hrefl
      go_enter Tryz.func86, Tryz.ntmps86
      go_upto_region 1 with fail
      try rw [hw1]
      clear hw1
      go_wp2_with fail
      refine hrm.out.mono ?_
      rintro e w2 ⟨her, b2⟩
      obtain rfl : e = _ := her
      have h2 := h1.out.later b2
      have K2 := Keep.below b2
      clear b2 c6 c7a c7b c7c c10 c11 hrm h1
      obtain ⟨o0, o1, o2⟩ := hO.out w2 K2
      have hin := isnm_any (xs, xq, xc) w2
      unfold wV at hin
      dsimp only at hin
      rw [hnm] at hin
      replace hin := Lib.hid hin
      go_wp2_with fail
      refine hin.out.mono ?_
      rintro e w3 ⟨rfl, b3⟩
      have h3 := h2.later b3
      have K3 := K2.trans (Keep.below b3)
      clear b3 hin o0 o1 o2 h2 K2
      obtain ⟨o0, o1, o2⟩ := hO.out w3 K3
      have hnn2 := anum_any (xs, xq, xc) w3 (by show xs.size ≤ _; omega) (h3.env hE).pk.e
      unfold wV at hnn2
      dsimp only at hnn2
      rw [hnu] at hnn2
      simp only [Option.getD_some, Option.getD_none, Option.isSome_some, Option.isSome_none] at hnn2
      replace hnn2 := Lib.hid hnn2
      go_wp2_with fail
      refine hnn2.out.mono ?_
      rintro e w4 ⟨rfl, b3⟩
      have h4 := h3.later b3
      have K4 := K3.trans (Keep.below b3)
      clear b3 hnn2 o0 o1 o2 h3 K3
      obtain ⟨⟨c6, ⟨c7a, c7b, c7c⟩, _, _⟩, _⟩ := hW.out w4 K4
      have hct := count_any R ln (ns, nq, nc) _ ops shape.size w4 h4.c.2.1 (hOp.out _ K4) (by have := hsh.out; omega)
      unfold wV at hct
      dsimp only at hct
      rw [hsh.out, hcm] at hct
      rw [hLo.out] at hct
      have hsz2 : ((k + 1 : Nat) : Int) = (shape.size : Int) := by rw [hsh.out]
      rw [hsz2] at hct
      replace hct := Lib.hid hct
      clear hsz2
      go_wp2_with fail
      refine hct.out.mono ?_
      rintro e w5 ⟨her, b5⟩
      clear c6 c7a c7b c7c hct
      obtain ⟨fv, rfl, gf, rfl, hgf⟩ := her
      have hfin := (h4.below).trans (b5.mono (by have := h4.hR; have := h4.lt; omega))
      clear b5
      replace hgf := Lib.hid hgf; replace hfin := Lib.hid hfin
      go_wp2_with fail
      go_ret
      exact ⟨⟨_, rfl, ⟨_, rfl, hgf.out⟩⟩, hfin.out⟩
     | none =>
      simp only [hlm]
      obtain ⟨L, hLo⟩ : ∃ L, ops.length = L := ⟨_, rfl⟩
      have hLL := hLo
      rw [hLo] at hkl hol
      rw [hLo]
      replace hLo := Lib.hid hLo; replace hLL := Lib.hid hLL
      have g1 : decide ((L : Int) > (k : Int)) = true := decide_eq_true (by omega)
      have g2 : (k : Int) < (L : Int) := by omega
      have g3 : (0 : Int) ≤ (k : Int) := by omega
      obtain ⟨⟨c6, ⟨c7a, c7b, c7c⟩, c10, c11⟩, _⟩ := hW.out _ hrefl
      go_enter Tryz.func86, Tryz.ntmps86
      go_upto_region 1 with fail
      try rw [hw1]
      clear hw1
      go_wp2_with fail
      refine hrm.out.mono ?_
      rintro e w2 ⟨her, b2⟩
      obtain rfl : e = _ := her
      have h2 := h1.out.later b2
      have K2 := Keep.below b2
      clear b2 c6 c7a c7b c7c c10 c11 hrm h1
      obtain ⟨o0, o1, o2⟩ := hO.out w2 K2
      have hin := isnm_any (xs, xq, xc) w2
      unfold wV at hin
      dsimp only at hin
      rw [hnm] at hin
      replace hin := Lib.hid hin
      go_wp2_with fail
      refine hin.out.mono ?_
      rintro e w3 ⟨rfl, b3⟩
      have h3 := h2.later b3
      have K3 := K2.trans (Keep.below b3)
      clear b3 hin o0 o1 o2 h2 K2
      obtain ⟨o0, o1, o2⟩ := hO.out w3 K3
      have hnn2 := anum_any (xs, xq, xc) w3 (by show xs.size ≤ _; omega) (h3.env hE).pk.e
      unfold wV at hnn2
      dsimp only at hnn2
      rw [hnu] at hnn2
      simp only [Option.getD_some, Option.getD_none, Option.isSome_some, Option.isSome_none] at hnn2
      replace hnn2 := Lib.hid hnn2
      go_wp2_with fail
      refine hnn2.out.mono ?_
      rintro e w4 ⟨rfl, b3⟩
      have h4 := h3.later b3
      have K4 := K3.trans (Keep.below b3)
      clear b3 hnn2 o0 o1 o2 h3 K3
      obtain ⟨⟨c6, ⟨c7a, c7b, c7c⟩, _, _⟩, _⟩ := hW.out w4 K4
      have hct := count_any R ln (ns, nq, nc) _ ops shape.size w4 h4.c.2.1 (hOp.out _ K4) (by have := hsh.out; omega)
      unfold wV at hct
      dsimp only at hct
      rw [hsh.out, hcm] at hct
      rw [hLo.out] at hct
      have hsz2 : ((k + 1 : Nat) : Int) = (shape.size : Int) := by rw [hsh.out]
      rw [hsz2] at hct
      replace hct := Lib.hid hct
      clear hsz2
      go_wp2_with fail
      refine hct.out.mono ?_
      rintro e w5 ⟨her, b5⟩
      clear c6 c7a c7b c7c hct
      obtain rfl : e = _ := her
      have h5 := h4.later b5
      have K5 := K4.trans (Keep.below b5)
      clear b5 h4 K4
      obtain ⟨wa, hwa⟩ : ∃ wa, w5.alloc (.cells #[.int .i64 (L0 : Int)] 3) = wa := ⟨_, rfl⟩
      have ba : Below w5.heap.size w5 wa := by rw [← hwa]; exact (Below.refl _ _).alloc (Nat.le_refl _) _
      have H19 : wa.heap[w5.heap.size]? = some (.cells #[.int .i64 (L0 : Int)] 3 (0, 0)) := by rw [← hwa]; exact heap_alloc_new w5 _
      obtain ⟨N9, hN9⟩ : ∃ N, w5.heap.size = N := ⟨_, rfl⟩
      have Ka := K5.trans (Keep.below ba)
      obtain ⟨⟨c6, _, _, _⟩, _⟩ := hW.out w5 K5
      have r2 := h5.c.2.2.1
      have ha := (h5.later ba).later ((Below.refl _ wa).drew)
      have hB : B ≤ wa.drew.heap.size := by have := ha.hR; have := ha.lt; omega
      rw [hN9] at H19
      clear ba
      replace ha := Lib.hid ha; replace H19 := Lib.hid H19
      go_upto_region 15 with fail
      try rw [hN9]
      try rw [hwa]
      clear c6 r2 h5 K5 hwa hN9
      have hS : ∀ W, Keep wa W → (fun w' : World => w'.cell? ⟨w.heap.size, 0, none⟩ = some (ptr R) ∧ w'.cell? ⟨w.heap.size + 1 + 1 + 1, 0, none⟩ = some (.int .i64 (n : Int))) W := fun W hW2 => ⟨(hW.out W (Ka.trans hW2)).1.1, (hW.out W (Ka.trans hW2)).1.2.2.2⟩
      replace hS := Lib.hid hS
      have kd : Keep wa wa.drew := Keep.below (Below.refl _ wa).drew
      have r2 : wa.cell? ⟨R, 2, none⟩ = some (.slice aw L0 cw) := ha.out.c.2.2.1
      refine wp_region_held_drew (S := (fun w' : World => w'.cell? ⟨w.heap.size, 0, none⟩ = some (ptr R) ∧ w'.cell? ⟨w.heap.size + 1 + 1 + 1, 0, none⟩ = some (.int .i64 (n : Int)))) (by kernel_rfl) (hS.out _ kd) (fun hHeld => ?_)
      refine wpAnyH_take (i := 0) (v := ?v35) rfl (by kernel_rfl) (by kernel_rfl) (by kernel_rfl) (fun _ _ _ h => h) (Or.inl ⟨by rfl, ?h35⟩) (by assumption) ?r35
      case h35 =>
       intro w' hSw
       try dsimp only at hSw
       go_simp
       try with_reducible rfl
      try simp only [Act.put, List.getElem_toArray, List.getElem_cons_succ, List.getElem_cons_zero, List.setIfInBounds_toArray, List.set_cons_zero, List.set_cons_succ]
      refine wpAnyH_take (i := 1) (v := ?v36) rfl (by kernel_rfl) (by kernel_rfl) (by kernel_rfl) (fun _ _ _ h => h) (Or.inl ⟨by rfl, ?h36⟩) (by assumption) ?r36
      case h36 =>
       intro w' hSw
       try dsimp only at hSw
       go_simp
       try with_reducible rfl
      try simp only [Act.put, List.getElem_toArray, List.getElem_cons_succ, List.getElem_cons_zero, List.setIfInBounds_toArray, List.set_cons_zero, List.set_cons_succ]
      refine wpAnyH_take (i := 2) (v := ?v37) rfl (by kernel_rfl) (by kernel_rfl) (by kernel_rfl) (fun _ _ _ h => h) (Or.inl ⟨by rfl, ?h37⟩) (by assumption) ?r37
      case h37 =>
       intro w' hSw
       try dsimp only at hSw
       go_simp
       try with_reducible rfl
      try simp only [Act.put, List.getElem_toArray, List.getElem_cons_succ, List.getElem_cons_zero, List.setIfInBounds_toArray, List.set_cons_zero, List.set_cons_succ]
      refine wpAnyH_take (i := 3) (v := ?v38) rfl (by kernel_rfl) (by kernel_rfl) (by kernel_rfl) (fun _ _ _ h => h) (Or.inl ⟨by rfl, ?h38⟩) (by assumption) ?r38
      case h38 =>
       intro w' hSw
       try dsimp only at hSw
       go_simp
       try with_reducible rfl
      try simp only [Act.put, List.getElem_toArray, List.getElem_cons_succ, List.getElem_cons_zero, List.setIfInBounds_toArray, List.set_cons_zero, List.set_cons_succ]
      refine wpAnyH_take (i := 5) (v := ?v39) rfl (by kernel_rfl) (by kernel_rfl) (by kernel_rfl) (fun _ _ _ h => h) (Or.inl ⟨by rfl, ?h39⟩) (by assumption) ?r39
      case h39 =>
       intro w' hSw
       try dsimp only at hSw
       go_simp
       try with_reducible rfl
      try simp only [Act.put, List.getElem_toArray, List.getElem_cons_succ, List.getElem_cons_zero, List.setIfInBounds_toArray, List.set_cons_zero, List.set_cons_succ]
      refine wpAnyH_ready (rs := [4]) (by kernel_rfl) (by simp) ?_
      refine AllReadyH.cons (o := _) rfl (fun K hK => ?step56) ?more56
      case step56 =>
       go_simp
       try dsimp only
       refine hK.out _ _ (hS.out _ kd) (fun hHeld => ?_)
       clear hK K
       try simp only [Act.put, List.getElem_toArray, List.getElem_cons_succ, List.getElem_cons_zero, List.setIfInBounds_toArray, List.set_cons_zero, List.set_cons_succ]
       refine wpAnyH_ready (rs := [6]) (by kernel_rfl) (by simp) ?_
       refine AllReadyH.cons (o := _) rfl (fun K hK => ?step55) ?more55
       case step55 =>
        rw [if_pos (by rfl)]
        obtain ⟨v6, w6, hra, hoa, hOa⟩ := run_append_zs B 3 _ .i64 .i64 Tryz.underlying3 wa.drew (.slice aw L0 cw) L0 (wi st.ws) (by have h := ha.out.ws; rw [hL0] at h; exact h) n (by omega) hB
        obtain ⟨g, cap, hv6, g1, g2⟩ := hoa.form (by omega)
        obtain ⟨ao6, cap6, hw6, hca, hcb⟩ := own_shape hoa
        have e6 : cap6 = cap := by rw [hv6] at hw6; injection hw6 with _ _ e; exact e.symm
        rw [e6] at hca hcb
        subst hv6
        clear hw6 e6
        obtain ⟨hRk, hz⟩ := ha.out.words (l := List.replicate n 0) hOa (by rw [wi_zeros, hL0, List.length_replicate]; exact hoa)
        have kg : Keep wa w6 := kd.trans (Keep.grown ha.out.ws (capT_no (.inl rfl)) hOa.1)
        have hb6 := hRk.trans ha.out.blk
        have kz : Keep wa (w6.setCell ⟨R, 2, none⟩ (.slice (some ⟨g, 0, none⟩) (L0 + n) cap)) := kg.trans (Keep.set hb6 (capT_no (.inr (.inr (.inr rfl)))))
        have x2 : w6.cell? ⟨R, 2, none⟩ = some (.slice aw L0 cw) := cell_of_row _ _ 2 _ _ _ hb6
        have x2f := frozen_of_row w6 R 2 _ _ hb6
        refine Lib.wp_append_run _ _ _ _ _ rfl _ _ rfl rfl _ _ hra ?_
        clear hra hOa hoa hRk hb6
        replace hz := Lib.hid hz; replace kz := Lib.hid kz
        try dsimp only
        refine hK.out _ _ (hS.out _ kg) (fun hHeld => ?_)
        clear hK K
        try simp only [Act.put, List.getElem_toArray, List.getElem_cons_succ, List.getElem_cons_zero, List.setIfInBounds_toArray, List.set_cons_zero, List.set_cons_succ]
        refine wpAnyH_take (i := 7) (v := ?v40) rfl (by kernel_rfl) (by kernel_rfl) (by kernel_rfl) (fun _ _ _ h => h) (Or.inl ⟨by rfl, ?h40⟩) (by assumption) ?r40
        case h40 =>
         intro w' hSw
         try dsimp only at hSw
         go_simp
         try with_reducible rfl
        try simp only [Act.put, List.getElem_toArray, List.getElem_cons_succ, List.getElem_cons_zero, List.setIfInBounds_toArray, List.set_cons_zero, List.set_cons_succ]
        refine wpAnyH_take (i := 8) (v := ?v41) rfl (by kernel_rfl) (by kernel_rfl) (by kernel_rfl) (fun _ _ _ h => h) (Or.inl ⟨by rfl, ?h41⟩) (by assumption) ?r41
        case h41 =>
         intro w' hSw
         try dsimp only at hSw
         go_simp
         try with_reducible rfl
        try simp only [Act.put, List.getElem_toArray, List.getElem_cons_succ, List.getElem_cons_zero, List.setIfInBounds_toArray, List.set_cons_zero, List.set_cons_succ]
        refine wpAnyH_ready (rs := [9]) (by kernel_rfl) (by simp) ?_
        refine AllReadyH.cons (o := _) rfl (fun K hK => ?step54) ?more54
        case step54 =>
         go_simp
         try dsimp only
         refine hK.out _ _ (hS.out _ kz.out) (fun hHeld => ?_)
         clear hK K
         try simp only [Act.put, List.getElem_toArray, List.getElem_cons_succ, List.getElem_cons_zero, List.setIfInBounds_toArray, List.set_cons_zero, List.set_cons_succ]
         refine wpAnyH_done (by kernel_rfl) ?_ _
         obtain ⟨wb, hwb⟩ : ∃ wb, w6.setCell ⟨R, 2, none⟩ (.slice (some ⟨g, 0, none⟩) (L0 + n) cap) = wb := ⟨_, rfl⟩
         rw [hwb] at hz kz
         try rw [hwb]
         clear hwb x2 x2f r2 kd kg hS
         have H19b := kz.out.at_ H19.out (.inr (.inr (.inl rfl)))
         have Kb := Ka.trans kz.out
         have hzc := hz.out.c
         have hadd : IntKind.i64.wrap ((L0 : Int) + (n : Int)) = (L0 : Int) + (n : Int) := wrapI _ (by omega) (by omega)
         have hsl := fun W => slice_words g (L0 + n) cap L0 n ((L0 : Int) + (n : Int)) rfl (by omega) hca W
         have hS2 : ∀ W, Below wb.heap.size wb W → (fun w' : World => w'.cell? ⟨w.heap.size + 1 + 1, 0, none⟩ = some (.func (.func 120) #[] #[ptr ba]) ∧ w'.cell? ⟨w.heap.size, 0, none⟩ = some (ptr R) ∧ w'.cell? ⟨R, 2, none⟩ = some (.slice (some ⟨g, 0, none⟩) (L0 + n) cap) ∧ w'.cell? ⟨N9, 0, none⟩ = some (.int .i64 (L0 : Int)) ∧ w'.cell? ⟨w.heap.size + 1 + 1 + 1, 0, none⟩ = some (.int .i64 (n : Int))) W := fun W hW2 =>
          ⟨(hW.out W (Kb.trans (Keep.below hW2))).1.2.2.1, (hW.out W (Kb.trans (Keep.below hW2))).1.1, (hz.out.later hW2).c.2.2.1, cell_of_row _ _ 0 _ _ _ ((Keep.below hW2).at_ H19b (.inr (.inr (.inl rfl)))), (hW.out W (Kb.trans (Keep.below hW2))).1.2.2.2⟩
         replace hS2 := Lib.hid hS2
         have kd2 : Below wb.heap.size wb wb.drew := (Below.refl _ wb).drew
         have hzd := hz.out.later kd2
         have hly := lay_any (t := (Wht.li a)) (hW.out _ (Kb.trans (Keep.below kd2))).2 (by rw [hnn.out, hL0]; exact hzd) hE y (by omega) (by omega)
         rw [hnn.out, hL0] at hly
         have Kd := Kb.trans (Keep.below kd2)
         replace hly := Lib.hid hly; replace H19b := Lib.hid H19b
         clear hz kz hzd hzc H19 ha Ka Kb
         go_upto_region 16 with fail
         refine wp_region_held_drew (S := (fun w' : World => w'.cell? ⟨w.heap.size + 1 + 1, 0, none⟩ = some (.func (.func 120) #[] #[ptr ba]) ∧ w'.cell? ⟨w.heap.size, 0, none⟩ = some (ptr R) ∧ w'.cell? ⟨R, 2, none⟩ = some (.slice (some ⟨g, 0, none⟩) (L0 + n) cap) ∧ w'.cell? ⟨N9, 0, none⟩ = some (.int .i64 (L0 : Int)) ∧ w'.cell? ⟨w.heap.size + 1 + 1 + 1, 0, none⟩ = some (.int .i64 (n : Int)))) (by kernel_rfl) (hS2.out _ kd2) (fun hHeld => ?_)
         refine wpAnyH_take (i := 0) (v := ?v42) rfl (by kernel_rfl) (by kernel_rfl) (by kernel_rfl) (fun _ _ _ h => h) (Or.inl ⟨by rfl, ?h42⟩) (by assumption) ?r42
         case h42 =>
          intro w' hSw
          try dsimp only at hSw
          go_simp
          try with_reducible rfl
         try simp only [Act.put, List.getElem_toArray, List.getElem_cons_succ, List.getElem_cons_zero, List.setIfInBounds_toArray, List.set_cons_zero, List.set_cons_succ]
         refine wpAnyH_take (i := 1) (v := ?v43) rfl (by kernel_rfl) (by kernel_rfl) (by kernel_rfl) (fun _ _ _ h => h) (Or.inl ⟨by rfl, ?h43⟩) (by assumption) ?r43
         case h43 =>
          intro w' hSw
          try dsimp only at hSw
          go_simp
          try with_reducible rfl
         try simp only [Act.put, List.getElem_toArray, List.getElem_cons_succ, List.getElem_cons_zero, List.setIfInBounds_toArray, List.set_cons_zero, List.set_cons_succ]
         refine wpAnyH_take (i := 2) (v := ?v44) rfl (by kernel_rfl) (by kernel_rfl) (by kernel_rfl) (fun _ _ _ h => h) (Or.inl ⟨by rfl, ?h44⟩) (by assumption) ?r44
         case h44 =>
          intro w' hSw
          try dsimp only at hSw
          go_simp
          try with_reducible rfl
         try simp only [Act.put, List.getElem_toArray, List.getElem_cons_succ, List.getElem_cons_zero, List.setIfInBounds_toArray, List.set_cons_zero, List.set_cons_succ]
         refine wpAnyH_take (i := 3) (v := ?v45) rfl (by kernel_rfl) (by kernel_rfl) (by kernel_rfl) (fun _ _ _ h => h) (Or.inl ⟨by rfl, ?h45⟩) (by assumption) ?r45
         case h45 =>
          intro w' hSw
          try dsimp only at hSw
          go_simp
          try with_reducible rfl
         try simp only [Act.put, List.getElem_toArray, List.getElem_cons_succ, List.getElem_cons_zero, List.setIfInBounds_toArray, List.set_cons_zero, List.set_cons_succ]
         refine wpAnyH_take (i := 4) (v := ?v46) rfl (by kernel_rfl) (by kernel_rfl) (by kernel_rfl) (fun _ _ _ h => h) (Or.inl ⟨by rfl, ?h46⟩) (by assumption) ?r46
         case h46 =>
          intro w' hSw
          try dsimp only at hSw
          go_simp
          try with_reducible rfl
         try simp only [Act.put, List.getElem_toArray, List.getElem_cons_succ, List.getElem_cons_zero, List.setIfInBounds_toArray, List.set_cons_zero, List.set_cons_succ]
         refine wpAnyH_take (i := 5) (v := ?v47) rfl (by kernel_rfl) (by kernel_rfl) (by kernel_rfl) (fun _ _ _ h => h) (Or.inl ⟨by rfl, ?h47⟩) (by assumption) ?r47
         case h47 =>
          intro w' hSw
          try dsimp only at hSw
          go_simp
          try with_reducible rfl
         try simp only [Act.put, List.getElem_toArray, List.getElem_cons_succ, List.getElem_cons_zero, List.setIfInBounds_toArray, List.set_cons_zero, List.set_cons_succ]
         refine wpAnyH_take (i := 6) (v := ?v48) rfl (by kernel_rfl) (by kernel_rfl) (by kernel_rfl) (fun _ _ _ h => h) (Or.inl ⟨by rfl, ?h48⟩) (by assumption) ?r48
         case h48 =>
          intro w' hSw
          try dsimp only at hSw
          go_simp
          try with_reducible rfl
         try simp only [Act.put, List.getElem_toArray, List.getElem_cons_succ, List.getElem_cons_zero, List.setIfInBounds_toArray, List.set_cons_zero, List.set_cons_succ]
         refine wpAnyH_take (i := 7) (v := ?v49) rfl (by kernel_rfl) (by kernel_rfl) (by kernel_rfl) (fun _ _ _ h => h) (Or.inl ⟨by rfl, ?h49⟩) (by assumption) ?r49
         case h49 =>
          intro w' hSw
          try dsimp only at hSw
          go_simp
          try with_reducible rfl
         try simp only [Act.put, List.getElem_toArray, List.getElem_cons_succ, List.getElem_cons_zero, List.setIfInBounds_toArray, List.set_cons_zero, List.set_cons_succ]
         refine wpAnyH_take (i := 8) (v := ?v50) rfl (by kernel_rfl) (by kernel_rfl) (by kernel_rfl) (fun _ _ _ h => h) (Or.inl ⟨by rfl, ?h50⟩) (by assumption) ?r50
         case h50 =>
          intro w' hSw
          try dsimp only at hSw
          go_simp
          try with_reducible rfl
         try simp only [Act.put, List.getElem_toArray, List.getElem_cons_succ, List.getElem_cons_zero, List.setIfInBounds_toArray, List.set_cons_zero, List.set_cons_succ]
         refine wpAnyH_take (i := 9) (v := ?v51) rfl (by kernel_rfl) (by kernel_rfl) (by kernel_rfl) (fun _ _ _ h => h) (Or.inl ⟨by rfl, ?h51⟩) (by assumption) ?r51
         case h51 =>
          intro w' hSw
          try dsimp only at hSw
          go_simp
          try with_reducible rfl
         try simp only [Act.put, List.getElem_toArray, List.getElem_cons_succ, List.getElem_cons_zero, List.setIfInBounds_toArray, List.set_cons_zero, List.set_cons_succ]
         refine wpAnyH_take (i := 10) (v := ?v52) rfl (by kernel_rfl) (by kernel_rfl) (by kernel_rfl) (fun _ _ _ h => h) (Or.inl ⟨by rfl, ?h52⟩) (by assumption) ?r52
         case h52 =>
          intro w' hSw
          try dsimp only at hSw
          go_simp
          try with_reducible rfl
         try simp only [Act.put, List.getElem_toArray, List.getElem_cons_succ, List.getElem_cons_zero, List.setIfInBounds_toArray, List.set_cons_zero, List.set_cons_succ]
         refine wpAnyH_ready (rs := [11]) (by kernel_rfl) (by simp) ?_
         refine AllReadyH.cons (o := _) rfl (fun K hK => ?step53) ?more53
         case step53 =>
          go_simp
          refine hly.out.mono ?_
          rintro e w7 ⟨rfl, h7, k7, _⟩
          have K7 := Kd.trans k7
          have H19c := k7.at_ ((Keep.below kd2).at_ H19b.out (.inr (.inr (.inl rfl)))) (.inr (.inr (.inl rfl)))
          have hS7 : (fun w' : World => w'.cell? ⟨w.heap.size + 1 + 1, 0, none⟩ = some (.func (.func 120) #[] #[ptr ba]) ∧ w'.cell? ⟨w.heap.size, 0, none⟩ = some (ptr R) ∧ w'.cell? ⟨R, 2, none⟩ = some (.slice (some ⟨g, 0, none⟩) (L0 + n) cap) ∧ w'.cell? ⟨N9, 0, none⟩ = some (.int .i64 (L0 : Int)) ∧ w'.cell? ⟨w.heap.size + 1 + 1 + 1, 0, none⟩ = some (.int .i64 (n : Int))) w7 :=
           ⟨(hW.out w7 K7).1.2.2.1, (hW.out w7 K7).1.1, h7.c.2.2.1, cell_of_row _ _ 0 _ _ _ H19c, (hW.out w7 K7).1.2.2.2⟩
          replace h7 := Lib.hid h7; replace H19c := Lib.hid H19c; replace hS7 := Lib.hid hS7
          try dsimp only
          refine hK.out _ _ (hS7.out) (fun hHeld => ?_)
          clear hK K
          try simp only [Act.put, List.getElem_toArray, List.getElem_cons_succ, List.getElem_cons_zero, List.setIfInBounds_toArray, List.set_cons_zero, List.set_cons_succ]
          refine wpAnyH_done (by kernel_rfl) ?_ _
          clear hS2 hS7 hly kd2 Kd k7 H19b
          replace h7 := h7.out
          obtain ⟨o0, o1, o2⟩ := hO.out w7 K7
          have hin := isnm_any (xs, xq, xc) w7
          unfold wV at hin
          dsimp only at hin
          rw [hnm] at hin
          replace hin := Lib.hid hin
          go_wp2_with fail
          refine hin.out.mono ?_
          rintro e w8 ⟨rfl, b3⟩
          have h8 := h7.later b3
          have K8 := K7.trans (Keep.below b3)
          clear b3 hin o0 o1 o2 h7 K7
          clear K8 H19c
          replace h8 := Lib.hid h8
          go_wp2_with fail
          go_ret
          have hfin : RAt B w0 w8 R base ln ⟨st.ws ++ layM (Wht.li a) y, st.labs, st.lat⟩ := ⟨_, _, _, _, _, _, h8.out, hfl.out⟩
          exact ⟨rfl, by rw [List.append_nil]; exact hfin⟩
         exact AllReadyH.nil
        exact AllReadyH.nil
       exact AllReadyH.nil
      exact AllReadyH.nil
   | true =>
    rw [if_neg (fun h => by simp at h)]
    have hlm : ∀ t p l, latM t p l (xs, xq, xc) = [⟨t, p, xs, l, xc⟩] := fun t p l => by unfold latM; rw [if_pos hnm]
    have hxq : xq = false := by unfold isNameF at hnm; simp at hnm; exact hnm.1
    subst hxq
    simp only
    cases hcm : countM ln (ns, nq, nc) ops (k + 1) with
    | some f =>
     simp only
     obtain ⟨L, hLo⟩ : ∃ L, ops.length = L := ⟨_, rfl⟩
     have hLL := hLo
     rw [hLo] at hkl hol
     rw [hLo]
     replace hLo := Lib.hid hLo; replace hLL := Lib.hid hLL
     have g1 : decide ((L : Int) > (k : Int)) = true := decide_eq_true (by omega)
     have g2 : (k : Int) < (L : Int) := by omega
     have g3 : (0 : Int) ≤ (k : Int) := by omega
     obtain ⟨⟨c6, ⟨c7a, c7b, c7c⟩, c10, c11⟩, _⟩ := hW.out _ hrefl
     go_enter Tryz.func86, Tryz.ntmps86
     go_upto_region 1 with fail
     try rw [hw1]
     clear hw1
     go_wp2_with fail
     refine hrm.out.mono ?_
     rintro e w2 ⟨her, b2⟩
     obtain rfl : e = _ := her
     have h2 := h1.out.later b2
     have K2 := Keep.below b2
     clear b2 c6 c7a c7b c7c c10 c11 hrm h1
     obtain ⟨o0, o1, o2⟩ := hO.out w2 K2
     have hin := isnm_any (xs, false, xc) w2
     unfold wV at hin
     dsimp only at hin
     rw [hnm] at hin
     replace hin := Lib.hid hin
     go_wp2_with fail
     refine hin.out.mono ?_
     rintro e w4 ⟨rfl, b3⟩
     have h4 := h2.later b3
     have K4 := K2.trans (Keep.below b3)
     clear b3 hin o0 o1 o2 h2 K2
     obtain ⟨⟨c6, ⟨c7a, c7b, c7c⟩, _, _⟩, _⟩ := hW.out w4 K4
     have hct := count_any R ln (ns, nq, nc) _ ops shape.size w4 h4.c.2.1 (hOp.out _ K4) (by have := hsh.out; omega)
     unfold wV at hct
     dsimp only at hct
     rw [hsh.out, hcm] at hct
     rw [hLo.out] at hct
     have hsz2 : ((k + 1 : Nat) : Int) = (shape.size : Int) := by rw [hsh.out]
     rw [hsz2] at hct
     replace hct := Lib.hid hct
     clear hsz2
     go_wp2_with fail
     refine hct.out.mono ?_
     rintro e w5 ⟨her, b5⟩
     clear c6 c7a c7b c7c hct
     obtain ⟨fv, rfl, gf, rfl, hgf⟩ := her
     have hfin := (h4.below).trans (b5.mono (by have := h4.hR; have := h4.lt; omega))
     clear b5
     replace hgf := Lib.hid hgf; replace hfin := Lib.hid hfin
     go_wp2_with fail
     go_ret
     exact ⟨⟨_, rfl, ⟨_, rfl, hgf.out⟩⟩, hfin.out⟩
    | none =>
     simp only [hlm]
     obtain ⟨L, hLo⟩ : ∃ L, ops.length = L := ⟨_, rfl⟩
     have hLL := hLo
     rw [hLo] at hkl hol
     rw [hLo]
     replace hLo := Lib.hid hLo; replace hLL := Lib.hid hLL
     have g1 : decide ((L : Int) > (k : Int)) = true := decide_eq_true (by omega)
     have g2 : (k : Int) < (L : Int) := by omega
     have g3 : (0 : Int) ≤ (k : Int) := by omega
     obtain ⟨⟨c6, ⟨c7a, c7b, c7c⟩, c10, c11⟩, _⟩ := hW.out _ hrefl
     go_enter Tryz.func86, Tryz.ntmps86
     go_upto_region 1 with fail
     try rw [hw1]
     clear hw1
     go_wp2_with fail
     refine hrm.out.mono ?_
     rintro e w2 ⟨her, b2⟩
     obtain rfl : e = _ := her
     have h2 := h1.out.later b2
     have K2 := Keep.below b2
     clear b2 c6 c7a c7b c7c c10 c11 hrm h1
     obtain ⟨o0, o1, o2⟩ := hO.out w2 K2
     have hin := isnm_any (xs, false, xc) w2
     unfold wV at hin
     dsimp only at hin
     rw [hnm] at hin
     replace hin := Lib.hid hin
     go_wp2_with fail
     refine hin.out.mono ?_
     rintro e w4 ⟨rfl, b3⟩
     have h4 := h2.later b3
     have K4 := K2.trans (Keep.below b3)
     clear b3 hin o0 o1 o2 h2 K2
     obtain ⟨⟨c6, ⟨c7a, c7b, c7c⟩, _, _⟩, _⟩ := hW.out w4 K4
     have hct := count_any R ln (ns, nq, nc) _ ops shape.size w4 h4.c.2.1 (hOp.out _ K4) (by have := hsh.out; omega)
     unfold wV at hct
     dsimp only at hct
     rw [hsh.out, hcm] at hct
     rw [hLo.out] at hct
     have hsz2 : ((k + 1 : Nat) : Int) = (shape.size : Int) := by rw [hsh.out]
     rw [hsz2] at hct
     replace hct := Lib.hid hct
     clear hsz2
     go_wp2_with fail
     refine hct.out.mono ?_
     rintro e w5 ⟨her, b5⟩
     clear c6 c7a c7b c7c hct
     obtain rfl : e = _ := her
     have h5 := h4.later b5
     have K5 := K4.trans (Keep.below b5)
     clear b5 h4 K4
     obtain ⟨wa, hwa⟩ : ∃ wa, w5.alloc (.cells #[.int .i64 (L0 : Int)] 3) = wa := ⟨_, rfl⟩
     have ba : Below w5.heap.size w5 wa := by rw [← hwa]; exact (Below.refl _ _).alloc (Nat.le_refl _) _
     have H19 : wa.heap[w5.heap.size]? = some (.cells #[.int .i64 (L0 : Int)] 3 (0, 0)) := by rw [← hwa]; exact heap_alloc_new w5 _
     obtain ⟨N9, hN9⟩ : ∃ N, w5.heap.size = N := ⟨_, rfl⟩
     have Ka := K5.trans (Keep.below ba)
     obtain ⟨⟨c6, _, _, _⟩, _⟩ := hW.out w5 K5
     have r2 := h5.c.2.2.1
     have ha := (h5.later ba).later ((Below.refl _ wa).drew)
     have hB : B ≤ wa.drew.heap.size := by have := ha.hR; have := ha.lt; omega
     rw [hN9] at H19
     clear ba
     replace ha := Lib.hid ha; replace H19 := Lib.hid H19
     go_upto_region 15 with fail
     try rw [hN9]
     try rw [hwa]
     clear c6 r2 h5 K5 hwa hN9
     have hS : ∀ W, Keep wa W → (fun w' : World => w'.cell? ⟨w.heap.size, 0, none⟩ = some (ptr R) ∧ w'.cell? ⟨w.heap.size + 1 + 1 + 1, 0, none⟩ = some (.int .i64 (n : Int))) W := fun W hW2 => ⟨(hW.out W (Ka.trans hW2)).1.1, (hW.out W (Ka.trans hW2)).1.2.2.2⟩
     replace hS := Lib.hid hS
     have kd : Keep wa wa.drew := Keep.below (Below.refl _ wa).drew
     have r2 : wa.cell? ⟨R, 2, none⟩ = some (.slice aw L0 cw) := ha.out.c.2.2.1
     refine wp_region_held_drew (S := (fun w' : World => w'.cell? ⟨w.heap.size, 0, none⟩ = some (ptr R) ∧ w'.cell? ⟨w.heap.size + 1 + 1 + 1, 0, none⟩ = some (.int .i64 (n : Int)))) (by kernel_rfl) (hS.out _ kd) (fun hHeld => ?_)
     refine wpAnyH_take (i := 0) (v := ?v57) rfl (by kernel_rfl) (by kernel_rfl) (by kernel_rfl) (fun _ _ _ h => h) (Or.inl ⟨by rfl, ?h57⟩) (by assumption) ?r57
     case h57 =>
      intro w' hSw
      try dsimp only at hSw
      go_simp
      try with_reducible rfl
     try simp only [Act.put, List.getElem_toArray, List.getElem_cons_succ, List.getElem_cons_zero, List.setIfInBounds_toArray, List.set_cons_zero, List.set_cons_succ]
     refine wpAnyH_take (i := 1) (v := ?v58) rfl (by kernel_rfl) (by kernel_rfl) (by kernel_rfl) (fun _ _ _ h => h) (Or.inl ⟨by rfl, ?h58⟩) (by assumption) ?r58
     case h58 =>
      intro w' hSw
      try dsimp only at hSw
      go_simp
      try with_reducible rfl
     try simp only [Act.put, List.getElem_toArray, List.getElem_cons_succ, List.getElem_cons_zero, List.setIfInBounds_toArray, List.set_cons_zero, List.set_cons_succ]
     refine wpAnyH_take (i := 2) (v := ?v59) rfl (by kernel_rfl) (by kernel_rfl) (by kernel_rfl) (fun _ _ _ h => h) (Or.inl ⟨by rfl, ?h59⟩) (by assumption) ?r59
     case h59 =>
      intro w' hSw
      try dsimp only at hSw
      go_simp
      try with_reducible rfl
     try simp only [Act.put, List.getElem_toArray, List.getElem_cons_succ, List.getElem_cons_zero, List.setIfInBounds_toArray, List.set_cons_zero, List.set_cons_succ]
     refine wpAnyH_take (i := 3) (v := ?v60) rfl (by kernel_rfl) (by kernel_rfl) (by kernel_rfl) (fun _ _ _ h => h) (Or.inl ⟨by rfl, ?h60⟩) (by assumption) ?r60
     case h60 =>
      intro w' hSw
      try dsimp only at hSw
      go_simp
      try with_reducible rfl
     try simp only [Act.put, List.getElem_toArray, List.getElem_cons_succ, List.getElem_cons_zero, List.setIfInBounds_toArray, List.set_cons_zero, List.set_cons_succ]
     refine wpAnyH_take (i := 5) (v := ?v61) rfl (by kernel_rfl) (by kernel_rfl) (by kernel_rfl) (fun _ _ _ h => h) (Or.inl ⟨by rfl, ?h61⟩) (by assumption) ?r61
     case h61 =>
      intro w' hSw
      try dsimp only at hSw
      go_simp
      try with_reducible rfl
     try simp only [Act.put, List.getElem_toArray, List.getElem_cons_succ, List.getElem_cons_zero, List.setIfInBounds_toArray, List.set_cons_zero, List.set_cons_succ]
     refine wpAnyH_ready (rs := [4]) (by kernel_rfl) (by simp) ?_
     refine AllReadyH.cons (o := _) rfl (fun K hK => ?step78) ?more78
     case step78 =>
      go_simp
      try dsimp only
      refine hK.out _ _ (hS.out _ kd) (fun hHeld => ?_)
      clear hK K
      try simp only [Act.put, List.getElem_toArray, List.getElem_cons_succ, List.getElem_cons_zero, List.setIfInBounds_toArray, List.set_cons_zero, List.set_cons_succ]
      refine wpAnyH_ready (rs := [6]) (by kernel_rfl) (by simp) ?_
      refine AllReadyH.cons (o := _) rfl (fun K hK => ?step77) ?more77
      case step77 =>
       rw [if_pos (by rfl)]
       obtain ⟨v6, w6, hra, hoa, hOa⟩ := run_append_zs B 3 _ .i64 .i64 Tryz.underlying3 wa.drew (.slice aw L0 cw) L0 (wi st.ws) (by have h := ha.out.ws; rw [hL0] at h; exact h) n (by omega) hB
       obtain ⟨g, cap, hv6, g1, g2⟩ := hoa.form (by omega)
       obtain ⟨ao6, cap6, hw6, hca, hcb⟩ := own_shape hoa
       have e6 : cap6 = cap := by rw [hv6] at hw6; injection hw6 with _ _ e; exact e.symm
       rw [e6] at hca hcb
       subst hv6
       clear hw6 e6
       obtain ⟨hRk, hz⟩ := ha.out.words (l := List.replicate n 0) hOa (by rw [wi_zeros, hL0, List.length_replicate]; exact hoa)
       have kg : Keep wa w6 := kd.trans (Keep.grown ha.out.ws (capT_no (.inl rfl)) hOa.1)
       have hb6 := hRk.trans ha.out.blk
       have kz : Keep wa (w6.setCell ⟨R, 2, none⟩ (.slice (some ⟨g, 0, none⟩) (L0 + n) cap)) := kg.trans (Keep.set hb6 (capT_no (.inr (.inr (.inr rfl)))))
       have x2 : w6.cell? ⟨R, 2, none⟩ = some (.slice aw L0 cw) := cell_of_row _ _ 2 _ _ _ hb6
       have x2f := frozen_of_row w6 R 2 _ _ hb6
       refine Lib.wp_append_run _ _ _ _ _ rfl _ _ rfl rfl _ _ hra ?_
       clear hra hOa hoa hRk hb6
       replace hz := Lib.hid hz; replace kz := Lib.hid kz
       try dsimp only
       refine hK.out _ _ (hS.out _ kg) (fun hHeld => ?_)
       clear hK K
       try simp only [Act.put, List.getElem_toArray, List.getElem_cons_succ, List.getElem_cons_zero, List.setIfInBounds_toArray, List.set_cons_zero, List.set_cons_succ]
       refine wpAnyH_take (i := 7) (v := ?v62) rfl (by kernel_rfl) (by kernel_rfl) (by kernel_rfl) (fun _ _ _ h => h) (Or.inl ⟨by rfl, ?h62⟩) (by assumption) ?r62
       case h62 =>
        intro w' hSw
        try dsimp only at hSw
        go_simp
        try with_reducible rfl
       try simp only [Act.put, List.getElem_toArray, List.getElem_cons_succ, List.getElem_cons_zero, List.setIfInBounds_toArray, List.set_cons_zero, List.set_cons_succ]
       refine wpAnyH_take (i := 8) (v := ?v63) rfl (by kernel_rfl) (by kernel_rfl) (by kernel_rfl) (fun _ _ _ h => h) (Or.inl ⟨by rfl, ?h63⟩) (by assumption) ?r63
       case h63 =>
        intro w' hSw
        try dsimp only at hSw
        go_simp
        try with_reducible rfl
       try simp only [Act.put, List.getElem_toArray, List.getElem_cons_succ, List.getElem_cons_zero, List.setIfInBounds_toArray, List.set_cons_zero, List.set_cons_succ]
       refine wpAnyH_ready (rs := [9]) (by kernel_rfl) (by simp) ?_
       refine AllReadyH.cons (o := _) rfl (fun K hK => ?step76) ?more76
       case step76 =>
        go_simp
        try dsimp only
        refine hK.out _ _ (hS.out _ kz.out) (fun hHeld => ?_)
        clear hK K
        try simp only [Act.put, List.getElem_toArray, List.getElem_cons_succ, List.getElem_cons_zero, List.setIfInBounds_toArray, List.set_cons_zero, List.set_cons_succ]
        refine wpAnyH_done (by kernel_rfl) ?_ _
        obtain ⟨wb, hwb⟩ : ∃ wb, w6.setCell ⟨R, 2, none⟩ (.slice (some ⟨g, 0, none⟩) (L0 + n) cap) = wb := ⟨_, rfl⟩
        rw [hwb] at hz kz
        try rw [hwb]
        clear hwb x2 x2f r2 kd kg hS
        have H19b := kz.out.at_ H19.out (.inr (.inr (.inl rfl)))
        have Kb := Ka.trans kz.out
        have hzc := hz.out.c
        have hadd : IntKind.i64.wrap ((L0 : Int) + (n : Int)) = (L0 : Int) + (n : Int) := wrapI _ (by omega) (by omega)
        have hsl := fun W => slice_words g (L0 + n) cap L0 n ((L0 : Int) + (n : Int)) rfl (by omega) hca W
        have hS2 : ∀ W, Below wb.heap.size wb W → (fun w' : World => w'.cell? ⟨w.heap.size + 1 + 1, 0, none⟩ = some (.func (.func 120) #[] #[ptr ba]) ∧ w'.cell? ⟨w.heap.size, 0, none⟩ = some (ptr R) ∧ w'.cell? ⟨R, 2, none⟩ = some (.slice (some ⟨g, 0, none⟩) (L0 + n) cap) ∧ w'.cell? ⟨N9, 0, none⟩ = some (.int .i64 (L0 : Int)) ∧ w'.cell? ⟨w.heap.size + 1 + 1 + 1, 0, none⟩ = some (.int .i64 (n : Int))) W := fun W hW2 =>
         ⟨(hW.out W (Kb.trans (Keep.below hW2))).1.2.2.1, (hW.out W (Kb.trans (Keep.below hW2))).1.1, (hz.out.later hW2).c.2.2.1, cell_of_row _ _ 0 _ _ _ ((Keep.below hW2).at_ H19b (.inr (.inr (.inl rfl)))), (hW.out W (Kb.trans (Keep.below hW2))).1.2.2.2⟩
        replace hS2 := Lib.hid hS2
        have kd2 : Below wb.heap.size wb wb.drew := (Below.refl _ wb).drew
        have hzd := hz.out.later kd2
        have hly := lay_any (t := (Wht.li a)) (hW.out _ (Kb.trans (Keep.below kd2))).2 (by rw [hnn.out, hL0]; exact hzd) hE 0 (by decide) (by decide)
        rw [hnn.out, hL0] at hly
        have Kd := Kb.trans (Keep.below kd2)
        replace hly := Lib.hid hly; replace H19b := Lib.hid H19b
        clear hz kz hzd hzc H19 ha Ka Kb
        go_upto_region 16 with fail
        refine wp_region_held_drew (S := (fun w' : World => w'.cell? ⟨w.heap.size + 1 + 1, 0, none⟩ = some (.func (.func 120) #[] #[ptr ba]) ∧ w'.cell? ⟨w.heap.size, 0, none⟩ = some (ptr R) ∧ w'.cell? ⟨R, 2, none⟩ = some (.slice (some ⟨g, 0, none⟩) (L0 + n) cap) ∧ w'.cell? ⟨N9, 0, none⟩ = some (.int .i64 (L0 : Int)) ∧ w'.cell? ⟨w.heap.size + 1 + 1 + 1, 0, none⟩ = some (.int .i64 (n : Int)))) (by kernel_rfl) (hS2.out _ kd2) (fun hHeld => ?_)
        refine wpAnyH_take (i := 0) (v := ?v64) rfl (by kernel_rfl) (by kernel_rfl) (by kernel_rfl) (fun _ _ _ h => h) (Or.inl ⟨by rfl, ?h64⟩) (by assumption) ?r64
        case h64 =>
         intro w' hSw
         try dsimp only at hSw
         go_simp
         try with_reducible rfl
        try simp only [Act.put, List.getElem_toArray, List.getElem_cons_succ, List.getElem_cons_zero, List.setIfInBounds_toArray, List.set_cons_zero, List.set_cons_succ]
        refine wpAnyH_take (i := 1) (v := ?v65) rfl (by kernel_rfl) (by kernel_rfl) (by kernel_rfl) (fun _ _ _ h => h) (Or.inl ⟨by rfl, ?h65⟩) (by assumption) ?r65
        case h65 =>
         intro w' hSw
         try dsimp only at hSw
         go_simp
         try with_reducible rfl
        try simp only [Act.put, List.getElem_toArray, List.getElem_cons_succ, List.getElem_cons_zero, List.setIfInBounds_toArray, List.set_cons_zero, List.set_cons_succ]
        refine wpAnyH_take (i := 2) (v := ?v66) rfl (by kernel_rfl) (by kernel_rfl) (by kernel_rfl) (fun _ _ _ h => h) (Or.inl ⟨by rfl, ?h66⟩) (by assumption) ?r66
        case h66 =>
         intro w' hSw
         try dsimp only at hSw
         go_simp
         try with_reducible rfl
        try simp only [Act.put, List.getElem_toArray, List.getElem_cons_succ, List.getElem_cons_zero, List.setIfInBounds_toArray, List.set_cons_zero, List.set_cons_succ]
        refine wpAnyH_take (i := 3) (v := ?v67) rfl (by kernel_rfl) (by kernel_rfl) (by kernel_rfl) (fun _ _ _ h => h) (Or.inl ⟨by rfl, ?h67⟩) (by assumption) ?r67
        case h67 =>
         intro w' hSw
         try dsimp only at hSw
         go_simp
         try with_reducible rfl
        try simp only [Act.put, List.getElem_toArray, List.getElem_cons_succ, List.getElem_cons_zero, List.setIfInBounds_toArray, List.set_cons_zero, List.set_cons_succ]
        refine wpAnyH_take (i := 4) (v := ?v68) rfl (by kernel_rfl) (by kernel_rfl) (by kernel_rfl) (fun _ _ _ h => h) (Or.inl ⟨by rfl, ?h68⟩) (by assumption) ?r68
        case h68 =>
         intro w' hSw
         try dsimp only at hSw
         go_simp
         try with_reducible rfl
        try simp only [Act.put, List.getElem_toArray, List.getElem_cons_succ, List.getElem_cons_zero, List.setIfInBounds_toArray, List.set_cons_zero, List.set_cons_succ]
        refine wpAnyH_take (i := 5) (v := ?v69) rfl (by kernel_rfl) (by kernel_rfl) (by kernel_rfl) (fun _ _ _ h => h) (Or.inl ⟨by rfl, ?h69⟩) (by assumption) ?r69
        case h69 =>
         intro w' hSw
         try dsimp only at hSw
         go_simp
         try with_reducible rfl
        try simp only [Act.put, List.getElem_toArray, List.getElem_cons_succ, List.getElem_cons_zero, List.setIfInBounds_toArray, List.set_cons_zero, List.set_cons_succ]
        refine wpAnyH_take (i := 6) (v := ?v70) rfl (by kernel_rfl) (by kernel_rfl) (by kernel_rfl) (fun _ _ _ h => h) (Or.inl ⟨by rfl, ?h70⟩) (by assumption) ?r70
        case h70 =>
         intro w' hSw
         try dsimp only at hSw
         go_simp
         try with_reducible rfl
        try simp only [Act.put, List.getElem_toArray, List.getElem_cons_succ, List.getElem_cons_zero, List.setIfInBounds_toArray, List.set_cons_zero, List.set_cons_succ]
        refine wpAnyH_take (i := 7) (v := ?v71) rfl (by kernel_rfl) (by kernel_rfl) (by kernel_rfl) (fun _ _ _ h => h) (Or.inl ⟨by rfl, ?h71⟩) (by assumption) ?r71
        case h71 =>
         intro w' hSw
         try dsimp only at hSw
         go_simp
         try with_reducible rfl
        try simp only [Act.put, List.getElem_toArray, List.getElem_cons_succ, List.getElem_cons_zero, List.setIfInBounds_toArray, List.set_cons_zero, List.set_cons_succ]
        refine wpAnyH_take (i := 8) (v := ?v72) rfl (by kernel_rfl) (by kernel_rfl) (by kernel_rfl) (fun _ _ _ h => h) (Or.inl ⟨by rfl, ?h72⟩) (by assumption) ?r72
        case h72 =>
         intro w' hSw
         try dsimp only at hSw
         go_simp
         try with_reducible rfl
        try simp only [Act.put, List.getElem_toArray, List.getElem_cons_succ, List.getElem_cons_zero, List.setIfInBounds_toArray, List.set_cons_zero, List.set_cons_succ]
        refine wpAnyH_take (i := 9) (v := ?v73) rfl (by kernel_rfl) (by kernel_rfl) (by kernel_rfl) (fun _ _ _ h => h) (Or.inl ⟨by rfl, ?h73⟩) (by assumption) ?r73
        case h73 =>
         intro w' hSw
         try dsimp only at hSw
         go_simp
         try with_reducible rfl
        try simp only [Act.put, List.getElem_toArray, List.getElem_cons_succ, List.getElem_cons_zero, List.setIfInBounds_toArray, List.set_cons_zero, List.set_cons_succ]
        refine wpAnyH_take (i := 10) (v := ?v74) rfl (by kernel_rfl) (by kernel_rfl) (by kernel_rfl) (fun _ _ _ h => h) (Or.inl ⟨by rfl, ?h74⟩) (by assumption) ?r74
        case h74 =>
         intro w' hSw
         try dsimp only at hSw
         go_simp
         try with_reducible rfl
        try simp only [Act.put, List.getElem_toArray, List.getElem_cons_succ, List.getElem_cons_zero, List.setIfInBounds_toArray, List.set_cons_zero, List.set_cons_succ]
        refine wpAnyH_ready (rs := [11]) (by kernel_rfl) (by simp) ?_
        refine AllReadyH.cons (o := _) rfl (fun K hK => ?step75) ?more75
        case step75 =>
         go_simp
         refine hly.out.mono ?_
         rintro e w7 ⟨rfl, h7, k7, _⟩
         have K7 := Kd.trans k7
         have H19c := k7.at_ ((Keep.below kd2).at_ H19b.out (.inr (.inr (.inl rfl)))) (.inr (.inr (.inl rfl)))
         have hS7 : (fun w' : World => w'.cell? ⟨w.heap.size + 1 + 1, 0, none⟩ = some (.func (.func 120) #[] #[ptr ba]) ∧ w'.cell? ⟨w.heap.size, 0, none⟩ = some (ptr R) ∧ w'.cell? ⟨R, 2, none⟩ = some (.slice (some ⟨g, 0, none⟩) (L0 + n) cap) ∧ w'.cell? ⟨N9, 0, none⟩ = some (.int .i64 (L0 : Int)) ∧ w'.cell? ⟨w.heap.size + 1 + 1 + 1, 0, none⟩ = some (.int .i64 (n : Int))) w7 :=
          ⟨(hW.out w7 K7).1.2.2.1, (hW.out w7 K7).1.1, h7.c.2.2.1, cell_of_row _ _ 0 _ _ _ H19c, (hW.out w7 K7).1.2.2.2⟩
         replace h7 := Lib.hid h7; replace H19c := Lib.hid H19c; replace hS7 := Lib.hid hS7
         try dsimp only
         refine hK.out _ _ (hS7.out) (fun hHeld => ?_)
         clear hK K
         try simp only [Act.put, List.getElem_toArray, List.getElem_cons_succ, List.getElem_cons_zero, List.setIfInBounds_toArray, List.set_cons_zero, List.set_cons_succ]
         refine wpAnyH_done (by kernel_rfl) ?_ _
         clear hS2 hS7 hly kd2 Kd k7 H19b
         replace h7 := h7.out
         obtain ⟨o0, o1, o2⟩ := hO.out w7 K7
         have hin := isnm_any (xs, false, xc) w7
         unfold wV at hin
         dsimp only at hin
         rw [hnm] at hin
         replace hin := Lib.hid hin
         go_wp2_with fail
         refine hin.out.mono ?_
         rintro e w8 ⟨rfl, b3⟩
         have h8 := h7.later b3
         have K8 := K7.trans (Keep.below b3)
         have H19d := (Keep.below b3).at_ H19c.out (.inr (.inr (.inl rfl)))
         clear b3 hin o0 o1 o2 h7 K7
         clear H19c
         obtain ⟨o0, o1, o2⟩ := hO.out w8 K8
         obtain ⟨⟨c6, _, c10, c11⟩, _⟩ := hW.out w8 K8
         have r1 := h8.c.2.1
         have q1 : ∀ o, (w8.alloc o).cell? ⟨w.heap.size, 0, none⟩ = some (ptr R) := fun o => cell_alloc_up c6
         have q2 : ∀ o o', ((w8.alloc o).alloc o').cell? ⟨w.heap.size, 0, none⟩ = some (ptr R) := fun o o' => cell_alloc_up (cell_alloc_up c6)
         have q3 : ∀ o, (w8.alloc o).cell? ⟨R, 1, none⟩ = some (.int .i64 (ln : Int)) := fun o => cell_alloc_up r1
         have q4 : ∀ o o', ((w8.alloc o).alloc o').cell? ⟨R, 1, none⟩ = some (.int .i64 (ln : Int)) := fun o o' => cell_alloc_up (cell_alloc_up r1)
         have q5 : ∀ o, (w8.alloc o).cell? ⟨ob, oo + k * 3, none⟩ = some (.string xs) := fun o => cell_alloc_up o0
         have q6 : ∀ o o', ((w8.alloc o).alloc o').cell? ⟨ob, oo + k * 3, none⟩ = some (.string xs) := fun o o' => cell_alloc_up (cell_alloc_up o0)
         have q7 : ∀ o, (w8.alloc o).cell? ⟨ob, oo + k * 3 + 1, none⟩ = some (.bool false) := fun o => cell_alloc_up o1
         have q8 : ∀ o o', ((w8.alloc o).alloc o').cell? ⟨ob, oo + k * 3 + 1, none⟩ = some (.bool false) := fun o o' => cell_alloc_up (cell_alloc_up o1)
         have q9 : ∀ o, (w8.alloc o).cell? ⟨ob, oo + k * 3 + 2, none⟩ = some (.int .i64 (xc : Int)) := fun o => cell_alloc_up o2
         have q10 : ∀ o o', ((w8.alloc o).alloc o').cell? ⟨ob, oo + k * 3 + 2, none⟩ = some (.int .i64 (xc : Int)) := fun o o' => cell_alloc_up (cell_alloc_up o2)
         replace h8 := Lib.hid h8; replace H19d := Lib.hid H19d
         go_upto_region 18 with fail
         go_region
         ·
          obtain ⟨wc, hwc⟩ : ∃ wc, ((w8.alloc (.cells #[.string xs, .bool false, .int .i64 (xc : Int)] 152)).alloc (.cells #[.int .i64 (ln : Int)] 3)).drew = wc := ⟨_, rfl⟩
          have bc : Below w8.heap.size w8 wc := by rw [← hwc]; exact (((Below.refl _ _).alloc (Nat.le_refl _) _).alloc (by simp) _).drew
          have hbw : wc.heap[w8.heap.size]? = some (.cells #[.string xs, .bool false, .int .i64 (xc : Int)] 152 (0, 0)) := by rw [← hwc]; exact (heap_alloc_old _ _ (by simp)).trans (heap_alloc_new w8 _)
          have hbl : wc.heap[w8.heap.size + 1]? = some (.cells #[.int .i64 (ln : Int)] 3 (0, 0)) := by rw [← hwc]; exact (congrArg (fun k => _[k]?) (by simp)).trans (heap_alloc_new (w8.alloc _) _)
          try rw [hwc]
          clear hwc q1 q2 q3 q4 q5 q6 q7 q8 q9 q10 o0 o1 o2 c6 c10 c11 r1
          have h9 := (h8.out.later bc).later ((Below.refl _ wc).drew)
          have K9 := K8.trans (Keep.below bc)
          have H19e := (Keep.below bc).at_ H19d.out (.inr (.inr (.inl rfl)))
          have hS : ∀ W, Keep wc W → (fun w' : World => w'.cell? ⟨w.heap.size, 0, none⟩ = some (ptr R)) W := fun W hW2 => (hW.out W (K9.trans hW2)).1.1
          obtain ⟨F, hF⟩ : ∃ F, Value.func (.func 118) #[] #[ptr w.heap.size, ptr (w8.heap.size), ptr (w8.heap.size + 1), ptr (w.heap.size + 1 + 1), ptr N9, ptr (w.heap.size + 1 + 1 + 1)] = F := ⟨_, rfl⟩
          replace hF := Lib.hid hF
          have hn1 : n = 2 := hnn.out.symm
          have hpe : ∀ W, Keep wc W → Pend W R w.heap.size F ⟨(Wht.li a), L0, xs, ln, xc⟩ := fun W hW2 => by
           have kk := K9.trans hW2
           have e11 := kk.at_ H11.out (.inr (.inr (.inl rfl)))
           rw [hn1] at e11
           obtain ⟨a2, ba2, ea, _, ec, eh⟩ := ((hW.out W kk).2).resolve_left (fun h => by have := h.1; cases this)
           obtain rfl : a2 = a := by injection ea with e; exact e.symm
           obtain rfl : ba2 = ba := by simpa using ec.symm
           exact ⟨w.heap.size, _, _, N9, w.heap.size + 1 + 1 + 1, w.heap.size + 1 + 1, _, hF.out.symm, kk.at_ H6.out (.inl rfl), hW2.at_ hbw (.inr (.inl rfl)), hW2.at_ hbl (.inr (.inr (.inl rfl))), hW2.at_ H19e (.inr (.inr (.inl rfl))), e11, kk.at_ H10.out (.inr (.inr (.inr (.inr (.inr (.inl rfl)))))), eh⟩
          have r5 : wc.cell? ⟨R, 5, none⟩ = some vf := h9.c.2.2.2.2.2
          have r5a : ∀ o, (wc.alloc o).cell? ⟨R, 5, none⟩ = some vf := fun o => cell_alloc_up r5
          have bd9 : Below wc.heap.size wc ((wc.alloc (.cells #[F] 118)).drew) := ((Below.refl _ _).alloc (Nat.le_refl _) _).drew
          have kd9 := Keep.below bd9
          have hd := (h8.out.later bc).later bd9
          have hmf : ∀ (fn : Fn) (first cap : Array Value) (w : World), (Instr.makeFunc fn first cap).run Tryz.prog w = .ok (.func fn first cap) w := fun _ _ _ _ => rfl
          clear bd9
          replace h9 := Lib.hid h9; replace H19e := Lib.hid H19e; replace hS := Lib.hid hS; replace hpe := Lib.hid hpe; replace hbw := Lib.hid hbw; replace hbl := Lib.hid hbl; replace hn1 := Lib.hid hn1
          go_upto_region 19 with fail
          refine wp_region_held_drew (S := (fun w' : World => w'.cell? ⟨w.heap.size, 0, none⟩ = some (ptr R))) (by kernel_rfl) (hS.out _ (Keep.below (Below.refl _ wc).drew)) (fun hHeld => ?_)
          refine wpAnyH_take (i := 0) (v := ?v11) rfl (by kernel_rfl) (by kernel_rfl) (by kernel_rfl) (fun _ _ _ h => h) (Or.inl ⟨by rfl, ?h11⟩) (by assumption) ?r11
          case h11 =>
           intro w' hSw
           try dsimp only at hSw
           go_simp
           try with_reducible rfl
          try simp only [Act.put, List.getElem_toArray, List.getElem_cons_succ, List.getElem_cons_zero, List.setIfInBounds_toArray, List.set_cons_zero, List.set_cons_succ]
          refine wpAnyH_take (i := 1) (v := ?v12) rfl (by kernel_rfl) (by kernel_rfl) (by kernel_rfl) (fun _ _ _ h => h) (Or.inl ⟨by rfl, ?h12⟩) (by assumption) ?r12
          case h12 =>
           intro w' hSw
           try dsimp only at hSw
           go_simp
           try with_reducible rfl
          try simp only [Act.put, List.getElem_toArray, List.getElem_cons_succ, List.getElem_cons_zero, List.setIfInBounds_toArray, List.set_cons_zero, List.set_cons_succ]
          refine wpAnyH_take (i := 2) (v := ?v13) rfl (by kernel_rfl) (by kernel_rfl) (by kernel_rfl) (fun _ _ _ h => h) (Or.inl ⟨by rfl, ?h13⟩) (by assumption) ?r13
          case h13 =>
           intro w' hSw
           try dsimp only at hSw
           go_simp
           try with_reducible rfl
          try simp only [Act.put, List.getElem_toArray, List.getElem_cons_succ, List.getElem_cons_zero, List.setIfInBounds_toArray, List.set_cons_zero, List.set_cons_succ]
          refine wpAnyH_take (i := 3) (v := ?v14) rfl (by kernel_rfl) (by kernel_rfl) (by kernel_rfl) (fun _ _ _ h => h) (Or.inl ⟨by rfl, ?h14⟩) (by assumption) ?r14
          case h14 =>
           intro w' hSw
           try dsimp only at hSw
           go_simp
           try with_reducible rfl
          try simp only [Act.put, List.getElem_toArray, List.getElem_cons_succ, List.getElem_cons_zero, List.setIfInBounds_toArray, List.set_cons_zero, List.set_cons_succ]
          refine wpAnyH_take (i := 5) (v := ?v15) rfl (by kernel_rfl) (by kernel_rfl) (by kernel_rfl) (fun _ _ _ h => h) (Or.inl ⟨by rfl, ?h15⟩) (by assumption) ?r15
          case h15 =>
           intro w' hSw
           try dsimp only at hSw
           go_simp
           try with_reducible rfl
          try simp only [Act.put, List.getElem_toArray, List.getElem_cons_succ, List.getElem_cons_zero, List.setIfInBounds_toArray, List.set_cons_zero, List.set_cons_succ]
          refine wpAnyH_ready (rs := [4, 6]) (by kernel_rfl) (by simp) ?_
          refine AllReadyH.cons (o := _) rfl (fun K hK => ?step16) ?more16
          case step16 =>
           go_simp
           try dsimp only
           refine hK.out _ _ (hS.out _ (Keep.below (Below.refl _ wc).drew)) (fun hHeld => ?_)
           clear hK K
           try simp only [Act.put, List.getElem_toArray, List.getElem_cons_succ, List.getElem_cons_zero, List.setIfInBounds_toArray, List.set_cons_zero, List.set_cons_succ]
           refine wpAnyH_ready (rs := [6]) (by kernel_rfl) (by simp) ?_
           refine AllReadyH.cons (o := _) rfl (fun K hK => ?step5) ?more5
           case step5 =>
            go_simp
            try rw [hF.out]
            try dsimp only
            refine hK.out _ _ (hS.out _ kd9) (fun hHeld => ?_)
            clear hK K
            try simp only [Act.put, List.getElem_toArray, List.getElem_cons_succ, List.getElem_cons_zero, List.setIfInBounds_toArray, List.set_cons_zero, List.set_cons_succ]
            refine wpAnyH_ready (rs := [7]) (by kernel_rfl) (by simp) ?_
            refine AllReadyH.cons (o := _) rfl (fun K hK => ?step4) ?more4
            case step4 =>
             rw [if_pos (by rfl)]
             obtain ⟨v9, wd, hra, hoa, hOa⟩ := run_wait B ((wc.alloc (.cells #[F] 118)).drew) vf fs.length fs hd.lat wc.heap.size F _ (by rw [← hF.out]; rfl) (by show (wc.alloc (.cells #[F] 118)).cell? ⟨wc.heap.size, 0, none⟩ = some F; exact lit_new rfl rfl) (by rw [hfl.out]; omega) (by have := hd.hR; have := hd.lt; omega)
             have hp : Pend ((wc.alloc (.cells #[F] 118)).drew) R w.heap.size F ⟨(Wht.li a), L0, xs, ln, xc⟩ := hpe.out _ kd9
             obtain ⟨hRk, hz⟩ := hd.wait (x := ⟨(Wht.li a), L0, xs, ln, xc⟩) (b := w.heap.size) hOa hfl.out (by show wd.ownsRow B _ 1 v9 (st.lat.length + 1) (fs ++ [F]); rw [← hfl.out]; exact hoa) hbsN.out (by have := (Array.getElem?_eq_some_iff.1 (kd9.at_ (K9.at_ H6.out (.inl rfl)) (.inl rfl))).1; exact this) hp
             have kg : Keep wc wd := kd9.trans (Keep.grown hd.lat (capT_no (.inr (.inr (.inl rfl)))) hOa.1)
             have hb6 := hRk.trans hd.blk
             have kz : Keep wc (wd.setCell ⟨R, 5, none⟩ v9) := kg.trans (Keep.set hb6 (capT_no (.inr (.inr (.inr rfl)))))
             have x5 : wd.cell? ⟨R, 5, none⟩ = some vf := cell_of_row _ _ 5 _ _ _ hb6
             have x5f := frozen_of_row wd R 5 _ _ hb6
             obtain ⟨ao9, ca9, rfl, _, _⟩ := own_shape hoa
             refine Lib.wp_append_run _ _ _ _ _ rfl _ _ rfl rfl _ _ hra ?_
             clear hra hOa hoa hRk hb6 hp
             replace hz := Lib.hid hz; replace kz := Lib.hid kz
             try dsimp only
             refine hK.out _ _ (hS.out _ kg) (fun hHeld => ?_)
             clear hK K
             try simp only [Act.put, List.getElem_toArray, List.getElem_cons_succ, List.getElem_cons_zero, List.setIfInBounds_toArray, List.set_cons_zero, List.set_cons_succ]
             refine wpAnyH_take (i := 8) (v := ?v1) rfl (by kernel_rfl) (by kernel_rfl) (by kernel_rfl) (fun _ _ _ h => h) (Or.inl ⟨by rfl, ?h1⟩) (by assumption) ?r1
             case h1 =>
              intro w' hSw
              try dsimp only at hSw
              go_simp
              try with_reducible rfl
             try simp only [Act.put, List.getElem_toArray, List.getElem_cons_succ, List.getElem_cons_zero, List.setIfInBounds_toArray, List.set_cons_zero, List.set_cons_succ]
             refine wpAnyH_take (i := 9) (v := ?v2) rfl (by kernel_rfl) (by kernel_rfl) (by kernel_rfl) (fun _ _ _ h => h) (Or.inl ⟨by rfl, ?h2⟩) (by assumption) ?r2
             case h2 =>
              intro w' hSw
              try dsimp only at hSw
              go_simp
              try with_reducible rfl
             try simp only [Act.put, List.getElem_toArray, List.getElem_cons_succ, List.getElem_cons_zero, List.setIfInBounds_toArray, List.set_cons_zero, List.set_cons_succ]
             refine wpAnyH_ready (rs := [10]) (by kernel_rfl) (by simp) ?_
             refine AllReadyH.cons (o := _) rfl (fun K hK => ?step3) ?more3
             case step3 =>
              go_simp
              try dsimp only
              refine hK.out _ _ (hS.out _ kz.out) (fun hHeld => ?_)
              clear hK K
              try simp only [Act.put, List.getElem_toArray, List.getElem_cons_succ, List.getElem_cons_zero, List.setIfInBounds_toArray, List.set_cons_zero, List.set_cons_succ]
              refine wpAnyH_done (by kernel_rfl) ?_ _
              clear hS x5 x5f r5 r5a kg kd9 hd hpe h9
              go_wp2_with fail
              go_ret
              have hfin : RAt B w0 _ R base ln ⟨st.ws ++ layM (Wht.li a) 0, st.labs, st.lat ++ [⟨(Wht.li a), L0, xs, ln, xc⟩]⟩ := ⟨_, _, _, _, _, _, hz.out, by show (fs ++ [F]).length = (st.lat ++ [_]).length; rw [List.length_append, List.length_append, hfl.out]; rfl⟩
              exact ⟨rfl, by first | exact hfin | (rw [hL0]; exact hfin)⟩
             exact AllReadyH.nil
            exact AllReadyH.nil
           exact AllReadyH.nil
          refine AllReadyH.cons (o := _) rfl (fun K hK => ?step17) ?more17
          case step17 =>
           go_simp
           try rw [hF.out]
           try dsimp only
           refine hK.out _ _ (hS.out _ kd9) (fun hHeld => ?_)
           clear hK K
           try simp only [Act.put, List.getElem_toArray, List.getElem_cons_succ, List.getElem_cons_zero, List.setIfInBounds_toArray, List.set_cons_zero, List.set_cons_succ]
           refine wpAnyH_ready (rs := [4]) (by kernel_rfl) (by simp) ?_
           refine AllReadyH.cons (o := _) rfl (fun K hK => ?step10) ?more10
           case step10 =>
            go_simp
            try dsimp only
            refine hK.out _ _ (hS.out _ kd9) (fun hHeld => ?_)
            clear hK K
            try simp only [Act.put, List.getElem_toArray, List.getElem_cons_succ, List.getElem_cons_zero, List.setIfInBounds_toArray, List.set_cons_zero, List.set_cons_succ]
            refine wpAnyH_ready (rs := [7]) (by kernel_rfl) (by simp) ?_
            refine AllReadyH.cons (o := _) rfl (fun K hK => ?step9) ?more9
            case step9 =>
             rw [if_pos (by rfl)]
             obtain ⟨v9, wd, hra, hoa, hOa⟩ := run_wait B ((wc.alloc (.cells #[F] 118)).drew) vf fs.length fs hd.lat wc.heap.size F _ (by rw [← hF.out]; rfl) (by show (wc.alloc (.cells #[F] 118)).cell? ⟨wc.heap.size, 0, none⟩ = some F; exact lit_new rfl rfl) (by rw [hfl.out]; omega) (by have := hd.hR; have := hd.lt; omega)
             have hp : Pend ((wc.alloc (.cells #[F] 118)).drew) R w.heap.size F ⟨(Wht.li a), L0, xs, ln, xc⟩ := hpe.out _ kd9
             obtain ⟨hRk, hz⟩ := hd.wait (x := ⟨(Wht.li a), L0, xs, ln, xc⟩) (b := w.heap.size) hOa hfl.out (by show wd.ownsRow B _ 1 v9 (st.lat.length + 1) (fs ++ [F]); rw [← hfl.out]; exact hoa) hbsN.out (by have := (Array.getElem?_eq_some_iff.1 (kd9.at_ (K9.at_ H6.out (.inl rfl)) (.inl rfl))).1; exact this) hp
             have kg : Keep wc wd := kd9.trans (Keep.grown hd.lat (capT_no (.inr (.inr (.inl rfl)))) hOa.1)
             have hb6 := hRk.trans hd.blk
             have kz : Keep wc (wd.setCell ⟨R, 5, none⟩ v9) := kg.trans (Keep.set hb6 (capT_no (.inr (.inr (.inr rfl)))))
             have x5 : wd.cell? ⟨R, 5, none⟩ = some vf := cell_of_row _ _ 5 _ _ _ hb6
             have x5f := frozen_of_row wd R 5 _ _ hb6
             obtain ⟨ao9, ca9, rfl, _, _⟩ := own_shape hoa
             refine Lib.wp_append_run _ _ _ _ _ rfl _ _ rfl rfl _ _ hra ?_
             clear hra hOa hoa hRk hb6 hp
             replace hz := Lib.hid hz; replace kz := Lib.hid kz
             try dsimp only
             refine hK.out _ _ (hS.out _ kg) (fun hHeld => ?_)
             clear hK K
             try simp only [Act.put, List.getElem_toArray, List.getElem_cons_succ, List.getElem_cons_zero, List.setIfInBounds_toArray, List.set_cons_zero, List.set_cons_succ]
             refine wpAnyH_take (i := 8) (v := ?v6) rfl (by kernel_rfl) (by kernel_rfl) (by kernel_rfl) (fun _ _ _ h => h) (Or.inl ⟨by rfl, ?h6⟩) (by assumption) ?r6
             case h6 =>
              intro w' hSw
              try dsimp only at hSw
              go_simp
              try with_reducible rfl
             try simp only [Act.put, List.getElem_toArray, List.getElem_cons_succ, List.getElem_cons_zero, List.setIfInBounds_toArray, List.set_cons_zero, List.set_cons_succ]
             refine wpAnyH_take (i := 9) (v := ?v7) rfl (by kernel_rfl) (by kernel_rfl) (by kernel_rfl) (fun _ _ _ h => h) (Or.inl ⟨by rfl, ?h7⟩) (by assumption) ?r7
             case h7 =>
              intro w' hSw
              try dsimp only at hSw
              go_simp
              try with_reducible rfl
             try simp only [Act.put, List.getElem_toArray, List.getElem_cons_succ, List.getElem_cons_zero, List.setIfInBounds_toArray, List.set_cons_zero, List.set_cons_succ]
             refine wpAnyH_ready (rs := [10]) (by kernel_rfl) (by simp) ?_
             refine AllReadyH.cons (o := _) rfl (fun K hK => ?step8) ?more8
             case step8 =>
              go_simp
              try dsimp only
              refine hK.out _ _ (hS.out _ kz.out) (fun hHeld => ?_)
              clear hK K
              try simp only [Act.put, List.getElem_toArray, List.getElem_cons_succ, List.getElem_cons_zero, List.setIfInBounds_toArray, List.set_cons_zero, List.set_cons_succ]
              refine wpAnyH_done (by kernel_rfl) ?_ _
              clear hS x5 x5f r5 r5a kg kd9 hd hpe h9
              go_wp2_with fail
              go_ret
              have hfin : RAt B w0 _ R base ln ⟨st.ws ++ layM (Wht.li a) 0, st.labs, st.lat ++ [⟨(Wht.li a), L0, xs, ln, xc⟩]⟩ := ⟨_, _, _, _, _, _, hz.out, by show (fs ++ [F]).length = (st.lat ++ [_]).length; rw [List.length_append, List.length_append, hfl.out]; rfl⟩
              exact ⟨rfl, by first | exact hfin | (rw [hL0]; exact hfin)⟩
             exact AllReadyH.nil
            exact AllReadyH.nil
           exact AllReadyH.nil
          exact AllReadyH.nil
         ·
          obtain ⟨wc, hwc⟩ : ∃ wc, ((w8.alloc (.cells #[.int .i64 (ln : Int)] 3)).alloc (.cells #[.string xs, .bool false, .int .i64 (xc : Int)] 152)).drew = wc := ⟨_, rfl⟩
          have bc : Below w8.heap.size w8 wc := by rw [← hwc]; exact (((Below.refl _ _).alloc (Nat.le_refl _) _).alloc (by simp) _).drew
          have hbw : wc.heap[w8.heap.size + 1]? = some (.cells #[.string xs, .bool false, .int .i64 (xc : Int)] 152 (0, 0)) := by rw [← hwc]; exact (congrArg (fun k => _[k]?) (by simp)).trans (heap_alloc_new (w8.alloc _) _)
          have hbl : wc.heap[w8.heap.size]? = some (.cells #[.int .i64 (ln : Int)] 3 (0, 0)) := by rw [← hwc]; exact (heap_alloc_old _ _ (by simp)).trans (heap_alloc_new w8 _)
          try rw [hwc]
          clear hwc q1 q2 q3 q4 q5 q6 q7 q8 q9 q10 o0 o1 o2 c6 c10 c11 r1
          have h9 := (h8.out.later bc).later ((Below.refl _ wc).drew)
          have K9 := K8.trans (Keep.below bc)
          have H19e := (Keep.below bc).at_ H19d.out (.inr (.inr (.inl rfl)))
          have hS : ∀ W, Keep wc W → (fun w' : World => w'.cell? ⟨w.heap.size, 0, none⟩ = some (ptr R)) W := fun W hW2 => (hW.out W (K9.trans hW2)).1.1
          obtain ⟨F, hF⟩ : ∃ F, Value.func (.func 118) #[] #[ptr w.heap.size, ptr (w8.heap.size + 1), ptr (w8.heap.size), ptr (w.heap.size + 1 + 1), ptr N9, ptr (w.heap.size + 1 + 1 + 1)] = F := ⟨_, rfl⟩
          replace hF := Lib.hid hF
          have hn1 : n = 2 := hnn.out.symm
          have hpe : ∀ W, Keep wc W → Pend W R w.heap.size F ⟨(Wht.li a), L0, xs, ln, xc⟩ := fun W hW2 => by
           have kk := K9.trans hW2
           have e11 := kk.at_ H11.out (.inr (.inr (.inl rfl)))
           rw [hn1] at e11
           obtain ⟨a2, ba2, ea, _, ec, eh⟩ := ((hW.out W kk).2).resolve_left (fun h => by have := h.1; cases this)
           obtain rfl : a2 = a := by injection ea with e; exact e.symm
           obtain rfl : ba2 = ba := by simpa using ec.symm
           exact ⟨w.heap.size, _, _, N9, w.heap.size + 1 + 1 + 1, w.heap.size + 1 + 1, _, hF.out.symm, kk.at_ H6.out (.inl rfl), hW2.at_ hbw (.inr (.inl rfl)), hW2.at_ hbl (.inr (.inr (.inl rfl))), hW2.at_ H19e (.inr (.inr (.inl rfl))), e11, kk.at_ H10.out (.inr (.inr (.inr (.inr (.inr (.inl rfl)))))), eh⟩
          have r5 : wc.cell? ⟨R, 5, none⟩ = some vf := h9.c.2.2.2.2.2
          have r5a : ∀ o, (wc.alloc o).cell? ⟨R, 5, none⟩ = some vf := fun o => cell_alloc_up r5
          have bd9 : Below wc.heap.size wc ((wc.alloc (.cells #[F] 118)).drew) := ((Below.refl _ _).alloc (Nat.le_refl _) _).drew
          have kd9 := Keep.below bd9
          have hd := (h8.out.later bc).later bd9
          have hmf : ∀ (fn : Fn) (first cap : Array Value) (w : World), (Instr.makeFunc fn first cap).run Tryz.prog w = .ok (.func fn first cap) w := fun _ _ _ _ => rfl
          clear bd9
          replace h9 := Lib.hid h9; replace H19e := Lib.hid H19e; replace hS := Lib.hid hS; replace hpe := Lib.hid hpe; replace hbw := Lib.hid hbw; replace hbl := Lib.hid hbl; replace hn1 := Lib.hid hn1
          go_upto_region 19 with fail
          refine wp_region_held_drew (S := (fun w' : World => w'.cell? ⟨w.heap.size, 0, none⟩ = some (ptr R))) (by kernel_rfl) (hS.out _ (Keep.below (Below.refl _ wc).drew)) (fun hHeld => ?_)
          refine wpAnyH_take (i := 0) (v := ?v28) rfl (by kernel_rfl) (by kernel_rfl) (by kernel_rfl) (fun _ _ _ h => h) (Or.inl ⟨by rfl, ?h28⟩) (by assumption) ?r28
          case h28 =>
           intro w' hSw
           try dsimp only at hSw
           go_simp
           try with_reducible rfl
          try simp only [Act.put, List.getElem_toArray, List.getElem_cons_succ, List.getElem_cons_zero, List.setIfInBounds_toArray, List.set_cons_zero, List.set_cons_succ]
          refine wpAnyH_take (i := 1) (v := ?v29) rfl (by kernel_rfl) (by kernel_rfl) (by kernel_rfl) (fun _ _ _ h => h) (Or.inl ⟨by rfl, ?h29⟩) (by assumption) ?r29
          case h29 =>
           intro w' hSw
           try dsimp only at hSw
           go_simp
           try with_reducible rfl
          try simp only [Act.put, List.getElem_toArray, List.getElem_cons_succ, List.getElem_cons_zero, List.setIfInBounds_toArray, List.set_cons_zero, List.set_cons_succ]
          refine wpAnyH_take (i := 2) (v := ?v30) rfl (by kernel_rfl) (by kernel_rfl) (by kernel_rfl) (fun _ _ _ h => h) (Or.inl ⟨by rfl, ?h30⟩) (by assumption) ?r30
          case h30 =>
           intro w' hSw
           try dsimp only at hSw
           go_simp
           try with_reducible rfl
          try simp only [Act.put, List.getElem_toArray, List.getElem_cons_succ, List.getElem_cons_zero, List.setIfInBounds_toArray, List.set_cons_zero, List.set_cons_succ]
          refine wpAnyH_take (i := 3) (v := ?v31) rfl (by kernel_rfl) (by kernel_rfl) (by kernel_rfl) (fun _ _ _ h => h) (Or.inl ⟨by rfl, ?h31⟩) (by assumption) ?r31
          case h31 =>
           intro w' hSw
           try dsimp only at hSw
           go_simp
           try with_reducible rfl
          try simp only [Act.put, List.getElem_toArray, List.getElem_cons_succ, List.getElem_cons_zero, List.setIfInBounds_toArray, List.set_cons_zero, List.set_cons_succ]
          refine wpAnyH_take (i := 5) (v := ?v32) rfl (by kernel_rfl) (by kernel_rfl) (by kernel_rfl) (fun _ _ _ h => h) (Or.inl ⟨by rfl, ?h32⟩) (by assumption) ?r32
          case h32 =>
           intro w' hSw
           try dsimp only at hSw
           go_simp
           try with_reducible rfl
          try simp only [Act.put, List.getElem_toArray, List.getElem_cons_succ, List.getElem_cons_zero, List.setIfInBounds_toArray, List.set_cons_zero, List.set_cons_succ]
          refine wpAnyH_ready (rs := [4, 6]) (by kernel_rfl) (by simp) ?_
          refine AllReadyH.cons (o := _) rfl (fun K hK => ?step33) ?more33
          case step33 =>
           go_simp
           try dsimp only
           refine hK.out _ _ (hS.out _ (Keep.below (Below.refl _ wc).drew)) (fun hHeld => ?_)
           clear hK K
           try simp only [Act.put, List.getElem_toArray, List.getElem_cons_succ, List.getElem_cons_zero, List.setIfInBounds_toArray, List.set_cons_zero, List.set_cons_succ]
           refine wpAnyH_ready (rs := [6]) (by kernel_rfl) (by simp) ?_
           refine AllReadyH.cons (o := _) rfl (fun K hK => ?step22) ?more22
           case step22 =>
            go_simp
            try rw [hF.out]
            try dsimp only
            refine hK.out _ _ (hS.out _ kd9) (fun hHeld => ?_)
            clear hK K
            try simp only [Act.put, List.getElem_toArray, List.getElem_cons_succ, List.getElem_cons_zero, List.setIfInBounds_toArray, List.set_cons_zero, List.set_cons_succ]
            refine wpAnyH_ready (rs := [7]) (by kernel_rfl) (by simp) ?_
            refine AllReadyH.cons (o := _) rfl (fun K hK => ?step21) ?more21
            case step21 =>
             rw [if_pos (by rfl)]
             obtain ⟨v9, wd, hra, hoa, hOa⟩ := run_wait B ((wc.alloc (.cells #[F] 118)).drew) vf fs.length fs hd.lat wc.heap.size F _ (by rw [← hF.out]; rfl) (by show (wc.alloc (.cells #[F] 118)).cell? ⟨wc.heap.size, 0, none⟩ = some F; exact lit_new rfl rfl) (by rw [hfl.out]; omega) (by have := hd.hR; have := hd.lt; omega)
             have hp : Pend ((wc.alloc (.cells #[F] 118)).drew) R w.heap.size F ⟨(Wht.li a), L0, xs, ln, xc⟩ := hpe.out _ kd9
             obtain ⟨hRk, hz⟩ := hd.wait (x := ⟨(Wht.li a), L0, xs, ln, xc⟩) (b := w.heap.size) hOa hfl.out (by show wd.ownsRow B _ 1 v9 (st.lat.length + 1) (fs ++ [F]); rw [← hfl.out]; exact hoa) hbsN.out (by have := (Array.getElem?_eq_some_iff.1 (kd9.at_ (K9.at_ H6.out (.inl rfl)) (.inl rfl))).1; exact this) hp
             have kg : Keep wc wd := kd9.trans (Keep.grown hd.lat (capT_no (.inr (.inr (.inl rfl)))) hOa.1)
             have hb6 := hRk.trans hd.blk
             have kz : Keep wc (wd.setCell ⟨R, 5, none⟩ v9) := kg.trans (Keep.set hb6 (capT_no (.inr (.inr (.inr rfl)))))
             have x5 : wd.cell? ⟨R, 5, none⟩ = some vf := cell_of_row _ _ 5 _ _ _ hb6
             have x5f := frozen_of_row wd R 5 _ _ hb6
             obtain ⟨ao9, ca9, rfl, _, _⟩ := own_shape hoa
             refine Lib.wp_append_run _ _ _ _ _ rfl _ _ rfl rfl _ _ hra ?_
             clear hra hOa hoa hRk hb6 hp
             replace hz := Lib.hid hz; replace kz := Lib.hid kz
             try dsimp only
             refine hK.out _ _ (hS.out _ kg) (fun hHeld => ?_)
             clear hK K
             try simp only [Act.put, List.getElem_toArray, List.getElem_cons_succ, List.getElem_cons_zero, List.setIfInBounds_toArray, List.set_cons_zero, List.set_cons_succ]
             refine wpAnyH_take (i := 8) (v := ?v18) rfl (by kernel_rfl) (by kernel_rfl) (by kernel_rfl) (fun _ _ _ h => h) (Or.inl ⟨by rfl, ?h18⟩) (by assumption) ?r18
             case h18 =>
              intro w' hSw
              try dsimp only at hSw
              go_simp
              try with_reducible rfl
             try simp only [Act.put, List.getElem_toArray, List.getElem_cons_succ, List.getElem_cons_zero, List.setIfInBounds_toArray, List.set_cons_zero, List.set_cons_succ]
             refine wpAnyH_take (i := 9) (v := ?v19) rfl (by kernel_rfl) (by kernel_rfl) (by kernel_rfl) (fun _ _ _ h => h) (Or.inl ⟨by rfl, ?h19⟩) (by assumption) ?r19
             case h19 =>
              intro w' hSw
              try dsimp only at hSw
              go_simp
              try with_reducible rfl
             try simp only [Act.put, List.getElem_toArray, List.getElem_cons_succ, List.getElem_cons_zero, List.setIfInBounds_toArray, List.set_cons_zero, List.set_cons_succ]
             refine wpAnyH_ready (rs := [10]) (by kernel_rfl) (by simp) ?_
             refine AllReadyH.cons (o := _) rfl (fun K hK => ?step20) ?more20
             case step20 =>
              go_simp
              try dsimp only
              refine hK.out _ _ (hS.out _ kz.out) (fun hHeld => ?_)
              clear hK K
              try simp only [Act.put, List.getElem_toArray, List.getElem_cons_succ, List.getElem_cons_zero, List.setIfInBounds_toArray, List.set_cons_zero, List.set_cons_succ]
              refine wpAnyH_done (by kernel_rfl) ?_ _
              clear hS x5 x5f r5 r5a kg kd9 hd hpe h9
              go_wp2_with fail
              go_ret
              have hfin : RAt B w0 _ R base ln ⟨st.ws ++ layM (Wht.li a) 0, st.labs, st.lat ++ [⟨(Wht.li a), L0, xs, ln, xc⟩]⟩ := ⟨_, _, _, _, _, _, hz.out, by show (fs ++ [F]).length = (st.lat ++ [_]).length; rw [List.length_append, List.length_append, hfl.out]; rfl⟩
              exact ⟨rfl, by first | exact hfin | (rw [hL0]; exact hfin)⟩
             exact AllReadyH.nil
            exact AllReadyH.nil
           exact AllReadyH.nil
          refine AllReadyH.cons (o := _) rfl (fun K hK => ?step34) ?more34
          case step34 =>
           go_simp
           try rw [hF.out]
           try dsimp only
           refine hK.out _ _ (hS.out _ kd9) (fun hHeld => ?_)
           clear hK K
           try simp only [Act.put, List.getElem_toArray, List.getElem_cons_succ, List.getElem_cons_zero, List.setIfInBounds_toArray, List.set_cons_zero, List.set_cons_succ]
           refine wpAnyH_ready (rs := [4]) (by kernel_rfl) (by simp) ?_
           refine AllReadyH.cons (o := _) rfl (fun K hK => ?step27) ?more27
           case step27 =>
            go_simp
            try dsimp only
            refine hK.out _ _ (hS.out _ kd9) (fun hHeld => ?_)
            clear hK K
            try simp only [Act.put, List.getElem_toArray, List.getElem_cons_succ, List.getElem_cons_zero, List.setIfInBounds_toArray, List.set_cons_zero, List.set_cons_succ]
            refine wpAnyH_ready (rs := [7]) (by kernel_rfl) (by simp) ?_
            refine AllReadyH.cons (o := _) rfl (fun K hK => ?step26) ?more26
            case step26 =>
             rw [if_pos (by rfl)]
             obtain ⟨v9, wd, hra, hoa, hOa⟩ := run_wait B ((wc.alloc (.cells #[F] 118)).drew) vf fs.length fs hd.lat wc.heap.size F _ (by rw [← hF.out]; rfl) (by show (wc.alloc (.cells #[F] 118)).cell? ⟨wc.heap.size, 0, none⟩ = some F; exact lit_new rfl rfl) (by rw [hfl.out]; omega) (by have := hd.hR; have := hd.lt; omega)
             have hp : Pend ((wc.alloc (.cells #[F] 118)).drew) R w.heap.size F ⟨(Wht.li a), L0, xs, ln, xc⟩ := hpe.out _ kd9
             obtain ⟨hRk, hz⟩ := hd.wait (x := ⟨(Wht.li a), L0, xs, ln, xc⟩) (b := w.heap.size) hOa hfl.out (by show wd.ownsRow B _ 1 v9 (st.lat.length + 1) (fs ++ [F]); rw [← hfl.out]; exact hoa) hbsN.out (by have := (Array.getElem?_eq_some_iff.1 (kd9.at_ (K9.at_ H6.out (.inl rfl)) (.inl rfl))).1; exact this) hp
             have kg : Keep wc wd := kd9.trans (Keep.grown hd.lat (capT_no (.inr (.inr (.inl rfl)))) hOa.1)
             have hb6 := hRk.trans hd.blk
             have kz : Keep wc (wd.setCell ⟨R, 5, none⟩ v9) := kg.trans (Keep.set hb6 (capT_no (.inr (.inr (.inr rfl)))))
             have x5 : wd.cell? ⟨R, 5, none⟩ = some vf := cell_of_row _ _ 5 _ _ _ hb6
             have x5f := frozen_of_row wd R 5 _ _ hb6
             obtain ⟨ao9, ca9, rfl, _, _⟩ := own_shape hoa
             refine Lib.wp_append_run _ _ _ _ _ rfl _ _ rfl rfl _ _ hra ?_
             clear hra hOa hoa hRk hb6 hp
             replace hz := Lib.hid hz; replace kz := Lib.hid kz
             try dsimp only
             refine hK.out _ _ (hS.out _ kg) (fun hHeld => ?_)
             clear hK K
             try simp only [Act.put, List.getElem_toArray, List.getElem_cons_succ, List.getElem_cons_zero, List.setIfInBounds_toArray, List.set_cons_zero, List.set_cons_succ]
             refine wpAnyH_take (i := 8) (v := ?v23) rfl (by kernel_rfl) (by kernel_rfl) (by kernel_rfl) (fun _ _ _ h => h) (Or.inl ⟨by rfl, ?h23⟩) (by assumption) ?r23
             case h23 =>
              intro w' hSw
              try dsimp only at hSw
              go_simp
              try with_reducible rfl
             try simp only [Act.put, List.getElem_toArray, List.getElem_cons_succ, List.getElem_cons_zero, List.setIfInBounds_toArray, List.set_cons_zero, List.set_cons_succ]
             refine wpAnyH_take (i := 9) (v := ?v24) rfl (by kernel_rfl) (by kernel_rfl) (by kernel_rfl) (fun _ _ _ h => h) (Or.inl ⟨by rfl, ?h24⟩) (by assumption) ?r24
             case h24 =>
              intro w' hSw
              try dsimp only at hSw
              go_simp
              try with_reducible rfl
             try simp only [Act.put, List.getElem_toArray, List.getElem_cons_succ, List.getElem_cons_zero, List.setIfInBounds_toArray, List.set_cons_zero, List.set_cons_succ]
             refine wpAnyH_ready (rs := [10]) (by kernel_rfl) (by simp) ?_
             refine AllReadyH.cons (o := _) rfl (fun K hK => ?step25) ?more25
             case step25 =>
              go_simp
              try dsimp only
              refine hK.out _ _ (hS.out _ kz.out) (fun hHeld => ?_)
              clear hK K
              try simp only [Act.put, List.getElem_toArray, List.getElem_cons_succ, List.getElem_cons_zero, List.setIfInBounds_toArray, List.set_cons_zero, List.set_cons_succ]
              refine wpAnyH_done (by kernel_rfl) ?_ _
              clear hS x5 x5f r5 r5a kg kd9 hd hpe h9
              go_wp2_with fail
              go_ret
              have hfin : RAt B w0 _ R base ln ⟨st.ws ++ layM (Wht.li a) 0, st.labs, st.lat ++ [⟨(Wht.li a), L0, xs, ln, xc⟩]⟩ := ⟨_, _, _, _, _, _, hz.out, by show (fs ++ [F]).length = (st.lat ++ [_]).length; rw [List.length_append, List.length_append, hfl.out]; rfl⟩
              exact ⟨rfl, by first | exact hfin | (rw [hL0]; exact hfin)⟩
             exact AllReadyH.nil
            exact AllReadyH.nil
           exact AllReadyH.nil
          exact AllReadyH.nil
        exact AllReadyH.nil
       exact AllReadyH.nil
      exact AllReadyH.nil
     exact AllReadyH.nil
  ·rw [if_neg (fun h => hkl h.1)]
   simp only
   cases hcm : countM ln (ns, nq, nc) ops (k + 1) with
   | none =>
    exfalso
    unfold countM at hcm
    rw [if_pos (by omega)] at hcm
    cases hcm
   | some f =>
    simp only
    obtain ⟨ao, oc, rfl, p1, p2, _⟩ := hOp.out w1 hrefl
    obtain ⟨L, hLo⟩ : ∃ L, ops.length = L := ⟨_, rfl⟩
    have hLL := hLo
    rw [hLo] at hkl hol
    rw [hLo]
    replace hLo := Lib.hid hLo; replace hLL := Lib.hid hLL
    have g1 : decide ((L : Int) > (k : Int)) = false := decide_eq_false (by omega)
    have g2 : ¬ (k : Int) < (L : Int) := by omega
    obtain ⟨⟨c6, ⟨c7a, c7b, c7c⟩, c10, c11⟩, _⟩ := hW.out _ hrefl
    go_enter Tryz.func86, Tryz.ntmps86
    go_upto_region 1 with fail
    try rw [hw1]
    clear hw1
    go_wp2_with fail
    refine hrm.out.mono ?_
    rintro e w2 ⟨her, b2⟩
    obtain rfl : e = _ := her
    have h2 := h1.out.later b2
    have K2 := Keep.below b2
    clear b2 c6 c7a c7b c7c c10 c11 hrm h1
    obtain ⟨⟨c6, ⟨c7a, c7b, c7c⟩, _, _⟩, _⟩ := hW.out w2 K2
    have hct := count_any R ln (ns, nq, nc) _ ops shape.size w2 h2.c.2.1 (hOp.out _ K2) (by have := hsh.out; omega)
    unfold wV at hct
    dsimp only at hct
    rw [hsh.out, hcm] at hct
    rw [hLo.out] at hct
    have hsz2 : ((k + 1 : Nat) : Int) = (shape.size : Int) := by rw [hsh.out]
    rw [hsz2] at hct
    replace hct := Lib.hid hct
    clear hsz2
    go_wp2_with fail
    refine hct.out.mono ?_
    rintro e w5 ⟨her, b5⟩
    clear c6 c7a c7b c7c hct
    obtain ⟨fv, rfl, gf, rfl, hgf⟩ := her
    have hfin := (h2.below).trans (b5.mono (by have := h2.hR; have := h2.lt; omega))
    clear b5
    replace hgf := Lib.hid hgf; replace hfin := Lib.hid hfin
    go_wp2_with fail
    go_ret
    exact ⟨⟨_, rfl, ⟨_, rfl, hgf.out⟩⟩, hfin.out⟩

end Go.Proofs.YtiknookfnameiaaGreatDoor
