/- The contract of asm's load. The contract of asm's zero (printed by genMZr.py). -/
import Derived.Test.YtiknookfnameiaaGreatDoorMFx3Jn
import Derived.Test.YtiknookfnameiaaGreatDoorIsaBJn
import Derived.Test.YtiknookfnameiaaGreatDoorMFx2Jn
namespace Go.Proofs.YtiknookfnameiaaGreatDoor
open Go.RowKit WP
set_option linter.unusedSimpArgs false
set_option linter.unusedVariables false
theorem WsAt.zero {w : World} {v : Value} {x : W} {rest : List W} (h : WsAt w v (x :: rest)) : ∃ b off cap, v = .slice (some ⟨b, off, none⟩) (rest.length + 1) cap ∧ rest.length + 1 ≤ cap ∧ cap ≤ 9223372036854775807 ∧
  ∀ W, Keep w W → W.cell? ⟨b, off, none⟩ = some (.string x.1) ∧ W.cell? ⟨b, off + 1, none⟩ = some (.bool x.2.1) ∧ W.cell? ⟨b, off + 2, none⟩ = some (.int .i64 (x.2.2 : Int)) := by
 obtain ⟨ao, cap, rfl, h1, h2, h3⟩ := h
 obtain ⟨b, off, cs, rfl, hb, hc⟩ := h3.resolve_left (by simp)
 refine ⟨b, off, cap, rfl, h1, h2, fun W hW => ?_⟩
 have hb' := hW.at_ hb (.inr (.inl rfl))
 obtain ⟨a0, a1, a2⟩ := hc 0 x rfl
 simp only [Nat.zero_mul, Nat.add_zero] at a0 a1 a2
 exact ⟨(cell_of_row _ _ _ _ _ _ hb').trans a0, (cell_of_row _ _ _ _ _ _ hb').trans a1, (cell_of_row _ _ _ _ _ _ hb').trans a2⟩
set_option maxRecDepth 100000 in
set_option maxHeartbeats 2000000 in
theorem li_any {B : Nat} {w0 w : World} {R : Nat} {base : Int} {ln : Nat} {st : Asm} (hR : RAt B w0 w R base ln st) (hE : AEnv w0) (hst : st.ws.length ≤ 2048) (hlat : st.lat.length ≤ 2048) (name : W) (ops : List W) (v : Value) (hops : WsAt w v ops) (hsz : ∀ x ∈ ops, x.1.size ≤ 1048576) (hol : ops.length ≤ 1048576) :
  Calls Tryz.prog 88 #[ptr R, wV name, v] w fun e w' => StRes B w0 R base ln w' e (liM ln name ops st) := by
 obtain ⟨vw, vl, mb, vf, fs, bs, h, hfl⟩ := id hR
 obtain ⟨ns, nq, nc⟩ := name
 obtain ⟨w1, hw1⟩ : ∃ w1, w.alloc (.cells #[.string ns, .bool nq, .int .i64 (nc : Int)] 152) = w1 := ⟨_, rfl⟩
 have b1 : Below w.heap.size w w1 := by rw [← hw1]; exact (Below.refl w.heap.size w).alloc (Nat.le_refl _) _
 have H4 : w1.heap[w.heap.size]? = some (.cells #[.string ns, .bool nq, .int .i64 (nc : Int)] 152 (0, 0)) := by rw [← hw1]; exact heap_alloc_new w _
 have h1 := h.later b1
 have hR1 := hR.later b1
 have hrm := room_any h1 (ns, nq, nc) 2 (by omega) (by omega)
 have hW : ∀ W, Keep w1 W → W.cell? ⟨w.heap.size, 0, none⟩ = some (.string ns) ∧ W.cell? ⟨w.heap.size, 1, none⟩ = some (.bool nq) ∧ W.cell? ⟨w.heap.size, 2, none⟩ = some (.int .i64 (nc : Int)) := fun W hW2 =>
  ⟨cell_of_row _ _ 0 _ _ _ (hW2.at_ H4 (.inr (.inl rfl))), cell_of_row _ _ 1 _ _ _ (hW2.at_ H4 (.inr (.inl rfl))), cell_of_row _ _ 2 _ _ _ (hW2.at_ H4 (.inr (.inl rfl)))⟩
 have hOp := hops.later b1
 unfold wV at hrm ⊢
 dsimp only at hrm ⊢
 have hfx := fun (a : Int) (ba : Nat) (W : World) (hRW : RAt B w0 W R base ln st) (ho : WsAt W v ops) (hl : W.heap[ba]? = some (.cells #[.int .i64 a] 3 (0, 0))) => fixed_li hRW hE hst hlat (ns, nq, nc) ops v ho hsz ⟨#[97, 120]⟩ 1 rfl (by omega) hol a ba (.inr ⟨a, ba, rfl, rfl, rfl, hl⟩)
 unfold wV at hfx
 dsimp only [Wht.size] at hfx
 have e2 : ((2 : Nat) : Int) = 2 := rfl
 simp only [e2] at hfx
 have hmf : ∀ (fn : Fn) (first cap : Array Value) (w : World), (Instr.makeFunc fn first cap).run Tryz.prog w = .ok (.func fn first cap) w := fun _ _ _ _ => rfl
 obtain ⟨c0, c1, c2⟩ := hW w1 (Keep.refl _)
 clear hops hR h H4 e2
 replace hfx := Lib.hid hfx; replace hW := Lib.hid hW; replace hrm := Lib.hid hrm; replace h1 := Lib.hid h1; replace hR1 := Lib.hid hR1; replace hOp := Lib.hid hOp; replace hfl := Lib.hid hfl; replace b1 := Lib.hid b1; replace hsz := Lib.hid hsz
 unfold liM
 cases hr : roomM ln (ns, nq, nc) st 2 with
 | some f =>
  rw [hr] at hrm
  go_enter Tryz.func88, Tryz.ntmps88
  go_upto_region 1 with fail
  try rw [hw1]
  clear hw1
  go_wp2_with fail
  refine hrm.out.mono ?_
  rintro e w2 ⟨her, b2⟩
  obtain ⟨fv, rfl, gf, rfl, hgf⟩ := her
  have hfin := h1.out.below.trans (b2.mono (by have := h1.out.hR; have := h1.out.lt; omega))
  clear b2
  replace hgf := Lib.hid hgf; replace hfin := Lib.hid hfin
  go_wp2_with fail
  go_ret
  exact ⟨⟨_, rfl, ⟨_, rfl, hgf.out⟩⟩, hfin.out⟩
 | none =>
  rw [hr] at hrm
  simp only
  cases ops with
  | nil =>
   obtain ⟨ao, cap, rfl, p1, p2, _⟩ := id hOp.out
   simp only [List.length_nil]
   obtain ⟨FR, hFR⟩ : ∃ FR, fixedM ln (ns, nq, nc) 1 [] (.li 0) 2 st = FR := ⟨_, rfl⟩
   rw [hFR]
   go_enter Tryz.func88, Tryz.ntmps88
   go_upto_region 1 with fail
   try rw [hw1]
   clear hw1
   go_wp2_with fail
   refine hrm.out.mono ?_
   rintro e w2 ⟨her, b2⟩
   obtain rfl : e = _ := her
   obtain ⟨w3, hw3⟩ : ∃ w3, w2.alloc (.cells #[.int .i64 0] 3) = w3 := ⟨_, rfl⟩
   have b3 : Below w2.heap.size w2 w3 := by rw [← hw3]; exact (Below.refl _ _).alloc (Nat.le_refl _) _
   have H8 : w3.heap[w2.heap.size]? = some (.cells #[.int .i64 0] 3 (0, 0)) := by rw [← hw3]; exact heap_alloc_new w2 _
   have hfx1 := hfx.out 0 w2.heap.size w3 ((hR1.out.later b2).later b3) ((hOp.out.later b2).later b3) H8
   obtain ⟨c0, c1, c2⟩ := hW.out w3 ((Keep.below b2).trans (Keep.below b3))
   have d8 : w3.cell? ⟨w2.heap.size, 0, none⟩ = some (.int .i64 0) := cell_of_row _ _ 0 _ _ _ H8
   have d8f := frozen_of_row w3 w2.heap.size 0 _ _ H8
   have hsc : w3.setCell ⟨w2.heap.size, 0, none⟩ (.int .i64 0) = w3 := setCell_idI H8 rfl
   clear b2 b3 H8
   replace hfx1 := Lib.hid hfx1
   go_upto_region 5 with fail
   try rw [hw3]
   clear hw3
   go_wp2_with fail
   refine hfx1.out.mono ?_
   rintro e w4 hres
   rw [hFR] at hres
   clear hFR
   cases FR with
   | inl st' =>
    obtain ⟨rfl, hra⟩ := hres
    replace hra := Lib.hid hra
    go_wp2_with fail
    go_ret
    exact ⟨rfl, hra.out⟩
   | inr f =>
    obtain ⟨⟨fv, rfl, hft⟩, hbl⟩ := hres
    replace hft := Lib.hid hft; replace hbl := Lib.hid hbl
    go_wp2_with fail
    go_ret
    exact ⟨⟨_, rfl, hft.out⟩, hbl.out⟩
  | cons x rest =>
   obtain ⟨b, off, cap, rfl, p1, p2, hX⟩ := hOp.out.zero
   have hxs : x.1.size ≤ 1048576 := hsz.out x (by simp)
   obtain ⟨xs, xq, xc⟩ := x
   simp only at hX hxs
   have hrg := fun W hP => reg_any (xs, xq, xc) W hP
   unfold wV at hrg
   dsimp only at hrg
   obtain ⟨L, hL⟩ : ∃ L, rest.length = L := ⟨_, rfl⟩
   rw [hL] at p1 ⊢
   have hn0 : (0 : Int) < (L : Int) + 1 := by omega
   have hn1 : decide (((L + 1 : Nat) : Int) > 0) = true := decide_eq_true (by omega)
   have hn2 : (0 : Int) < ((L + 1 : Nat) : Int) := by omega
   replace hX := Lib.hid hX; replace hrg := Lib.hid hrg; replace hL := Lib.hid hL
   cases hrf : regF (xs, xq, xc) with
   | none =>
    have hrv : regV (xs, xq, xc) = -1 := by unfold regV; rw [hrf]; rfl
    rw [hrv] at hrg
    simp only [hrf]
    go_enter Tryz.func88, Tryz.ntmps88
    go_upto_region 1 with fail
    try rw [hw1]
    clear hw1
    go_wp2_with fail
    refine hrm.out.mono ?_
    rintro e w2 ⟨her, b2⟩
    obtain rfl : e = _ := her
    obtain ⟨w3, hw3⟩ : ∃ w3, w2.alloc (.cells #[.int .i64 0] 3) = w3 := ⟨_, rfl⟩
    have b3 : Below w2.heap.size w2 w3 := by rw [← hw3]; exact (Below.refl _ _).alloc (Nat.le_refl _) _
    have H8 : w3.heap[w2.heap.size]? = some (.cells #[.int .i64 0] 3 (0, 0)) := by rw [← hw3]; exact heap_alloc_new w2 _
    have h3 := (h1.out.later b2).later b3
    have hR3 := (hR1.out.later b2).later b3
    have K3 := (Keep.below b2).trans (Keep.below b3)
    obtain ⟨o0, o1, o2⟩ := hX.out w3 K3
    have d8 : w3.cell? ⟨w2.heap.size, 0, none⟩ = some (.int .i64 0) := cell_of_row _ _ 0 _ _ _ H8
    have d8f := frozen_of_row w3 w2.heap.size 0 _ _ H8
    have hsc : w3.setCell ⟨w2.heap.size, 0, none⟩ (.int .i64 0) = w3 := setCell_idI H8 rfl
    have hP3 := (h3.env hE).pk.p
    have hB2 : B ≤ w2.heap.size := by have := (h1.out.later b2).hR; have := (h1.out.later b2).lt; omega
    have h2 := h1.out.later b2
    have hR2 := hR1.out.later b2
    have ho2 := hOp.out.later b2
    have K2 := Keep.below b2
    clear b2 c0 c1 c2
    replace h2 := Lib.hid h2; replace hR2 := Lib.hid hR2; replace ho2 := Lib.hid ho2; replace K2 := Lib.hid K2; replace b3 := Lib.hid b3
    replace h3 := Lib.hid h3; replace hR3 := Lib.hid hR3; replace K3 := Lib.hid K3; replace hP3 := Lib.hid hP3; replace H8 := Lib.hid H8
    go_upto_region 5 with fail
    try rw [hw3]
    clear hw3
    go_wp2_with fail
    refine (hrg.out _ hP3.out).mono ?_
    rintro e w4 ⟨rfl, b4⟩
    have h4 := h3.out.later b4
    have hR4 := hR3.out.later b4
    have H84 := (Keep.below b4).at_ H8.out (.inr (.inr (.inl rfl)))
    have K4 := K3.out.trans (Keep.below b4)
    have hlt2 := (Array.getElem?_eq_some_iff.1 H84).1
    have B24 := b3.out.trans (b4.mono b3.out.size)
    clear o0 o1 o2 d8 d8f hsc b4 h3 hR3 H8 K3 hP3 b3
    have d8 : w4.cell? ⟨w2.heap.size, 0, none⟩ = some (.int .i64 0) := cell_of_row _ _ 0 _ _ _ H84
    have d8f := frozen_of_row w4 w2.heap.size 0 _ _ H84
    obtain ⟨w5, hw5⟩ : ∃ w5, w4.setCell ⟨w2.heap.size, 0, none⟩ (.int .i64 (-1)) = w5 := ⟨_, rfl⟩
    have B25 : Below w2.heap.size w2 w5 := by rw [← hw5]; exact B24.setCell (p := ⟨w2.heap.size, 0, none⟩) (Nat.le_refl _) _
    have h5 := h2.out.later B25
    have l5 := h5.c.2.1
    have bel5 := h5.below
    have e8 : w5.cell? ⟨w2.heap.size, 0, none⟩ = some (.int .i64 (-1)) := by rw [← hw5]; exact cell_of_row _ _ 0 _ _ _ (heap_setCell_same w4 w2.heap.size 0 _ _ (.int .i64 (-1)) H84)
    have o2 := (hX.out w5 (K2.out.trans (Keep.below B25))).2.2
    have hat := at_any R ln xc 61 w5 l5
    have hs5 : B ≤ w5.heap.size := by have := h5.hR; have := h5.lt; omega
    clear h4 hR4 H84 K4 B24 B25 h5
    replace hat := Lib.hid hat; replace bel5 := Lib.hid bel5
    go_upto_region 7 with fail
    try rw [hw5]
    clear hw5 d8 d8f
    go_wp2_with fail
    refine hat.out.mono ?_
    rintro e w6 ⟨fv, rfl, hft, b6⟩
    have hfin := bel5.out.trans (b6.mono hs5)
    replace hft := Lib.hid hft; replace hfin := Lib.hid hfin
    go_wp2_with fail
    go_ret
    exact ⟨⟨_, rfl, hft.out⟩, hfin.out⟩
   | some a =>
    have hrv : regV (xs, xq, xc) = (a : Int) := by unfold regV; rw [hrf]; rfl
    rw [hrv] at hrg
    simp only [hrf]
    obtain ⟨FR, hFR⟩ : ∃ FR, fixedM ln (ns, nq, nc) 1 ((xs, xq, xc) :: rest) (.li (a : Int)) 2 st = FR := ⟨_, rfl⟩
    rw [hFR]
    have na : ¬ (a : Int) < 0 := by omega
    go_enter Tryz.func88, Tryz.ntmps88
    go_upto_region 1 with fail
    try rw [hw1]
    clear hw1
    go_wp2_with fail
    refine hrm.out.mono ?_
    rintro e w2 ⟨her, b2⟩
    obtain rfl : e = _ := her
    obtain ⟨w3, hw3⟩ : ∃ w3, w2.alloc (.cells #[.int .i64 0] 3) = w3 := ⟨_, rfl⟩
    have b3 : Below w2.heap.size w2 w3 := by rw [← hw3]; exact (Below.refl _ _).alloc (Nat.le_refl _) _
    have H8 : w3.heap[w2.heap.size]? = some (.cells #[.int .i64 0] 3 (0, 0)) := by rw [← hw3]; exact heap_alloc_new w2 _
    have h3 := (h1.out.later b2).later b3
    have hR3 := (hR1.out.later b2).later b3
    have K3 := (Keep.below b2).trans (Keep.below b3)
    obtain ⟨o0, o1, o2⟩ := hX.out w3 K3
    have d8 : w3.cell? ⟨w2.heap.size, 0, none⟩ = some (.int .i64 0) := cell_of_row _ _ 0 _ _ _ H8
    have d8f := frozen_of_row w3 w2.heap.size 0 _ _ H8
    have hsc : w3.setCell ⟨w2.heap.size, 0, none⟩ (.int .i64 0) = w3 := setCell_idI H8 rfl
    have hP3 := (h3.env hE).pk.p
    have hB2 : B ≤ w2.heap.size := by have := (h1.out.later b2).hR; have := (h1.out.later b2).lt; omega
    have h2 := h1.out.later b2
    have hR2 := hR1.out.later b2
    have ho2 := hOp.out.later b2
    have K2 := Keep.below b2
    clear b2 c0 c1 c2
    replace h2 := Lib.hid h2; replace hR2 := Lib.hid hR2; replace ho2 := Lib.hid ho2; replace K2 := Lib.hid K2; replace b3 := Lib.hid b3
    replace h3 := Lib.hid h3; replace hR3 := Lib.hid hR3; replace K3 := Lib.hid K3; replace hP3 := Lib.hid hP3; replace H8 := Lib.hid H8
    go_upto_region 5 with fail
    try rw [hw3]
    clear hw3
    go_wp2_with fail
    refine (hrg.out _ hP3.out).mono ?_
    rintro e w4 ⟨rfl, b4⟩
    have h4 := h3.out.later b4
    have hR4 := hR3.out.later b4
    have H84 := (Keep.below b4).at_ H8.out (.inr (.inr (.inl rfl)))
    have K4 := K3.out.trans (Keep.below b4)
    have hlt2 := (Array.getElem?_eq_some_iff.1 H84).1
    have B24 := b3.out.trans (b4.mono b3.out.size)
    clear o0 o1 o2 d8 d8f hsc b4 h3 hR3 H8 K3 hP3 b3
    have d8 : w4.cell? ⟨w2.heap.size, 0, none⟩ = some (.int .i64 0) := cell_of_row _ _ 0 _ _ _ H84
    have d8f := frozen_of_row w4 w2.heap.size 0 _ _ H84
    obtain ⟨w5, hw5⟩ : ∃ w5, w4.setCell ⟨w2.heap.size, 0, none⟩ (.int .i64 (a : Int)) = w5 := ⟨_, rfl⟩
    have B25 : Below w2.heap.size w2 w5 := by rw [← hw5]; exact B24.setCell (p := ⟨w2.heap.size, 0, none⟩) (Nat.le_refl _) _
    have H85 : w5.heap[w2.heap.size]? = some (.cells #[.int .i64 (a : Int)] 3 (0, 0)) := by rw [← hw5, heap_setCell_same w4 w2.heap.size 0 _ _ (.int .i64 (a : Int)) H84]; rfl
    have hR5 := hR2.out.later B25
    have ho5 := ho2.out.later B25
    have hfx1 := hfx.out (a : Int) w2.heap.size w5 hR5 ho5 H85
    rw [hL.out] at hfx1
    have c0 := hW.out w5 (K2.out.trans (Keep.below B25))
    obtain ⟨c0, c1, c2⟩ := c0
    have e8 : w5.cell? ⟨w2.heap.size, 0, none⟩ = some (.int .i64 (a : Int)) := cell_of_row _ _ 0 _ _ _ H85
    clear h4 hR4 H84 K4 hR5 ho5 H85 B24 B25
    replace hfx1 := Lib.hid hfx1
    go_upto_region 7 with fail
    try rw [hw5]
    clear hw5 d8 d8f
    go_wp2_with fail
    refine hfx1.out.mono ?_
    rintro e w6 hres
    rw [hFR] at hres
    clear hFR
    cases FR with
    | inl st' =>
     obtain ⟨rfl, hra⟩ := hres
     replace hra := Lib.hid hra
     go_wp2_with fail
     go_ret
     exact ⟨rfl, hra.out⟩
    | inr f =>
     obtain ⟨⟨fv, rfl, hft⟩, hbl⟩ := hres
     replace hft := Lib.hid hft; replace hbl := Lib.hid hbl
     go_wp2_with fail
     go_ret
     exact ⟨⟨_, rfl, hft.out⟩, hbl.out⟩
end Go.Proofs.YtiknookfnameiaaGreatDoor

namespace Go.Proofs.YtiknookfnameiaaGreatDoor
open Go.RowKit WP
set_option linter.unusedSimpArgs false
set_option linter.unusedVariables false
set_option maxRecDepth 100000 in
set_option maxHeartbeats 20000000 in
theorem zero_any {B : Nat} {w0 w : World} {R : Nat} {base : Int} {ln : Nat} {st : Asm} (hR : RAt B w0 w R base ln st) (hE : AEnv w0) (hst : st.ws.length ≤ 2048) (name : W) (ops : List W) (v : Value) (hops : WsAt w v ops) (hsz : ∀ x ∈ ops, x.1.size ≤ 1048576) (hol : ops.length ≤ 1048576) :
  Calls Tryz.prog 89 #[ptr R, wV name, v] w fun e w' => StRes B w0 R base ln w' e (zeroM ln name ops st) := by
 obtain ⟨vw, vl, mb, vf, fs, bs, h, hfl⟩ := hR
 obtain ⟨aw, cw, rfl, w1a, w1b⟩ := own_shape h.ws
 obtain ⟨ns, nq, nc⟩ := name
 obtain ⟨w1, hw1⟩ : ∃ w1, w.alloc (.cells #[.string ns, .bool nq, .int .i64 (nc : Int)] 152) = w1 := ⟨_, rfl⟩
 have b1 : Below w.heap.size w w1 := by rw [← hw1]; exact (Below.refl w.heap.size w).alloc (Nat.le_refl _) _
 have H4 : w1.heap[w.heap.size]? = some (.cells #[.string ns, .bool nq, .int .i64 (nc : Int)] 152 (0, 0)) := by rw [← hw1]; exact heap_alloc_new w _
 have h1 := h.later b1
 have hW : ∀ W, Keep w1 W → W.cell? ⟨w.heap.size, 0, none⟩ = some (.string ns) ∧ W.cell? ⟨w.heap.size, 1, none⟩ = some (.bool nq) ∧ W.cell? ⟨w.heap.size, 2, none⟩ = some (.int .i64 (nc : Int)) := fun W hW2 =>
  ⟨cell_of_row _ _ 0 _ _ _ (hW2.at_ H4 (.inr (.inl rfl))), cell_of_row _ _ 1 _ _ _ (hW2.at_ H4 (.inr (.inl rfl))), cell_of_row _ _ 2 _ _ _ (hW2.at_ H4 (.inr (.inl rfl)))⟩
 have hOp := hops.later b1
 have hP1 := (h1.env hE).pk.e
 unfold wV
 dsimp only
 clear hops h H4 b1
 replace hW := Lib.hid hW; replace h1 := Lib.hid h1; replace hOp := Lib.hid hOp; replace hfl := Lib.hid hfl; replace hsz := Lib.hid hsz; replace hP1 := Lib.hid hP1
 unfold zeroM
 cases ops with
 | nil =>
  obtain ⟨ao, cap, hv, p1, p2, _⟩ := id hOp.out
  simp only [List.length_nil] at hv p1
  subst hv
  simp only
  obtain ⟨CR, hCR⟩ : ∃ CR, countM ln (ns, nq, nc) [] 1 = CR := ⟨_, rfl⟩
  obtain ⟨RR, hRR⟩ : ∃ RR, roomM ln (ns, nq, nc) st 0 = RR := ⟨_, rfl⟩
  rw [hCR, hRR]
  go_enter Tryz.func89, Tryz.ntmps89
  go_upto_region 1 with fail
  try rw [hw1]
  clear hw1
  have hK := h1.out
  have hKo := hOp.out
  have Kk : Keep w1 w1 := Keep.refl _
  have hKc := hW.out w1 Kk
  replace hK := Lib.hid hK; replace hKo := Lib.hid hKo; replace Kk := Lib.hid Kk; replace hKc := Lib.hid hKc
  have hnn : True := trivial
  have hct := count_any R ln (ns, nq, nc) _ [] 1 w1 hK.out.c.2.1 hKo.out (by omega)
  unfold wV at hct
  rw [hCR] at hct
  obtain ⟨_, hk1, _⟩ := hK.out.c
  replace hct := Lib.hid hct
  obtain ⟨c0, c1, c2⟩ := hKc.out
  go_upto_region 7 with fail
  go_wp2_with fail
  refine hct.out.mono ?_
  rintro e wm ⟨her, bm⟩
  have hm := hK.out.later bm
  obtain ⟨c0, c1, c2⟩ := hW.out wm (Kk.out.trans (Keep.below bm))
  clear bm hK hKo hKc
  cases CR with
  | some f =>
   obtain ⟨fv, rfl, gf, rfl, hgf⟩ := her
   have hfin := hm.below
   replace hgf := Lib.hid hgf; replace hfin := Lib.hid hfin; replace hm := Lib.hid hm
   go_wp2_with fail
   go_ret
   exact ⟨⟨_, rfl, ⟨_, rfl, hgf.out⟩⟩, hfin.out⟩
  | none =>
   obtain rfl : e = _ := her
   have hrm := room_any hm (ns, nq, nc) 0 (by omega) (by omega)
   unfold wV at hrm
   rw [hRR] at hrm
   replace hrm := Lib.hid hrm; replace hm := Lib.hid hm
   go_upto_region 10 with fail
   go_wp2_with fail
   refine hrm.out.mono ?_
   rintro e wa ⟨her, ba⟩
   have ha := hm.out.later ba
   clear ba hm
   cases RR with
   | some f =>
    obtain ⟨fv, rfl, gf, rfl, hgf⟩ := her
    have hfin := ha.below
    replace hgf := Lib.hid hgf; replace hfin := Lib.hid hfin; replace ha := Lib.hid ha
    go_wp2_with fail
    go_ret
    exact ⟨⟨_, rfl, ⟨_, rfl, hgf.out⟩⟩, hfin.out⟩
   | none =>
    obtain rfl : e = _ := her
    have hroom := room_no hRR
    have r2 : wa.cell? ⟨R, 2, none⟩ = some (.slice aw st.ws.length cw) := ha.c.2.2.1
    obtain ⟨L0, hL0⟩ : ∃ L, st.ws.length = L := ⟨_, rfl⟩
    rw [hL0] at r2 hroom
    have hBa : B ≤ wa.heap.size := by have := ha.hR; have := ha.lt; omega
    replace ha := Lib.hid ha; replace hL0 := Lib.hid hL0
    go_upto_region 13 with fail
    obtain ⟨v6, w6, hra, hoa, hOa⟩ := run_append_zs B 22 _ .u32 .u32 Tryz.underlying22 wa (.slice aw L0 cw) L0 (wi st.ws) (by have h := ha.out.ws; rw [hL0.out] at h; exact h) 0 (by omega) hBa
    obtain ⟨hRk, hz⟩ := ha.out.words (l := List.replicate 0 0) (by rw [hL0.out]; exact hOa) (by rw [wi_zeros, hL0.out, List.length_replicate]; exact hoa)
    have hb6 := hRk.trans ha.out.blk
    have x2 : w6.cell? ⟨R, 2, none⟩ = some (.slice aw L0 cw) := (cell_of_row _ _ 2 _ _ _ hb6).trans (by rw [hL0.out]; rfl)
    have x2f := frozen_of_row w6 R 2 _ _ hb6
    obtain ⟨a6, c6, rfl, _, _⟩ := own_shape hoa
    try simp only [Nat.add_zero, List.replicate_zero, List.append_nil] at hz hra
    clear hOa hoa hRk hb6
    replace hz := Lib.hid hz; replace hra := Lib.hid hra
    go_wp2_with (at_builtin; refine Lib.wpList_append_run _ rfl _ _ _ _ rfl _ _ rfl rfl _ _ hra.out ?_)
    go_ret
    exact ⟨rfl, _, _, _, _, _, _, hz.out, hfl.out⟩
 | cons x rest =>
  obtain ⟨b, off, cap, rfl, p1, p2, hX⟩ := hOp.out.zero
  have hxs : x.1.size ≤ 1048576 := hsz.out x (by simp)
  obtain ⟨xs, xq, xc⟩ := x
  simp only at hX hxs
  have hnu := fun W hW => number_any xs W (by omega) hW
  obtain ⟨o0, o1, o2⟩ := hX w1 (Keep.refl _)
  obtain ⟨L, hL⟩ : ∃ L, rest.length = L := ⟨_, rfl⟩
  rw [hL] at p1 ⊢
  have hn0 : (0 : Int) < (L : Int) + 1 := by omega
  have hn1 : decide (((L + 1 : Nat) : Int) > 0) = true := decide_eq_true (by omega)
  have hn2 : (0 : Int) < ((L + 1 : Nat) : Int) := by omega
  replace hX := Lib.hid hX; replace hL := Lib.hid hL
  unfold zeroN
  cases xq with
  | true =>
   simp only [if_true, List.getD_cons_zero]
   obtain ⟨nv, hnv⟩ : ∃ nv : Nat, (numF xs.data.toList).getD 0 = nv := ⟨_, rfl⟩
   obtain ⟨ev, hev⟩ : ∃ ev : Int, errN (numF xs.data.toList).isSome = ev := ⟨_, rfl⟩
   rw [hnv, hev] at hnu
   clear hnv hev
   replace hnu := Lib.hid hnu
   go_enter Tryz.func89, Tryz.ntmps89
   go_upto_region 3 with fail
   try rw [hw1]
   clear hw1
   go_wp2_with fail
   refine (hnu.out _ hP1.out).mono ?_
   rintro e w2 ⟨b2, rfl⟩
   have h2 := h1.out.later b2
   have K2 := Keep.below b2
   have ho2 := hOp.out.later b2
   obtain ⟨o0, o1, o2⟩ := hX.out w2 K2
   clear b2
   have l2 := h2.c.2.1
   have bel2 := h2.below
   have hs2 : B ≤ w2.heap.size := by have := h2.hR; have := h2.lt; omega
   have hat := at_any R ln xc 61 w2 l2
   replace hat := Lib.hid hat; replace bel2 := Lib.hid bel2; replace h2 := Lib.hid h2; replace ho2 := Lib.hid ho2; replace K2 := Lib.hid K2
   go_wp2_with fail
   refine hat.out.mono ?_
   rintro e w3 ⟨fv, rfl, hft, b3⟩
   have hfin := bel2.out.trans (b3.mono hs2)
   replace hft := Lib.hid hft; replace hfin := Lib.hid hfin
   go_wp2_with fail
   go_ret
   exact ⟨⟨_, rfl, hft.out⟩, hfin.out⟩
  | false =>
   simp only [Bool.false_eq_true, if_false]
   cases hnf : numF xs.data.toList with
   | none =>
    rw [hnf] at hnu
    simp only [Option.getD_none, Option.isSome_none, errN] at hnu
    have e41 : (if false = true then (0 : Int) else 41) = 41 := rfl
    rw [e41] at hnu
    simp only [List.getD_cons_zero]
    replace hnu := Lib.hid hnu
    go_enter Tryz.func89, Tryz.ntmps89
    go_upto_region 3 with fail
    try rw [hw1]
    clear hw1
    go_wp2_with fail
    refine (hnu.out _ hP1.out).mono ?_
    rintro e w2 ⟨b2, rfl⟩
    have h2 := h1.out.later b2
    have K2 := Keep.below b2
    have ho2 := hOp.out.later b2
    obtain ⟨o0, o1, o2⟩ := hX.out w2 K2
    clear b2
    have l2 := h2.c.2.1
    have bel2 := h2.below
    have hs2 : B ≤ w2.heap.size := by have := h2.hR; have := h2.lt; omega
    have hat := at_any R ln xc 61 w2 l2
    replace hat := Lib.hid hat; replace bel2 := Lib.hid bel2; replace h2 := Lib.hid h2; replace ho2 := Lib.hid ho2; replace K2 := Lib.hid K2
    go_wp2_with fail
    refine hat.out.mono ?_
    rintro e w3 ⟨fv, rfl, hft, b3⟩
    have hfin := bel2.out.trans (b3.mono hs2)
    replace hft := Lib.hid hft; replace hfin := Lib.hid hfin
    go_wp2_with fail
    go_ret
    exact ⟨⟨_, rfl, hft.out⟩, hfin.out⟩
   | some n =>
    rw [hnf] at hnu
    simp only [Option.getD_some, Option.isSome_some, errN, if_true] at hnu
    by_cases hbig : n ≤ 2048
    ·simp only [if_pos hbig]
     have hb1 : ¬ (2048 : Int) < (n : Int) := by omega
     have hb2 : decide ((n : Int) > 2048) = false := decide_eq_false (by omega)
     have hwn : IntKind.i64.wrap (n : Int) = (n : Int) := wrapI _ (by omega) (by omega)
     obtain ⟨CR, hCR⟩ : ∃ CR, countM ln (ns, nq, nc) ((xs, false, xc) :: rest) 1 = CR := ⟨_, rfl⟩
     obtain ⟨RR, hRR⟩ : ∃ RR, roomM ln (ns, nq, nc) st n = RR := ⟨_, rfl⟩
     rw [hCR, hRR]
     replace hnu := Lib.hid hnu
     go_enter Tryz.func89, Tryz.ntmps89
     go_upto_region 3 with fail
     try rw [hw1]
     clear hw1
     go_wp2_with fail
     refine (hnu.out _ hP1.out).mono ?_
     rintro e w2 ⟨b2, rfl⟩
     have h2 := h1.out.later b2
     have K2 := Keep.below b2
     have ho2 := hOp.out.later b2
     obtain ⟨o0, o1, o2⟩ := hX.out w2 K2
     clear b2
     have hK := h2
     have hKo := ho2
     have Kk := K2
     have hKc := hW.out w2 K2
     clear h2 ho2 K2
     replace hK := Lib.hid hK; replace hKo := Lib.hid hKo; replace Kk := Lib.hid Kk; replace hKc := Lib.hid hKc
     have hct := count_any R ln (ns, nq, nc) _ ((xs, false, xc) :: rest) 1 w2 hK.out.c.2.1 hKo.out (by omega)
     unfold wV at hct
     rw [hCR] at hct
     try simp only [List.length_cons, hL.out] at hct
     obtain ⟨_, hk1, _⟩ := hK.out.c
     replace hct := Lib.hid hct
     obtain ⟨c0, c1, c2⟩ := hKc.out
     go_upto_region 7 with fail
     go_wp2_with fail
     refine hct.out.mono ?_
     rintro e wm ⟨her, bm⟩
     have hm := hK.out.later bm
     obtain ⟨c0, c1, c2⟩ := hW.out wm (Kk.out.trans (Keep.below bm))
     clear bm hK hKo hKc
     cases CR with
     | some f =>
      obtain ⟨fv, rfl, gf, rfl, hgf⟩ := her
      have hfin := hm.below
      replace hgf := Lib.hid hgf; replace hfin := Lib.hid hfin; replace hm := Lib.hid hm
      go_wp2_with fail
      go_ret
      exact ⟨⟨_, rfl, ⟨_, rfl, hgf.out⟩⟩, hfin.out⟩
     | none =>
      obtain rfl : e = _ := her
      have hrm := room_any hm (ns, nq, nc) n (by omega) (by omega)
      unfold wV at hrm
      rw [hRR] at hrm
      replace hrm := Lib.hid hrm; replace hm := Lib.hid hm
      go_upto_region 10 with fail
      go_wp2_with fail
      refine hrm.out.mono ?_
      rintro e wa ⟨her, ba⟩
      have ha := hm.out.later ba
      clear ba hm
      cases RR with
      | some f =>
       obtain ⟨fv, rfl, gf, rfl, hgf⟩ := her
       have hfin := ha.below
       replace hgf := Lib.hid hgf; replace hfin := Lib.hid hfin; replace ha := Lib.hid ha
       go_wp2_with fail
       go_ret
       exact ⟨⟨_, rfl, ⟨_, rfl, hgf.out⟩⟩, hfin.out⟩
      | none =>
       obtain rfl : e = _ := her
       have hroom := room_no hRR
       have r2 : wa.cell? ⟨R, 2, none⟩ = some (.slice aw st.ws.length cw) := ha.c.2.2.1
       obtain ⟨L0, hL0⟩ : ∃ L, st.ws.length = L := ⟨_, rfl⟩
       rw [hL0] at r2 hroom
       have hBa : B ≤ wa.heap.size := by have := ha.hR; have := ha.lt; omega
       replace ha := Lib.hid ha; replace hL0 := Lib.hid hL0
       go_upto_region 13 with fail
       obtain ⟨v6, w6, hra, hoa, hOa⟩ := run_append_zs B 22 _ .u32 .u32 Tryz.underlying22 wa (.slice aw L0 cw) L0 (wi st.ws) (by have h := ha.out.ws; rw [hL0.out] at h; exact h) n (by omega) hBa
       obtain ⟨hRk, hz⟩ := ha.out.words (l := List.replicate n 0) (by rw [hL0.out]; exact hOa) (by rw [wi_zeros, hL0.out, List.length_replicate]; exact hoa)
       have hb6 := hRk.trans ha.out.blk
       have x2 : w6.cell? ⟨R, 2, none⟩ = some (.slice aw L0 cw) := (cell_of_row _ _ 2 _ _ _ hb6).trans (by rw [hL0.out]; rfl)
       have x2f := frozen_of_row w6 R 2 _ _ hb6
       obtain ⟨a6, c6, rfl, _, _⟩ := own_shape hoa
       try simp only [Nat.add_zero, List.replicate_zero, List.append_nil] at hz hra
       clear hOa hoa hRk hb6
       replace hz := Lib.hid hz; replace hra := Lib.hid hra
       go_wp2_with (at_builtin; refine Lib.wpList_append_run _ rfl _ _ _ _ rfl _ _ rfl rfl _ _ hra.out ?_)
       go_ret
       exact ⟨rfl, _, _, _, _, _, _, hz.out, hfl.out⟩
    ·simp only [if_neg hbig, List.getD_cons_zero]
     have hb1 : (2048 : Int) < (n : Int) := by omega
     have hb2 : decide ((n : Int) > 2048) = true := decide_eq_true (by omega)
     replace hnu := Lib.hid hnu
     go_enter Tryz.func89, Tryz.ntmps89
     go_upto_region 3 with fail
     try rw [hw1]
     clear hw1
     go_wp2_with fail
     refine (hnu.out _ hP1.out).mono ?_
     rintro e w2 ⟨b2, rfl⟩
     have h2 := h1.out.later b2
     have K2 := Keep.below b2
     have ho2 := hOp.out.later b2
     obtain ⟨o0, o1, o2⟩ := hX.out w2 K2
     clear b2
     have l2 := h2.c.2.1
     have bel2 := h2.below
     have hs2 : B ≤ w2.heap.size := by have := h2.hR; have := h2.lt; omega
     have hat := at_any R ln xc 61 w2 l2
     replace hat := Lib.hid hat; replace bel2 := Lib.hid bel2; replace h2 := Lib.hid h2; replace ho2 := Lib.hid ho2; replace K2 := Lib.hid K2
     go_wp2_with fail
     refine hat.out.mono ?_
     rintro e w3 ⟨fv, rfl, hft, b3⟩
     have hfin := bel2.out.trans (b3.mono hs2)
     replace hft := Lib.hid hft; replace hfin := Lib.hid hfin
     go_wp2_with fail
     go_ret
     exact ⟨⟨_, rfl, hft.out⟩, hfin.out⟩
end Go.Proofs.YtiknookfnameiaaGreatDoor
