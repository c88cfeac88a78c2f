/- The contract of the document's word. The library's HasSuffix and TrimSuffix at this program's numbers, and what they answer of a colon. What asm's take wants: the rest of a row of words, a label appended; take's end (no label). -/
import Derived.Test.YtiknookfnameiaaGreatDoorJn39
import Derived.Test.YtiknookfnameiaaGreatDoorJn42
import Derived.Test.YtiknookfnameiaaGreatDoorProg
import Derived.Shelf.LaysM
import Derived.Shelf.Strings.Prefix
import Derived.Test.YtiknookfnameiaaGreatDoorJn11
namespace Go.Proofs.YtiknookfnameiaaGreatDoor
open Go.RowKit WP
set_option linter.unusedSimpArgs false
set_option linter.unusedVariables false
def RWoRes (e : Ending) : Int ⊕ Flt → Prop
 | .inl v => e = .returned (.tuple #[.int .u32 v, fltV (0, 0, 0)])
 | .inr f => e = .returned (.tuple #[.int .u32 0, fltV f])
theorem fnd_place (L : List (ByteArray × Nat)) (s : ByteArray) : fndI L s = match findL L s with | some p => (p : Int) | none => -1 := rfl
theorem fnd_le {L : List (ByteArray × Nat)} {s : ByteArray} {p : Nat} (h : findL L s = some p) (hb : ∀ q ∈ L, q.2 ≤ 2048) : p ≤ 2048 := by
 unfold findL at h
 obtain ⟨q, hq, rfl⟩ := Option.map_eq_some_iff.1 h
 exact hb q (List.mem_of_find?_eq_some hq)
theorem renc_call (i : Ins) (W : World) (hT : RTabs W) (ho : 0 ≤ i.op ∧ i.op < 64) (ha : 0 ≤ i.a ∧ i.a < 16) (hb : 0 ≤ i.b ∧ i.b < 16) (hc : 0 ≤ i.c ∧ i.c < 16) (hk : 0 ≤ i.k ∧ i.k < 8) (hm : -32768 ≤ i.imm ∧ i.imm ≤ 65535) :
  Calls Tryz.prog 45 #[.agg (rinsC i)] W fun e w' => Below W.heap.size W w' ∧ ∃ K : Int, e = .returned (.tuple #[.int .u32 (encF i), .int .i64 K]) := by
 have h := rencode_any i W hT ho ha hb hc hk hm
 rw [renc_eq i ho ha hb hc hk hm] at h
 exact h.mono fun _ _ h => ⟨h.1, _, h.2⟩
theorem mov_ins (o a m : Int) : movI o a m = ⟨o, 0, a, 0, 0, m⟩ := rfl
theorem jmp_ins (o c m : Int) : ({ ins0 with op := o, k := c, imm := m } : Ins) = ⟨o, c, 0, 0, 0, m⟩ := rfl
set_option maxRecDepth 100000 in
set_option maxHeartbeats 4000000 in
theorem rword_any {B : Nat} {w0 w : World} {R : Nat} {st : RAsm} (hP : PAt B w0 w R st) (hE : RTabs w0) (hB : w0.heap.size ≤ B) (hbd : RBd st) (k : Nat) (x : Pie) (hx : st.pcs[k]? = some x) (base : Int) (nb : base < 4294967296 ∧ 0 ≤ base) :
  Calls Tryz.prog 26 #[ptr R, .int .i64 k, .int .u32 base] w fun e w' => Below w.heap.size w w' ∧ RWoRes e (rwordF base st.labs k x) := by
 obtain ⟨vl, vp, h⟩ := hP
 have hkl : k < st.pcs.length := (List.getElem?_eq_some_iff.1 hx).1
 have hk2 : k < 2048 := by have := hbd.pcs; omega
 obtain ⟨g, cap, rfl, hc1, hc2, hcx⟩ := h.pie k x hx
 obtain ⟨hp2, hp4⟩ := hbd.pie x (List.mem_of_getElem? hx)
 obtain ⟨xw, xo, xc, xa, xv, xn, xl, xk⟩ := x
 dsimp only at hp2 hp4
 have y0 := hcx 0 _ rfl
 have y1 := hcx 1 _ rfl
 have y2 := hcx 2 _ rfl
 have y3 := hcx 3 _ rfl
 have y4 := hcx 4 _ rfl
 have y5 := hcx 5 _ rfl
 have y6 := hcx 6 _ rfl
 have y7 := hcx 7 _ rfl
 simp only [Nat.add_zero] at y0
 dsimp only at y0 y1 y2 y3 y4 y5 y6 y7
 obtain ⟨w2, hw2⟩ : ∃ w2, (w.alloc (.cells #[.int .i64 0, .int .i64 0, .int .i64 0] 33)).alloc (.cells #[.int .i64 xw, .int .i64 xo, .int .i64 xc, .int .i64 xa, .int .u32 xv, .string xn, .int .i64 (xl : Int), .int .i64 (xk : Int)] 125) = w2 := ⟨_, rfl⟩
 have b2 : Below w.heap.size w w2 := by rw [← hw2]; exact ((Below.refl _ _).alloc (Nat.le_refl _) _).alloc (by simp) _
 have hF : w2.heap[w.heap.size]? = some (.cells #[.int .i64 0, .int .i64 0, .int .i64 0] 33 (0, 0)) := by
  rw [← hw2, Below.heap_alloc _ _ _ (by simp)]; exact heap_alloc_new w _
 have hN : w2.heap[w.heap.size + 1]? = some (.cells #[.int .i64 xw, .int .i64 xo, .int .i64 xc, .int .i64 xa, .int .u32 xv, .string xn, .int .i64 (xl : Int), .int .i64 (xk : Int)] 125 (0, 0)) := by
  rw [← hw2]
  have := heap_alloc_new (w.alloc (.cells #[.int .i64 0, .int .i64 0, .int .i64 0] 33)) (.cells #[.int .i64 xw, .int .i64 xo, .int .i64 xc, .int .i64 xa, .int .u32 xv, .string xn, .int .i64 (xl : Int), .int .i64 (xk : Int)] 125)
  simpa using this
 have h2 := h.later b2
 have hT2 : RTabs w2 := hE.later (h2.below.mono hB)
 have hs2 : w2.heap.size = w.heap.size + 2 := by rw [← hw2]; simp
 have s0 : w2.cell? ⟨w.heap.size + 1, 0, none⟩ = some (.int .i64 xw) := cell_of_row _ _ 0 _ _ _ hN
 have s1 : w2.cell? ⟨w.heap.size + 1, 1, none⟩ = some (.int .i64 xo) := cell_of_row _ _ 1 _ _ _ hN
 have s2 : w2.cell? ⟨w.heap.size + 1, 2, none⟩ = some (.int .i64 xc) := cell_of_row _ _ 2 _ _ _ hN
 have s3 : w2.cell? ⟨w.heap.size + 1, 3, none⟩ = some (.int .i64 xa) := cell_of_row _ _ 3 _ _ _ hN
 have s4 : w2.cell? ⟨w.heap.size + 1, 4, none⟩ = some (.int .u32 xv) := cell_of_row _ _ 4 _ _ _ hN
 have s5 : w2.cell? ⟨w.heap.size + 1, 5, none⟩ = some (.string xn) := cell_of_row _ _ 5 _ _ _ hN
 have s6 : w2.cell? ⟨w.heap.size + 1, 6, none⟩ = some (.int .i64 (xl : Int)) := cell_of_row _ _ 6 _ _ _ hN
 have s7 : w2.cell? ⟨w.heap.size + 1, 7, none⟩ = some (.int .i64 (xk : Int)) := cell_of_row _ _ 7 _ _ _ hN
 obtain ⟨FR, hFR⟩ : ∃ FR, rwordF base st.labs k ⟨xw, xo, xc, xa, xv, xn, xl, xk⟩ = FR := ⟨_, rfl⟩
 rw [hFR]
 unfold rwordF rplaceF at hFR
 dsimp only at hFR
 have hfd := rfind_any h2 xn
 have hle := fun p (hp : findL st.labs xn = some p) => fnd_le hp hbd.labs
 rw [fnd_place] at hfd
 obtain ⟨O, hO⟩ : ∃ O, findL st.labs xn = O := ⟨_, rfl⟩
 rw [hO] at hFR
 simp only [hO] at hfd hle
 have hel := eq_lit [] xn
 have q1 := h.c.2
 have hbg := World.block_lt_of_cell? w _ y0
 have hRw := h.lt
 have hen := fun i W hW ho ha hb hc hk hm => rencode_any i W hW ho ha hb hc hk hm
 obtain ⟨n, hn⟩ : ∃ n, st.pcs.length = n := ⟨_, rfl⟩
 rw [hn] at hc1 hkl q1 h2
 have i1 : (0 : Int) ≤ (k : Int) := by omega
 have i2 : (k : Int) < (n : Int) := by omega
 clear h hE hcx hbd hx hN hn hO
 have hl2 : w.heap.size + 1 < w2.heap.size := by omega
 have hlF : w.heap.size < w2.heap.size := by omega
 replace b2 := Lib.hid b2; replace hF := Lib.hid hF; replace h2 := Lib.hid h2; replace hT2 := Lib.hid hT2; replace hs2 := Lib.hid hs2; replace hFR := Lib.hid hFR; replace hfd := Lib.hid hfd; replace hle := Lib.hid hle; replace hen := Lib.hid hen; replace hp2 := Lib.hid hp2; replace hp4 := Lib.hid hp4; replace hw2 := Lib.hid hw2
 go_enter Tryz.func26, Tryz.ntmps26
 go_upto_region 2 with fail
 rw [hw2.out]
 clear hw2 y0 y1 y2 y3 y4 y5 y6 y7 q1
 go_upto_if 25 with fail
 obtain ⟨bb, hbb⟩ : ∃ bb, (!decide (xn.data = #[])) = bb := ⟨_, rfl⟩
 rw [hbb]
 have hb0 : bb = false ↔ xn.size = 0 := by
  rw [← hbb]
  constructor
  ·intro hb
   have h : xn.data = #[] := by simpa using hb
   show xn.data.size = 0
   rw [h]; rfl
  ·intro hs
   have h : xn.data = #[] := Array.eq_empty_of_size_eq_zero hs
   simp [h]
 clear hbb hel
 replace hb0 := Lib.hid hb0
 go_cut [9, 10] from 21 to 41 (fun x9 x10 wx => ∃ (Y : Int) (P : Nat), x9 = .int .u32 Y ∧ x10 = .int .i64 (P : Int) ∧ wx = w2 ∧ (if xn.size = 0 then some (xv, 0) else O.map fun (p : Nat) => ((base + 4 * (p : Int)) % 4294967296, p)) = some (Y, P) ∧ P ≤ 2048 ∧ (xw = 2 ∨ xw = 3 → 0 ≤ Y ∧ Y < 4294967296))
 case first =>
  rename_i J0 K0 aJ aK
  cases bb with
  | false =>
   have hz0 : xn.size = 0 := hb0.out.1 rfl
   replace hz0 := Lib.hid hz0
   go_wp2_with fail
   refine Met.intro (aJ _ _ ?_)
   (repeat apply Exists.intro)
   refine ⟨?_, rfl⟩
   refine ⟨xv, 0, rfl, rfl, rfl, by rw [if_pos hz0.out], by omega, fun h => (hp2.out h).2⟩
  | true =>
   have hz0 : ¬ xn.size = 0 := fun h => by have := hb0.out.2 h; cases this
   replace hz0 := Lib.hid hz0
   cases O with
   | none =>
    have hq := hFR.out
    rw [if_neg hz0.out] at hq
    obtain rfl : .inr (64, xl, xk) = FR := hq
    obtain ⟨hN2, bN, ⟨r0, r1, r2⟩, ⟨f0, f1, f2⟩, -⟩ := rflt_set (.int .i64 64) (.int .i64 (xl : Int)) (.int .i64 (xk : Int)) hF.out
    replace hN2 := Lib.hid hN2; replace bN := Lib.hid bN
    go_wp2_with fail
    refine hfd.out.mono ?_
    rintro e w3 ⟨rfl, hw3⟩
    obtain rfl := hw3.symm
    clear hw3 hfd
    go_wp2_with fail
    go_region
    go_wp2_with fail
    refine bodyPost_ret (v := .tuple #[.int .u32 0, fltV (64, xl, xk)]) (results_snd rfl rfl rfl hN2.out Tryz.underlying33 rfl infoRFlt) rfl ⟨(b2.out.trans (bN.out _ (Nat.le_refl _))).drew, rfl⟩
   | some p =>
    have hpl := hle.out p rfl
    have hwp : IntKind.u32.wrap (p : Int) = p := by rw [IntKind.wrap_u32]; omega
    have hw4 : IntKind.u32.wrap (4 * (p : Int)) = 4 * (p : Int) := by rw [IntKind.wrap_u32]; omega
    have hwb : IntKind.u32.wrap (base + 4 * (p : Int)) = (base + 4 * (p : Int)) % 4294967296 := by rw [IntKind.wrap_u32]
    have hp0 : ¬ ((p : Int) < 0) := by omega
    have dp0 : decide ((p : Int) < 0) = false := decide_eq_false (by omega)
    go_wp2_with fail
    refine hfd.out.mono ?_
    rintro e w3 ⟨rfl, hw3⟩
    obtain rfl := hw3.symm
    clear hw3 hfd
    go_wp2_with fail
    refine Met.intro (aJ _ _ ?_)
    (repeat apply Exists.intro)
    refine ⟨?_, rfl⟩
    refine ⟨_, p, rfl, rfl, rfl, by rw [if_neg hz0.out]; rfl, hpl, fun _ => ⟨Int.emod_nonneg _ (by decide), Int.emod_lt_of_pos _ (by decide)⟩⟩
 case rest =>
  obtain ⟨Y, P, rfl, rfl, rfl, hpl, hP2, hYb⟩ := hcut
  have hq := hFR.out
  rw [hpl] at hq
  dsimp only at hq
  clear hFR hpl hfd hle hb0
  have hpY := hp2.out
  by_cases h2w : xw = 2
  ·subst h2w
   rw [if_pos rfl] at hq
   obtain ⟨⟨ha0, ha1⟩, -⟩ := hpY (.inl rfl)
   obtain ⟨hY0, hY1⟩ := hYb (.inl rfl)
   have hY2 : 0 ≤ Y % 65536 ∧ Y % 65536 < 65536 := ⟨Int.emod_nonneg _ (by decide), Int.emod_lt_of_pos _ (by decide)⟩
   rw [mov_ins] at hq
   have hm6 : -32768 ≤ Y % 65536 ∧ Y % 65536 ≤ 65535 := by omega
   have hen1 := fun W hW => renc_call ⟨1, 0, xa, 0, 0, Y % 65536⟩ W hW (by decide : (0 : Int) ≤ 1 ∧ (1 : Int) < 64) ⟨ha0, ha1⟩ (by decide : (0 : Int) ≤ 0 ∧ (0 : Int) < 16) (by decide : (0 : Int) ≤ 0 ∧ (0 : Int) < 16) (by decide : (0 : Int) ≤ 0 ∧ (0 : Int) < 8) hm6
   simp only [rinsC] at hen1
   obtain ⟨V, hV⟩ : ∃ V, encF ⟨1, 0, xa, 0, 0, Y % 65536⟩ = V := ⟨_, rfl⟩
   rw [hV] at hq
   simp only [hV] at hen1
   subst hq
   clear hV hpY hp2 hp4 hYb hen
   have bI2 : Below wc.heap.size wc (wc.alloc (.cells #[.int .i64 1, .int .i64 0, .int .i64 xa, .int .i64 0, .int .i64 0, .int .i64 (Y % 65536)] 128)) := (Below.refl _ _).alloc (Nat.le_refl _) _
   have hen2 := hen1 _ (hT2.out.later bI2)
   clear hen1
   replace hen2 := Lib.hid hen2; replace bI2 := Lib.hid bI2; replace hY2 := Lib.hid hY2; replace hm6 := Lib.hid hm6
   have hA : wrap64 (bits BinOp.and IntKind.u32 Y 65535) = Y % 65536 := by
    rw [u32_and Y 65535 hY0 hY1 (by decide) (by decide), show (65535 : Int).toNat = 2 ^ 16 - 1 from rfl, Nat.and_two_pow_sub_one_eq_mod]
    unfold wrap64
    omega
   replace hA := Lib.hid hA
   go_upto_region 20 with fail
   rw [hA.out]
   clear hA
   go_wp2_with fail
   refine hen2.out.mono ?_
   rintro e w5 ⟨b5, K, rfl⟩
   have b6 := bI2.out.trans (b5.mono bI2.out.size)
   have hF5 := (b6.block w.heap.size hlF).trans hF.out
   obtain ⟨hN2, bN, ⟨r0, r1, r2⟩, ⟨f0, f1, f2⟩, -⟩ := rflt_set (.int .i64 0) (.int .i64 0) (.int .i64 0) hF5
   have bf := (b2.out.trans (b6.mono b2.out.size)).trans (bN _ (Nat.le_refl _))
   clear bN b5 b6 hen2
   replace hN2 := Lib.hid hN2; replace bf := Lib.hid bf; replace hF5 := Lib.hid hF5
   go_wp2_with fail
   exact bodyPost_ret (v := .tuple #[.int .u32 V, fltV (0, 0, 0)]) (results_snd rfl rfl rfl hN2.out Tryz.underlying33 rfl infoRFlt) rfl ⟨bf.out, rfl⟩
  ·rw [if_neg h2w] at hq
   have d2 : (xw == 2) = false := by simp [h2w]
   by_cases h3w : xw = 3
   ·subst h3w
    rw [if_pos rfl] at hq
    obtain ⟨⟨ha0, ha1⟩, -⟩ := hpY (.inr rfl)
    obtain ⟨hY0, hY1⟩ := hYb (.inr rfl)
    have hY2 : 0 ≤ Y / 65536 ∧ Y / 65536 < 65536 := by omega
    rw [mov_ins] at hq
    have hm6 : -32768 ≤ Y / 65536 ∧ Y / 65536 ≤ 65535 := by omega
    have hen1 := fun W hW => renc_call ⟨2, 0, xa, 0, 0, Y / 65536⟩ W hW (by decide : (0 : Int) ≤ 2 ∧ (2 : Int) < 64) ⟨ha0, ha1⟩ (by decide : (0 : Int) ≤ 0 ∧ (0 : Int) < 16) (by decide : (0 : Int) ≤ 0 ∧ (0 : Int) < 16) (by decide : (0 : Int) ≤ 0 ∧ (0 : Int) < 8) hm6
    simp only [rinsC] at hen1
    obtain ⟨V, hV⟩ : ∃ V, encF ⟨2, 0, xa, 0, 0, Y / 65536⟩ = V := ⟨_, rfl⟩
    rw [hV] at hq
    simp only [hV] at hen1
    subst hq
    clear hV hpY hp2 hp4 hYb hen
    have bI2 : Below wc.heap.size wc (wc.alloc (.cells #[.int .i64 2, .int .i64 0, .int .i64 xa, .int .i64 0, .int .i64 0, .int .i64 (Y / 65536)] 128)) := (Below.refl _ _).alloc (Nat.le_refl _) _
    have hen2 := hen1 _ (hT2.out.later bI2)
    clear hen1
    replace hen2 := Lib.hid hen2; replace bI2 := Lib.hid bI2; replace hY2 := Lib.hid hY2; replace hm6 := Lib.hid hm6
    go_wp2_with fail
    refine hen2.out.mono ?_
    rintro e w5 ⟨b5, K, rfl⟩
    have b6 := bI2.out.trans (b5.mono bI2.out.size)
    have hF5 := (b6.block w.heap.size hlF).trans hF.out
    obtain ⟨hN2, bN, ⟨r0, r1, r2⟩, ⟨f0, f1, f2⟩, -⟩ := rflt_set (.int .i64 0) (.int .i64 0) (.int .i64 0) hF5
    have bf := (b2.out.trans (b6.mono b2.out.size)).trans (bN _ (Nat.le_refl _))
    clear bN b5 b6 hen2
    replace hN2 := Lib.hid hN2; replace bf := Lib.hid bf; replace hF5 := Lib.hid hF5
    go_wp2_with fail
    exact bodyPost_ret (v := .tuple #[.int .u32 V, fltV (0, 0, 0)]) (results_snd rfl rfl rfl hN2.out Tryz.underlying33 rfl infoRFlt) rfl ⟨bf.out, rfl⟩
   ·rw [if_neg h3w] at hq
    have d3 : (xw == 3) = false := by simp [h3w]
    by_cases h4w : xw = 4
    ·subst h4w
     rw [if_pos rfl] at hq
     obtain ⟨hpo, hpc⟩ := hp4.out rfl
     have hw1 : IntKind.i64.wrap ((P : Int) - (k : Int)) = (P : Int) - (k : Int) := by rw [IntKind.wrap_i64]; omega
     have hw2' : IntKind.i64.wrap ((P : Int) - (k : Int) - 1) = (P : Int) - (k : Int) - 1 := by rw [IntKind.wrap_i64]; omega
     by_cases hfar : (P : Int) - k - 1 < -32768 ∨ 32767 < (P : Int) - k - 1
     ·exfalso; omega
     ·rw [if_neg hfar] at hq
      have g1 : ¬ ((P : Int) - (k : Int) - 1 < -32768) := by omega
      have g2 : ¬ (32767 < (P : Int) - (k : Int) - 1) := by omega
      have g3 : decide ((P : Int) - (k : Int) - 1 < -32768) = false := decide_eq_false g1
      have g4 : decide (32767 < (P : Int) - (k : Int) - 1) = false := decide_eq_false g2
      rw [jmp_ins] at hq
      have hm6 : -32768 ≤ (P : Int) - (k : Int) - 1 ∧ (P : Int) - (k : Int) - 1 ≤ 65535 := by omega
      have hen1 := fun W hW => renc_call ⟨xo, xc, 0, 0, 0, (P : Int) - (k : Int) - 1⟩ W hW hpo (by decide : (0 : Int) ≤ 0 ∧ (0 : Int) < 16) (by decide : (0 : Int) ≤ 0 ∧ (0 : Int) < 16) (by decide : (0 : Int) ≤ 0 ∧ (0 : Int) < 16) hpc hm6
      simp only [rinsC] at hen1
      obtain ⟨V, hV⟩ : ∃ V, encF ⟨xo, xc, 0, 0, 0, (P : Int) - (k : Int) - 1⟩ = V := ⟨_, rfl⟩
      rw [hV] at hq
      simp only [hV] at hen1
      subst hq
      clear hV hpY hp2 hp4 hYb hen
      have bI2 : Below wc.heap.size wc (wc.alloc (.cells #[.int .i64 xo, .int .i64 xc, .int .i64 0, .int .i64 0, .int .i64 0, .int .i64 ((P : Int) - (k : Int) - 1)] 128)) := (Below.refl _ _).alloc (Nat.le_refl _) _
      have hen2 := hen1 _ (hT2.out.later bI2)
      clear hen1
      replace hen2 := Lib.hid hen2; replace bI2 := Lib.hid bI2
      go_wp2_with fail
      refine hen2.out.mono ?_
      rintro e w5 ⟨b5, K, rfl⟩
      have b6 := bI2.out.trans (b5.mono bI2.out.size)
      have hF5 := (b6.block w.heap.size hlF).trans hF.out
      obtain ⟨hN2, bN, ⟨r0, r1, r2⟩, ⟨f0, f1, f2⟩, -⟩ := rflt_set (.int .i64 0) (.int .i64 0) (.int .i64 0) hF5
      have bf := (b2.out.trans (b6.mono b2.out.size)).trans (bN _ (Nat.le_refl _))
      clear bN b5 b6 hen2
      replace hN2 := Lib.hid hN2; replace bf := Lib.hid bf; replace hF5 := Lib.hid hF5
      go_wp2_with fail
      exact bodyPost_ret (v := .tuple #[.int .u32 V, fltV (0, 0, 0)]) (results_snd rfl rfl rfl hN2.out Tryz.underlying33 rfl infoRFlt) rfl ⟨bf.out, rfl⟩
    ·rw [if_neg h4w] at hq
     have d4 : (xw == 4) = false := by simp [h4w]
     subst hq
     obtain ⟨hN3, bN, ⟨r0, r1, r2⟩, ⟨f0, f1, f2⟩, -⟩ := rflt_set (.int .i64 0) (.int .i64 0) (.int .i64 0) hF.out
     have bf := (b2.out.trans (bN w.heap.size (Nat.le_refl _))).alloc (b2.out.trans (bN w.heap.size (Nat.le_refl _))).size (.cells #[.int .i64 0, .int .i64 0, .int .i64 0, .int .i64 0, .int .i64 0, .int .i64 0] 128)
     have hN2 := (Below.heap_alloc _ (.cells #[.int .i64 0, .int .i64 0, .int .i64 0, .int .i64 0, .int .i64 0, .int .i64 0] 128) w.heap.size (Array.getElem?_eq_some_iff.1 hN3).1).trans hN3
     clear bN hN3 hpY hp2 hp4 hYb hen
     replace hN2 := Lib.hid hN2; replace bf := Lib.hid bf
     go_wp2_with fail
     exact bodyPost_ret (v := .tuple #[.int .u32 Y, fltV (0, 0, 0)]) (results_snd rfl rfl rfl hN2.out Tryz.underlying33 rfl infoRFlt) rfl ⟨bf.out, rfl⟩
end Go.Proofs.YtiknookfnameiaaGreatDoor

namespace Go.Proofs
def YtiknookfnameiaaGreatDoor.laysHasS_ren : Go.Shelf.Ren := ⟨fun | 100 => 61 | 207 => 82 | n => n, fun | 9 => 9 | 4 => 4 | 3 => 3 | n => n, fun | n => n⟩
theorem YtiknookfnameiaaGreatDoor.laysHasS : Go.Proofs.Lays.n100 Tryz.prog YtiknookfnameiaaGreatDoor.laysHasS_ren := {
 mixed := by kernel_rfl
 f100 := Tryz.func61.trans (congrArg some (by kernel_rfl))
 f207 := Tryz.func82.trans (congrArg some (by kernel_rfl))
 t3 := Tryz.underlying3
 a3 := Tryz.isAgg3
 z3 := Tryz.sizeOf3
 v3 := Tryz.zeroValue3
 t4 := Tryz.underlying4
 a4 := Tryz.isAgg4
 z4 := Tryz.sizeOf4
 v4 := Tryz.zeroValue4
 t9 := Tryz.underlying9
 a9 := Tryz.isAgg9
 z9 := Tryz.sizeOf9
 v9 := Tryz.zeroValue9 }
def YtiknookfnameiaaGreatDoor.laysTrimS_ren : Go.Shelf.Ren := ⟨fun | 102 => 62 | 207 => 82 | 209 => 83 | n => n, fun | 9 => 9 | 4 => 4 | 3 => 3 | n => n, fun | n => n⟩
theorem YtiknookfnameiaaGreatDoor.laysTrimS : Go.Proofs.Lays.n102 Tryz.prog YtiknookfnameiaaGreatDoor.laysTrimS_ren := {
 mixed := by kernel_rfl
 f102 := Tryz.func62.trans (congrArg some (by kernel_rfl))
 f207 := Tryz.func82.trans (congrArg some (by kernel_rfl))
 f209 := Tryz.func83.trans (congrArg some (by kernel_rfl))
 t3 := Tryz.underlying3
 a3 := Tryz.isAgg3
 z3 := Tryz.sizeOf3
 v3 := Tryz.zeroValue3
 t4 := Tryz.underlying4
 a4 := Tryz.isAgg4
 z4 := Tryz.sizeOf4
 v4 := Tryz.zeroValue4
 t9 := Tryz.underlying9
 a9 := Tryz.isAgg9
 z9 := Tryz.sizeOf9
 v9 := Tryz.zeroValue9 }
namespace YtiknookfnameiaaGreatDoor
theorem suf_colon (s : ByteArray) : Lib.hasSuffix s.data.toList [58] = colonEnd s := by
 unfold Lib.hasSuffix colonEnd
 rw [Bool.eq_iff_iff, decide_eq_true_iff, List.isSuffixOf_iff_suffix]
 constructor
 ·rintro ⟨t, ht⟩
  rw [← ht, List.getLast?_append]; simp
 ·intro h
  obtain ⟨t, ht⟩ := List.getLast?_eq_some_iff.1 h
  exact ⟨t, ht.symm⟩
theorem trim_colon (s : ByteArray) (h : colonEnd s = true) : (⟨(Lib.trimSuffix s.data.toList [58]).toArray⟩ : ByteArray) = cutC s := by
 unfold Lib.trimSuffix cutC
 rw [suf_colon, if_pos h]
 apply ByteArray.ext
 apply Array.ext'
 have hl : s.data.toList.length = s.size := by rw [Array.length_toList]; rfl
 rw [ByteArray.data_extract, Array.toList_extract]
 simp [List.extract, hl]
theorem hass_any (s : ByteArray) (w : World) (hs : s.size ≤ 9223372036854775807) :
  Calls Tryz.prog 61 #[.string s, .string ⟨#[58]⟩] w fun e w' => e = .returned (.bool (colonEnd s)) ∧ w' = w := by
 rw [← suf_colon]
 exact Any.strings_HasSuffix laysHasS s ⟨#[58]⟩ w hs
theorem trims_any (s : ByteArray) (w : World) (hs : s.size ≤ 9223372036854775807) (h : colonEnd s = true) :
  Calls Tryz.prog 62 #[.string s, .string ⟨#[58]⟩] w fun e w' => e = .returned (.string (cutC s)) ∧ w' = w := by
 rw [← trim_colon s h]
 exact Any.strings_TrimSuffix laysTrimS s ⟨#[58]⟩ w hs
end YtiknookfnameiaaGreatDoor
end Go.Proofs

namespace Go.Proofs.YtiknookfnameiaaGreatDoor
open Go.RowKit WP
set_option linter.unusedSimpArgs false
set_option linter.unusedVariables false
theorem slice_rest {w : World} {v : Value} {x : W} {rest : List W} (h : WsAt w v (x :: rest)) :
  ∃ v', (∀ W : World, (Instr.slice 113 v (some (.int .i64 1)) none none).run Tryz.prog W = .ok v' W) ∧ (∀ W, Keep w W → WsAt W v' rest) ∧ ∃ ao cap, v' = .slice ao rest.length cap := by
 obtain ⟨ao, cap, rfl, h1, h2, h3⟩ := h
 obtain ⟨b, off, cs, rfl, hb, hc⟩ := h3.resolve_left (by simp)
 rw [List.length_cons] at h1 ⊢
 have hs : ∀ W : World, (sizeOf (Tryz.prog.elem 113)).run Tryz.prog W = .ok 3 W := fun W => by kernel_rfl
 have hr : ∀ W : World, (Instr.slice 113 (.slice (some ⟨b, off, none⟩) (rest.length + 1) cap) (some (.int .i64 1)) none none).run Tryz.prog W = .ok (sliced (some ⟨b, off, none⟩) 1 (rest.length + 1) cap 3) W := fun W => by
  rw [run_slice_l (P := Tryz.prog) (t := 113) (a := some ⟨b, off, none⟩) (len := rest.length + 1) (cap := cap) (ht := by kernel_rfl) (kl := .i64) (l := 1) (h0 := by omega) (h1 := by omega), hs W]
  rfl
 have ha : ∃ ao, sliced (some ⟨b, off, none⟩) 1 (rest.length + 1) cap 3 = .slice ao rest.length (cap - 1) ∧ (rest = [] ∨ ao = some ⟨b, off + 3, none⟩) := by
  unfold sliced
  by_cases hc1 : cap = 1
  ·have hr0 : rest = [] := List.eq_nil_of_length_eq_zero (by omega)
   subst hr0; subst hc1
   exact ⟨_, rfl, .inl rfl⟩
  ·refine ⟨some ⟨b, off + 3, none⟩, ?_, .inr rfl⟩
   simp only [Nat.add_sub_cancel]
   rw [if_neg (by omega)]
   rfl
 obtain ⟨a2, e2, h4⟩ := ha
 refine ⟨_, hr, fun W hW => ?_, a2, cap - 1, e2⟩
 rw [e2]
 refine ⟨a2, cap - 1, rfl, by omega, by omega, ?_⟩
 rcases h4 with h4 | h4
 ·exact .inl h4
 ·refine .inr ⟨b, off + 3, cs, h4, hW.at_ hb (.inr (.inl rfl)), fun i y hy => ?_⟩
  obtain ⟨c0, c1, c2⟩ := hc (i + 1) y (by simpa using hy)
  rw [show off + (i + 1) * 3 = off + 3 + i * 3 by omega] at c0 c1 c2
  exact ⟨c0, c1, c2⟩
theorem infoLab : (Tryz.prog.info? 44).map (fun i => (i.zero, i.size, i.bytes)) = some (some (.agg #[.string ⟨#[]⟩, .int .i64 0]), 2, 24) := by kernel_rfl
theorem run_lab (base : Nat) (w : World) (v : Value) (n : Nat) (xs : List Value) (hown : w.ownsRow base 44 2 v n xs) (g0 : Nat) (s : ByteArray) (p : Int) (ty : TypeId) (hc0 : w.cell? ⟨g0, 0, none⟩ = some (.string s)) (hc1 : w.cell? ⟨g0, 1, none⟩ = some (.int .i64 p)) (hn : n ≤ 1048576) (hb : base ≤ w.heap.size) :
  ∃ v' w', (Builtin.append_ #[37, 37] ty #[v, .slice (some ⟨g0, 0, none⟩) 1 1]).run Tryz.prog w = .ok v' w' ∧ w'.ownsRow base 44 2 v' (n + 1) (xs ++ [.string s, .int .i64 p]) ∧ Onto w v w' v' := by
 obtain ⟨i, hi, hz, hs, hby⟩ := info_parts infoLab
 exact run_append_onto (P := Tryz.prog) w base 37 ty 44 i _ 2 24 Tryz.underlying37 hi hz hs hby rfl (by decide) v n xs hown ⟨g0, 0, none⟩ 1 1 [.string s, .int .i64 p] rfl (fun j u hj => by
  match j, hj with
  | 0, hj => simp only [List.getElem?_cons_zero, Option.some.injEq] at hj; subst hj; rw [add_zero']; exact hc0
  | 1, hj => simp only [List.getElem?_cons_succ, List.getElem?_cons_zero, Option.some.injEq] at hj; subst hj; exact hc1
  | j + 2, hj => simp at hj) (by simp [Value.oneCell']) (by simp only [maxLen]; omega) (by omega) hb
end Go.Proofs.YtiknookfnameiaaGreatDoor
