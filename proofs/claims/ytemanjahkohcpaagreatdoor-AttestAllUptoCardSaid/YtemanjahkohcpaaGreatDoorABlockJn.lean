/- The contract of sha's Block. -/
import Derived.Test.YtemanjahkohcpaaGreatDoorJn02
namespace Go.Proofs.YtemanjahkohcpaaGreatDoor
open Go.RowKit WP
theorem run_index_arr {P : Program} {ty e : TypeId} {n : Nat} (l : List UInt32) (i : Nat) (w : World) (hu : P.underlying ty = some (.array n e)) (he : P.underlying e = some (.int .u32)) (hs : (P.info? e).map (·.size) = some 1) (hl : l.length = n) (hi : i < n) (hn : n < 1000) :
    (Instr.index ty (.agg (vw l).toArray) (.int .i64 (i : Int))).run P w = .ok (.int .u32 (wAt l i)) w := by
  have h1 : IntKind.i64.wrap (i : Int) = i := IntWalk.i64_in _ (by omega)
  have h2 := vw_get l i (by omega)
  have hagg : (isAgg e).run P w = .ok false w := by
    unfold isAgg
    rw [Sem.run_bind, run_underlying he w]
    simp
  have hsz : (sizeOf e).run P w = .ok 1 w := by
    cases hq : P.info? e with
    | none => simp [hq] at hs
    | some j => simp [hq] at hs; simp [sizeOf, typeInfo, hq, hs]
  simp [Instr.index, run_underlying hu, asIntOf, go_sem, hagg, hsz, hi, h2]
/-- the round words lie in their block -/
def Rounds (w : World) (KL : List UInt32) : Prop := 7 < w.heap.size ∧ ∀ i, i < 64 → w.cell? ⟨7, i, none⟩ = some (.int .u32 (wAt KL i))
theorem Rounds.below {w w' : World} {KL : List UInt32} (h : Rounds w KL) (hb : Below w.heap.size w w') : Rounds w' KL :=
  ⟨Nat.lt_of_lt_of_le h.1 hb.size, fun i hi => (hb.cell (p := ⟨7, i, none⟩) h.1).trans (h.2 i hi)⟩
/-- one round's two sums -/
def sum1 (s7 e s5 s6 k w : Int) : Int :=
  IntKind.u32.wrap (IntKind.u32.wrap (IntKind.u32.wrap (IntKind.u32.wrap (s7 + bits .xor .u32 (bits .xor .u32 (sr e 6) (sr e 11)) (sr e 25)) +
    bits .xor .u32 (bits .and .u32 e s5) (bits .and .u32 (bits .xor .u32 (if IntKind.u32.signed = true then -1 else IntKind.u32.max) e) s6)) + k) + w)
def sum0 (a s1 s2 : Int) : Int :=
  IntKind.u32.wrap (bits .xor .u32 (bits .xor .u32 (sr a 2) (sr a 13)) (sr a 22) + bits .xor .u32 (bits .xor .u32 (bits .and .u32 a s1) (bits .and .u32 a s2)) (bits .and .u32 s1 s2))
theorem sum1_bd (a b c d e f : Int) : 0 ≤ sum1 a b c d e f ∧ sum1 a b c d e f ≤ 4294967295 := by unfold sum1; rw [IntKind.wrap_u32]; omega
theorem sum0_bd (a b c : Int) : 0 ≤ sum0 a b c ∧ sum0 a b c ≤ 4294967295 := by unfold sum0; rw [IntKind.wrap_u32]; omega
theorem vw8 {a b c d e f g h : Int} (a1 : 0 ≤ a) (a2 : a ≤ 4294967295) (b1 : 0 ≤ b) (b2 : b ≤ 4294967295) (c1 : 0 ≤ c) (c2 : c ≤ 4294967295) (d1 : 0 ≤ d) (d2 : d ≤ 4294967295)
    (e1 : 0 ≤ e) (e2 : e ≤ 4294967295) (f1 : 0 ≤ f) (f2 : f ≤ 4294967295) (g1 : 0 ≤ g) (g2 : g ≤ 4294967295) (h1 : 0 ≤ h) (h2 : h ≤ 4294967295) :
    (vw [ofI a, ofI b, ofI c, ofI d, ofI e, ofI f, ofI g, ofI h]).toArray = #[.int .u32 a, .int .u32 b, .int .u32 c, .int .u32 d, .int .u32 e, .int .u32 f, .int .u32 g, .int .u32 h] := by
  simp [vw, ofI_val _ a1 a2, ofI_val _ b1 b2, ofI_val _ c1 c2, ofI_val _ d1 d2, ofI_val _ e1 e2, ofI_val _ f1 f2, ofI_val _ g1 g2, ofI_val _ h1 h2]
def roundL (KL W S : List UInt32) (t : Nat) : List UInt32 :=
  let t1 := sum1 (wAt S 7) (wAt S 4) (wAt S 5) (wAt S 6) (wAt KL t) (wAt W t)
  let t2 := sum0 (wAt S 0) (wAt S 1) (wAt S 2)
  [ofI ((t1 + t2) % 4294967296), ofI (wAt S 0), ofI (wAt S 1), ofI (wAt S 2), ofI ((wAt S 3 + t1) % 4294967296), ofI (wAt S 4), ofI (wAt S 5), ofI (wAt S 6)]
def roundsN (KL W S : List UInt32) : Nat → List UInt32
  | 0 => S
  | t + 1 => roundL KL W (roundsN KL W S t) t
def addN (s st : List UInt32) : Nat → List UInt32
  | 0 => s
  | k + 1 => (addN s st k).set k (ofI ((wAt (addN s st k) k + wAt st k) % 4294967296))
def blockF (KL S B : List UInt32) : List UInt32 := addN (roundsN KL (schedN B 48) S 64) S 8
theorem roundsN_len (KL W S : List UInt32) (hS : S.length = 8) (t : Nat) : (roundsN KL W S t).length = 8 := by
  cases t with
  | zero => exact hS
  | succ t => rfl
theorem addN_len (s st : List UInt32) (h : s.length = 8) (k : Nat) : (addN s st k).length = 8 := by
  induction k with
  | zero => exact h
  | succ k ih => simp [addN, ih]
theorem blockF_len (KL S B : List UInt32) (hS : S.length = 8) : (blockF KL S B).length = 8 := addN_len _ _ (roundsN_len _ _ _ hS _) _
theorem info23 : (Tryz.prog.info? 26).map (·.size) = some 8 := by kernel_rfl
set_option maxRecDepth 100000 in
set_option maxHeartbeats 4000000 in
theorem block_any (KL S B : List UInt32) (w : World) (hK : Rounds w KL) (hS : S.length = 8) (hB : B.length = 16) :
    Calls Tryz.prog 109 #[.agg (vw S).toArray, .agg (vw B).toArray] w fun e w' => e = .returned (.agg (vw (blockF KL S B)).toArray) ∧ Below w.heap.size w w' := by
  go_enter Tryz.func109, Tryz.ntmps109
  go_upto_region 1 with fail
  change Code.wp _ _ _ _ (((w.alloc (.cells (vw S).toArray 26)).alloc (.cells (vw B).toArray 171)).alloc (.cells (vw (List.replicate 8 0)).toArray 26))
  obtain ⟨wz, hwz⟩ : ∃ wz, ((w.alloc (.cells (vw S).toArray 26)).alloc (.cells (vw B).toArray 171)).alloc (.cells (vw (List.replicate 8 0)).toArray 26) = wz := ⟨_, rfl⟩
  have aS : Arr wz w.heap.size 26 S := by rw [← hwz]; exact ((Arr.new w _ S).alloc _).alloc _
  have aB : Arr wz (w.heap.size + 1) 171 B := by
    rw [← hwz]
    have := (Arr.new (w.alloc (.cells (vw S).toArray 26)) 171 B).alloc (.cells (vw (List.replicate 8 0)).toArray 26)
    simpa using this
  have aR : Arr wz (w.heap.size + 1 + 1) 26 (List.replicate 8 0) := by
    rw [← hwz]
    have := Arr.new ((w.alloc (.cells (vw S).toArray 26)).alloc (.cells (vw B).toArray 171)) 26 (List.replicate 8 0)
    simpa using this
  have hb0 : Below w.heap.size w wz := by rw [← hwz]; exact (((Below.refl _ _).alloc (Nat.le_refl _) _).alloc (by simp) _).alloc (by simp; omega) _
  have hz : wz.heap.size = w.heap.size + 1 + 1 + 1 := by rw [← hwz]; simp
  rw [hwz]
  clear hwz
  replace aB := Lib.hid aB; replace aR := Lib.hid aR; replace aS := Lib.hid aS; replace hb0 := Lib.hid hb0; replace hK := Lib.hid hK
  apply wp_region_lit
  refine wpList_load_arr rfl 26 _ rfl w.heap.size rfl aS.out Tryz.underlying26 info23 hS ?_
  have aN : Arr (wz.alloc (.cells (vw (List.replicate 8 0)).toArray 26)) (w.heap.size + 1 + 1 + 1) 26 (List.replicate 8 0) := by rw [← hz]; exact Arr.new _ _ _
  have hbN : Below w.heap.size w (wz.alloc (.cells (vw (List.replicate 8 0)).toArray 26)) := hb0.out.alloc (by omega) _
  replace aN := Lib.hid aN; replace hbN := Lib.hid hbN
  go_wp2_with (first
    | (refine wpList_store_arr rfl 26 _ _ rfl (w.heap.size + 1 + 1 + 1) rfl S rfl aN.out info23 (by simp) hS ?_; intro w2 aX g2; have aB2 := (aB.out.alloc (.cells (vw (List.replicate 8 0)).toArray 26)).grown g2 (by first | (simp; done) | (simp; omega)); have aR2 := (aR.out.alloc (.cells (vw (List.replicate 8 0)).toArray 26)).grown g2 (by first | (simp; done) | (simp; omega)); have aS2 := (aS.out.alloc (.cells (vw (List.replicate 8 0)).toArray 26)).grown g2 (by first | (simp; done) | (simp; omega)); have hb2 := hbN.out.grown g2 hbN.out.size (by simp; omega); replace aX := Lib.hid aX; replace aB2 := Lib.hid aB2; replace aR2 := Lib.hid aR2; replace aS2 := Lib.hid aS2; replace hb2 := Lib.hid hb2; clear g2)
    | (refine wpList_load_arr rfl 171 _ rfl (w.heap.size + 1) rfl aB2.out Tryz.underlying171 info108 hB ?_))
  refine (schedule_any B _ hB).mono ?_
  rintro e w3 ⟨rfl, b3⟩
  have aX3 := aX.out.below b3
  have aR3 := aR2.out.below b3
  have aS3 := aS2.out.below b3
  have hb3 := hb2.out.trans (b3.mono hb2.out.size)
  clear aX aB2 aR2 aS2 hb2 aN hbN aB aR aS hb0 b3
  obtain ⟨W, hW⟩ : ∃ W, schedN B 48 = W := ⟨_, rfl⟩
  have lW : W.length = 64 := by rw [← hW]; exact schedN_len B hB 48
  have hF : blockF KL S B = addN (roundsN KL W S 64) S 8 := by rw [← hW]; rfl
  rw [hW]
  replace aX3 := Lib.hid aX3; replace aR3 := Lib.hid aR3; replace aS3 := Lib.hid aS3; replace hb3 := Lib.hid hb3; replace hF := Lib.hid hF
  clear hW
  go_wp2_with fail
  go_loopw [6, 7, 8, 9, 10, 11, 16] (fun _ _ _ _ _ _ i wr => ∃ t : Nat, t ≤ 64 ∧ i = .int .i64 (t : Int) ∧ Arr wr (w.heap.size + 1 + 1 + 1) 26 (roundsN KL W S t) ∧ Arr wr (w.heap.size + 1 + 1) 26 (List.replicate 8 0) ∧ Arr wr w.heap.size 26 S ∧ Below w.heap.size w wr) (fun _ _ _ _ _ _ i _ => 64 - (intOf i).toNat)
  case atStart => exact ⟨0, by omega, rfl, aX3.out, aR3.out, aS3.out, hb3.out⟩
  case round =>
    obtain ⟨t, ht, rfl, aX, aR, aS, hb⟩ := hrel
    by_cases hlt : t < 64
    · have lX := roundsN_len KL W S hS t
      have hXs : roundsN KL W S (t + 1) = roundL KL W (roundsN KL W S t) t := rfl
      obtain ⟨X, hX⟩ : ∃ X, roundsN KL W S t = X := ⟨_, rfl⟩
      rw [hX] at aX lX hXs
      have hRw := (show Rounds wr KL from ⟨Nat.lt_of_lt_of_le hK.out.1 hb.size, fun i hi => (hb.cell (p := ⟨7, i, none⟩) hK.out.1).trans (hK.out.2 i hi)⟩)
      have hix := run_index_arr (P := Tryz.prog) W t wr Tryz.underlying187 Tryz.underlying25 infoU32 lW hlt (by decide)
      have ⟨m1, m2⟩ := wAt_bd W t
      have ⟨k1, k2⟩ := wAt_bd KL t
      have ⟨a0, b0⟩ := wAt_bd X 0
      have ⟨a1, b1⟩ := wAt_bd X 1
      have ⟨a2, b2⟩ := wAt_bd X 2
      have ⟨a3, b3⟩ := wAt_bd X 3
      have ⟨a4, b4⟩ := wAt_bd X 4
      have ⟨a5, b5⟩ := wAt_bd X 5
      have ⟨a6, b6⟩ := wAt_bd X 6
      have ⟨a7, b7⟩ := wAt_bd X 7
      have hkd : wr.cell? ⟨7, t, none⟩ = _ := hRw.2 t hlt
      have d0 := aX.cell 0 (by omega)
      have d1 := aX.cell 1 (by omega)
      have d2 := aX.cell 2 (by omega)
      have d3 := aX.cell 3 (by omega)
      have d4 := aX.cell 4 (by omega)
      have d5 := aX.cell 5 (by omega)
      have d6 := aX.cell 6 (by omega)
      have d7 := aX.cell 7 (by omega)
      have hst : Hid (Arr wr (w.heap.size + 1 + 1 + 1) 26 X) := aX
      generalize hkt : wAt KL t = kt at *
      generalize hwt : wAt W t = wt at *
      generalize hx0 : wAt X 0 = x0 at *
      generalize hx1 : wAt X 1 = x1 at *
      generalize hx2 : wAt X 2 = x2 at *
      generalize hx3 : wAt X 3 = x3 at *
      generalize hx4 : wAt X 4 = x4 at *
      generalize hx5 : wAt X 5 = x5 at *
      generalize hx6 : wAt X 6 = x6 at *
      generalize hx7 : wAt X 7 = x7 at *
      replace aX := Lib.hid aX; replace aR := Lib.hid aR; replace aS := Lib.hid aS; replace hb := Lib.hid hb; replace hXs := Lib.hid hXs; replace hX := Lib.hid hX; replace hRw := Lib.hid hRw
      go_upto_region 5 with fail
      have e0 : wr.drew.cell? ⟨w.heap.size + 1 + 1 + 1, 0, none⟩ = some (.int .u32 x0) := d0
      have e1 : wr.drew.cell? ⟨w.heap.size + 1 + 1 + 1, 1, none⟩ = some (.int .u32 x1) := d1
      have e2 : wr.drew.cell? ⟨w.heap.size + 1 + 1 + 1, 2, none⟩ = some (.int .u32 x2) := d2
      have e3 : wr.drew.cell? ⟨w.heap.size + 1 + 1 + 1, 3, none⟩ = some (.int .u32 x3) := d3
      have e4 : wr.drew.cell? ⟨w.heap.size + 1 + 1 + 1, 4, none⟩ = some (.int .u32 x4) := d4
      have e5 : wr.drew.cell? ⟨w.heap.size + 1 + 1 + 1, 5, none⟩ = some (.int .u32 x5) := d5
      have e6 : wr.drew.cell? ⟨w.heap.size + 1 + 1 + 1, 6, none⟩ = some (.int .u32 x6) := d6
      have e7 : wr.drew.cell? ⟨w.heap.size + 1 + 1 + 1, 7, none⟩ = some (.int .u32 x7) := d7
      have hke : wr.drew.cell? ⟨7, t, none⟩ = some (.int .u32 kt) := hkd
      clear d0 d1 d2 d3 d4 d5 d6 d7 hkd
      refine wp_region_still_lit (by kernel_rfl) (by kernel_rfl) ?_
      change wpStill _ _ wr.drew _ _ _
      repeat (first | still_step | (still_call (sright_any _ _ _ (by omega) (by omega) (by omega) (by omega))))
      refine wpStill_nil ?_
      change Exit.then _ _ _ _ wr.drew
      obtain ⟨w5, hw5⟩ : ∃ w5, wr.drew = w5 := ⟨_, rfl⟩
      replace aX : Hid (Arr w5 (w.heap.size + 1 + 1 + 1) 26 X) := by rw [← hw5]; exact aX
      replace aR : Hid (Arr w5 (w.heap.size + 1 + 1) 26 (List.replicate 8 0)) := by rw [← hw5]; exact aR
      replace aS : Hid (Arr w5 w.heap.size 26 S) := by rw [← hw5]; exact aS
      replace hb : Hid (Below w.heap.size w w5) := by rw [← hw5]; exact hb.out.drew
      rw [hw5]
      have d0 : w5.cell? ⟨w.heap.size + 1 + 1 + 1, 0, none⟩ = some (.int .u32 x0) := by rw [← hw5]; exact e0
      have d1 : w5.cell? ⟨w.heap.size + 1 + 1 + 1, 1, none⟩ = some (.int .u32 x1) := by rw [← hw5]; exact e1
      have d2 : w5.cell? ⟨w.heap.size + 1 + 1 + 1, 2, none⟩ = some (.int .u32 x2) := by rw [← hw5]; exact e2
      have d3 : w5.cell? ⟨w.heap.size + 1 + 1 + 1, 3, none⟩ = some (.int .u32 x3) := by rw [← hw5]; exact e3
      have d4 : w5.cell? ⟨w.heap.size + 1 + 1 + 1, 4, none⟩ = some (.int .u32 x4) := by rw [← hw5]; exact e4
      have d5 : w5.cell? ⟨w.heap.size + 1 + 1 + 1, 5, none⟩ = some (.int .u32 x5) := by rw [← hw5]; exact e5
      have d6 : w5.cell? ⟨w.heap.size + 1 + 1 + 1, 6, none⟩ = some (.int .u32 x6) := by rw [← hw5]; exact e6
      have d7 : w5.cell? ⟨w.heap.size + 1 + 1 + 1, 7, none⟩ = some (.int .u32 x7) := by rw [← hw5]; exact e7
      have hkd : w5.cell? ⟨7, t, none⟩ = some (.int .u32 kt) := by rw [← hw5]; exact hke
      clear hw5 hke e0 e1 e2 e3 e4 e5 e6 e7
      go_upto_region 6 with fail
      have e0 : w5.drew.cell? ⟨w.heap.size + 1 + 1 + 1, 0, none⟩ = some (.int .u32 x0) := d0
      have e1 : w5.drew.cell? ⟨w.heap.size + 1 + 1 + 1, 1, none⟩ = some (.int .u32 x1) := d1
      have e2 : w5.drew.cell? ⟨w.heap.size + 1 + 1 + 1, 2, none⟩ = some (.int .u32 x2) := d2
      have e3 : w5.drew.cell? ⟨w.heap.size + 1 + 1 + 1, 3, none⟩ = some (.int .u32 x3) := d3
      have e4 : w5.drew.cell? ⟨w.heap.size + 1 + 1 + 1, 4, none⟩ = some (.int .u32 x4) := d4
      have e5 : w5.drew.cell? ⟨w.heap.size + 1 + 1 + 1, 5, none⟩ = some (.int .u32 x5) := d5
      have e6 : w5.drew.cell? ⟨w.heap.size + 1 + 1 + 1, 6, none⟩ = some (.int .u32 x6) := d6
      have e7 : w5.drew.cell? ⟨w.heap.size + 1 + 1 + 1, 7, none⟩ = some (.int .u32 x7) := d7
      have hke : w5.drew.cell? ⟨7, t, none⟩ = some (.int .u32 kt) := hkd
      clear d0 d1 d2 d3 d4 d5 d6 d7 hkd
      refine wp_region_still_lit (by kernel_rfl) (by kernel_rfl) ?_
      change wpStill _ _ w5.drew _ _ _
      repeat (first | still_step | (still_call (sright_any _ _ _ (by omega) (by omega) (by omega) (by omega))))
      refine wpStill_nil ?_
      change Exit.then _ _ _ _ w5.drew
      obtain ⟨w6, hw6⟩ : ∃ w6, w5.drew = w6 := ⟨_, rfl⟩
      replace aX : Hid (Arr w6 (w.heap.size + 1 + 1 + 1) 26 X) := by rw [← hw6]; exact aX
      replace aR : Hid (Arr w6 (w.heap.size + 1 + 1) 26 (List.replicate 8 0)) := by rw [← hw6]; exact aR
      replace aS : Hid (Arr w6 w.heap.size 26 S) := by rw [← hw6]; exact aS
      replace hb : Hid (Below w.heap.size w w6) := by rw [← hw6]; exact hb.out.drew
      rw [hw6]
      have d0 : w6.cell? ⟨w.heap.size + 1 + 1 + 1, 0, none⟩ = some (.int .u32 x0) := by rw [← hw6]; exact e0
      have d1 : w6.cell? ⟨w.heap.size + 1 + 1 + 1, 1, none⟩ = some (.int .u32 x1) := by rw [← hw6]; exact e1
      have d2 : w6.cell? ⟨w.heap.size + 1 + 1 + 1, 2, none⟩ = some (.int .u32 x2) := by rw [← hw6]; exact e2
      have d3 : w6.cell? ⟨w.heap.size + 1 + 1 + 1, 3, none⟩ = some (.int .u32 x3) := by rw [← hw6]; exact e3
      have d4 : w6.cell? ⟨w.heap.size + 1 + 1 + 1, 4, none⟩ = some (.int .u32 x4) := by rw [← hw6]; exact e4
      have d5 : w6.cell? ⟨w.heap.size + 1 + 1 + 1, 5, none⟩ = some (.int .u32 x5) := by rw [← hw6]; exact e5
      have d6 : w6.cell? ⟨w.heap.size + 1 + 1 + 1, 6, none⟩ = some (.int .u32 x6) := by rw [← hw6]; exact e6
      have d7 : w6.cell? ⟨w.heap.size + 1 + 1 + 1, 7, none⟩ = some (.int .u32 x7) := by rw [← hw6]; exact e7
      have hkd : w6.cell? ⟨7, t, none⟩ = some (.int .u32 kt) := by rw [← hw6]; exact hke
      clear hw6 hke e0 e1 e2 e3 e4 e5 e6 e7
      go_upto_region 7 with fail
      have e0 : w6.drew.cell? ⟨w.heap.size + 1 + 1 + 1, 0, none⟩ = some (.int .u32 x0) := d0
      have e1 : w6.drew.cell? ⟨w.heap.size + 1 + 1 + 1, 1, none⟩ = some (.int .u32 x1) := d1
      have e2 : w6.drew.cell? ⟨w.heap.size + 1 + 1 + 1, 2, none⟩ = some (.int .u32 x2) := d2
      have e3 : w6.drew.cell? ⟨w.heap.size + 1 + 1 + 1, 3, none⟩ = some (.int .u32 x3) := d3
      have e4 : w6.drew.cell? ⟨w.heap.size + 1 + 1 + 1, 4, none⟩ = some (.int .u32 x4) := d4
      have e5 : w6.drew.cell? ⟨w.heap.size + 1 + 1 + 1, 5, none⟩ = some (.int .u32 x5) := d5
      have e6 : w6.drew.cell? ⟨w.heap.size + 1 + 1 + 1, 6, none⟩ = some (.int .u32 x6) := d6
      have e7 : w6.drew.cell? ⟨w.heap.size + 1 + 1 + 1, 7, none⟩ = some (.int .u32 x7) := d7
      have hke : w6.drew.cell? ⟨7, t, none⟩ = some (.int .u32 kt) := hkd
      clear d0 d1 d2 d3 d4 d5 d6 d7 hkd
      refine wp_region_still_lit (by kernel_rfl) (by kernel_rfl) ?_
      change wpStill _ _ w6.drew _ _ _
      repeat (first | still_step | (still_call (sright_any _ _ _ (by omega) (by omega) (by omega) (by omega))))
      refine wpStill_nil ?_
      change Exit.then _ _ _ _ w6.drew
      obtain ⟨w7, hw7⟩ : ∃ w7, w6.drew = w7 := ⟨_, rfl⟩
      replace aX : Hid (Arr w7 (w.heap.size + 1 + 1 + 1) 26 X) := by rw [← hw7]; exact aX
      replace aR : Hid (Arr w7 (w.heap.size + 1 + 1) 26 (List.replicate 8 0)) := by rw [← hw7]; exact aR
      replace aS : Hid (Arr w7 w.heap.size 26 S) := by rw [← hw7]; exact aS
      replace hb : Hid (Below w.heap.size w w7) := by rw [← hw7]; exact hb.out.drew
      rw [hw7]
      have d0 : w7.cell? ⟨w.heap.size + 1 + 1 + 1, 0, none⟩ = some (.int .u32 x0) := by rw [← hw7]; exact e0
      have d1 : w7.cell? ⟨w.heap.size + 1 + 1 + 1, 1, none⟩ = some (.int .u32 x1) := by rw [← hw7]; exact e1
      have d2 : w7.cell? ⟨w.heap.size + 1 + 1 + 1, 2, none⟩ = some (.int .u32 x2) := by rw [← hw7]; exact e2
      have d3 : w7.cell? ⟨w.heap.size + 1 + 1 + 1, 3, none⟩ = some (.int .u32 x3) := by rw [← hw7]; exact e3
      have d4 : w7.cell? ⟨w.heap.size + 1 + 1 + 1, 4, none⟩ = some (.int .u32 x4) := by rw [← hw7]; exact e4
      have d5 : w7.cell? ⟨w.heap.size + 1 + 1 + 1, 5, none⟩ = some (.int .u32 x5) := by rw [← hw7]; exact e5
      have d6 : w7.cell? ⟨w.heap.size + 1 + 1 + 1, 6, none⟩ = some (.int .u32 x6) := by rw [← hw7]; exact e6
      have d7 : w7.cell? ⟨w.heap.size + 1 + 1 + 1, 7, none⟩ = some (.int .u32 x7) := by rw [← hw7]; exact e7
      have hkd : w7.cell? ⟨7, t, none⟩ = some (.int .u32 kt) := by rw [← hw7]; exact hke
      clear hw7 hke e0 e1 e2 e3 e4 e5 e6 e7
      rw [← sum1.eq_1 x7 x4 x5 x6 kt wt, ← sum0.eq_1 x0 x1 x2]
      have ⟨t1, t2⟩ := sum1_bd x7 x4 x5 x6 kt wt
      have ⟨t3, t4⟩ := sum0_bd x0 x1 x2
      generalize hT1 : sum1 x7 x4 x5 x6 kt wt = T1 at *
      generalize hT2 : sum0 x0 x1 x2 = T2 at *
      have hvw := vw8 (a := (T1 + T2) % 4294967296) (e := (x3 + T1) % 4294967296) (by omega) (by omega) a0 b0 a1 b1 a2 b2 (by omega) (by omega) a4 b4 a5 b5 a6 b6
      have hnew : roundsN KL W S (t + 1) = [ofI ((T1 + T2) % 4294967296), ofI x0, ofI x1, ofI x2, ofI ((x3 + T1) % 4294967296), ofI x4, ofI x5, ofI x6] := by
        rw [hXs.out]
        unfold roundL
        simp only [hx0, hx1, hx2, hx3, hx4, hx5, hx6, hx7, hkt, hwt, hT1, hT2]
      replace hvw := Lib.hid hvw; replace hnew := Lib.hid hnew
      clear hT1 hT2 hkd hx0 hx1 hx2 hx3 hx4 hx5 hx6 hx7 hkt hwt
      go_upto_region 8 with fail
      go_wp2_with (refine wpList_store_arr rfl 26 _ _ rfl (w.heap.size + 1 + 1 + 1) rfl [ofI ((T1 + T2) % 4294967296), ofI x0, ofI x1, ofI x2, ofI ((x3 + T1) % 4294967296), ofI x4, ofI x5, ofI x6] (by rw [hvw.out]; rfl) aX.out info23 lX rfl ?_; intro w8 a8 g8; have aR8 := aR.out.grown g8 (by simp); have aS8 := aS.out.grown g8 (by first | (simp; done) | (simp; omega)); have hb8 := hb.out.grown g8 hb.out.size (by simp; omega); rw [← hnew.out] at a8; replace a8 := Lib.hid a8; replace aR8 := Lib.hid aR8; replace aS8 := Lib.hid aS8; replace hb8 := Lib.hid hb8; clear g8)
      exact ⟨⟨t + 1, by omega, by go_num, a8.out, aR8.out, aS8.out, hb8.out⟩, by simp [intOf]; omega⟩
    · obtain rfl : t = 64 := by omega
      have lX := roundsN_len KL W S hS 64
      obtain ⟨X, hX⟩ : ∃ X, roundsN KL W S 64 = X := ⟨_, rfl⟩
      have hF' := hF.out
      rw [hX] at aX lX hF'
      obtain ⟨w4, rfl⟩ : ∃ w4, w4 = wr := ⟨wr, rfl⟩
      clear hX hF hlt ht aX3 aR3 aS3 hb3 hK
      replace hF' := Lib.hid hF'; replace aX := Lib.hid aX; replace aR := Lib.hid aR; replace aS := Lib.hid aS; replace hb := Lib.hid hb
      go_wp2_with fail
      go_loopw [12, 97] (fun _ i wr => ∃ k : Nat, k ≤ 8 ∧ i = .int .i64 (k : Int) ∧ Arr wr (w.heap.size + 1 + 1 + 1) 26 (addN X S k) ∧ Arr wr (w.heap.size + 1 + 1) 26 (List.replicate 8 0) ∧ Arr wr w.heap.size 26 S ∧ Below w.heap.size w wr) (fun _ i _ => 8 - (intOf i).toNat)
      case atStart => exact ⟨0, by omega, rfl, aX.out, aR.out, aS.out, hb.out⟩
      case round =>
        obtain ⟨k, hk, rfl, aX, aR, aS, hb⟩ := hrel
        have lk := addN_len X S lX k
        by_cases hlt : k < 8
        · have d0 : wr.drew.cell? ⟨w.heap.size + 1 + 1 + 1, k, none⟩ = _ := aX.cell k (by omega)
          have f0 : wr.drew.frozen? ⟨w.heap.size + 1 + 1 + 1, k, none⟩ = _ := aX.frozen k
          have s0 : wr.drew.cell? ⟨w.heap.size, k, none⟩ = _ := aS.cell k (by omega)
          have ⟨p1, p2⟩ := wAt_bd (addN X S k) k
          have ⟨q1, q2⟩ := wAt_bd S k
          have hst := aX.set k ((wAt (addN X S k) k + wAt S k) % 4294967296) (by omega) (by omega)
          have hk8 : (k : Int) < 8 := by omega
          replace aX := Lib.hid aX; replace aR := Lib.hid aR; replace aS := Lib.hid aS; replace hb := Lib.hid hb; replace hst := Lib.hid hst
          go_upto_region 13 with fail
          go_region
          go_wp2_with fail
          exact ⟨⟨k + 1, by omega, by go_num, hst.out.1, (aR.out.grown hst.out.2 (by simp)).drew, (aS.out.grown hst.out.2 (by first | (simp; done) | (simp; omega))).drew, (hb.out.grown hst.out.2 hb.out.size (by simp; omega)).drew⟩, by simp [intOf]; omega⟩
        · obtain rfl : k = 8 := by omega
          rw [← hF'.out] at aX lk
          replace aX := Lib.hid aX; replace aR := Lib.hid aR; replace aS := Lib.hid aS; replace hb := Lib.hid hb
          go_upto_region 15 with fail
          apply wp_region_lit
          refine wpList_load_arr rfl 26 _ rfl (w.heap.size + 1 + 1 + 1) rfl aX.out Tryz.underlying26 info23 lk ?_
          refine wpList_store_arr rfl 26 _ _ rfl (w.heap.size + 1 + 1) rfl (blockF KL S B) (by rfl) aR.out info23 (by simp) lk ?_
          intro w5 a5 g5
          have hb5 := hb.out.grown g5 hb.out.size (by simp; omega)
          clear aX aR aS hb g5
          go_wp2_with fail
          refine bodyPost_ret (results_arr rfl rfl a5 Tryz.underlying26 info23 lk) rfl ⟨rfl, hb5⟩
end Go.Proofs.YtemanjahkohcpaaGreatDoor
