/- The contract of the law's decided. -/
import Derived.Test.YtemanjahkohcpaaGreatDoorJn35
import Derived.Test.YtemanjahkohcpaaGreatDoorJn42
import Derived.Test.YtemanjahkohcpaaGreatDoorTDocJn
namespace Go.Proofs.YtemanjahkohcpaaGreatDoor
open Go.RowKit WP
set_option linter.unusedVariables false
set_option linter.unusedSimpArgs false
abbrev Hold7 (A0 QB KB g q cap : Nat) (o : Bool) (vp : Value) (K me D G nc : List UInt32) (w' : World) : Prop :=
  w'.cell? ⟨A0, 0, none⟩ = some (.slice (some ⟨g, 0, none⟩) q cap) ∧ w'.cell? ⟨A0, 1, none⟩ = some (.bool o) ∧ w'.cell? ⟨QB, 0, none⟩ = some (.int .u32 (wAt me 0)) ∧ w'.cell? ⟨QB, 1, none⟩ = some (.int .u32 (wAt me 1)) ∧ w'.cell? ⟨QB, 2, none⟩ = some (.int .u32 (wAt me 2)) ∧ w'.cell? ⟨QB, 3, none⟩ = some (.int .u32 (wAt me 3)) ∧ w'.cell? ⟨QB, 4, none⟩ = some (.int .u32 (wAt me 4)) ∧ w'.cell? ⟨QB, 5, none⟩ = some (.int .u32 (wAt me 5)) ∧ w'.cell? ⟨QB, 6, none⟩ = some (.int .u32 (wAt me 6)) ∧ w'.cell? ⟨QB, 7, none⟩ = some (.int .u32 (wAt me 7))
abbrev Hold8 (A0 QB KB g q cap : Nat) (o : Bool) (vp : Value) (K me D G nc : List UInt32) (w' : World) : Prop :=
  w'.cell? ⟨A0 + 1, 0, none⟩ = some vp ∧ w'.cell? ⟨A0 + 1, 1, none⟩ = some (.bool o) ∧ w'.cell? ⟨QB, 0, none⟩ = some (.int .u32 (wAt me 0)) ∧ w'.cell? ⟨QB, 1, none⟩ = some (.int .u32 (wAt me 1)) ∧ w'.cell? ⟨QB, 2, none⟩ = some (.int .u32 (wAt me 2)) ∧ w'.cell? ⟨QB, 3, none⟩ = some (.int .u32 (wAt me 3)) ∧ w'.cell? ⟨QB, 4, none⟩ = some (.int .u32 (wAt me 4)) ∧ w'.cell? ⟨QB, 5, none⟩ = some (.int .u32 (wAt me 5)) ∧ w'.cell? ⟨QB, 6, none⟩ = some (.int .u32 (wAt me 6)) ∧ w'.cell? ⟨QB, 7, none⟩ = some (.int .u32 (wAt me 7))
abbrev Hold9 (A0 QB KB g q cap : Nat) (o : Bool) (vp : Value) (K me D G nc : List UInt32) (w' : World) : Prop :=
  w'.cell? ⟨KB, 0, none⟩ = some (.int .u32 (wAt K 0)) ∧ w'.cell? ⟨KB, 1, none⟩ = some (.int .u32 (wAt K 1)) ∧ w'.cell? ⟨KB, 2, none⟩ = some (.int .u32 (wAt K 2)) ∧ w'.cell? ⟨KB, 3, none⟩ = some (.int .u32 (wAt K 3)) ∧ w'.cell? ⟨KB, 4, none⟩ = some (.int .u32 (wAt K 4)) ∧ w'.cell? ⟨KB, 5, none⟩ = some (.int .u32 (wAt K 5)) ∧ w'.cell? ⟨KB, 6, none⟩ = some (.int .u32 (wAt K 6)) ∧ w'.cell? ⟨KB, 7, none⟩ = some (.int .u32 (wAt K 7)) ∧ w'.cell? ⟨A0, 0, none⟩ = some (.slice (some ⟨g, 0, none⟩) q cap) ∧ w'.cell? ⟨A0, 1, none⟩ = some (.bool o) ∧ w'.cell? ⟨QB, 0, none⟩ = some (.int .u32 (wAt me 0)) ∧ w'.cell? ⟨QB, 1, none⟩ = some (.int .u32 (wAt me 1)) ∧ w'.cell? ⟨QB, 2, none⟩ = some (.int .u32 (wAt me 2)) ∧ w'.cell? ⟨QB, 3, none⟩ = some (.int .u32 (wAt me 3)) ∧ w'.cell? ⟨QB, 4, none⟩ = some (.int .u32 (wAt me 4)) ∧ w'.cell? ⟨QB, 5, none⟩ = some (.int .u32 (wAt me 5)) ∧ w'.cell? ⟨QB, 6, none⟩ = some (.int .u32 (wAt me 6)) ∧ w'.cell? ⟨QB, 7, none⟩ = some (.int .u32 (wAt me 7)) ∧ w'.cell? ⟨QB, 8, none⟩ = some (.int .u32 (wAt D 0)) ∧ w'.cell? ⟨QB, 9, none⟩ = some (.int .u32 (wAt D 1)) ∧ w'.cell? ⟨QB, 10, none⟩ = some (.int .u32 (wAt D 2)) ∧ w'.cell? ⟨QB, 11, none⟩ = some (.int .u32 (wAt D 3)) ∧ w'.cell? ⟨QB, 12, none⟩ = some (.int .u32 (wAt D 4)) ∧ w'.cell? ⟨QB, 13, none⟩ = some (.int .u32 (wAt D 5)) ∧ w'.cell? ⟨QB, 14, none⟩ = some (.int .u32 (wAt D 6)) ∧ w'.cell? ⟨QB, 15, none⟩ = some (.int .u32 (wAt D 7)) ∧ w'.cell? ⟨QB, 16, none⟩ = some (.int .u32 (wAt G 0)) ∧ w'.cell? ⟨QB, 17, none⟩ = some (.int .u32 (wAt G 1)) ∧ w'.cell? ⟨QB, 18, none⟩ = some (.int .u32 (wAt G 2)) ∧ w'.cell? ⟨QB, 19, none⟩ = some (.int .u32 (wAt G 3)) ∧ w'.cell? ⟨QB, 20, none⟩ = some (.int .u32 (wAt G 4)) ∧ w'.cell? ⟨QB, 21, none⟩ = some (.int .u32 (wAt G 5)) ∧ w'.cell? ⟨QB, 22, none⟩ = some (.int .u32 (wAt G 6)) ∧ w'.cell? ⟨QB, 23, none⟩ = some (.int .u32 (wAt G 7)) ∧ w'.cell? ⟨A0 + 1 + 1, 8, none⟩ = some (.int .u32 (wAt nc 0)) ∧ w'.cell? ⟨A0 + 1 + 1, 9, none⟩ = some (.int .u32 (wAt nc 1)) ∧ w'.cell? ⟨A0 + 1 + 1, 10, none⟩ = some (.int .u32 (wAt nc 2)) ∧ w'.cell? ⟨A0 + 1 + 1, 11, none⟩ = some (.int .u32 (wAt nc 3)) ∧ w'.cell? ⟨A0 + 1 + 1, 12, none⟩ = some (.int .u32 (wAt nc 4)) ∧ w'.cell? ⟨A0 + 1 + 1, 13, none⟩ = some (.int .u32 (wAt nc 5)) ∧ w'.cell? ⟨A0 + 1 + 1, 14, none⟩ = some (.int .u32 (wAt nc 6)) ∧ w'.cell? ⟨A0 + 1 + 1, 15, none⟩ = some (.int .u32 (wAt nc 7))
abbrev Hold10 (A0 QB KB g q cap : Nat) (o : Bool) (vp : Value) (K me D G nc : List UInt32) (w' : World) : Prop :=
  w'.cell? ⟨KB, 0, none⟩ = some (.int .u32 (wAt K 0)) ∧ w'.cell? ⟨KB, 1, none⟩ = some (.int .u32 (wAt K 1)) ∧ w'.cell? ⟨KB, 2, none⟩ = some (.int .u32 (wAt K 2)) ∧ w'.cell? ⟨KB, 3, none⟩ = some (.int .u32 (wAt K 3)) ∧ w'.cell? ⟨KB, 4, none⟩ = some (.int .u32 (wAt K 4)) ∧ w'.cell? ⟨KB, 5, none⟩ = some (.int .u32 (wAt K 5)) ∧ w'.cell? ⟨KB, 6, none⟩ = some (.int .u32 (wAt K 6)) ∧ w'.cell? ⟨KB, 7, none⟩ = some (.int .u32 (wAt K 7)) ∧ w'.cell? ⟨A0 + 1, 0, none⟩ = some vp ∧ w'.cell? ⟨A0 + 1, 1, none⟩ = some (.bool o) ∧ w'.cell? ⟨QB, 0, none⟩ = some (.int .u32 (wAt me 0)) ∧ w'.cell? ⟨QB, 1, none⟩ = some (.int .u32 (wAt me 1)) ∧ w'.cell? ⟨QB, 2, none⟩ = some (.int .u32 (wAt me 2)) ∧ w'.cell? ⟨QB, 3, none⟩ = some (.int .u32 (wAt me 3)) ∧ w'.cell? ⟨QB, 4, none⟩ = some (.int .u32 (wAt me 4)) ∧ w'.cell? ⟨QB, 5, none⟩ = some (.int .u32 (wAt me 5)) ∧ w'.cell? ⟨QB, 6, none⟩ = some (.int .u32 (wAt me 6)) ∧ w'.cell? ⟨QB, 7, none⟩ = some (.int .u32 (wAt me 7)) ∧ w'.cell? ⟨QB, 8, none⟩ = some (.int .u32 (wAt D 0)) ∧ w'.cell? ⟨QB, 9, none⟩ = some (.int .u32 (wAt D 1)) ∧ w'.cell? ⟨QB, 10, none⟩ = some (.int .u32 (wAt D 2)) ∧ w'.cell? ⟨QB, 11, none⟩ = some (.int .u32 (wAt D 3)) ∧ w'.cell? ⟨QB, 12, none⟩ = some (.int .u32 (wAt D 4)) ∧ w'.cell? ⟨QB, 13, none⟩ = some (.int .u32 (wAt D 5)) ∧ w'.cell? ⟨QB, 14, none⟩ = some (.int .u32 (wAt D 6)) ∧ w'.cell? ⟨QB, 15, none⟩ = some (.int .u32 (wAt D 7)) ∧ w'.cell? ⟨QB, 16, none⟩ = some (.int .u32 (wAt G 0)) ∧ w'.cell? ⟨QB, 17, none⟩ = some (.int .u32 (wAt G 1)) ∧ w'.cell? ⟨QB, 18, none⟩ = some (.int .u32 (wAt G 2)) ∧ w'.cell? ⟨QB, 19, none⟩ = some (.int .u32 (wAt G 3)) ∧ w'.cell? ⟨QB, 20, none⟩ = some (.int .u32 (wAt G 4)) ∧ w'.cell? ⟨QB, 21, none⟩ = some (.int .u32 (wAt G 5)) ∧ w'.cell? ⟨QB, 22, none⟩ = some (.int .u32 (wAt G 6)) ∧ w'.cell? ⟨QB, 23, none⟩ = some (.int .u32 (wAt G 7)) ∧ w'.cell? ⟨A0 + 1 + 1, 8, none⟩ = some (.int .u32 (wAt nc 0)) ∧ w'.cell? ⟨A0 + 1 + 1, 9, none⟩ = some (.int .u32 (wAt nc 1)) ∧ w'.cell? ⟨A0 + 1 + 1, 10, none⟩ = some (.int .u32 (wAt nc 2)) ∧ w'.cell? ⟨A0 + 1 + 1, 11, none⟩ = some (.int .u32 (wAt nc 3)) ∧ w'.cell? ⟨A0 + 1 + 1, 12, none⟩ = some (.int .u32 (wAt nc 4)) ∧ w'.cell? ⟨A0 + 1 + 1, 13, none⟩ = some (.int .u32 (wAt nc 5)) ∧ w'.cell? ⟨A0 + 1 + 1, 14, none⟩ = some (.int .u32 (wAt nc 6)) ∧ w'.cell? ⟨A0 + 1 + 1, 15, none⟩ = some (.int .u32 (wAt nc 7))
theorem fmtPol_same (rs : List RuleD) (o : Bool) (v : Value) (w : World) (hr : Rules w v rs) :
    Calls Tryz.prog 34 #[.agg #[v, .bool o]] w fun e w' => Below w.heap.size w w' ∧ e = .returned (.tuple #[.string (fmtS rs o), .int .i64 (fmtE rs)]) := fmtPol_any rs o v w hr
theorem vq_lit (a b c : List UInt32) (la : a.length = 8) (lb : b.length = 8) (lc : c.length = 8) : (vw a ++ vw b ++ vw c).toArray = #[.int .u32 (wAt a 0), .int .u32 (wAt a 1), .int .u32 (wAt a 2), .int .u32 (wAt a 3), .int .u32 (wAt a 4), .int .u32 (wAt a 5), .int .u32 (wAt a 6), .int .u32 (wAt a 7), .int .u32 (wAt b 0), .int .u32 (wAt b 1), .int .u32 (wAt b 2), .int .u32 (wAt b 3), .int .u32 (wAt b 4), .int .u32 (wAt b 5), .int .u32 (wAt b 6), .int .u32 (wAt b 7), .int .u32 (wAt c 0), .int .u32 (wAt c 1), .int .u32 (wAt c 2), .int .u32 (wAt c 3), .int .u32 (wAt c 4), .int .u32 (wAt c 5), .int .u32 (wAt c 6), .int .u32 (wAt c 7)] := by
  rw [vw_lit a la, vw_lit b lb, vw_lit c lc]; rfl
theorem infoClm : (Tryz.prog.info? 30).map (·.size) = some 42 := by kernel_rfl
set_option maxRecDepth 100000 in
set_option maxHeartbeats 8000000 in
theorem decided_any (KL sd nc me da tg : List UInt32) (right same : Bool) (rs : List RuleD) (o : Bool) (g q n cap : Nat) (vp : Value) (w : World) (hK : Rounds w KL) (hKR : RoundsR w KL)
    (ls : sd.length = 8) (ln : nc.length = 8) (lm : me.length = 8) (ld : da.length = 8) (lt : tg.length = 8)
    (hqa : Rules w (.slice (some ⟨g, 0, none⟩) q cap) (rs ++ List.replicate 120 (mkR spareB))) (hqb : Rules w (.slice (some ⟨g, 0, none⟩) n cap) rs) (hp : Rules w vp rs) (hqn : q = n + 120) (p1 : q ≤ cap) (p2 : cap ≤ 9223372036854775807) (hN : rs.length ≤ 1048576) :
    Calls Tryz.prog 22 #[.agg #[.slice (some ⟨g, 0, none⟩) q cap, .bool o], .agg #[vp, .bool o], .agg (claimC sd nc me da tg right same).toArray] w fun e w' => e = .returned (.bool true) ∧ Below w.heap.size w w' := by
  have h8 : ∀ r ∈ rs, r.me.length = 8 := by obtain ⟨_, _, _, _, _, h, _⟩ := hqb; exact h
  obtain ⟨cc, hcc⟩ : ∃ cc, claimC sd nc me da tg right same = cc := ⟨_, rfl⟩
  have hft := fun W (h : RoundsR W KL) => fitted_any KL sd nc me da tg right same W h ls ln lm ld lt
  rw [hcc] at hft ⊢
  obtain ⟨w1, hw1⟩ : ∃ w1, ((w.alloc (.cells #[.slice (some ⟨g, 0, none⟩) q cap, .bool o] 24)).alloc (.cells #[vp, .bool o] 24)).alloc (.cells cc.toArray 30) = w1 := ⟨_, rfl⟩
  have b1 : Below w.heap.size w w1 := by rw [← hw1]; exact (((Below.refl _ _).alloc (Nat.le_refl _) _).alloc (by simp) _).alloc (by simp; omega) _
  have hQ1 : w1.heap[w.heap.size]? = some (.cells #[.slice (some ⟨g, 0, none⟩) q cap, .bool o] 24 (0, 0)) := by
    rw [← hw1, heap_alloc_old _ _ (by simp; omega), heap_alloc_old _ _ (by simp)]; exact heap_alloc_new w _
  have hP1 : w1.heap[w.heap.size + 1]? = some (.cells #[vp, .bool o] 24 (0, 0)) := by
    rw [← hw1, heap_alloc_old _ _ (by simp)]
    exact (congrArg (fun k => _[k]?) (by simp)).trans (heap_alloc_new (w.alloc (.cells #[.slice (some ⟨g, 0, none⟩) q cap, .bool o] 24)) _)
  have hC1 : w1.heap[w.heap.size + 1 + 1]? = some (.cells cc.toArray 30 (0, 0)) := by
    rw [← hw1]
    exact (congrArg (fun k => _[k]?) (by simp)).trans (heap_alloc_new ((w.alloc (.cells #[.slice (some ⟨g, 0, none⟩) q cap, .bool o] 24)).alloc (.cells #[vp, .bool o] 24)) _)
  have hs1 : w1.heap.size = w.heap.size + 3 := by rw [← hw1]; simp
  have q0' : w1.cell? ⟨w.heap.size, 0, none⟩ = some (.slice (some ⟨g, 0, none⟩) q cap) := cell_of_row _ _ 0 _ _ _ hQ1
  have q1' : w1.cell? ⟨w.heap.size, 1, none⟩ = some (.bool o) := cell_of_row _ _ 1 _ _ _ hQ1
  have p0' : w1.cell? ⟨w.heap.size + 1, 0, none⟩ = some vp := cell_of_row _ _ 0 _ _ _ hP1
  have p1' : w1.cell? ⟨w.heap.size + 1, 1, none⟩ = some (.bool o) := cell_of_row _ _ 1 _ _ _ hP1
  have C1 : Clm w1 (w.heap.size + 1 + 1) sd nc me da tg right same := Clm.new (by rw [hcc]; exact hC1) ls ln lm ld lt
  have hCr := range_block hC1
  have lcc : cc.length = 42 := by rw [← hcc]; unfold claimC; simp [ls, ln, lm, ld, lt]
  have hA1 : ∀ W, Below w1.heap.size w1 W → (W.cell? ⟨w.heap.size, 0, none⟩ = some (.slice (some ⟨g, 0, none⟩) q cap) ∧ W.cell? ⟨w.heap.size, 1, none⟩ = some (.bool o) ∧ W.cell? ⟨w.heap.size + 1, 0, none⟩ = some vp ∧ W.cell? ⟨w.heap.size + 1, 1, none⟩ = some (.bool o)) := fun W hW => ⟨cell_below q0' hW, cell_below q1' hW, cell_below p0' hW, cell_below p1' hW⟩
  have hAr : ∀ W, Below w1.heap.size w1 W → W.rangeAt (w.heap.size + 1 + 1) 0 cc := fun W hW => rangeAt_kept hCr (hW.block _ (by omega))
  have hqR1 : ∀ W, Below w1.heap.size w1 W → Rules W (.slice (some ⟨g, 0, none⟩) n cap) rs := fun W hW => hqb.below (b1.trans (hW.mono (by omega)))
  have hqA1 : ∀ W, Below w1.heap.size w1 W → Rules W (.slice (some ⟨g, 0, none⟩) q cap) (rs ++ List.replicate 120 (mkR spareB)) := fun W hW => hqa.below (b1.trans (hW.mono (by omega)))
  have hpR1 : ∀ W, Below w1.heap.size w1 W → Rules W vp rs := fun W hW => hp.below (b1.trans (hW.mono (by omega)))
  have hK1 : ∀ W, Below w1.heap.size w1 W → Rounds W KL := fun W hW => hK.below (b1.trans (hW.mono (by omega)))
  have hKR1 : ∀ W, Below w1.heap.size w1 W → RoundsR W KL := fun W hW => hKR.below (b1.trans (hW.mono (by omega)))
  have hC1a : ∀ W, Below w1.heap.size w1 W → Clm W (w.heap.size + 1 + 1) sd nc me da tg right same := fun W hW => C1.below hW
  obtain ⟨q0, q1, p0, p1'⟩ := hA1 w1 (Below.refl _ _)
  obtain ⟨T, hT⟩ : ∃ T, fmtS rs o = T := ⟨_, rfl⟩
  obtain ⟨ec, hec⟩ : ∃ c, fmtE rs = c := ⟨_, rfl⟩
  have hfp := fun v W h => fmtPol_same rs o v W h
  have hrf := fun v W h => rfmtPol_any rs o v W h
  rw [hT, hec] at hfp hrf
  have neT : (T.toList != T.toList) = false := by simp
  have nec : (ec != ec) = false := by simp
  clear hC1 hQ1 hP1 hCr q0' q1' p0' hK hKR hqa hqb hp C1
  replace hA1 := Lib.hid hA1; replace hAr := Lib.hid hAr; replace hqR1 := Lib.hid hqR1; replace hqA1 := Lib.hid hqA1; replace hpR1 := Lib.hid hpR1; replace hK1 := Lib.hid hK1; replace hKR1 := Lib.hid hKR1; replace hC1a := Lib.hid hC1a; replace hfp := Lib.hid hfp; replace hrf := Lib.hid hrf; replace hft := Lib.hid hft; replace hT := Lib.hid hT; replace hec := Lib.hid hec; replace h8 := Lib.hid h8; replace hqn := Lib.hid hqn; replace b1 := Lib.hid b1; replace lcc := Lib.hid lcc; replace hcc := Lib.hid hcc
  go_enter Tryz.func22, Tryz.ntmps22
  go_upto_region 1 with fail
  try rw [hw1]
  clear hw1
  go_wp2_with fail
  refine (pieced_any g q n cap o _ hqn.out p1 p2).mono ?_
  rintro e w2 ⟨rfl, b2⟩
  obtain ⟨q0, q1, p0, p1'⟩ := hA1.out _ b2
  go_wp2_with fail
  refine (hfp.out _ _ (hqR1.out _ b2)).mono ?_
  rintro e w3 ⟨b3, rfl⟩
  replace b3 := b2.trans (b3.mono b2.size)
  obtain ⟨q0, q1, p0, p1'⟩ := hA1.out _ b3
  clear b2
  go_wp2_with fail
  refine (docPolicy_any rs o vp _ (hpR1.out _ b3) hN).mono ?_
  rintro e w4 ⟨dv, dC, _, rfl, down, b4⟩
  have hdR := (Reads.of_own down).rules h8.out
  replace b4 := b3.trans (b4.mono b3.size)
  obtain ⟨q0, q1, p0, p1'⟩ := hA1.out _ b4
  clear b3 down
  go_wp2_with fail
  refine (hrf.out _ _ hdR).mono ?_
  rintro e w5 ⟨b5, rfl⟩
  replace b5 := b4.trans (b5.mono b4.size)
  obtain ⟨q0, q1, p0, p1'⟩ := hA1.out _ b5
  clear b4 hdR
  go_wp2_with fail
  refine (num_any _ _).mono ?_
  rintro e w6 ⟨rfl, rfl⟩
  have hcr := hAr.out _ b5
  go_wp2_with (refine wpList_load_mid rfl 30 _ rfl (w.heap.size + 1 + 1) 0 rfl cc _ hcr Tryz.underlying30 rfl (by rw [lcc.out]; exact infoClm) ?_)
  refine (hft.out _ (hKR1.out _ b5)).mono ?_
  rintro e w7 ⟨rfl, b7⟩
  replace b7 := b5.trans (b7.mono b5.size)
  clear b5 hcr
  obtain ⟨D, hD⟩ : ∃ D, fitD nc da same = D := ⟨_, rfl⟩
  have lD : D.length = 8 := by rw [← hD]; unfold fitD; split <;> assumption
  rw [hD]
  obtain ⟨G, hG⟩ : ∃ G, fitT KL sd me tg D right = G := ⟨_, rfl⟩
  have lG : G.length = 8 := by rw [← hG]; unfold fitT; split; exact attF_len _ _ _ _; exact lt
  rw [hG]
  obtain ⟨qc, hqc⟩ : ∃ qc, vw me ++ vw D ++ vw G = qc := ⟨_, rfl⟩
  have lq : qc.length = 24 := by rw [← hqc]; simp [lm, lD, lG]
  have oq : ∀ u ∈ qc, u.oneCell' = true := by rw [← hqc]; exact quote_one me D G
  rw [hqc]
  obtain ⟨q0, q1, p0, p1'⟩ := hA1.out _ b7
  replace b7 := Lib.hid b7; replace lD := Lib.hid lD; replace lG := Lib.hid lG; replace hqc := Lib.hid hqc; replace lq := Lib.hid lq; replace oq := Lib.hid oq; replace hD := Lib.hid hD; replace hG := Lib.hid hG
  go_upto_region 6 with (refine wpList_store_blk rfl 28 _ _ rfl w7.heap.size qc rfl rfl 28 _ (heap_alloc_new _ _) (by rw [lq.out]; exact info38) (by rw [lq.out]; rfl) oq.out ?_; intro w8 hQ8 g8)
  have b8 := below_new g8
  have Q8 : Quo w8 w7.heap.size me D G := Quo.new (by rw [hqc.out]; exact hQ8) lm lD.out lG.out
  replace b8 := b7.out.trans (b8.mono b7.out.size)
  obtain ⟨q0, q1, p0, p1'⟩ := hA1.out _ b8
  have hsd := (hC1a.out _ b8).seed
  obtain ⟨K, hKk⟩ : ∃ K, keyF KL sd = K := ⟨_, rfl⟩
  have lK : K.length = 8 := by rw [← hKk]; exact keyF_len _ _
  have hky := rkey_any KL sd w8 (hKR1.out _ b8) ls
  rw [hKk] at hky
  clear g8 hQ8
  replace b8 := Lib.hid b8; replace Q8 := Lib.hid Q8; replace lK := Lib.hid lK; replace hky := Lib.hid hky; replace hKk := Lib.hid hKk
  go_wp2_with (refine wpList_load_mid rfl 26 _ rfl (w.heap.size + 1 + 1) 0 rfl (vw sd) _ hsd Tryz.underlying26 rfl (by rw [length_vw, ls]; exact info23) ?_)
  refine hky.out.mono ?_
  rintro e w9 ⟨rfl, b9⟩
  have Q9 := Lib.hid (Q8.out.below b9)
  replace b9 := Lib.hid (b8.out.trans (b9.mono b8.out.size))
  clear hsd hky b8 Q8
  obtain ⟨q0, q1, p0, p1'⟩ := hA1.out _ b9.out
  go_upto_region 7 with (refine wpList_store_blk rfl 26 _ _ rfl w9.heap.size (vw K) rfl rfl 26 _ (heap_alloc_new _ _) (by rw [length_vw, lK.out]; exact info23) (by rw [length_vw, lK.out]; rfl) (vw_oneCell K) ?_; intro w10 hK10b g10)
  have b10 := below_new g10
  have Q10 := Q9.out.below b10
  replace b10 := b9.out.trans (b10.mono b9.out.size)
  have C10 := hC1a.out _ b10
  replace lD := lD.out; replace lG := lG.out; replace lK := lK.out
  obtain ⟨q0, q1, p0, p1'⟩ := hA1.out _ b10
  have dm0 : w10.cell? ⟨w7.heap.size, 0, none⟩ = some (.int .u32 (wAt me 0)) := rangeCell 0 me 0 Q10.r0 lm (by omega)
  have dm1 : w10.cell? ⟨w7.heap.size, 1, none⟩ = some (.int .u32 (wAt me 1)) := rangeCell 0 me 1 Q10.r0 lm (by omega)
  have dm2 : w10.cell? ⟨w7.heap.size, 2, none⟩ = some (.int .u32 (wAt me 2)) := rangeCell 0 me 2 Q10.r0 lm (by omega)
  have dm3 : w10.cell? ⟨w7.heap.size, 3, none⟩ = some (.int .u32 (wAt me 3)) := rangeCell 0 me 3 Q10.r0 lm (by omega)
  have dm4 : w10.cell? ⟨w7.heap.size, 4, none⟩ = some (.int .u32 (wAt me 4)) := rangeCell 0 me 4 Q10.r0 lm (by omega)
  have dm5 : w10.cell? ⟨w7.heap.size, 5, none⟩ = some (.int .u32 (wAt me 5)) := rangeCell 0 me 5 Q10.r0 lm (by omega)
  have dm6 : w10.cell? ⟨w7.heap.size, 6, none⟩ = some (.int .u32 (wAt me 6)) := rangeCell 0 me 6 Q10.r0 lm (by omega)
  have dm7 : w10.cell? ⟨w7.heap.size, 7, none⟩ = some (.int .u32 (wAt me 7)) := rangeCell 0 me 7 Q10.r0 lm (by omega)
  have dd0 : w10.cell? ⟨w7.heap.size, 8, none⟩ = some (.int .u32 (wAt D 0)) := rangeCell 8 D 0 Q10.r1 lD (by omega)
  have dd1 : w10.cell? ⟨w7.heap.size, 9, none⟩ = some (.int .u32 (wAt D 1)) := rangeCell 8 D 1 Q10.r1 lD (by omega)
  have dd2 : w10.cell? ⟨w7.heap.size, 10, none⟩ = some (.int .u32 (wAt D 2)) := rangeCell 8 D 2 Q10.r1 lD (by omega)
  have dd3 : w10.cell? ⟨w7.heap.size, 11, none⟩ = some (.int .u32 (wAt D 3)) := rangeCell 8 D 3 Q10.r1 lD (by omega)
  have dd4 : w10.cell? ⟨w7.heap.size, 12, none⟩ = some (.int .u32 (wAt D 4)) := rangeCell 8 D 4 Q10.r1 lD (by omega)
  have dd5 : w10.cell? ⟨w7.heap.size, 13, none⟩ = some (.int .u32 (wAt D 5)) := rangeCell 8 D 5 Q10.r1 lD (by omega)
  have dd6 : w10.cell? ⟨w7.heap.size, 14, none⟩ = some (.int .u32 (wAt D 6)) := rangeCell 8 D 6 Q10.r1 lD (by omega)
  have dd7 : w10.cell? ⟨w7.heap.size, 15, none⟩ = some (.int .u32 (wAt D 7)) := rangeCell 8 D 7 Q10.r1 lD (by omega)
  have dg0 : w10.cell? ⟨w7.heap.size, 16, none⟩ = some (.int .u32 (wAt G 0)) := rangeCell 16 G 0 Q10.r2 lG (by omega)
  have dg1 : w10.cell? ⟨w7.heap.size, 17, none⟩ = some (.int .u32 (wAt G 1)) := rangeCell 16 G 1 Q10.r2 lG (by omega)
  have dg2 : w10.cell? ⟨w7.heap.size, 18, none⟩ = some (.int .u32 (wAt G 2)) := rangeCell 16 G 2 Q10.r2 lG (by omega)
  have dg3 : w10.cell? ⟨w7.heap.size, 19, none⟩ = some (.int .u32 (wAt G 3)) := rangeCell 16 G 3 Q10.r2 lG (by omega)
  have dg4 : w10.cell? ⟨w7.heap.size, 20, none⟩ = some (.int .u32 (wAt G 4)) := rangeCell 16 G 4 Q10.r2 lG (by omega)
  have dg5 : w10.cell? ⟨w7.heap.size, 21, none⟩ = some (.int .u32 (wAt G 5)) := rangeCell 16 G 5 Q10.r2 lG (by omega)
  have dg6 : w10.cell? ⟨w7.heap.size, 22, none⟩ = some (.int .u32 (wAt G 6)) := rangeCell 16 G 6 Q10.r2 lG (by omega)
  have dg7 : w10.cell? ⟨w7.heap.size, 23, none⟩ = some (.int .u32 (wAt G 7)) := rangeCell 16 G 7 Q10.r2 lG (by omega)
  have dk0 : w10.cell? ⟨w9.heap.size, 0, none⟩ = some (.int .u32 (wAt K 0)) := rangeCell 0 K 0 (range_block hK10b) lK (by omega)
  have dk1 : w10.cell? ⟨w9.heap.size, 1, none⟩ = some (.int .u32 (wAt K 1)) := rangeCell 0 K 1 (range_block hK10b) lK (by omega)
  have dk2 : w10.cell? ⟨w9.heap.size, 2, none⟩ = some (.int .u32 (wAt K 2)) := rangeCell 0 K 2 (range_block hK10b) lK (by omega)
  have dk3 : w10.cell? ⟨w9.heap.size, 3, none⟩ = some (.int .u32 (wAt K 3)) := rangeCell 0 K 3 (range_block hK10b) lK (by omega)
  have dk4 : w10.cell? ⟨w9.heap.size, 4, none⟩ = some (.int .u32 (wAt K 4)) := rangeCell 0 K 4 (range_block hK10b) lK (by omega)
  have dk5 : w10.cell? ⟨w9.heap.size, 5, none⟩ = some (.int .u32 (wAt K 5)) := rangeCell 0 K 5 (range_block hK10b) lK (by omega)
  have dk6 : w10.cell? ⟨w9.heap.size, 6, none⟩ = some (.int .u32 (wAt K 6)) := rangeCell 0 K 6 (range_block hK10b) lK (by omega)
  have dk7 : w10.cell? ⟨w9.heap.size, 7, none⟩ = some (.int .u32 (wAt K 7)) := rangeCell 0 K 7 (range_block hK10b) lK (by omega)
  have dn0 : w10.cell? ⟨w.heap.size + 1 + 1, 8, none⟩ = some (.int .u32 (wAt nc 0)) := rangeCell 8 nc 0 C10.nonce ln (by omega)
  have dn1 : w10.cell? ⟨w.heap.size + 1 + 1, 9, none⟩ = some (.int .u32 (wAt nc 1)) := rangeCell 8 nc 1 C10.nonce ln (by omega)
  have dn2 : w10.cell? ⟨w.heap.size + 1 + 1, 10, none⟩ = some (.int .u32 (wAt nc 2)) := rangeCell 8 nc 2 C10.nonce ln (by omega)
  have dn3 : w10.cell? ⟨w.heap.size + 1 + 1, 11, none⟩ = some (.int .u32 (wAt nc 3)) := rangeCell 8 nc 3 C10.nonce ln (by omega)
  have dn4 : w10.cell? ⟨w.heap.size + 1 + 1, 12, none⟩ = some (.int .u32 (wAt nc 4)) := rangeCell 8 nc 4 C10.nonce ln (by omega)
  have dn5 : w10.cell? ⟨w.heap.size + 1 + 1, 13, none⟩ = some (.int .u32 (wAt nc 5)) := rangeCell 8 nc 5 C10.nonce ln (by omega)
  have dn6 : w10.cell? ⟨w.heap.size + 1 + 1, 14, none⟩ = some (.int .u32 (wAt nc 6)) := rangeCell 8 nc 6 C10.nonce ln (by omega)
  have dn7 : w10.cell? ⟨w.heap.size + 1 + 1, 15, none⟩ = some (.int .u32 (wAt nc 7)) := rangeCell 8 nc 7 C10.nonce ln (by omega)
  have hS7 : ∀ W : World, Below w10.heap.size w10 W → Hold7 w.heap.size w7.heap.size w9.heap.size g q cap o vp K me D G nc W := fun W hW => by
    have hb := fun (a b : Nat) (u : Value) (h : w10.cell? ⟨a, b, none⟩ = some u) => cell_below h hW
    exact ⟨hb _ _ _ q0, hb _ _ _ q1, hb _ _ _ dm0, hb _ _ _ dm1, hb _ _ _ dm2, hb _ _ _ dm3, hb _ _ _ dm4, hb _ _ _ dm5, hb _ _ _ dm6, hb _ _ _ dm7⟩
  have hS8 : ∀ W : World, Below w10.heap.size w10 W → Hold8 w.heap.size w7.heap.size w9.heap.size g q cap o vp K me D G nc W := fun W hW => by
    have hb := fun (a b : Nat) (u : Value) (h : w10.cell? ⟨a, b, none⟩ = some u) => cell_below h hW
    exact ⟨hb _ _ _ p0, hb _ _ _ p1', hb _ _ _ dm0, hb _ _ _ dm1, hb _ _ _ dm2, hb _ _ _ dm3, hb _ _ _ dm4, hb _ _ _ dm5, hb _ _ _ dm6, hb _ _ _ dm7⟩
  have hS9 : ∀ W : World, Below w10.heap.size w10 W → (fun w' : World => w'.cell? ⟨w.heap.size, 0, none⟩ = some (.slice (some ⟨g, 0, none⟩) q cap) ∧ w'.cell? ⟨w.heap.size, 1, none⟩ = some (.bool o) ∧ w'.rangeAt w7.heap.size 0 qc ∧ w'.rangeAt w9.heap.size 0 (vw K) ∧ w'.rangeAt (w.heap.size + 1 + 1) 8 (vw nc)) W := fun W hW =>
    ⟨cell_below q0 hW, cell_below q1 hW, rangeAt_kept (by have h := Q10.whole lm lD; rw [hqc.out] at h; exact h) (hW.block _ Q10.lt), rangeAt_kept (range_block hK10b) (hW.block _ (Array.getElem?_eq_some_iff.1 hK10b).1), rangeAt_kept C10.nonce (hW.block _ C10.lt)⟩
  have hS10 : ∀ W : World, Below w10.heap.size w10 W → (fun w' : World => w'.cell? ⟨w.heap.size + 1, 0, none⟩ = some vp ∧ w'.cell? ⟨w.heap.size + 1, 1, none⟩ = some (.bool o) ∧ w'.rangeAt w7.heap.size 0 qc ∧ w'.rangeAt w9.heap.size 0 (vw K) ∧ w'.rangeAt (w.heap.size + 1 + 1) 8 (vw nc)) W := fun W hW =>
    ⟨cell_below p0 hW, cell_below p1' hW, rangeAt_kept (by have h := Q10.whole lm lD; rw [hqc.out] at h; exact h) (hW.block _ Q10.lt), rangeAt_kept (range_block hK10b) (hW.block _ (Array.getElem?_eq_some_iff.1 hK10b).1), rangeAt_kept C10.nonce (hW.block _ C10.lt)⟩
  have hqR : ∀ W, Below w10.heap.size w10 W → Rules W (.slice (some ⟨g, 0, none⟩) n cap) rs := fun W hW => hqR1.out _ (b10.trans (hW.mono b10.size))
  have hqA : ∀ W, Below w10.heap.size w10 W → Rules W (.slice (some ⟨g, 0, none⟩) q cap) (rs ++ List.replicate 120 (mkR spareB)) := fun W hW => hqA1.out _ (b10.trans (hW.mono b10.size))
  have hpR : ∀ W, Below w10.heap.size w10 W → Rules W vp rs := fun W hW => hpR1.out _ (b10.trans (hW.mono b10.size))
  have hK10 : ∀ W, Below w10.heap.size w10 W → Rounds W KL := fun W hW => hK1.out _ (b10.trans (hW.mono b10.size))
  have hKR10 : ∀ W, Below w10.heap.size w10 W → RoundsR W KL := fun W hW => hKR1.out _ (b10.trans (hW.mono b10.size))
  have hQP : ∀ W, Below w10.heap.size w10 W → W.cell? ⟨w.heap.size, 0, none⟩ = some (.slice (some ⟨g, 0, none⟩) q cap) ∧ W.cell? ⟨w.heap.size, 1, none⟩ = some (.bool o) ∧ W.cell? ⟨w.heap.size + 1, 0, none⟩ = some vp ∧ W.cell? ⟨w.heap.size + 1, 1, none⟩ = some (.bool o) := fun W hW => ⟨cell_below q0 hW, cell_below q1 hW, cell_below p0 hW, cell_below p1' hW⟩
  have vm := vw_lit8 me lm; have vK := vw_lit8 K lK; have vn := vw_lit8 nc ln; have vq := vq_lit me D G lm lD lG
  have hB : Below w10.heap.size w10 w10 := Below.refl _ _
  have hbw := b1.out.trans (b10.mono (by have := b1.out.size; omega))
  have vqc := vq
  have hdocq := fun W => doc_any me D G W lm lD lG
  have hrjq := fun v W h1 h2 => rjudge_any KL K rs o me D G nc v W h1 h2 lK lm lD lG ln
  have hjq := fun v W h1 h2 => judge_any KL K rs o me D G nc v W h1 h2 lK lm lD lG ln
  rw [hqc.out] at vqc hdocq hrjq hjq
  clear vq
  obtain ⟨dy, dnm, hdec⟩ : ∃ y m, decF rs o me = (y, m) := ⟨_, _, rfl⟩
  obtain ⟨jx, ji, hjud⟩ : ∃ x i, jF KL K rs o me D G nc = (x, i) := ⟨_, _, rfl⟩
  rw [hjud] at hrjq hjq
  replace hjq := Lib.hid hjq
  replace vqc := Lib.hid vqc; replace hdocq := Lib.hid hdocq; replace hrjq := Lib.hid hrjq
  have eq1 : (dy == dy) = true := by simp
  have eq2 : (dnm.toList == dnm.toList) = true := by simp
  have eq3 : (jx.toList == jx.toList) = true := by simp
  have eq4 : (ji == ji) = true := by simp
  clear dm0 dm1 dm2 dm3 dm4 dm5 dm6 dm7 dd0 dd1 dd2 dd3 dd4 dd5 dd6 dd7 dg0 dg1 dg2 dg3 dg4 dg5 dg6 dg7 dk0 dk1 dk2 dk3 dk4 dk5 dk6 dk7 dn0 dn1 dn2 dn3 dn4 dn5 dn6 dn7 q0 q1 p0 p1' g10 hK10b Q10 C10 b9 Q9 b10 b7 hA1 hAr hqR1 hqA1 hpR1 hK1 hKR1 hC1a hfp hrf hft
  replace hQP := Lib.hid hQP; replace hS7 := Lib.hid hS7; replace hS8 := Lib.hid hS8; replace hS9 := Lib.hid hS9; replace hS10 := Lib.hid hS10; replace hqR := Lib.hid hqR; replace hqA := Lib.hid hqA; replace hpR := Lib.hid hpR; replace hK10 := Lib.hid hK10; replace hKR10 := Lib.hid hKR10; replace vm := Lib.hid vm; replace vK := Lib.hid vK; replace vn := Lib.hid vn; replace hbw := Lib.hid hbw; replace hdec := Lib.hid hdec; replace hjud := Lib.hid hjud; replace lD := Lib.hid lD; replace lG := Lib.hid lG; replace lK := Lib.hid lK
  go_upto_region 7 with fail
  go_region_held3 (Hold7 w.heap.size w7.heap.size w9.heap.size g q cap o vp K me D G nc)
    (exact hS7.out _ (by first | with_reducible exact hB | with_reducible exact hB.drew | with_reducible exact hB.drew.drew))
    (first
    | (go_at_call 35
       refine (pieced_any g q n cap o _ hqn.out p1 p2).mono ?_
       rintro e wa ⟨rfl, ba⟩
       replace hB := Below.trans (by first | with_reducible exact hB | with_reducible exact hB.drew | with_reducible exact hB.drew.drew) (ba.mono (by exact hB.size))
       clear ba)
    | (go_at_call 40
       rw [← vm.out]
       refine (decide_any rs o me _ _ (hqR.out _ (by first | with_reducible exact hB | with_reducible exact hB.drew | with_reducible exact hB.drew.drew)) lm).mono ?_
       rintro e wb ⟨rfl, bb⟩
       rw [hdec.out]
       replace hB := Below.trans (by first | with_reducible exact hB | with_reducible exact hB.drew | with_reducible exact hB.drew.drew) (bb.mono (by exact hB.size))
       clear bb))
  clear hS7
  go_upto_region 8 with fail
  go_region_held3 (Hold8 w.heap.size w7.heap.size w9.heap.size g q cap o vp K me D G nc)
    (exact hS8.out _ (by first | with_reducible exact hB | with_reducible exact hB.drew | with_reducible exact hB.drew.drew))
    (first
    | (go_at_call 37
       refine (docPolicy_any rs o vp _ (hpR.out _ (by first | with_reducible exact hB | with_reducible exact hB.drew | with_reducible exact hB.drew.drew)) hN).mono ?_
       rintro e wa ⟨dv, dC, _, rfl, down, ba⟩
       have hdR : ∀ W, Below wa.heap.size wa W → Rules W dv rs := fun W hW => ((Reads.of_own down).rules h8.out).below hW
       have hBd : Below wa.heap.size wa wa := Below.refl _ _
       replace hdR := Lib.hid hdR
       replace hB := Below.trans (by first | with_reducible exact hB | with_reducible exact hB.drew | with_reducible exact hB.drew.drew) (ba.mono (by exact hB.size))
       clear ba down)
    | (go_at_call 41
       rw [← vm.out]
       refine (rdecide_any rs o me dv _ (hdR.out _ (by first | with_reducible exact hBd | with_reducible exact hBd.drew)) lm).mono ?_
       rintro e wb ⟨rfl, bb⟩
       rw [hdec.out]
       replace hB := Below.trans (by first | with_reducible exact hB | with_reducible exact hB.drew | with_reducible exact hB.drew.drew) (bb.mono (by exact hB.size))
       clear bb))
  clear hS8 hdR hBd
  go_upto_region 9 with fail
  refine wp_region_held_drew (S := fun w' : World => w'.cell? ⟨w.heap.size, 0, none⟩ = some (.slice (some ⟨g, 0, none⟩) q cap) ∧ w'.cell? ⟨w.heap.size, 1, none⟩ = some (.bool o) ∧ w'.rangeAt w7.heap.size 0 qc ∧ w'.rangeAt w9.heap.size 0 (vw K) ∧ w'.rangeAt (w.heap.size + 1 + 1) 8 (vw nc)) (by kernel_rfl) (hS9.out _ (by first | with_reducible exact hB | with_reducible exact hB.drew | with_reducible exact hB.drew.drew)) (fun hHeld => ?_)
  refine wpAnyH_take (i := 0) rfl (by kernel_rfl) (by kernel_rfl) (by kernel_rfl) (fun _ _ _ h => h) (yieldsIf_load_mid (by rfl) 26 _ rfl _ _ rfl (vw K) _ (fun w' h => h.2.2.2.1) Tryz.underlying26 rfl (by rw [length_vw, lK.out]; exact info23)) (by assumption) ?_
  try simp only [Act.put, List.getElem_toArray, List.getElem_cons_succ, List.getElem_cons_zero, List.setIfInBounds_toArray, List.set_cons_zero, List.set_cons_succ]
  refine wpAnyH_take (i := 1) (v := ?v1) rfl (by kernel_rfl) (by kernel_rfl) (by kernel_rfl) (fun _ _ _ h => h) (Or.inl ⟨by rfl, ?h1⟩) (by assumption) ?r1
  case h1 =>
    intro w' hSw
    try dsimp only at hSw
    go_simp
    try with_reducible rfl
  try simp only [Act.put, List.getElem_toArray, List.getElem_cons_succ, List.getElem_cons_zero, List.setIfInBounds_toArray, List.set_cons_zero, List.set_cons_succ]
  refine wpAnyH_take (i := 3) rfl (by kernel_rfl) (by kernel_rfl) (by kernel_rfl) (fun _ _ _ h => h) (yieldsIf_load_mid (by rfl) 28 _ rfl _ _ rfl qc _ (fun w' h => h.2.2.1) Tryz.underlying28 rfl (by rw [lq.out]; exact info38)) (by assumption) ?_
  try simp only [Act.put, List.getElem_toArray, List.getElem_cons_succ, List.getElem_cons_zero, List.setIfInBounds_toArray, List.set_cons_zero, List.set_cons_succ]
  refine wpAnyH_take (i := 4) (v := ?v2) rfl (by kernel_rfl) (by kernel_rfl) (by kernel_rfl) (fun _ _ _ h => h) (Or.inl ⟨by rfl, ?h2⟩) (by assumption) ?r2
  case h2 =>
    intro w' hSw
    try dsimp only at hSw
    go_simp
    try with_reducible rfl
  try simp only [Act.put, List.getElem_toArray, List.getElem_cons_succ, List.getElem_cons_zero, List.setIfInBounds_toArray, List.set_cons_zero, List.set_cons_succ]
  refine wpAnyH_take (i := 5) rfl (by kernel_rfl) (by kernel_rfl) (by kernel_rfl) (fun _ _ _ h => h) (yieldsIf_load_mid (by rfl) 26 _ rfl _ _ rfl (vw nc) _ (fun w' h => h.2.2.2.2) Tryz.underlying26 rfl (by rw [length_vw, ln]; exact info23)) (by assumption) ?_
  try simp only [Act.put, List.getElem_toArray, List.getElem_cons_succ, List.getElem_cons_zero, List.setIfInBounds_toArray, List.set_cons_zero, List.set_cons_succ]
  refine wpAnyH_ready (rs := [2]) (by kernel_rfl) (by simp) ?_
  refine AllReadyH.cons (o := _) rfl (fun K hK => ?step3) ?more3
  case step3 =>
    go_simp
    refine (pieced_any g q n cap o _ hqn.out p1 p2).mono ?_
    rintro e wa ⟨rfl, ba⟩
    replace hB := Below.trans (by first | with_reducible exact hB | with_reducible exact hB.drew | with_reducible exact hB.drew.drew) (ba.mono (by exact hB.size))
    clear ba
    try dsimp only
    refine hK.out _ _ (hS9.out _ (by first | with_reducible exact hB | with_reducible exact hB.drew | with_reducible exact hB.drew.drew)) (fun hHeld => ?_)
    clear hK K
    try simp only [Act.put, List.getElem_toArray, List.getElem_cons_succ, List.getElem_cons_zero, List.setIfInBounds_toArray, List.set_cons_zero, List.set_cons_succ]
    refine wpAnyH_ready (rs := [6]) (by kernel_rfl) (by simp) ?_
    refine AllReadyH.cons (o := _) rfl (fun K hK => ?step4) ?more4
    case step4 =>
      go_simp
      refine (hjq.out _ _ (hK10.out _ (by first | with_reducible exact hB | with_reducible exact hB.drew | with_reducible exact hB.drew.drew)) (hqR.out _ (by first | with_reducible exact hB | with_reducible exact hB.drew | with_reducible exact hB.drew.drew))).mono ?_
      rintro e wb ⟨rfl, bb⟩
      replace hB := Below.trans (by first | with_reducible exact hB | with_reducible exact hB.drew | with_reducible exact hB.drew.drew) (bb.mono (by exact hB.size))
      clear bb
      try dsimp only
      refine hK.out _ _ (hS9.out _ (by first | with_reducible exact hB | with_reducible exact hB.drew | with_reducible exact hB.drew.drew)) (fun hHeld => ?_)
      clear hK K
      try simp only [Act.put, List.getElem_toArray, List.getElem_cons_succ, List.getElem_cons_zero, List.setIfInBounds_toArray, List.set_cons_zero, List.set_cons_succ]
      refine wpAnyH_take (i := 7) (v := ?v5) rfl (by kernel_rfl) (by kernel_rfl) (by kernel_rfl) (fun _ _ _ h => h) (Or.inl ⟨by rfl, ?h5⟩) (by assumption) ?r5
      case h5 =>
        intro w' hSw
        try dsimp only at hSw
        go_simp
        try with_reducible rfl
      try simp only [Act.put, List.getElem_toArray, List.getElem_cons_succ, List.getElem_cons_zero, List.setIfInBounds_toArray, List.set_cons_zero, List.set_cons_succ]
      refine wpAnyH_take (i := 8) (v := ?v6) rfl (by kernel_rfl) (by kernel_rfl) (by kernel_rfl) (fun _ _ _ h => h) (Or.inl ⟨by rfl, ?h6⟩) (by assumption) ?r6
      case h6 =>
        intro w' hSw
        try dsimp only at hSw
        go_simp
        try with_reducible rfl
      try simp only [Act.put, List.getElem_toArray, List.getElem_cons_succ, List.getElem_cons_zero, List.setIfInBounds_toArray, List.set_cons_zero, List.set_cons_succ]
      refine wpAnyH_take (i := 9) (v := ?v7) rfl (by kernel_rfl) (by kernel_rfl) (by kernel_rfl) (fun _ _ _ h => h) (Or.inl ⟨by rfl, ?h7⟩) (by assumption) ?r7
      case h7 =>
        intro w' hSw
        try dsimp only at hSw
        go_simp
        try with_reducible rfl
      try simp only [Act.put, List.getElem_toArray, List.getElem_cons_succ, List.getElem_cons_zero, List.setIfInBounds_toArray, List.set_cons_zero, List.set_cons_succ]
      refine wpAnyH_take (i := 10) (v := ?v8) rfl (by kernel_rfl) (by kernel_rfl) (by kernel_rfl) (fun _ _ _ h => h) (Or.inl ⟨by rfl, ?h8⟩) (by assumption) ?r8
      case h8 =>
        intro w' hSw
        try dsimp only at hSw
        go_simp
        try with_reducible rfl
      try simp only [Act.put, List.getElem_toArray, List.getElem_cons_succ, List.getElem_cons_zero, List.setIfInBounds_toArray, List.set_cons_zero, List.set_cons_succ]
      refine wpAnyH_take (i := 11) (v := ?v9) rfl (by kernel_rfl) (by kernel_rfl) (by kernel_rfl) (fun _ _ _ h => h) (Or.inl ⟨by rfl, ?h9⟩) (by assumption) ?r9
      case h9 =>
        intro w' hSw
        try dsimp only at hSw
        go_simp
        try with_reducible rfl
      try simp only [Act.put, List.getElem_toArray, List.getElem_cons_succ, List.getElem_cons_zero, List.setIfInBounds_toArray, List.set_cons_zero, List.set_cons_succ]
      refine wpAnyH_done (by kernel_rfl) ?_ _
      clear hS9
      go_upto_region 10 with fail
      refine wp_region_held_drew (S := fun w' : World => w'.cell? ⟨w.heap.size + 1, 0, none⟩ = some vp ∧ w'.cell? ⟨w.heap.size + 1, 1, none⟩ = some (.bool o) ∧ w'.rangeAt w7.heap.size 0 qc ∧ w'.rangeAt w9.heap.size 0 (vw K) ∧ w'.rangeAt (w.heap.size + 1 + 1) 8 (vw nc)) (by kernel_rfl) (hS10.out _ (by first | with_reducible exact hB | with_reducible exact hB.drew | with_reducible exact hB.drew.drew)) (fun hHeld => ?_)
      refine wpAnyH_take (i := 0) rfl (by kernel_rfl) (by kernel_rfl) (by kernel_rfl) (fun _ _ _ h => h) (yieldsIf_load_mid (by rfl) 26 _ rfl _ _ rfl (vw K) _ (fun w' h => h.2.2.2.1) Tryz.underlying26 rfl (by rw [length_vw, lK.out]; exact info23)) (by assumption) ?_
      try simp only [Act.put, List.getElem_toArray, List.getElem_cons_succ, List.getElem_cons_zero, List.setIfInBounds_toArray, List.set_cons_zero, List.set_cons_succ]
      refine wpAnyH_take (i := 1) (v := ?v10) rfl (by kernel_rfl) (by kernel_rfl) (by kernel_rfl) (fun _ _ _ h => h) (Or.inl ⟨by rfl, ?h10⟩) (by assumption) ?r10
      case h10 =>
        intro w' hSw
        try dsimp only at hSw
        go_simp
        try with_reducible rfl
      try simp only [Act.put, List.getElem_toArray, List.getElem_cons_succ, List.getElem_cons_zero, List.setIfInBounds_toArray, List.set_cons_zero, List.set_cons_succ]
      refine wpAnyH_take (i := 3) rfl (by kernel_rfl) (by kernel_rfl) (by kernel_rfl) (fun _ _ _ h => h) (yieldsIf_load_mid (by rfl) 28 _ rfl _ _ rfl qc _ (fun w' h => h.2.2.1) Tryz.underlying28 rfl (by rw [lq.out]; exact info38)) (by assumption) ?_
      try simp only [Act.put, List.getElem_toArray, List.getElem_cons_succ, List.getElem_cons_zero, List.setIfInBounds_toArray, List.set_cons_zero, List.set_cons_succ]
      refine wpAnyH_take (i := 5) (v := ?v11) rfl (by kernel_rfl) (by kernel_rfl) (by kernel_rfl) (fun _ _ _ h => h) (Or.inl ⟨by rfl, ?h11⟩) (by assumption) ?r11
      case h11 =>
        intro w' hSw
        try dsimp only at hSw
        go_simp
        try with_reducible rfl
      try simp only [Act.put, List.getElem_toArray, List.getElem_cons_succ, List.getElem_cons_zero, List.setIfInBounds_toArray, List.set_cons_zero, List.set_cons_succ]
      refine wpAnyH_take (i := 6) rfl (by kernel_rfl) (by kernel_rfl) (by kernel_rfl) (fun _ _ _ h => h) (yieldsIf_load_mid (by rfl) 26 _ rfl _ _ rfl (vw nc) _ (fun w' h => h.2.2.2.2) Tryz.underlying26 rfl (by rw [length_vw, ln]; exact info23)) (by assumption) ?_
      try simp only [Act.put, List.getElem_toArray, List.getElem_cons_succ, List.getElem_cons_zero, List.setIfInBounds_toArray, List.set_cons_zero, List.set_cons_succ]
      refine wpAnyH_ready (rs := [2]) (by kernel_rfl) (by simp) ?_
      refine AllReadyH.cons (o := _) rfl (fun K hK => ?step12) ?more12
      case step12 =>
        go_simp
        refine (docPolicy_any rs o vp _ (hpR.out _ (by first | with_reducible exact hB | with_reducible exact hB.drew | with_reducible exact hB.drew.drew)) hN).mono ?_
        rintro e wa ⟨dv, dC, _, rfl, down, ba⟩
        have hdR : ∀ W, Below wa.heap.size wa W → Rules W dv rs := fun W hW => ((Reads.of_own down).rules h8.out).below hW
        have hBd : Below wa.heap.size wa wa := Below.refl _ _
        replace hdR := Lib.hid hdR
        replace hB := Below.trans (by first | with_reducible exact hB | with_reducible exact hB.drew | with_reducible exact hB.drew.drew) (ba.mono (by exact hB.size))
        clear ba down
        try dsimp only
        refine hK.out _ _ (hS10.out _ (by first | with_reducible exact hB | with_reducible exact hB.drew | with_reducible exact hB.drew.drew)) (fun hHeld => ?_)
        clear hK K
        try simp only [Act.put, List.getElem_toArray, List.getElem_cons_succ, List.getElem_cons_zero, List.setIfInBounds_toArray, List.set_cons_zero, List.set_cons_succ]
        refine wpAnyH_ready (rs := [4]) (by kernel_rfl) (by simp) ?_
        refine AllReadyH.cons (o := _) rfl (fun K hK => ?step13) ?more13
        case step13 =>
          go_simp
          refine (hdocq.out _).mono ?_
          rintro e wc ⟨rfl, bc⟩
          replace hB := Below.trans (by first | with_reducible exact hB | with_reducible exact hB.drew | with_reducible exact hB.drew.drew) (bc.mono (by exact hB.size))
          replace hBd := Below.trans hBd (bc.mono (by exact hBd.size))
          clear bc
          try dsimp only
          refine hK.out _ _ (hS10.out _ (by first | with_reducible exact hB | with_reducible exact hB.drew | with_reducible exact hB.drew.drew)) (fun hHeld => ?_)
          clear hK K
          try simp only [Act.put, List.getElem_toArray, List.getElem_cons_succ, List.getElem_cons_zero, List.setIfInBounds_toArray, List.set_cons_zero, List.set_cons_succ]
          refine wpAnyH_ready (rs := [7]) (by kernel_rfl) (by simp) ?_
          refine AllReadyH.cons (o := _) rfl (fun K hK => ?step14) ?more14
          case step14 =>
            go_simp
            refine (hrjq.out dv _ (hKR10.out _ (by first | with_reducible exact hB | with_reducible exact hB.drew | with_reducible exact hB.drew.drew)) (hdR.out _ (by first | with_reducible exact hBd | with_reducible exact hBd.drew))).mono ?_
            rintro e wb ⟨rfl, bb⟩
            replace hB := Below.trans (by first | with_reducible exact hB | with_reducible exact hB.drew | with_reducible exact hB.drew.drew) (bb.mono (by exact hB.size))
            clear bb
            try dsimp only
            refine hK.out _ _ (hS10.out _ (by first | with_reducible exact hB | with_reducible exact hB.drew | with_reducible exact hB.drew.drew)) (fun hHeld => ?_)
            clear hK K
            try simp only [Act.put, List.getElem_toArray, List.getElem_cons_succ, List.getElem_cons_zero, List.setIfInBounds_toArray, List.set_cons_zero, List.set_cons_succ]
            refine wpAnyH_take (i := 8) (v := ?v15) rfl (by kernel_rfl) (by kernel_rfl) (by kernel_rfl) (fun _ _ _ h => h) (Or.inl ⟨by rfl, ?h15⟩) (by assumption) ?r15
            case h15 =>
              intro w' hSw
              try dsimp only at hSw
              go_simp
              try with_reducible rfl
            try simp only [Act.put, List.getElem_toArray, List.getElem_cons_succ, List.getElem_cons_zero, List.setIfInBounds_toArray, List.set_cons_zero, List.set_cons_succ]
            refine wpAnyH_take (i := 9) (v := ?v16) rfl (by kernel_rfl) (by kernel_rfl) (by kernel_rfl) (fun _ _ _ h => h) (Or.inl ⟨by rfl, ?h16⟩) (by assumption) ?r16
            case h16 =>
              intro w' hSw
              try dsimp only at hSw
              go_simp
              try with_reducible rfl
            try simp only [Act.put, List.getElem_toArray, List.getElem_cons_succ, List.getElem_cons_zero, List.setIfInBounds_toArray, List.set_cons_zero, List.set_cons_succ]
            refine wpAnyH_take (i := 10) (v := ?v17) rfl (by kernel_rfl) (by kernel_rfl) (by kernel_rfl) (fun _ _ _ h => h) (Or.inl ⟨by rfl, ?h17⟩) (by assumption) ?r17
            case h17 =>
              intro w' hSw
              try dsimp only at hSw
              go_simp
              try with_reducible rfl
            try simp only [Act.put, List.getElem_toArray, List.getElem_cons_succ, List.getElem_cons_zero, List.setIfInBounds_toArray, List.set_cons_zero, List.set_cons_succ]
            refine wpAnyH_take (i := 11) (v := ?v18) rfl (by kernel_rfl) (by kernel_rfl) (by kernel_rfl) (fun _ _ _ h => h) (Or.inl ⟨by rfl, ?h18⟩) (by assumption) ?r18
            case h18 =>
              intro w' hSw
              try dsimp only at hSw
              go_simp
              try with_reducible rfl
            try simp only [Act.put, List.getElem_toArray, List.getElem_cons_succ, List.getElem_cons_zero, List.setIfInBounds_toArray, List.set_cons_zero, List.set_cons_succ]
            refine wpAnyH_take (i := 12) (v := ?v19) rfl (by kernel_rfl) (by kernel_rfl) (by kernel_rfl) (fun _ _ _ h => h) (Or.inl ⟨by rfl, ?h19⟩) (by assumption) ?r19
            case h19 =>
              intro w' hSw
              try dsimp only at hSw
              go_simp
              try with_reducible rfl
            try simp only [Act.put, List.getElem_toArray, List.getElem_cons_succ, List.getElem_cons_zero, List.setIfInBounds_toArray, List.set_cons_zero, List.set_cons_succ]
            refine wpAnyH_done (by kernel_rfl) ?_ _
            obtain ⟨q0e, q1e, p0e, p1e⟩ := hQP.out _ hB
            have hka := kept_any rs o o _ _ _ (hqA.out _ hB) (hpR.out _ hB) hN
            have hfb := hbw.out.trans (hB.mono (by have := hbw.out.size; omega))
            replace hka := Lib.hid hka; replace hfb := Lib.hid hfb
            clear hB hS10 hqR hqA hpR hK10 hKR10 hdR hBd vqc hdocq hrjq vm vK vn
            go_wp2_with fail
            refine (num_any _ _).mono ?_
            rintro e wd ⟨rfl, rfl⟩
            go_wp2_with fail
            refine hka.out.mono ?_
            rintro e we ⟨rfl, be⟩
            go_wp2_with fail
            go_ret
            exact ⟨rfl, hfb.out.trans (be.mono hfb.out.size)⟩
          exact AllReadyH.nil
        exact AllReadyH.nil
      exact AllReadyH.nil
    exact AllReadyH.nil
  exact AllReadyH.nil
end Go.Proofs.YtemanjahkohcpaaGreatDoor
