/- The walk of AttestTags. -/
import Derived.Test.YtemanjahkohcpaaDoorTDocJn
import Derived.Test.YtemanjahkohcpaaDoorJn45
namespace Go.Proofs.YtemanjahkohcpaaDoor
open Go.RowKit WP
theorem info40 : (Tryd.prog.info? 40).map (·.size) = some 42 := by kernel_rfl
theorem claimC_len (sd nc me da tg : List UInt32) (right same : Bool) (ls : sd.length = 8) (ln : nc.length = 8) (lm : me.length = 8) (ld : da.length = 8) (lt : tg.length = 8) : (claimC sd nc me da tg right same).length = 42 := by
  simp [claimC, ls, ln, lm, ld, lt]
/-- what Parse answers, in one form -/
def Parsed (s : ByteArray) (p0 p1 p2 : List UInt32) (c : Int) : Prop := p0.length = 8 ∧ p1.length = 8 ∧ p2.length = 8 ∧ ((fmtL p0 p1 p2 = strL s ∧ c = 0) ∨ (NoQuote s ∧ p0 = List.replicate 8 0 ∧ p1 = List.replicate 8 0 ∧ p2 = List.replicate 8 0 ∧ c = 160))
theorem Parsed.same {s : ByteArray} {p0 p1 p2 r0 r1 r2 : List UInt32} {c d : Int} (h : Parsed s p0 p1 p2 c) (h2 : Parsed s r0 r1 r2 d) : r0 = p0 ∧ r1 = p1 ∧ r2 = p2 ∧ d = c := by
  obtain ⟨a0, a1, a2, ⟨e1, rfl⟩ | ⟨n1, rfl, rfl, rfl, rfl⟩⟩ := h
  · obtain ⟨b0, b1, b2, ⟨e2, rfl⟩ | ⟨n2, _⟩⟩ := h2
    · obtain ⟨x, y, z⟩ := fmt_inj _ _ _ _ _ _ (e2.trans e1.symm)
      exact ⟨x, y, z, rfl⟩
    · exact absurd e1 (n2 _ _ _ a0 a1 a2)
  · obtain ⟨b0, b1, b2, ⟨e2, rfl⟩ | ⟨n2, rfl, rfl, rfl, rfl⟩⟩ := h2
    · exact absurd e2 (n1 _ _ _ b0 b1 b2)
    · exact ⟨rfl, rfl, rfl, rfl⟩
theorem parse_one (s : ByteArray) (u : TypeId) (x : Value) (m : Int) (w : World) (hs : s.size ≤ 2097152) (hE : w.cell? ⟨0, 0, none⟩ = some (.iface u x)) (hM : MaxL w m) :
    Calls Tryd.prog 18 #[.string s] w fun e w' => Below w.heap.size w w' ∧ ∃ p0 p1 p2 c, Parsed s p0 p1 p2 c ∧ e = .returned (.tuple #[.agg (vw p0 ++ vw p1 ++ vw p2).toArray, .int .i64 c]) := by
  refine (parse_all s u x m w hs hE hM).mono ?_
  rintro e w' ⟨hb, ⟨me, da, tg, h0, h1, h2, hf, rfl⟩ | ⟨hn, rfl⟩⟩
  · exact ⟨hb, me, da, tg, 0, ⟨h0, h1, h2, .inl ⟨hf, rfl⟩⟩, rfl⟩
  · exact ⟨hb, _, _, _, 160, ⟨by simp, by simp, by simp, .inr ⟨hn, rfl, rfl, rfl, rfl⟩⟩, by rw [← zero24_vw]⟩
theorem rparse_one (s : ByteArray) (w : World) (hs : s.size ≤ 2097152) :
    Calls Tryd.prog 23 #[.string s] w fun e w' => Below w.heap.size w w' ∧ ∃ p0 p1 p2 c, Parsed s p0 p1 p2 c ∧ e = .returned (.tuple #[.agg (vw p0 ++ vw p1 ++ vw p2).toArray, .int .i64 c]) := by
  refine (rparse_any s w hs).mono ?_
  rintro e w' ⟨hb, ⟨me, da, tg, h0, h1, h2, hf, rfl⟩ | ⟨hn, rfl⟩⟩
  · exact ⟨hb, me, da, tg, 0, ⟨h0, h1, h2, .inl ⟨hf, rfl⟩⟩, rfl⟩
  · exact ⟨hb, _, _, _, 160, ⟨by simp, by simp, by simp, .inr ⟨hn, rfl, rfl, rfl, rfl⟩⟩, by rw [← zero24_vw]⟩
set_option maxRecDepth 100000 in
set_option maxHeartbeats 4000000 in
theorem tags_any (KL sd nc me da tg : List UInt32) (right same : Bool) (s : ByteArray) (u : TypeId) (x : Value) (m : Int) (w : World) (hKp : Rounds w KL) (hKr : RoundsR w KL) (lsd : sd.length = 8) (lnc : nc.length = 8) (lme : me.length = 8) (lda : da.length = 8) (ltg : tg.length = 8) (hs : s.size ≤ 2097152)
    (hE : w.cell? ⟨0, 0, none⟩ = some (.iface u x)) (hM : MaxL w m) :
    Calls Tryd.prog 6 #[.agg (claimC sd nc me da tg right same).toArray, .string s] w fun e w' => e = .returned (.bool true) ∧ Below w.heap.size w w' := by
  have lcc := claimC_len sd nc me da tg right same lsd lnc lme lda ltg
  have hfit := fun w' h => fitted_any KL sd nc me da tg right same w' h lsd lnc lme lda ltg
  obtain ⟨w1, hw1⟩ : ∃ w1, w.alloc (.cells (claimC sd nc me da tg right same).toArray 40) = w1 := ⟨_, rfl⟩
  have hC : w1.heap[w.heap.size]? = some (.cells (claimC sd nc me da tg right same).toArray 40) := by rw [← hw1]; exact heap_alloc_new w _
  have hb1 : Below w.heap.size w w1 := by rw [← hw1]; exact (Below.refl _ _).alloc (Nat.le_refl _) _
  have C1 := Clm.new hC lsd lnc lme lda ltg
  obtain ⟨cc, hcc⟩ : ∃ cc, claimC sd nc me da tg right same = cc := ⟨_, rfl⟩
  rw [hcc] at hC lcc hfit hw1 ⊢
  obtain ⟨D, hD⟩ : ∃ D, fitD nc da same = D := ⟨_, rfl⟩
  have lD : D.length = 8 := by rw [← hD]; unfold fitD; split <;> assumption
  rw [hD] at hfit
  obtain ⟨G, hG⟩ : ∃ G, fitT KL sd me tg D right = G := ⟨_, rfl⟩
  have lG : G.length = 8 := by rw [← hG]; unfold fitT; split; exact attF_len _ _ _ _; exact ltg
  rw [hG] at hfit
  have hKp1 := hKp.below hb1
  have hKr1 := hKr.below hb1
  have hl1 : w.heap.size < w1.heap.size := C1.lt
  clear hD hG hcc
  replace C1 := Lib.hid C1; replace hb1 := Lib.hid hb1; replace hC := Lib.hid hC; replace lcc := Lib.hid lcc; replace hfit := Lib.hid hfit; replace hKp1 := Lib.hid hKp1; replace hKr1 := Lib.hid hKr1; replace hE := Lib.hid hE; replace hM := Lib.hid hM; replace hKp := Lib.hid hKp; replace hKr := Lib.hid hKr
  go_enter Tryd.func6, Tryd.ntmps6
  go_upto_region 1 with fail
  try (change Code.wp _ _ _ _ (w.alloc (.cells cc.toArray 40)); rw [hw1])
  clear hw1
  go_wp2_with (refine wpList_load_mid rfl 23 _ rfl w.heap.size 0 rfl (vw sd) _ C1.out.seed Tryd.underlying23 rfl (by rw [length_vw, lsd]; exact info23) ?_)
  refine (key_any KL sd _ hKp1.out lsd).mono ?_
  rintro e w2 ⟨rfl, b2⟩
  obtain ⟨K, hK⟩ : ∃ K, keyF KL sd = K := ⟨_, rfl⟩
  have lK : K.length = 8 := by rw [← hK]; exact keyF_len _ _
  rw [hK]
  have hl2 := b2.size
  have aN : Arr (w2.alloc (.cells (vw (List.replicate 8 0)).toArray 23)) w2.heap.size 23 (List.replicate 8 0) := Arr.new _ _ _
  replace b2 := Lib.hid b2; replace aN := Lib.hid aN; replace hK := Lib.hid hK
  go_upto_region 2 with (refine wpList_store_arr rfl 23 _ _ rfl w2.heap.size rfl K rfl aN.out info23 (by simp) lK ?_; intro w3 aK g3)
  have b3 := b2.out.trans ((below_new g3).mono b2.out.size)
  have hC3 := (b3.block _ hl1).trans hC.out
  have hl3 : w2.heap.size < w3.heap.size := aK.lt
  clear b2 aN g3
  replace b3 := Lib.hid b3; replace hC3 := Lib.hid hC3; replace aK := Lib.hid aK
  go_wp2_with (refine wpList_load_mid rfl 40 _ rfl w.heap.size 0 rfl cc _ (range_block hC3.out) Tryd.underlying40 rfl (by rw [lcc.out]; exact info40) ?_)
  refine (hfit.out _ (hKr1.out.below b3.out)).mono ?_
  rintro e w4 ⟨rfl, b4⟩
  have lq : (vw me ++ vw D ++ vw G).length = 24 := by simp [lme, lD, lG]
  have oq : ∀ u ∈ vw me ++ vw D ++ vw G, u.oneCell' = true := quote_one me D G
  have hqn : ∀ (w' : World) (g : Nat), w'.heap[g]? = some (.cells (vw me ++ vw D ++ vw G).toArray 38) → Quo w' g me D G := fun w' g h => Quo.new h lme lD lG
  obtain ⟨qc, hqc⟩ : ∃ qc, vw me ++ vw D ++ vw G = qc := ⟨_, rfl⟩
  rw [hqc] at lq oq hqn ⊢
  have b14 := b3.out.trans (b4.mono b3.out.size)
  have aK4 := aK.out.below b4
  have hl4 := b4.size
  clear b4 aK b3 hC3
  replace lq := Lib.hid lq; replace oq := Lib.hid oq; replace hqn := Lib.hid hqn; replace hqc := Lib.hid hqc; replace b14 := Lib.hid b14; replace aK4 := Lib.hid aK4
  go_upto_region 3 with (refine wpList_store_blk rfl 38 _ _ rfl w4.heap.size qc rfl rfl 38 _ (heap_alloc_new _ _) (by rw [lq.out]; exact info38) (by rw [lq.out]; rfl) oq.out ?_; intro w5 hB5 g5)
  have b45 := below_new g5
  have b15 := b14.out.trans (b45.mono b14.out.size)
  have Q5 := hqn.out w5 _ hB5
  have hl5 : w4.heap.size < w5.heap.size := Q5.lt
  have aK5 := aK4.out.below b45
  have C5 := C1.out.below b15
  have hKp5 := hKp1.out.below b15
  have hKr5 := hKr1.out.below b15
  have rK5 : ∀ {w' : World}, Below w5.heap.size w5 w' → w'.rangeAt w2.heap.size 0 (vw K) := fun h => range_block (aK5.below h)
  have hS : ∀ w' : World, Below w5.heap.size w5 w' → (Below w5.heap.size w5 w' ∧ w'.cell? ⟨w.heap.size, 0, none⟩ = some (.int .u32 (wAt sd 0)) ∧ w'.cell? ⟨w.heap.size, 1, none⟩ = some (.int .u32 (wAt sd 1)) ∧ w'.cell? ⟨w.heap.size, 2, none⟩ = some (.int .u32 (wAt sd 2)) ∧ w'.cell? ⟨w.heap.size, 3, none⟩ = some (.int .u32 (wAt sd 3)) ∧ w'.cell? ⟨w.heap.size, 4, none⟩ = some (.int .u32 (wAt sd 4)) ∧ w'.cell? ⟨w.heap.size, 5, none⟩ = some (.int .u32 (wAt sd 5)) ∧ w'.cell? ⟨w.heap.size, 6, none⟩ = some (.int .u32 (wAt sd 6)) ∧ w'.cell? ⟨w.heap.size, 7, none⟩ = some (.int .u32 (wAt sd 7)) ∧ w'.cell? ⟨w2.heap.size, 0, none⟩ = some (.int .u32 (wAt K 0)) ∧ w'.cell? ⟨w2.heap.size, 1, none⟩ = some (.int .u32 (wAt K 1)) ∧ w'.cell? ⟨w2.heap.size, 2, none⟩ = some (.int .u32 (wAt K 2)) ∧ w'.cell? ⟨w2.heap.size, 3, none⟩ = some (.int .u32 (wAt K 3)) ∧ w'.cell? ⟨w2.heap.size, 4, none⟩ = some (.int .u32 (wAt K 4)) ∧ w'.cell? ⟨w2.heap.size, 5, none⟩ = some (.int .u32 (wAt K 5)) ∧ w'.cell? ⟨w2.heap.size, 6, none⟩ = some (.int .u32 (wAt K 6)) ∧ w'.cell? ⟨w2.heap.size, 7, none⟩ = some (.int .u32 (wAt K 7)) ∧ w'.cell? ⟨w4.heap.size, 0, none⟩ = some (.int .u32 (wAt me 0)) ∧ w'.cell? ⟨w4.heap.size, 1, none⟩ = some (.int .u32 (wAt me 1)) ∧ w'.cell? ⟨w4.heap.size, 2, none⟩ = some (.int .u32 (wAt me 2)) ∧ w'.cell? ⟨w4.heap.size, 3, none⟩ = some (.int .u32 (wAt me 3)) ∧ w'.cell? ⟨w4.heap.size, 4, none⟩ = some (.int .u32 (wAt me 4)) ∧ w'.cell? ⟨w4.heap.size, 5, none⟩ = some (.int .u32 (wAt me 5)) ∧ w'.cell? ⟨w4.heap.size, 6, none⟩ = some (.int .u32 (wAt me 6)) ∧ w'.cell? ⟨w4.heap.size, 7, none⟩ = some (.int .u32 (wAt me 7)) ∧ w'.cell? ⟨w4.heap.size, 8, none⟩ = some (.int .u32 (wAt D 0)) ∧ w'.cell? ⟨w4.heap.size, 9, none⟩ = some (.int .u32 (wAt D 1)) ∧ w'.cell? ⟨w4.heap.size, 10, none⟩ = some (.int .u32 (wAt D 2)) ∧ w'.cell? ⟨w4.heap.size, 11, none⟩ = some (.int .u32 (wAt D 3)) ∧ w'.cell? ⟨w4.heap.size, 12, none⟩ = some (.int .u32 (wAt D 4)) ∧ w'.cell? ⟨w4.heap.size, 13, none⟩ = some (.int .u32 (wAt D 5)) ∧ w'.cell? ⟨w4.heap.size, 14, none⟩ = some (.int .u32 (wAt D 6)) ∧ w'.cell? ⟨w4.heap.size, 15, none⟩ = some (.int .u32 (wAt D 7)) ∧ w'.cell? ⟨w4.heap.size, 16, none⟩ = some (.int .u32 (wAt G 0)) ∧ w'.cell? ⟨w4.heap.size, 17, none⟩ = some (.int .u32 (wAt G 1)) ∧ w'.cell? ⟨w4.heap.size, 18, none⟩ = some (.int .u32 (wAt G 2)) ∧ w'.cell? ⟨w4.heap.size, 19, none⟩ = some (.int .u32 (wAt G 3)) ∧ w'.cell? ⟨w4.heap.size, 20, none⟩ = some (.int .u32 (wAt G 4)) ∧ w'.cell? ⟨w4.heap.size, 21, none⟩ = some (.int .u32 (wAt G 5)) ∧ w'.cell? ⟨w4.heap.size, 22, none⟩ = some (.int .u32 (wAt G 6)) ∧ w'.cell? ⟨w4.heap.size, 23, none⟩ = some (.int .u32 (wAt G 7))) := fun w' h => ⟨h, rangeCell 0 sd 0 ((C5.below h).seed) lsd (by omega), rangeCell 0 sd 1 ((C5.below h).seed) lsd (by omega), rangeCell 0 sd 2 ((C5.below h).seed) lsd (by omega), rangeCell 0 sd 3 ((C5.below h).seed) lsd (by omega), rangeCell 0 sd 4 ((C5.below h).seed) lsd (by omega), rangeCell 0 sd 5 ((C5.below h).seed) lsd (by omega), rangeCell 0 sd 6 ((C5.below h).seed) lsd (by omega), rangeCell 0 sd 7 ((C5.below h).seed) lsd (by omega), rangeCell 0 K 0 ((rK5 h)) lK (by omega), rangeCell 0 K 1 ((rK5 h)) lK (by omega), rangeCell 0 K 2 ((rK5 h)) lK (by omega), rangeCell 0 K 3 ((rK5 h)) lK (by omega), rangeCell 0 K 4 ((rK5 h)) lK (by omega), rangeCell 0 K 5 ((rK5 h)) lK (by omega), rangeCell 0 K 6 ((rK5 h)) lK (by omega), rangeCell 0 K 7 ((rK5 h)) lK (by omega), rangeCell 0 me 0 ((Q5.below h).r0) lme (by omega), rangeCell 0 me 1 ((Q5.below h).r0) lme (by omega), rangeCell 0 me 2 ((Q5.below h).r0) lme (by omega), rangeCell 0 me 3 ((Q5.below h).r0) lme (by omega), rangeCell 0 me 4 ((Q5.below h).r0) lme (by omega), rangeCell 0 me 5 ((Q5.below h).r0) lme (by omega), rangeCell 0 me 6 ((Q5.below h).r0) lme (by omega), rangeCell 0 me 7 ((Q5.below h).r0) lme (by omega), rangeCell 8 D 0 ((Q5.below h).r1) lD (by omega), rangeCell 8 D 1 ((Q5.below h).r1) lD (by omega), rangeCell 8 D 2 ((Q5.below h).r1) lD (by omega), rangeCell 8 D 3 ((Q5.below h).r1) lD (by omega), rangeCell 8 D 4 ((Q5.below h).r1) lD (by omega), rangeCell 8 D 5 ((Q5.below h).r1) lD (by omega), rangeCell 8 D 6 ((Q5.below h).r1) lD (by omega), rangeCell 8 D 7 ((Q5.below h).r1) lD (by omega), rangeCell 16 G 0 ((Q5.below h).r2) lG (by omega), rangeCell 16 G 1 ((Q5.below h).r2) lG (by omega), rangeCell 16 G 2 ((Q5.below h).r2) lG (by omega), rangeCell 16 G 3 ((Q5.below h).r2) lG (by omega), rangeCell 16 G 4 ((Q5.below h).r2) lG (by omega), rangeCell 16 G 5 ((Q5.below h).r2) lG (by omega), rangeCell 16 G 6 ((Q5.below h).r2) lG (by omega), rangeCell 16 G 7 ((Q5.below h).r2) lG (by omega)⟩
  obtain ⟨U, hU⟩ : ∃ U, attF KL K me D = U := ⟨_, rfl⟩
  have lU : U.length = 8 := by rw [← hU]; exact attF_len _ _ _ _
  have hE1 : ∀ w' : World, (Op.equalIn 10000 23 (.agg #[Value.int IntKind.u32 (wAt K 0), Value.int IntKind.u32 (wAt K 1), Value.int IntKind.u32 (wAt K 2), Value.int IntKind.u32 (wAt K 3), Value.int IntKind.u32 (wAt K 4), Value.int IntKind.u32 (wAt K 5), Value.int IntKind.u32 (wAt K 6), Value.int IntKind.u32 (wAt K 7)]) (.agg (vw K).toArray)).run Tryd.prog w' = .ok true w' := fun w' => by
    have := eq_words K K w' lK lK
    rw [decide_eq_true rfl] at this
    rw [← vw_lit8 K lK]; exact this
  have hE2 : ∀ w' : World, (Op.equalIn 10000 23 (.agg (vw U).toArray) (.agg (vw U).toArray)).run Tryd.prog w' = .ok true w' := fun w' => by
    have := eq_words U U w' lU lU
    rwa [decide_eq_true rfl] at this
  have vs := vw_lit8 sd lsd; have vK := vw_lit8 K lK; have vm := vw_lit8 me lme; have vD := vw_lit8 D lD; have vG := vw_lit8 G lG
  clear hB5 g5 b45 b14 aK4 aK5 rK5 C5
  replace Q5 := Lib.hid Q5; replace b15 := Lib.hid b15; replace hKp5 := Lib.hid hKp5; replace hKr5 := Lib.hid hKr5; replace hS := Lib.hid hS; replace hU := Lib.hid hU; replace vs := Lib.hid vs; replace vK := Lib.hid vK; replace vm := Lib.hid vm; replace vD := Lib.hid vD; replace vG := Lib.hid vG
  go_region_held3 (fun w' => Below w5.heap.size w5 w' ∧ w'.cell? ⟨w.heap.size, 0, none⟩ = some (.int .u32 (wAt sd 0)) ∧ w'.cell? ⟨w.heap.size, 1, none⟩ = some (.int .u32 (wAt sd 1)) ∧ w'.cell? ⟨w.heap.size, 2, none⟩ = some (.int .u32 (wAt sd 2)) ∧ w'.cell? ⟨w.heap.size, 3, none⟩ = some (.int .u32 (wAt sd 3)) ∧ w'.cell? ⟨w.heap.size, 4, none⟩ = some (.int .u32 (wAt sd 4)) ∧ w'.cell? ⟨w.heap.size, 5, none⟩ = some (.int .u32 (wAt sd 5)) ∧ w'.cell? ⟨w.heap.size, 6, none⟩ = some (.int .u32 (wAt sd 6)) ∧ w'.cell? ⟨w.heap.size, 7, none⟩ = some (.int .u32 (wAt sd 7)) ∧ w'.cell? ⟨w2.heap.size, 0, none⟩ = some (.int .u32 (wAt K 0)) ∧ w'.cell? ⟨w2.heap.size, 1, none⟩ = some (.int .u32 (wAt K 1)) ∧ w'.cell? ⟨w2.heap.size, 2, none⟩ = some (.int .u32 (wAt K 2)) ∧ w'.cell? ⟨w2.heap.size, 3, none⟩ = some (.int .u32 (wAt K 3)) ∧ w'.cell? ⟨w2.heap.size, 4, none⟩ = some (.int .u32 (wAt K 4)) ∧ w'.cell? ⟨w2.heap.size, 5, none⟩ = some (.int .u32 (wAt K 5)) ∧ w'.cell? ⟨w2.heap.size, 6, none⟩ = some (.int .u32 (wAt K 6)) ∧ w'.cell? ⟨w2.heap.size, 7, none⟩ = some (.int .u32 (wAt K 7)) ∧ w'.cell? ⟨w4.heap.size, 0, none⟩ = some (.int .u32 (wAt me 0)) ∧ w'.cell? ⟨w4.heap.size, 1, none⟩ = some (.int .u32 (wAt me 1)) ∧ w'.cell? ⟨w4.heap.size, 2, none⟩ = some (.int .u32 (wAt me 2)) ∧ w'.cell? ⟨w4.heap.size, 3, none⟩ = some (.int .u32 (wAt me 3)) ∧ w'.cell? ⟨w4.heap.size, 4, none⟩ = some (.int .u32 (wAt me 4)) ∧ w'.cell? ⟨w4.heap.size, 5, none⟩ = some (.int .u32 (wAt me 5)) ∧ w'.cell? ⟨w4.heap.size, 6, none⟩ = some (.int .u32 (wAt me 6)) ∧ w'.cell? ⟨w4.heap.size, 7, none⟩ = some (.int .u32 (wAt me 7)) ∧ w'.cell? ⟨w4.heap.size, 8, none⟩ = some (.int .u32 (wAt D 0)) ∧ w'.cell? ⟨w4.heap.size, 9, none⟩ = some (.int .u32 (wAt D 1)) ∧ w'.cell? ⟨w4.heap.size, 10, none⟩ = some (.int .u32 (wAt D 2)) ∧ w'.cell? ⟨w4.heap.size, 11, none⟩ = some (.int .u32 (wAt D 3)) ∧ w'.cell? ⟨w4.heap.size, 12, none⟩ = some (.int .u32 (wAt D 4)) ∧ w'.cell? ⟨w4.heap.size, 13, none⟩ = some (.int .u32 (wAt D 5)) ∧ w'.cell? ⟨w4.heap.size, 14, none⟩ = some (.int .u32 (wAt D 6)) ∧ w'.cell? ⟨w4.heap.size, 15, none⟩ = some (.int .u32 (wAt D 7)) ∧ w'.cell? ⟨w4.heap.size, 16, none⟩ = some (.int .u32 (wAt G 0)) ∧ w'.cell? ⟨w4.heap.size, 17, none⟩ = some (.int .u32 (wAt G 1)) ∧ w'.cell? ⟨w4.heap.size, 18, none⟩ = some (.int .u32 (wAt G 2)) ∧ w'.cell? ⟨w4.heap.size, 19, none⟩ = some (.int .u32 (wAt G 3)) ∧ w'.cell? ⟨w4.heap.size, 20, none⟩ = some (.int .u32 (wAt G 4)) ∧ w'.cell? ⟨w4.heap.size, 21, none⟩ = some (.int .u32 (wAt G 5)) ∧ w'.cell? ⟨w4.heap.size, 22, none⟩ = some (.int .u32 (wAt G 6)) ∧ w'.cell? ⟨w4.heap.size, 23, none⟩ = some (.int .u32 (wAt G 7)))
    (first
      | exact hS.out _ (Below.refl _ _)
      | exact hS.out _ (Below.refl _ _).drew
      | assumption
      | exact hS.out _ (by assumption)
      | exact hS.out _ (Below.drew (And.left (by assumption)))
      | exact hS.out _ (Below.drew (by assumption)))
    (first
      | (go_at_call 20; (try rw [← vs.out]); obtain ⟨bX, _⟩ := (by assumption : Below w5.heap.size w5 _ ∧ _); refine (rkey_any KL sd _ (hKr5.out.below bX) lsd).mono ?_; rintro e wx ⟨rfl, bx⟩; rw [hK.out]; have bY := below_step (w1 := w5) bx bX; clear bx)
      | (go_at_call 10; (try rw [← vK.out]); (try rw [← vm.out]); (try rw [← vD.out]); obtain ⟨bX, _⟩ := (by assumption : Below w5.heap.size w5 _ ∧ _); refine (atag_any KL K me D _ (hKp5.out.below bX) lK lme lD).mono ?_; rintro e wx ⟨rfl, bx⟩; rw [hU.out]; have bY := below_step (w1 := w5) bx bX; clear bx)
      | (go_at_call 21; (try rw [← vK.out]); (try rw [← vm.out]); (try rw [← vD.out]); obtain ⟨bX, _⟩ := (by assumption : Below w5.heap.size w5 _ ∧ _); refine (ratag_any KL K me D _ (hKr5.out.below bX) lK lme lD).mono ?_; rintro e wx ⟨rfl, bx⟩; rw [hU.out]; have bY := below_step (w1 := w5) bx bX; clear bx))
  all_goals
    go_upto_region 5 with fail
  obtain ⟨V, hV⟩ : ∃ V, decide (U = G) = V := ⟨_, rfl⟩
  replace hV := Lib.hid hV
  go_region_held3 (fun w' => Below w5.heap.size w5 w' ∧ w'.cell? ⟨w.heap.size, 0, none⟩ = some (.int .u32 (wAt sd 0)) ∧ w'.cell? ⟨w.heap.size, 1, none⟩ = some (.int .u32 (wAt sd 1)) ∧ w'.cell? ⟨w.heap.size, 2, none⟩ = some (.int .u32 (wAt sd 2)) ∧ w'.cell? ⟨w.heap.size, 3, none⟩ = some (.int .u32 (wAt sd 3)) ∧ w'.cell? ⟨w.heap.size, 4, none⟩ = some (.int .u32 (wAt sd 4)) ∧ w'.cell? ⟨w.heap.size, 5, none⟩ = some (.int .u32 (wAt sd 5)) ∧ w'.cell? ⟨w.heap.size, 6, none⟩ = some (.int .u32 (wAt sd 6)) ∧ w'.cell? ⟨w.heap.size, 7, none⟩ = some (.int .u32 (wAt sd 7)) ∧ w'.cell? ⟨w2.heap.size, 0, none⟩ = some (.int .u32 (wAt K 0)) ∧ w'.cell? ⟨w2.heap.size, 1, none⟩ = some (.int .u32 (wAt K 1)) ∧ w'.cell? ⟨w2.heap.size, 2, none⟩ = some (.int .u32 (wAt K 2)) ∧ w'.cell? ⟨w2.heap.size, 3, none⟩ = some (.int .u32 (wAt K 3)) ∧ w'.cell? ⟨w2.heap.size, 4, none⟩ = some (.int .u32 (wAt K 4)) ∧ w'.cell? ⟨w2.heap.size, 5, none⟩ = some (.int .u32 (wAt K 5)) ∧ w'.cell? ⟨w2.heap.size, 6, none⟩ = some (.int .u32 (wAt K 6)) ∧ w'.cell? ⟨w2.heap.size, 7, none⟩ = some (.int .u32 (wAt K 7)) ∧ w'.cell? ⟨w4.heap.size, 0, none⟩ = some (.int .u32 (wAt me 0)) ∧ w'.cell? ⟨w4.heap.size, 1, none⟩ = some (.int .u32 (wAt me 1)) ∧ w'.cell? ⟨w4.heap.size, 2, none⟩ = some (.int .u32 (wAt me 2)) ∧ w'.cell? ⟨w4.heap.size, 3, none⟩ = some (.int .u32 (wAt me 3)) ∧ w'.cell? ⟨w4.heap.size, 4, none⟩ = some (.int .u32 (wAt me 4)) ∧ w'.cell? ⟨w4.heap.size, 5, none⟩ = some (.int .u32 (wAt me 5)) ∧ w'.cell? ⟨w4.heap.size, 6, none⟩ = some (.int .u32 (wAt me 6)) ∧ w'.cell? ⟨w4.heap.size, 7, none⟩ = some (.int .u32 (wAt me 7)) ∧ w'.cell? ⟨w4.heap.size, 8, none⟩ = some (.int .u32 (wAt D 0)) ∧ w'.cell? ⟨w4.heap.size, 9, none⟩ = some (.int .u32 (wAt D 1)) ∧ w'.cell? ⟨w4.heap.size, 10, none⟩ = some (.int .u32 (wAt D 2)) ∧ w'.cell? ⟨w4.heap.size, 11, none⟩ = some (.int .u32 (wAt D 3)) ∧ w'.cell? ⟨w4.heap.size, 12, none⟩ = some (.int .u32 (wAt D 4)) ∧ w'.cell? ⟨w4.heap.size, 13, none⟩ = some (.int .u32 (wAt D 5)) ∧ w'.cell? ⟨w4.heap.size, 14, none⟩ = some (.int .u32 (wAt D 6)) ∧ w'.cell? ⟨w4.heap.size, 15, none⟩ = some (.int .u32 (wAt D 7)) ∧ w'.cell? ⟨w4.heap.size, 16, none⟩ = some (.int .u32 (wAt G 0)) ∧ w'.cell? ⟨w4.heap.size, 17, none⟩ = some (.int .u32 (wAt G 1)) ∧ w'.cell? ⟨w4.heap.size, 18, none⟩ = some (.int .u32 (wAt G 2)) ∧ w'.cell? ⟨w4.heap.size, 19, none⟩ = some (.int .u32 (wAt G 3)) ∧ w'.cell? ⟨w4.heap.size, 20, none⟩ = some (.int .u32 (wAt G 4)) ∧ w'.cell? ⟨w4.heap.size, 21, none⟩ = some (.int .u32 (wAt G 5)) ∧ w'.cell? ⟨w4.heap.size, 22, none⟩ = some (.int .u32 (wAt G 6)) ∧ w'.cell? ⟨w4.heap.size, 23, none⟩ = some (.int .u32 (wAt G 7)))
    (first
      | exact hS.out _ (Below.refl _ _)
      | exact hS.out _ (Below.refl _ _).drew
      | assumption
      | exact hS.out _ (by assumption)
      | exact hS.out _ (Below.drew (And.left (by assumption)))
      | exact hS.out _ (Below.drew (by assumption)))
    (first
      | (go_at_call 11; (try rw [← vK.out]); (try rw [← vm.out]); (try rw [← vD.out]); (try rw [← vG.out]); obtain ⟨bX, _⟩ := (by assumption : Below w5.heap.size w5 _ ∧ _); refine (verify_any KL K me D G _ (hKp5.out.below bX) lK lme lD lG).mono ?_; rintro e wx ⟨rfl, bx⟩; rw [hU.out, hV.out]; have bY := below_step (w1 := w5) bx bX; clear bx)
      | (go_at_call 22; (try rw [← vK.out]); (try rw [← vm.out]); (try rw [← vD.out]); (try rw [← vG.out]); obtain ⟨bX, _⟩ := (by assumption : Below w5.heap.size w5 _ ∧ _); refine (rverify_any KL K me D G _ (hKr5.out.below bX) lK lme lD lG).mono ?_; rintro e wx ⟨rfl, bx⟩; rw [hU.out, hV.out]; have bY := below_step (w1 := w5) bx bX; clear bx))
  all_goals
    go_upto_region 7 with fail
  have b1x := b15.out.trans (bY.mono b15.out.size)
  have hbx := hb1.out.trans (b1x.mono hb1.out.size)
  have Qx := Q5.out.below bY
  have hEx : wx.cell? ⟨0, 0, none⟩ = some (.iface u x) := by rw [cell_kept (hbx.block _ (World.block_lt_of_cell? w _ hE.out))]; exact hE.out
  have hMx : MaxL wx m := by
    have e := cell_kept (o := 0) (hbx.block _ (World.block_lt_of_cell? w _ hM.out))
    exact e.trans hM.out
  obtain ⟨wz, hwz⟩ : ∃ wz, wz = wx := ⟨_, rfl⟩
  rw [← hwz] at bY b1x hbx Qx hEx hMx ⊢
  clear b1x hwz bY
  replace hbx := Lib.hid hbx; replace Qx := Lib.hid Qx; replace hEx := Lib.hid hEx; replace hMx := Lib.hid hMx
  go_wp2_with fail
  refine (parse_one s u x m _ hs hEx.out hMx.out).mono ?_
  rintro e w6 ⟨b6, p0, p1, p2, ec, hp, rfl⟩
  obtain ⟨lp0, lp1, lp2, _⟩ := id hp
  have lpq : (vw p0 ++ vw p1 ++ vw p2).length = 24 := by simp [lp0, lp1, lp2]
  have opq : ∀ u ∈ vw p0 ++ vw p1 ++ vw p2, u.oneCell' = true := quote_one p0 p1 p2
  have hpn : ∀ (w' : World) (g : Nat), w'.heap[g]? = some (.cells (vw p0 ++ vw p1 ++ vw p2).toArray 38) → Quo w' g p0 p1 p2 := fun w' g h => Quo.new h lp0 lp1 lp2
  have hrn : ∀ (w' : World) (g : Nat), w'.heap[g]? = some (.cells (vw p0 ++ vw p1 ++ vw p2).toArray 55) → Quo w' g p0 p1 p2 := fun w' g h => Quo.new h lp0 lp1 lp2
  have hdp : ∀ w', Calls Tryd.prog 25 #[.agg (vw p0 ++ vw p1 ++ vw p2).toArray] w' fun e w2 => e = .returned (.agg (vw p0 ++ vw p1 ++ vw p2).toArray) ∧ Below w'.heap.size w' w2 := fun w' => doc_any p0 p1 p2 w' lp0 lp1 lp2
  have hE5 : ∀ w' : World, (Op.equalIn 10000 55 (.agg (vw p0 ++ vw p1 ++ vw p2).toArray) (.agg (vw p0 ++ vw p1 ++ vw p2).toArray)).run Tryd.prog w' = .ok true w' := fun w' => by
    have := eq_quoteR p0 p1 p2 p0 p1 p2 w' lp0 lp1 lp2 lp0 lp1 lp2
    rwa [decide_eq_true ⟨rfl, rfl, rfl⟩] at this
  have hrs : ∀ e' (w' w2 : World), (Below w'.heap.size w' w2 ∧ ∃ r0 r1 r2 c, Parsed s r0 r1 r2 c ∧ e' = Ending.returned (.tuple #[.agg (vw r0 ++ vw r1 ++ vw r2).toArray, .int .i64 c])) → Below w'.heap.size w' w2 ∧ e' = Ending.returned (.tuple #[.agg (vw p0 ++ vw p1 ++ vw p2).toArray, .int .i64 ec]) := by
    rintro e' w' w2 ⟨hb, r0, r1, r2, c, hr, rfl⟩
    obtain ⟨rfl, rfl, rfl, rfl⟩ := hp.same hr
    exact ⟨hb, rfl⟩
  obtain ⟨pc, hpc⟩ : ∃ pc, vw p0 ++ vw p1 ++ vw p2 = pc := ⟨_, rfl⟩
  rw [hpc] at lpq opq hpn hrn hdp hE5 hrs ⊢
  have hb6 := hbx.out.trans (b6.mono hbx.out.size)
  have Q6 := Qx.out.below b6
  have hl6 := Q6.lt
  clear b6 hbx Qx hp
  have hpcA := hpc
  clear hpc
  replace hpcA := Lib.hid hpcA
  replace lpq := Lib.hid lpq; replace opq := Lib.hid opq; replace hpn := Lib.hid hpn; replace hrn := Lib.hid hrn; replace hdp := Lib.hid hdp; replace hE5 := Lib.hid hE5; replace hrs := Lib.hid hrs; replace hb6 := Lib.hid hb6; replace Q6 := Lib.hid Q6
  go_upto_region 8 with (refine wpList_store_blk rfl 38 _ _ rfl w6.heap.size pc rfl rfl 38 _ (heap_alloc_new _ _) (by rw [lpq.out]; exact info38) (by rw [lpq.out]; rfl) opq.out ?_; intro w7 hB7 g7)
  have b67 := below_new g7
  have hb7 := hb6.out.trans (b67.mono hb6.out.size)
  have Q7 := Q6.out.below b67
  have P7 := hpn.out w7 _ hB7
  have hl7 := P7.lt
  clear b67 g7 hB7 hb6 Q6
  replace hb7 := Lib.hid hb7; replace Q7 := Lib.hid Q7; replace P7 := Lib.hid P7
  go_wp2_with fail
  refine (rparse_one s _ hs).mono ?_
  intro e' w8 hh
  obtain ⟨b8, rfl⟩ := hrs.out _ _ _ hh
  have hb8 := hb7.out.trans (b8.mono hb7.out.size)
  have Q8 := Q7.out.below b8
  have P8 := P7.out.below b8
  have hl8 := P8.lt
  clear b8 hh hb7 Q7 P7
  replace hb8 := Lib.hid hb8; replace Q8 := Lib.hid Q8; replace P8 := Lib.hid P8
  go_upto_region 9 with (refine wpList_store_blk rfl 55 _ _ rfl w8.heap.size pc rfl rfl 55 _ (heap_alloc_new _ _) (by rw [lpq.out]; exact info55) (by rw [lpq.out]; rfl) opq.out ?_; intro w9 hB9 g9)
  have b89 := below_new g9
  have hb9 := hb8.out.trans (b89.mono hb8.out.size)
  have Q9 := Q8.out.below b89
  have P9 := P8.out.below b89
  have R9 := hrn.out w9 _ hB9
  have q0 := Q9.whole lme lD
  have r0 := R9.whole lp0 lp1
  have s0 := P9.whole lp0 lp1
  rw [hqc.out] at q0
  rw [hpcA.out] at r0 s0
  have hS9 : ∀ w' : World, Below w9.heap.size w9 w' → (Below w9.heap.size w9 w' ∧ w'.rangeAt w4.heap.size 0 qc ∧ w'.rangeAt w6.heap.size 0 pc ∧ w'.rangeAt w8.heap.size 0 pc) := fun w' h => ⟨h, rangeAt_kept q0 (h.block _ Q9.lt), rangeAt_kept s0 (h.block _ P9.lt), rangeAt_kept r0 (h.block _ R9.lt)⟩
  have hu38 := Tryd.underlying38
  have hu55 := Tryd.underlying55
  have hi1 : (Tryd.prog.info? 38).map (·.size) = some qc.length := by rw [lq.out]; exact info38
  have hi2 : (Tryd.prog.info? 38).map (·.size) = some pc.length := by rw [lpq.out]; exact info38
  have hi3 : (Tryd.prog.info? 55).map (·.size) = some pc.length := by rw [lpq.out]; exact info55
  have hdq : ∀ w', Calls Tryd.prog 25 #[.agg (vw me ++ vw D ++ vw G).toArray] w' fun e w2 => e = .returned (.agg (vw me ++ vw D ++ vw G).toArray) ∧ Below w'.heap.size w' w2 := fun w' => doc_any me D G w' lme lD lG
  have hfq : ∀ w', Calls Tryd.prog 17 #[.agg (vw me ++ vw D ++ vw G).toArray] w' fun e w2 => e = .returned (.string ⟨(fmtL me D G).toArray⟩) ∧ Below w'.heap.size w' w2 := fun w' => format_any me D G w' lme lD lG
  have hrq : ∀ w', Calls Tryd.prog 24 #[.agg (vw me ++ vw D ++ vw G).toArray] w' fun e w2 => e = .returned (.string ⟨(fmtL me D G).toArray⟩) ∧ Below w'.heap.size w' w2 := fun w' => rformat_any me D G w' lme lD lG
  obtain ⟨F, hF⟩ : ∃ F : ByteArray, ⟨(fmtL me D G).toArray⟩ = F := ⟨_, rfl⟩
  rw [hqc.out] at hdq hfq hrq
  rw [hF] at hfq hrq
  have hE7 := hE5.out
  clear b89 g9 hB9 hb8 Q8 P8 Q9 P9 R9 hF q0 r0 s0
  replace hb9 := Lib.hid hb9; replace hS9 := Lib.hid hS9; replace hdq := Lib.hid hdq; replace hfq := Lib.hid hfq; replace hrq := Lib.hid hrq
  replace hS := hS9
  have c0 := fun w' h => (hS9.out w' h).2.1
  have c1 := fun w' h => (hS9.out w' h).2.2.1
  have c2 := fun w' h => (hS9.out w' h).2.2.2
  replace c0 := Lib.hid c0; replace c1 := Lib.hid c1; replace c2 := Lib.hid c2
  refine wp_region_quiet_C (C := fun w' => Below w9.heap.size w9 w') (by kernel_rfl) (by kernel_rfl) ((Below.refl _ _).drew) ?_
  refine wpQuiet_load (by rfl) 38 _ rfl w4.heap.size 0 rfl qc _ c0.out hu38 rfl hi1 ?_
  simp only [Act.put, List.setIfInBounds_toArray, List.set_cons_zero, List.set_cons_succ]
  refine wpQuiet_enter (.string F) 17 #[.agg qc.toArray] (by rfl) (fun w hw => by go_simp) (Calls.class_of hfq.out) ?_
  simp only [Act.put, List.setIfInBounds_toArray, List.set_cons_zero, List.set_cons_succ]
  refine wpQuiet_load (by rfl) 38 _ rfl w4.heap.size 0 rfl qc _ c0.out hu38 rfl hi1 ?_
  simp only [Act.put, List.setIfInBounds_toArray, List.set_cons_zero, List.set_cons_succ]
  refine wpQuiet_enter (.agg qc.toArray) 25 #[.agg qc.toArray] (by rfl) (fun w hw => by go_simp) (Calls.class_of hdq.out) ?_
  simp only [Act.put, List.setIfInBounds_toArray, List.set_cons_zero, List.set_cons_succ]
  refine wpQuiet_enter (.string F) 24 #[.agg qc.toArray] (by rfl) (fun w hw => by go_simp) (Calls.class_of hrq.out) ?_
  simp only [Act.put, List.setIfInBounds_toArray, List.set_cons_zero, List.set_cons_succ]
  refine wpQuiet_val (.bool true) (by rfl) (fun w hw => by go_simp) ?_
  simp only [Act.put, List.setIfInBounds_toArray, List.set_cons_zero, List.set_cons_succ]
  refine wpQuiet_val (.bool true) (by rfl) (fun w hw => by go_simp) ?_
  simp only [Act.put, List.setIfInBounds_toArray, List.set_cons_zero, List.set_cons_succ]
  refine wpQuiet_load (by rfl) 38 _ rfl w6.heap.size 0 rfl pc _ c1.out hu38 rfl hi2 ?_
  simp only [Act.put, List.setIfInBounds_toArray, List.set_cons_zero, List.set_cons_succ]
  refine wpQuiet_enter (.agg pc.toArray) 25 #[.agg pc.toArray] (by rfl) (fun w hw => by go_simp) (Calls.class_of hdp.out) ?_
  simp only [Act.put, List.setIfInBounds_toArray, List.set_cons_zero, List.set_cons_succ]
  refine wpQuiet_load (by rfl) 55 _ rfl w8.heap.size 0 rfl pc _ c2.out hu55 rfl hi3 ?_
  simp only [Act.put, List.setIfInBounds_toArray, List.set_cons_zero, List.set_cons_succ]
  refine wpQuiet_val (.bool true) (by rfl) (fun w hw => by go_simp) ?_
  simp only [Act.put, List.setIfInBounds_toArray, List.set_cons_zero, List.set_cons_succ]
  refine wpQuiet_val (.bool true) (by rfl) (fun w hw => by go_simp) ?_
  simp only [Act.put, List.setIfInBounds_toArray, List.set_cons_zero, List.set_cons_succ]
  refine wpQuiet_val (.bool true) (by rfl) (fun w hw => by go_simp) ?_
  simp only [Act.put, List.setIfInBounds_toArray, List.set_cons_zero, List.set_cons_succ]
  refine wpQuiet_val (.int .i64 ec) (by rfl) (fun w hw => by go_simp) ?_
  simp only [Act.put, List.setIfInBounds_toArray, List.set_cons_zero, List.set_cons_succ]
  refine wpQuiet_enter (.int .i64 ec) 16 #[.int .i64 ec] (by rfl) (fun w hw => by go_simp) (fun w hw => (num_any ec w).mono fun _ _ hx => ⟨hx.1, by rw [hx.2]; exact hw⟩) ?_
  simp only [Act.put, List.setIfInBounds_toArray, List.set_cons_zero, List.set_cons_succ]
  refine wpQuiet_val (.int .i64 ec) (by rfl) (fun w hw => by go_simp) ?_
  simp only [Act.put, List.setIfInBounds_toArray, List.set_cons_zero, List.set_cons_succ]
  refine wpQuiet_val (.bool true) (by rfl) (fun w hw => by go_simp) ?_
  simp only [Act.put, List.setIfInBounds_toArray, List.set_cons_zero, List.set_cons_succ]
  refine wpQuiet_val (.bool true) (by rfl) (fun w hw => by go_simp) ?_
  simp only [Act.put, List.setIfInBounds_toArray, List.set_cons_zero, List.set_cons_succ]
  refine wpQuiet_val (.bool true) (by rfl) (fun w hw => by go_simp) ?_
  simp only [Act.put, List.setIfInBounds_toArray, List.set_cons_zero, List.set_cons_succ]
  refine wpQuiet_nil ?_
  intro wf hwf
  have hbf := Lib.hid (hb9.out.trans (hwf.mono hb9.out.size))
  clear hwf
  go_wp2_with fail
  go_ret
  exact ⟨rfl, hbf.out⟩
end Go.Proofs.YtemanjahkohcpaaDoor
