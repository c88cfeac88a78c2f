/- The contracts of sha's First and New. The contract of a digest's Add. -/
import Derived.Test.YtemanjahkohcpaaGreatDoorADigPJn
import Derived.Laws.Cover3
namespace Go.Proofs.YtemanjahkohcpaaGreatDoor
open Go.RowKit WP
def firstL : List UInt32 := [1779033703, 3144134277, 1013904242, 2773480762, 1359893119, 2600822924, 528734635, 1541459225]
theorem firstL_vals : (vw firstL).toArray = #[.int .u32 1779033703, .int .u32 3144134277, .int .u32 1013904242, .int .u32 2773480762, .int .u32 1359893119, .int .u32 2600822924, .int .u32 528734635, .int .u32 1541459225] := by rfl
set_option maxRecDepth 100000 in
theorem first_any (w : World) : Calls Tryz.prog 120 #[] w fun e w' => e = .returned (.agg (vw firstL).toArray) ∧ Below w.heap.size w w' := by
  go_enter Tryz.func120, Tryz.ntmps120
  have a0 : Arr (w.alloc (.cells (vw (List.replicate 8 0)).toArray 26)) w.heap.size 26 (List.replicate 8 0) := Arr.new _ _ _
  have hb0 : Below w.heap.size w (w.alloc (.cells (vw (List.replicate 8 0)).toArray 26)) := (Below.refl _ _).alloc (Nat.le_refl _) _
  go_wp2_with (refine wpList_store_arr rfl 26 _ _ rfl w.heap.size rfl firstL (by rw [firstL_vals]; rfl) a0 info23 (by simp) (by rfl) ?_; intro w2 a2 g2; have hb2 := hb0.grown g2 hb0.size (by simp))
  refine bodyPost_ret (results_arr rfl rfl a2 Tryz.underlying26 info23 (by rfl)) rfl ⟨rfl, hb2⟩
set_option maxRecDepth 100000 in
theorem new_any (w : World) : Calls Tryz.prog 114 #[] w fun e w' => ∃ g, e = .returned (.pointer (some ⟨g, 0, none⟩)) ∧ w.heap.size ≤ g ∧ Dig w' g firstL 0 (.slice none 0 0) ∧ Below w.heap.size w w' := by
  go_enter Tryz.func114, Tryz.ntmps114
  go_wp2_with fail
  refine (first_any _).mono ?_
  rintro e w1 ⟨rfl, b1⟩
  rw [firstL_vals]
  go_wp2_with fail
  go_ret
  exact ⟨_, rfl, b1.size, Dig.of_block (S := firstL) (t := 191) (heap_alloc_new w1 _) rfl, b1.alloc b1.size _⟩
end Go.Proofs.YtemanjahkohcpaaGreatDoor

namespace Go.Proofs.YtemanjahkohcpaaGreatDoor
open Go.RowKit WP
def foldN (KL : List UInt32) : Nat → List UInt32 → List UInt32 → List UInt32
  | 0, S, _ => S
  | k + 1, S, l => foldN KL k (blockF KL S (l.take 16)) (l.drop 16)
/-- the state behind the whole blocks of l; what is left of l -/
def foldB (KL S l : List UInt32) : List UInt32 := foldN KL (l.length / 16) S l
def remB (l : List UInt32) : List UInt32 := l.drop (l.length / 16 * 16)
theorem foldB_step (KL S l : List UInt32) (h : 16 ≤ l.length) : foldB KL S l = foldB KL (blockF KL S (l.take 16)) (l.drop 16) := by
  unfold foldB
  have e : l.length / 16 = (l.drop 16).length / 16 + 1 := by rw [List.length_drop]; omega
  rw [e, foldN]
theorem remB_step (l : List UInt32) (h : 16 ≤ l.length) : remB l = remB (l.drop 16) := by
  unfold remB
  rw [List.drop_drop, List.length_drop]
  congr 1
  omega
theorem foldB_end (KL S l : List UInt32) (h : l.length < 16) : foldB KL S l = S := by
  unfold foldB
  rw [show l.length / 16 = 0 by omega]; rfl
theorem remB_end (l : List UInt32) (h : l.length < 16) : remB l = l := by
  unfold remB
  rw [show l.length / 16 = 0 by omega]; rfl
theorem foldN_len (KL : List UInt32) : ∀ (k : Nat) (S l : List UInt32), S.length = 8 → (foldN KL k S l).length = 8
  | 0, _, _, h => h
  | k + 1, S, _, h => foldN_len KL k _ _ (blockF_len KL S _ h)
theorem foldB_len (KL S l : List UInt32) (h : S.length = 8) : (foldB KL S l).length = 8 := foldN_len KL _ S l h
def sliceLen : Value → Nat
  | .slice _ n _ => n
  | _ => 0
theorem Rd.drop {w : World} {ao : Option Addr} {n cap : Nat} {xs : List Value} (h : Rd w (.slice ao n cap) xs) (k : Nat) (hk : k ≤ n) (hn : 0 < n) : ∃ b off, ao = some ⟨b, off, none⟩ ∧ Rd w (.slice (some ⟨b, off + k, none⟩) (n - k) (cap - k)) (xs.drop k) := by
  obtain ⟨ao', c', hv, h1, h2, h3⟩ := h
  simp only [Value.slice.injEq] at hv
  obtain ⟨rfl, rfl, rfl⟩ := hv
  obtain ⟨b, off, rfl, hc⟩ := h3.resolve_left (by intro h; rw [h] at hn; simp at hn)
  refine ⟨b, off, rfl, some ⟨b, off + k, none⟩, cap - k, by rw [List.length_drop], by rw [List.length_drop]; omega, by omega, .inr ⟨b, off + k, rfl, fun j u hu => ?_⟩⟩
  rw [List.getElem?_drop] at hu
  rw [Nat.add_assoc]
  exact hc _ _ hu
theorem Rd.wcell {w : World} {b off n cap : Nat} {l : List UInt32} (h : Rd w (.slice (some ⟨b, off, none⟩) n cap) (vw l)) : ∀ k, k < l.length → w.cell? ⟨b, off + k, none⟩ = some (.int .u32 (wAt l k)) := by
  obtain ⟨ao', c', hv, h1, h2, h3⟩ := h
  intro k hk
  rcases h3 with h | ⟨b2, off2, h, hc⟩
  · have : l = [] := by simpa [vw] using h
    subst this; simp at hk
  · simp only [Value.slice.injEq] at hv
    obtain ⟨hv, _, _⟩ := hv
    rw [← hv] at h
    cases h
    exact hc k _ (vw_get l k hk)
theorem Rounds.grown {w w' : World} {KL : List UInt32} {r : Option Nat} (h : Rounds w KL) (hg : w.grownBy w' r) (hr : some 7 ≠ r) : Rounds w' KL :=
  ⟨Nat.lt_of_lt_of_le h.1 hg.size, fun i hi => (World.cell?_of_block (a := ⟨7, i, none⟩) (hg.block _ h.1 hr)).trans (h.2 i hi)⟩
set_option maxRecDepth 100000 in
set_option maxHeartbeats 4000000 in
theorem add_any (KL S L M : List UInt32) (n : Int) (v va : Value) (g : Nat) (w : World) (hK : Rounds w KL) (hg3 : g ≠ 7) (hd : Dig w g S n v) (hv : Rd w v (vw L)) (hvg : v.ownBlock ≠ some g) (ha : Rd w va (vw M)) (hag : va.ownBlock ≠ some g)
    (hn : 0 ≤ n) (hn2 : n ≤ 1099511627776) (hL : L.length ≤ 4294967296) (hM : M.length ≤ 4294967296) :
    Calls Tryz.prog 103 #[.pointer (some ⟨g, 0, none⟩), va] w fun e w' => e = .returned (.tuple #[]) ∧ ∃ v', Dig w' g (foldB KL S (L ++ M)) (n + M.length) v' ∧ Rd w' v' (vw (remB (L ++ M))) ∧
      (∀ k, v'.ownBlock = some k → w.heap.size ≤ k) ∧ w.grownBy w' (some g) := by
  obtain ⟨i0, hi, hz0, hz1, hz2⟩ := info_parts info22
  obtain ⟨oa, ca, rfl, a1, a2, a3⟩ := ha.words
  obtain ⟨ov, cv, rfl, v1, v2, v3⟩ := hv.words
  clear a3 v3
  have cn := hd.cn
  have fn := (hd.fr 8 (by decide)).2
  have hd1 := hd.setN (n + M.length)
  have hg1 := grownBy_setCell w g 8 (.int .i64 (n + M.length))
  rw [Nat.zero_add] at fn
  replace hd := Lib.hid hd; replace hK := Lib.hid hK; replace hv := Lib.hid hv; replace ha := Lib.hid ha; replace hd1 := Lib.hid hd1; replace hg1 := Lib.hid hg1; replace hvg := Lib.hid hvg
  go_enter Tryz.func103, Tryz.ntmps103
  go_upto_region 2 with fail
  obtain ⟨w1, hw1⟩ : ∃ w1, w.setCell ⟨g, 8, none⟩ (.int .i64 (n + M.length)) = w1 := ⟨_, rfl⟩
  rw [hw1]
  have hd1 := hd1.out
  have hg1 := hg1.out
  rw [hw1] at hd1 hg1
  have hK1 := hK.out.grown hg1 (by simp; omega)
  have hv1 : Rd w1.drew (.slice ov L.length L.length) (vw L) := ((hv.out.grown hg1 (.inr hvg.out)).kept fun _ _ _ => rfl).full
  have ha1 : Rd w1.drew (.slice oa M.length ca) (vw M) := (ha.out.grown hg1 (.inr hag)).kept fun _ _ _ => rfl
  have cw : w1.drew.cell? ⟨g, 9, none⟩ = _ := hd1.cw
  have hb1 : Below w1.heap.size w1 w1.drew := (Below.refl _ _).drew
  have hs1 := hg1.size
  have lL := length_vw L
  have lM := length_vw M
  clear hd hv ha hK hw1 cn fn hag
  replace hd1 := Lib.hid hd1; replace hg1 := Lib.hid hg1; replace hK1 := Lib.hid hK1; replace hv1 := Lib.hid hv1; replace ha1 := Lib.hid ha1; replace hb1 := Lib.hid hb1; replace lL := Lib.hid lL; replace lM := Lib.hid lM
  refine wp_region_still_tail 16 (by kernel_rfl) (by kernel_rfl) ?_
  simp only [List.take_succ_cons, List.take_zero, List.drop_succ_cons, List.drop_zero]
  change wpStill _ _ w1.drew _ _ _
  repeat still_step
  refine wpStill_nil ?_
  change wpList _ _ _ _ _ w1.drew
  refine wpList_append_full _ rfl _ _ 111 rfl 25 i0 (.int .u32 0) 4 Tryz.underlying111 hi hz0 hz1 hz2 rfl ov L.length (vw L) (by rfl) hv1.out _ (vw M) (by rfl) ha1.out (vw_oneCell M) (by rw [lM.out]; simp only [maxLen]; omega) (by rw [lM.out]; omega) ?_
  intro lv w3 hl bl hfar
  rw [← vw_append] at hl
  have hd3 := hd1.out.drew.below bl
  have hg3' : w.grownBy w3 (some g) := grownBy_trans (grownBy_trans hg1.out (grownBy_drew w1 _) (.inl rfl)) (grownBy_weak ⟨bl.os, bl.tape, bl.output, bl.size, fun k hk _ => bl.block k hk⟩) (.inl rfl)
  have hK3 : Rounds w3 KL := Rounds.below (w := w1.drew) hK1.out bl
  have hvg' : (Value.slice ov L.length L.length).ownBlock ≠ some g := by have := hvg.out; cases ov <;> simp_all [Value.ownBlock]
  have hlg : lv.ownBlock ≠ some g := by
    intro e
    rcases hfar with h | h
    · rw [h] at e; exact hvg' e
    · have := h g e; have := hd1.out.drew.lt; omega
  clear hvg' hfar bl hv1 ha1 hb1 hd1 hg1 hK1
  replace hl := Lib.hid hl; replace hd3 := Lib.hid hd3; replace hg3' := Lib.hid hg3'; replace hK3 := Lib.hid hK3; replace hlg := Lib.hid hlg
  have lLM : (L ++ M).length ≤ 8589934592 := by rw [List.length_append]; omega
  replace lLM := Lib.hid lLM
  go_wp2_with fail
  go_loopw [4] (fun lv wr => ∃ S' l', Rd wr lv (vw l') ∧ foldB KL S' l' = foldB KL S (L ++ M) ∧ remB l' = remB (L ++ M) ∧ l'.length ≤ (L ++ M).length ∧ Dig wr g S' (n + M.length) (.slice ov L.length cv) ∧ lv.ownBlock ≠ some g ∧ w.grownBy wr (some g) ∧ Rounds wr KL) (fun lv _ => sliceLen lv)
  case atStart => exact ⟨S, L ++ M, hl.out, rfl, rfl, Nat.le_refl _, hd3.out, hlg.out, hg3'.out, hK3.out⟩
  case round =>
    obtain ⟨S', l', hl, hf, hr, hle, hd, hlg, hg, hK⟩ := hrel
    obtain ⟨lo, lc, rfl, q1, q2, _⟩ := hl.words
    have hll := lLM.out
    by_cases h16 : 16 ≤ l'.length
    · obtain ⟨b, off, rfl, hl2⟩ := hl.drop 16 h16 (by omega)
      have hl0 := Lib.hid hl
      have hlc : ∀ k, k < l'.length → wr.drew.cell? ⟨b, off + k, none⟩ = some (.int .u32 (wAt l' k)) := hl.wcell
      have hrg : wr.drew.rangeAt b off (vw (l'.take 16)) := hl.range 16 h16
      have hst : wr.drew.rangeAt g 0 (vw S') := hd.st
      have lt16 : (l'.take 16).length = 16 := by rw [List.length_take]; omega
      rw [foldB_step KL S' l' h16] at hf
      rw [remB_step l' h16] at hr
      have e16 : vw (l'.drop 16) = (vw l').drop 16 := by simp [vw]
      rw [← e16] at hl2
      have hbg : b ≠ g := fun e => hlg (by rw [e]; rfl)
      have lS := hd.len
      have lF := blockF_len KL S' (l'.take 16) lS
      replace hlc := Lib.hid hlc
      replace hf := Lib.hid hf; replace hr := Lib.hid hr; replace hd := Lib.hid hd; replace hl2 := Lib.hid hl2; replace hg := Lib.hid hg; replace hK := Lib.hid hK; replace hrg := Lib.hid hrg; replace hst := Lib.hid hst; replace lt16 := Lib.hid lt16; replace lF := Lib.hid lF; replace lS := Lib.hid lS
      clear hl e16 hlg
      go_upto_region 5 with fail
      have c0 : wr.drew.cell? ⟨g, 0, none⟩ = some (.int .u32 (wAt S' 0)) := by simpa using hd.out.st 0 _ (vw_get S' 0 (by rw [lS.out]; decide))
      have c1 : wr.drew.cell? ⟨g, 1, none⟩ = some (.int .u32 (wAt S' 1)) := by simpa using hd.out.st 1 _ (vw_get S' 1 (by rw [lS.out]; decide))
      have c2 : wr.drew.cell? ⟨g, 2, none⟩ = some (.int .u32 (wAt S' 2)) := by simpa using hd.out.st 2 _ (vw_get S' 2 (by rw [lS.out]; decide))
      have c3 : wr.drew.cell? ⟨g, 3, none⟩ = some (.int .u32 (wAt S' 3)) := by simpa using hd.out.st 3 _ (vw_get S' 3 (by rw [lS.out]; decide))
      have c4 : wr.drew.cell? ⟨g, 4, none⟩ = some (.int .u32 (wAt S' 4)) := by simpa using hd.out.st 4 _ (vw_get S' 4 (by rw [lS.out]; decide))
      have c5 : wr.drew.cell? ⟨g, 5, none⟩ = some (.int .u32 (wAt S' 5)) := by simpa using hd.out.st 5 _ (vw_get S' 5 (by rw [lS.out]; decide))
      have c6 : wr.drew.cell? ⟨g, 6, none⟩ = some (.int .u32 (wAt S' 6)) := by simpa using hd.out.st 6 _ (vw_get S' 6 (by rw [lS.out]; decide))
      have c7 : wr.drew.cell? ⟨g, 7, none⟩ = some (.int .u32 (wAt S' 7)) := by simpa using hd.out.st 7 _ (vw_get S' 7 (by rw [lS.out]; decide))
      have x0 : wr.drew.cell? ⟨b, off, none⟩ = some (.int .u32 (wAt l' 0)) := hlc.out 0 (by omega)
      have x1 : wr.drew.cell? ⟨b, off + 1, none⟩ = some (.int .u32 (wAt l' 1)) := hlc.out 1 (by omega)
      have x2 : wr.drew.cell? ⟨b, off + 2, none⟩ = some (.int .u32 (wAt l' 2)) := hlc.out 2 (by omega)
      have x3 : wr.drew.cell? ⟨b, off + 3, none⟩ = some (.int .u32 (wAt l' 3)) := hlc.out 3 (by omega)
      have x4 : wr.drew.cell? ⟨b, off + 4, none⟩ = some (.int .u32 (wAt l' 4)) := hlc.out 4 (by omega)
      have x5 : wr.drew.cell? ⟨b, off + 5, none⟩ = some (.int .u32 (wAt l' 5)) := hlc.out 5 (by omega)
      have x6 : wr.drew.cell? ⟨b, off + 6, none⟩ = some (.int .u32 (wAt l' 6)) := hlc.out 6 (by omega)
      have x7 : wr.drew.cell? ⟨b, off + 7, none⟩ = some (.int .u32 (wAt l' 7)) := hlc.out 7 (by omega)
      have x8 : wr.drew.cell? ⟨b, off + 8, none⟩ = some (.int .u32 (wAt l' 8)) := hlc.out 8 (by omega)
      have x9 : wr.drew.cell? ⟨b, off + 9, none⟩ = some (.int .u32 (wAt l' 9)) := hlc.out 9 (by omega)
      have x10 : wr.drew.cell? ⟨b, off + 10, none⟩ = some (.int .u32 (wAt l' 10)) := hlc.out 10 (by omega)
      have x11 : wr.drew.cell? ⟨b, off + 11, none⟩ = some (.int .u32 (wAt l' 11)) := hlc.out 11 (by omega)
      have x12 : wr.drew.cell? ⟨b, off + 12, none⟩ = some (.int .u32 (wAt l' 12)) := hlc.out 12 (by omega)
      have x13 : wr.drew.cell? ⟨b, off + 13, none⟩ = some (.int .u32 (wAt l' 13)) := hlc.out 13 (by omega)
      have x14 : wr.drew.cell? ⟨b, off + 14, none⟩ = some (.int .u32 (wAt l' 14)) := hlc.out 14 (by omega)
      have x15 : wr.drew.cell? ⟨b, off + 15, none⟩ = some (.int .u32 (wAt l' 15)) := hlc.out 15 (by omega)
      have hKd : Hid (Rounds wr.drew KL) := hK.out
      have hv8 := vw_lit8 S' lS.out
      have hv16 := vw_lit16 l' h16
      have harr := run_arrayAt (P := Tryz.prog) (w := wr.drew) 171 25 16 (some ⟨b, off, none⟩) l'.length lc Tryz.underlying171 h16
      replace hv8 := Lib.hid hv8; replace hv16 := Lib.hid hv16
      go_region_with (go_at_call 109; rw [← hv8.out, ← hv16.out]; refine (block_any KL S' (l'.take 16) wr.drew hKd.out lS.out lt16.out).mono ?_; rintro e w5 ⟨rfl, b5⟩; have hsc := storeCells_arr (P := Tryz.prog) (blockF KL S' (l'.take 16)) (w := w5) (b := g) (n := 8) (fun j hj => (hd.out.drew.below b5).fr j (by omega)) lF.out)
      all_goals
        obtain ⟨w6, hw6⟩ : ∃ w6, w5.setCells g 0 (vw (blockF KL S' (l'.take 16))) = w6 := ⟨_, rfl⟩
        have g56 := grownBy_setCells w5 g 0 (vw (blockF KL S' (l'.take 16)))
        have hd6 := (hd.out.drew.below b5).setS (blockF KL S' (l'.take 16)) lF.out
        rw [hw6] at g56 hd6 ⊢
        have b5w : wr.grownBy w5 (some g) := grownBy_trans (grownBy_drew wr _) (grownBy_weak ⟨b5.os, b5.tape, b5.output, b5.size, fun k hk _ => b5.block k hk⟩) (.inl rfl)
        have g6 : w.grownBy w6 (some g) := grownBy_trans hg.out (grownBy_trans b5w g56 (.inl rfl)) (.inl rfl)
        have hl6 : Rd w6 (.slice (some ⟨b, off + 16, none⟩) (l'.length - 16) (lc - 16)) (vw (l'.drop 16)) := (hl2.out.grown b5w (.inr (by simp [Value.ownBlock]; exact hbg))).grown g56 (.inr (by simp [Value.ownBlock]; exact hbg))
        have hK6 : Rounds w6 KL := (hKd.out.below b5).grown g56 (by simp; omega)
        have hl6' : l'.length = 16 → l'.drop 16 = [] := fun h => List.drop_of_length_le (by omega)
        clear g56 b5w hsc b5 hw6 c0 c1 c2 c3 c4 c5 c6 c7 x0 x1 x2 x3 x4 x5 x6 x7 x8 x9 x10 x11 x12 x13 x14 x15 hv8 hv16 harr hKd hg hl0 hlc hK hd hrg hst hl2 hl
        replace hd6 := Lib.hid hd6; replace g6 := Lib.hid g6; replace hl6 := Lib.hid hl6; replace hK6 := Lib.hid hK6
        go_wp2_with fail
      all_goals
        have hlv : Rd w6 (.slice (if lc = 16 then some ⟨b, off, none⟩ else some ⟨b, off + 16, none⟩) (l'.length - 16) (lc - 16)) (vw (l'.drop 16)) := by
          split
          · rw [hl6' (by omega), show l'.length - 16 = 0 by omega]
            exact ⟨_, _, rfl, by simp [vw], by simp only [maxLen]; omega, .inl rfl⟩
          · exact hl6.out
        refine ⟨⟨_, l'.drop 16, hlv, hf.out, hr.out, by rw [List.length_drop]; omega, hd6.out, ?_, g6.out, hK6.out⟩, by simp [sliceLen]; omega⟩
        split <;> simp [Value.ownBlock] <;> exact hbg
    · rw [foldB_end KL S' l' (by omega)] at hf
      rw [remB_end l' (by omega)] at hr
      subst hf
      subst hr
      have hs := hg.size
      replace hl := Lib.hid hl; replace hd := Lib.hid hd; replace hg := Lib.hid hg
      clear hlg hK hd3 hg3' hK3
      go_wp2_with (at_builtin; refine wpList_append_full _ rfl _ _ 111 rfl 25 i0 (.int .u32 0) 4 Tryz.underlying111 hi hz0 hz1 hz2 rfl none 0 [] (by rfl) ⟨none, 0, rfl, Nat.le_refl _, by decide, .inl rfl⟩ _ (vw (remB (L ++ M))) (by rfl) hl.out (vw_oneCell _) (by simp only [maxLen, length_vw]; omega) (by simp only [length_vw]; omega) ?_; intro v' w7 hl7 b7 hfr; obtain ⟨o7, c7, rfl, s1, s2, _⟩ := hl7.words; have f9 := ((hd.out.below b7).fr 9 (by decide)).2; have c9 := (hd.out.below b7).cw; rw [Nat.zero_add] at f9; replace hl7 := Lib.hid hl7; replace b7 := Lib.hid b7; replace hfr := Lib.hid hfr)
      have g78 := grownBy_setCell w7 g 9 (.slice o7 (remB (L ++ M)).length c7)
      have hd8 := (hd.out.below b7.out).setW (.slice o7 (remB (L ++ M)).length c7)
      have hfk : ∀ k, (Value.slice o7 (remB (L ++ M)).length c7).ownBlock = some k → w.heap.size ≤ k := fun k hk => by
        rcases hfr.out with h | h
        · rw [h] at hk; simp [Value.ownBlock] at hk
        · exact Nat.le_trans hs (h k hk)
      have hne : (Value.slice o7 (remB (L ++ M)).length c7).ownBlock ≠ some g := fun e => by
        rcases hfr.out with h | h
        · rw [h] at e; simp [Value.ownBlock] at e
        · have := h g e; have := hd.out.lt; omega
      have g7 : wr.grownBy w7 (some g) := grownBy_weak ⟨b7.out.os, b7.out.tape, b7.out.output, b7.out.size, fun k hk _ => b7.out.block k hk⟩
      go_end0
      exact ⟨rfl, _, hd8, hl7.out.grown g78 (.inr hne), hfk, grownBy_trans hg.out (grownBy_trans g7 g78 (.inl rfl)) (.inl rfl)⟩
end Go.Proofs.YtemanjahkohcpaaGreatDoor
