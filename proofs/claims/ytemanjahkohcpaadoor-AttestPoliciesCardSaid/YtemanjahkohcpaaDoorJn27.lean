/- The contracts of attest's hex, lines and Format. The contract of attest's Format. -/
import Derived.Test.YtemanjahkohcpaaDoorJn26
namespace Go.Proofs.YtemanjahkohcpaaDoor
open Go.RowKit WP
/-- texts, one behind the other, each with its end -/
def linesL (ls : List ByteArray) : List UInt8 := ls.flatMap fun s => strL s ++ [10]
theorem linesL_take (ls : List ByteArray) (k : Nat) (h : k < ls.length) : linesL (ls.take (k + 1)) = linesL (ls.take k) ++ (strL ls[k] ++ [10]) := by
  unfold linesL; rw [List.take_succ_eq_append_getElem h, List.flatMap_append]; simp
theorem hexf_any (l : List UInt32) (w : World) (h8 : l.length = 8) :
    Calls Tryd.prog 37 #[.agg (vw l).toArray] w fun e w' => e = .returned (.string ⟨(hexAllL l).toArray⟩) ∧ Below w.heap.size w w' := by
  obtain ⟨w1, hw1⟩ : ∃ w1, w.alloc (.cells (vw l).toArray 23) = w1 := ⟨_, rfl⟩
  have aL : Arr w1 w.heap.size 23 l := by rw [← hw1]; exact Arr.new w _ l
  have hb1 : Below w.heap.size w w1 := by rw [← hw1]; exact (Below.refl _ _).alloc (Nat.le_refl _) _
  have rL : Rd w1 (.slice (some ⟨w.heap.size, 0, none⟩) 8 8) (vw l) := by
    have := aL.rd 8 (by omega) (by simp [maxLen])
    rwa [h8] at this
  replace rL := Lib.hid rL; replace hb1 := Lib.hid hb1
  clear aL
  go_enter Tryd.func37, Tryd.ntmps37
  go_upto_region 1 with fail
  try (change Code.wp _ _ _ _ (w.alloc (.cells (vw l).toArray 23)); rw [hw1])
  clear hw1
  go_wp2_with fail
  refine (hexall_any _ l _ rL.out (by omega)).mono ?_
  rintro e w2 ⟨rfl, b2⟩
  have hb2 := Lib.hid (hb1.out.trans (b2.mono hb1.out.size))
  clear b2 rL hb1
  go_wp2_with fail
  go_ret
  exact ⟨rfl, hb2.out⟩
set_option maxRecDepth 100000 in
set_option maxHeartbeats 2000000 in
theorem lines_any (v : Value) (ls : List ByteArray) (w : World) (hv : Rd w v (ls.map Value.string)) (hlen : (linesL ls).length ≤ 1073741824) :
    Calls Tryd.prog 36 #[v] w fun e w' => e = .returned (.string ⟨(linesL ls).toArray⟩) ∧ Below w.heap.size w w' := by
  obtain ⟨ao, cap, rfl, n1, n2, hcs⟩ := hv
  rw [List.length_map] at n1 ⊢
  obtain ⟨n, hn⟩ : ∃ n, ls.length = n := ⟨_, rfl⟩
  rw [hn] at n1 ⊢
  have hB0 := Lib.fresh_isBuilder 114 5 w
  obtain ⟨w1, hw1⟩ : ∃ w1, w.alloc (.cells #[.pointer none, .slice none 0 0] 114) = w1 := ⟨_, rfl⟩
  rw [hw1] at hB0
  have hb1 : Below w.heap.size w w1 := by rw [← hw1]; exact (Below.refl _ _).alloc (Nat.le_refl _) _
  have hlt : w.heap.size < w1.heap.size := by rw [← hw1]; simp
  have n63 : (n : Int) ≤ 9223372036854775807 := by simp only [maxLen] at n2; omega
  replace hn := Lib.hid hn; replace hcs := Lib.hid hcs; replace hB0 := Lib.hid hB0; replace hb1 := Lib.hid hb1; replace hlen := Lib.hid hlen
  go_enter Tryd.func36, Tryd.ntmps36
  go_upto_region 2 with fail
  try (change Code.wp _ _ _ _ (w.alloc (.cells #[.pointer none, .slice none 0 0] 114)); rw [hw1])
  clear hw1
  go_wp2_with fail
  go_loopw [5, 8] (fun _ i wr => ∃ k : Nat, k ≤ n ∧ i = .int .i64 (k : Int) ∧ Lib.IsBuilder 114 5 w.heap.size w.heap.size (vb (linesL (ls.take k))) wr ∧ Below w.heap.size w wr ∧ w.heap.size < wr.heap.size) (fun _ i _ => n - (intOf i).toNat)
  case atStart => exact ⟨0, by omega, rfl, hB0.out, hb1.out, hlt⟩
  case round =>
    obtain ⟨wo, rfl⟩ : ∃ wo, wo = wr := ⟨wr, rfl⟩
    obtain ⟨k, hk, rfl, hB, hb, hsz⟩ := hrel
    by_cases hlt2 : k < n
    · have hkl : k < ls.length := by rw [hn.out]; exact hlt2
      obtain ⟨s, hs⟩ : ∃ s, ls[k] = s := ⟨_, rfl⟩
      have htk := linesL_take ls k hkl
      rw [hs] at htk
      obtain ⟨b, off, rfl, hc⟩ := hcs.out.resolve_left (by intro h; have := congrArg List.length h; rw [List.length_map] at this; simp at this; rw [this] at hkl; simp at hkl)
      have hcell : wo.cell? ⟨b, off + k, none⟩ = some (.string s) := by
        have h1 := hc k (.string s) (by rw [List.getElem?_map, List.getElem?_eq_getElem hkl, hs]; rfl)
        rw [hb.cell (p := ⟨b, off + k, none⟩) (World.block_lt_of_cell? w _ h1)]; exact h1
      have hle : (linesL (ls.take (k + 1))).length ≤ (linesL ls).length := by
        have e : linesL ls = linesL (ls.take (k + 1)) ++ linesL (ls.drop (k + 1)) := by unfold linesL; rw [← List.flatMap_append, List.take_append_drop]
        rw [e, List.length_append]; omega
      have hl0 := hlen.out
      have hlk : (vb (linesL (ls.take k))).length + (s ++ ⟨#[10]⟩ : ByteArray).size ≤ 140737488355328 := by
        rw [htk, List.length_append, List.length_append] at hle
        have e1 : (s ++ ⟨#[10]⟩ : ByteArray).size = s.size + 1 := by rw [ByteArray.size_append]; rfl
        have e2 := strL_length s
        rw [length_vb, e1]
        simp only [List.length_cons, List.length_nil] at hle
        omega
      have hcat : vb (linesL (ls.take k)) ++ Lib.strCells (s ++ ⟨#[10]⟩) = vb (linesL (ls.take (k + 1))) := by
        rw [htk, vb_append]
        refine congrArg (fun z => vb (linesL (ls.take k)) ++ z) ?_
        show vb (strL (s ++ ⟨#[10]⟩)) = _
        refine congrArg vb ?_
        unfold strL; simp
      have hs63 : ¬ 9223372036854775807 < s.size + 1 := by
        have e1 : (s ++ ⟨#[10]⟩ : ByteArray).size = s.size + 1 := by rw [ByteArray.size_append]; rfl
        rw [e1] at hlk; omega
      have i1 : (0 : Int) ≤ (k : Int) := by omega
      have i2 : (k : Int) < (n : Int) := by omega
      clear hc hkl hs htk hle hl0
      replace hB := Lib.hid hB; replace hb := Lib.hid hb; replace hlk := Lib.hid hlk; replace hcat := Lib.hid hcat
      go_wp2_with fail
      refine (ws_any w.heap.size w.heap.size _ _ _ hB.out hlk.out (by omega)).mono ?_
      rintro e w3 ⟨rfl, hB3, b3⟩
      rw [hcat.out] at hB3
      have hb3 := hb.out.trans b3
      have hs3 := b3.size
      clear b3 hs63
      replace hB3 := Lib.hid hB3; replace hb3 := Lib.hid hb3
      go_wp2_with fail
      go_roundw
      case rel => exact ⟨k + 1, by omega, by go_num, .inr hB3.out, hb3.out, by omega⟩
      case measure => simp [intOf]; omega
    · obtain rfl : k = n := by omega
      have htk : ls.take k = ls := by rw [← hn.out]; exact List.take_length
      rw [htk] at hB
      replace hB := Lib.hid hB; replace hb := Lib.hid hb
      clear htk
      go_wp2_with fail
      refine (str_any w.heap.size w.heap.size _ _ hB.out (by omega)).mono ?_
      rintro e w3 ⟨rfl, b3⟩
      have hb3 := Lib.hid (hb.out.trans b3)
      clear b3
      go_wp2_with fail
      go_ret
      exact ⟨rfl, hb3.out⟩
end Go.Proofs.YtemanjahkohcpaaDoor

namespace Go.Proofs.YtemanjahkohcpaaDoor
open Go.RowKit WP
set_option maxRecDepth 100000
/-- the four lines of a quote -/
def fmtT (sm sd st : ByteArray) : List ByteArray := [⟨#[113, 117, 111, 116, 101, 32, 49]⟩, (⟨#[109, 101, 97, 115, 117, 114, 101, 109, 101, 110, 116, 32]⟩ : ByteArray) ++ sm, (⟨#[100, 97, 116, 97, 32]⟩ : ByteArray) ++ sd, (⟨#[116, 97, 103, 32]⟩ : ByteArray) ++ st]
def hexT (l : List UInt32) : ByteArray := ⟨(hexAllL l).toArray⟩
/-- the text of a quote -/
def fmtL (me da tg : List UInt32) : List UInt8 := linesL (fmtT (hexT me) (hexT da) (hexT tg))
theorem hexT_size (l : List UInt32) (h : l.length = 8) : (hexT l).size = 64 := by
  unfold hexT; rw [size_mk, length_hexAllL, h]
theorem rangeCell {w : World} {g : Nat} (o : Nat) (l : List UInt32) (i : Nat) (h : w.rangeAt g o (vw l)) (hl : l.length = 8) (hi : i < 8) : w.cell? ⟨g, o + i, none⟩ = some (.int .u32 (wAt l i)) :=
  h i _ (vw_get l i (by omega))
theorem linesL_len (ls : List ByteArray) : (linesL ls).length = (ls.map fun s => s.size + 1).sum := by
  induction ls with
  | nil => rfl
  | cons s ls ih =>
    have e : linesL (s :: ls) = (strL s ++ [10]) ++ linesL ls := by simp [linesL]
    rw [e, List.length_append, ih, List.length_append, strL_length]; simp
theorem fmtT_len (sm sd st : ByteArray) (h1 : sm.size = 64) (h2 : sd.size = 64) (h3 : st.size = 64) : (linesL (fmtT sm sd st)).length = 224 := by
  rw [linesL_len]; simp only [fmtT, List.map_cons, List.map_nil, List.sum_cons, List.sum_nil, ByteArray.size_append, h1, h2, h3]; rfl
set_option maxHeartbeats 4000000 in
theorem format_any (me da tg : List UInt32) (w : World) (lme : me.length = 8) (lda : da.length = 8) (ltg : tg.length = 8) :
    Calls Tryd.prog 17 #[.agg (vw me ++ vw da ++ vw tg).toArray] w fun e w' => e = .returned (.string ⟨(fmtL me da tg).toArray⟩) ∧ Below w.heap.size w w' := by
  obtain ⟨qc, hqc⟩ : ∃ qc, vw me ++ vw da ++ vw tg = qc := ⟨_, rfl⟩
  rw [hqc]
  obtain ⟨w1, hw1⟩ : ∃ w1, w.alloc (.cells qc.toArray 38) = w1 := ⟨_, rfl⟩
  have hQ : w1.heap[w.heap.size]? = some (.cells (vw me ++ vw da ++ vw tg).toArray 38) := by rw [← hw1, hqc]; exact heap_alloc_new w _
  have Q1 := Quo.new hQ lme lda ltg
  have hb1 : Below w.heap.size w w1 := by rw [← hw1]; exact (Below.refl _ _).alloc (Nat.le_refl _) _
  have qb : ∀ {w' : World}, Below w1.heap.size w1 w' → Quo w' w.heap.size me da tg := fun h => Q1.below h
  have hS : ∀ w' : World, Below w1.heap.size w1 w' → (Below w1.heap.size w1 w' ∧ w'.cell? ⟨w.heap.size, 0, none⟩ = some (.int .u32 (wAt me 0)) ∧ w'.cell? ⟨w.heap.size, 1, none⟩ = some (.int .u32 (wAt me 1)) ∧ w'.cell? ⟨w.heap.size, 2, none⟩ = some (.int .u32 (wAt me 2)) ∧ w'.cell? ⟨w.heap.size, 3, none⟩ = some (.int .u32 (wAt me 3)) ∧ w'.cell? ⟨w.heap.size, 4, none⟩ = some (.int .u32 (wAt me 4)) ∧ w'.cell? ⟨w.heap.size, 5, none⟩ = some (.int .u32 (wAt me 5)) ∧ w'.cell? ⟨w.heap.size, 6, none⟩ = some (.int .u32 (wAt me 6)) ∧ w'.cell? ⟨w.heap.size, 7, none⟩ = some (.int .u32 (wAt me 7)) ∧ w'.cell? ⟨w.heap.size, 8, none⟩ = some (.int .u32 (wAt da 0)) ∧ w'.cell? ⟨w.heap.size, 9, none⟩ = some (.int .u32 (wAt da 1)) ∧ w'.cell? ⟨w.heap.size, 10, none⟩ = some (.int .u32 (wAt da 2)) ∧ w'.cell? ⟨w.heap.size, 11, none⟩ = some (.int .u32 (wAt da 3)) ∧ w'.cell? ⟨w.heap.size, 12, none⟩ = some (.int .u32 (wAt da 4)) ∧ w'.cell? ⟨w.heap.size, 13, none⟩ = some (.int .u32 (wAt da 5)) ∧ w'.cell? ⟨w.heap.size, 14, none⟩ = some (.int .u32 (wAt da 6)) ∧ w'.cell? ⟨w.heap.size, 15, none⟩ = some (.int .u32 (wAt da 7)) ∧ w'.cell? ⟨w.heap.size, 16, none⟩ = some (.int .u32 (wAt tg 0)) ∧ w'.cell? ⟨w.heap.size, 17, none⟩ = some (.int .u32 (wAt tg 1)) ∧ w'.cell? ⟨w.heap.size, 18, none⟩ = some (.int .u32 (wAt tg 2)) ∧ w'.cell? ⟨w.heap.size, 19, none⟩ = some (.int .u32 (wAt tg 3)) ∧ w'.cell? ⟨w.heap.size, 20, none⟩ = some (.int .u32 (wAt tg 4)) ∧ w'.cell? ⟨w.heap.size, 21, none⟩ = some (.int .u32 (wAt tg 5)) ∧ w'.cell? ⟨w.heap.size, 22, none⟩ = some (.int .u32 (wAt tg 6)) ∧ w'.cell? ⟨w.heap.size, 23, none⟩ = some (.int .u32 (wAt tg 7))) := fun w' h => ⟨h, rangeCell 0 me 0 (qb h).r0 lme (by decide), rangeCell 0 me 1 (qb h).r0 lme (by decide), rangeCell 0 me 2 (qb h).r0 lme (by decide), rangeCell 0 me 3 (qb h).r0 lme (by decide), rangeCell 0 me 4 (qb h).r0 lme (by decide), rangeCell 0 me 5 (qb h).r0 lme (by decide), rangeCell 0 me 6 (qb h).r0 lme (by decide), rangeCell 0 me 7 (qb h).r0 lme (by decide), rangeCell 8 da 0 (qb h).r1 lda (by decide), rangeCell 8 da 1 (qb h).r1 lda (by decide), rangeCell 8 da 2 (qb h).r1 lda (by decide), rangeCell 8 da 3 (qb h).r1 lda (by decide), rangeCell 8 da 4 (qb h).r1 lda (by decide), rangeCell 8 da 5 (qb h).r1 lda (by decide), rangeCell 8 da 6 (qb h).r1 lda (by decide), rangeCell 8 da 7 (qb h).r1 lda (by decide), rangeCell 16 tg 0 (qb h).r2 ltg (by decide), rangeCell 16 tg 1 (qb h).r2 ltg (by decide), rangeCell 16 tg 2 (qb h).r2 ltg (by decide), rangeCell 16 tg 3 (qb h).r2 ltg (by decide), rangeCell 16 tg 4 (qb h).r2 ltg (by decide), rangeCell 16 tg 5 (qb h).r2 ltg (by decide), rangeCell 16 tg 6 (qb h).r2 ltg (by decide), rangeCell 16 tg 7 (qb h).r2 ltg (by decide)⟩
  obtain ⟨sm, hsm⟩ : ∃ s, hexT me = s := ⟨_, rfl⟩
  obtain ⟨sd, hsd⟩ : ∃ s, hexT da = s := ⟨_, rfl⟩
  obtain ⟨st, hst⟩ : ∃ s, hexT tg = s := ⟨_, rfl⟩
  have zm : sm.size = 64 := by rw [← hsm]; exact hexT_size me lme
  have zd : sd.size = 64 := by rw [← hsd]; exact hexT_size da lda
  have zt : st.size = 64 := by rw [← hst]; exact hexT_size tg ltg
  have hF : fmtL me da tg = linesL (fmtT sm sd st) := by unfold fmtL; rw [hsm, hsd, hst]
  have hlen := fmtT_len sm sd st zm zd zt
  have k1 : ¬ 9223372036854775807 < 12 + sm.size := by omega
  have k2 : ¬ 9223372036854775807 < 5 + sd.size := by omega
  have k3 : ¬ 9223372036854775807 < 4 + st.size := by omega
  have vme := Lib.hid (vw_lit8 me lme); have vda := Lib.hid (vw_lit8 da lda); have vtg := Lib.hid (vw_lit8 tg ltg)
  replace hS := Lib.hid hS; replace hb1 := Lib.hid hb1; replace hsm := Lib.hid hsm; replace hsd := Lib.hid hsd; replace hst := Lib.hid hst; replace hF := Lib.hid hF; replace hlen := Lib.hid hlen
  replace zm := Lib.hid zm; replace zd := Lib.hid zd; replace zt := Lib.hid zt
  clear hQ Q1 qb hqc
  go_enter Tryd.func17, Tryd.ntmps17
  go_upto_region 1 with fail
  try (change Code.wp _ _ _ _ (w.alloc (.cells qc.toArray 38)); rw [hw1])
  clear hw1
  go_region_held3 (fun w' => Below w1.heap.size w1 w' ∧ w'.cell? ⟨w.heap.size, 0, none⟩ = some (.int .u32 (wAt me 0)) ∧ w'.cell? ⟨w.heap.size, 1, none⟩ = some (.int .u32 (wAt me 1)) ∧ w'.cell? ⟨w.heap.size, 2, none⟩ = some (.int .u32 (wAt me 2)) ∧ w'.cell? ⟨w.heap.size, 3, none⟩ = some (.int .u32 (wAt me 3)) ∧ w'.cell? ⟨w.heap.size, 4, none⟩ = some (.int .u32 (wAt me 4)) ∧ w'.cell? ⟨w.heap.size, 5, none⟩ = some (.int .u32 (wAt me 5)) ∧ w'.cell? ⟨w.heap.size, 6, none⟩ = some (.int .u32 (wAt me 6)) ∧ w'.cell? ⟨w.heap.size, 7, none⟩ = some (.int .u32 (wAt me 7)) ∧ w'.cell? ⟨w.heap.size, 8, none⟩ = some (.int .u32 (wAt da 0)) ∧ w'.cell? ⟨w.heap.size, 9, none⟩ = some (.int .u32 (wAt da 1)) ∧ w'.cell? ⟨w.heap.size, 10, none⟩ = some (.int .u32 (wAt da 2)) ∧ w'.cell? ⟨w.heap.size, 11, none⟩ = some (.int .u32 (wAt da 3)) ∧ w'.cell? ⟨w.heap.size, 12, none⟩ = some (.int .u32 (wAt da 4)) ∧ w'.cell? ⟨w.heap.size, 13, none⟩ = some (.int .u32 (wAt da 5)) ∧ w'.cell? ⟨w.heap.size, 14, none⟩ = some (.int .u32 (wAt da 6)) ∧ w'.cell? ⟨w.heap.size, 15, none⟩ = some (.int .u32 (wAt da 7)) ∧ w'.cell? ⟨w.heap.size, 16, none⟩ = some (.int .u32 (wAt tg 0)) ∧ w'.cell? ⟨w.heap.size, 17, none⟩ = some (.int .u32 (wAt tg 1)) ∧ w'.cell? ⟨w.heap.size, 18, none⟩ = some (.int .u32 (wAt tg 2)) ∧ w'.cell? ⟨w.heap.size, 19, none⟩ = some (.int .u32 (wAt tg 3)) ∧ w'.cell? ⟨w.heap.size, 20, none⟩ = some (.int .u32 (wAt tg 4)) ∧ w'.cell? ⟨w.heap.size, 21, none⟩ = some (.int .u32 (wAt tg 5)) ∧ w'.cell? ⟨w.heap.size, 22, none⟩ = some (.int .u32 (wAt tg 6)) ∧ w'.cell? ⟨w.heap.size, 23, none⟩ = some (.int .u32 (wAt tg 7)))
    (first
      | exact hS.out _ (Below.refl _ _)
      | exact hS.out _ (Below.drew (Below.refl _ _))
      | assumption
      | exact hS.out _ (Below.drew (And.left (by assumption)))
      | exact hS.out _ (bX.trans (b2.mono bX.size))
      | exact hS.out _ ((And.left (by assumption : Below w1.heap.size w1 _ ∧ _)).alloc (And.left (by assumption : Below w1.heap.size w1 _ ∧ _)).size _))
    (first
      | (go_at_call 37; rw [← vme.out]; obtain ⟨bX, _⟩ := (by assumption : Below w1.heap.size w1 _ ∧ _); refine (hexf_any me _ lme).mono ?_; rintro e w2 ⟨rfl, b2⟩; change _; rw [show (⟨(hexAllL me).toArray⟩ : ByteArray) = sm from hsm.out])
      | (go_at_call 37; rw [← vda.out]; obtain ⟨bX, _⟩ := (by assumption : Below w1.heap.size w1 _ ∧ _); refine (hexf_any da _ lda).mono ?_; rintro e w2 ⟨rfl, b2⟩; rw [show (⟨(hexAllL da).toArray⟩ : ByteArray) = sd from hsd.out])
      | (go_at_call 37; rw [← vtg.out]; obtain ⟨bX, _⟩ := (by assumption : Below w1.heap.size w1 _ ∧ _); refine (hexf_any tg _ ltg).mono ?_; rintro e w2 ⟨rfl, b2⟩; rw [show (⟨(hexAllL tg).toArray⟩ : ByteArray) = st from hst.out])
      | (go_at_call 36; obtain ⟨bX, _⟩ := (by assumption : Below w1.heap.size w1 _ ∧ _); refine (lines_any _ (fmtT sm sd st) _ (Rd.new _ ((fmtT sm sd st).map Value.string) 9 (0, 0) (by simp [fmtT, maxLen])) (by rw [hlen.out]; omega)).mono ?_; rintro e w2 ⟨rfl, b2⟩; rw [← hF.out]))
  all_goals
    go_wp2_with fail
    go_ret
    exact ⟨rfl, hb1.out.trans ((And.left (by assumption : Below w1.heap.size w1 _ ∧ _)).mono hb1.out.size)⟩
end Go.Proofs.YtemanjahkohcpaaDoor
