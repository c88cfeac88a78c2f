/- The contract of attest's Parse. -/
import Derived.Test.YtemanjahkohcpaaDoorJn29
namespace Go.Proofs.YtemanjahkohcpaaDoor
open Go.RowKit WP
set_option maxRecDepth 100000
def zero24 : List Value := [.int .u32 0, .int .u32 0, .int .u32 0, .int .u32 0, .int .u32 0, .int .u32 0, .int .u32 0, .int .u32 0, .int .u32 0, .int .u32 0, .int .u32 0, .int .u32 0, .int .u32 0, .int .u32 0, .int .u32 0, .int .u32 0, .int .u32 0, .int .u32 0, .int .u32 0, .int .u32 0, .int .u32 0, .int .u32 0, .int .u32 0, .int .u32 0]
theorem zero24_one : ∀ u ∈ zero24, u.oneCell' = true := by decide
theorem zero24_vw : zero24 = vw (List.replicate 8 0) ++ vw (List.replicate 8 0) ++ vw (List.replicate 8 0) := by rfl
theorem World.grownBy_drewN' (w : World) (n : Nat) : w.grownBy (w.drewN n) none := ⟨rfl, rfl, rfl, Nat.le_refl _, fun _ _ _ => rfl⟩
theorem cut_len (l : List UInt8) : ((Lib.cut l [32]).2.1).length ≤ l.length := by
  unfold Lib.cut
  split
  · simp
  · simp
theorem splitK_len (c : List UInt8) : ∀ (k : Nat) (l x : List UInt8), x ∈ Lib.splitK c 0 k l → x.length ≤ l.length
  | 0, l, x, h => by
    have h' : x ∈ [l] := h
    simp at h'; rw [h']; exact Nat.le_refl _
  | k + 1, l, x, h => by
    have h' : x ∈ (if Lib.index l c == -1 then [l] else l.take ((Lib.index l c).toNat + 0) :: Lib.splitK c 0 k (l.drop ((Lib.index l c).toNat + c.length))) := h
    split at h'
    · simp at h'; rw [h']; exact Nat.le_refl _
    · rcases List.mem_cons.1 h' with rfl | h'
      · rw [List.length_take]; omega
      · have := splitK_len c k _ _ h'
        rw [List.length_drop] at this
        omega
theorem line_size (s t : ByteArray) (h : t ∈ linesOf s) : t.size ≤ s.size := by
  have hm : (linesOf s).map strL = Lib.splitK [10] 0 (Lib.countB s ⟨#[10]⟩) (strL s) := Lib.splitB_data ⟨#[10]⟩ 0 (Lib.countB s ⟨#[10]⟩) s
  have : strL t ∈ (linesOf s).map strL := List.mem_map.2 ⟨t, h, rfl⟩
  rw [hm] at this
  have := splitK_len _ _ _ _ this
  rwa [strL_length, strL_length] at this
theorem five (l : List ByteArray) (h : l.length = 5) : ∃ a b c d e, l = [a, b, c, d, e] := by
  match l, h with
  | [a, b, c, d, e], _ => exact ⟨a, b, c, d, e, rfl⟩
set_option maxHeartbeats 4000000 in
theorem parse_all (s : ByteArray) (u : TypeId) (x : Value) (m : Int) (w : World) (hs : s.size ≤ 2097152) (hE : w.cell? ⟨0, 0, none⟩ = some (.iface u x)) (hM : MaxL w m) :
    Calls Tryd.prog 18 #[.string s] w fun e w' => Below w.heap.size w w' ∧
      ((∃ me da tg : List UInt32, me.length = 8 ∧ da.length = 8 ∧ tg.length = 8 ∧ fmtL me da tg = strL s ∧ e = .returned (.tuple #[.agg (vw me ++ vw da ++ vw tg).toArray, .int .i64 0])) ∨ (NoQuote s ∧ e = .returned (.tuple #[.agg zero24.toArray, .int .i64 160]))) := by
  obtain ⟨w1, hw1⟩ : ∃ w1, w.alloc (.cells zero24.toArray 38) = w1 := ⟨_, rfl⟩
  have hR1 : w1.heap[w.heap.size]? = some (.cells zero24.toArray 38) := by rw [← hw1]; exact heap_alloc_new w _
  have hb1 : Below w.heap.size w w1 := by rw [← hw1]; exact (Below.refl _ _).alloc (Nat.le_refl _) _
  have hgE : 0 < w.heap.size := World.block_lt_of_cell? w _ hE
  have hgM : 4 < w.heap.size := World.block_lt_of_cell? w _ hM
  have hE1 : w1.cell? ⟨0, 0, none⟩ = some (.iface u x) := by rw [cell_kept (hb1.block _ hgE)]; exact hE
  have hM1 : MaxL w1 m := by show w1.cell? _ = _; rw [cell_kept (hb1.block _ hgM)]; exact hM
  have l1 : w.heap.size < w1.heap.size := (Array.getElem?_eq_some_iff.1 hR1).1
  obtain ⟨P, hPs⟩ : ∃ P, linesOf s = P := ⟨_, rfl⟩
  obtain ⟨n, hn⟩ : ∃ n, Lib.countB s ⟨#[10]⟩ + 1 = n := ⟨_, rfl⟩
  have hPn : P.length = n := by rw [← hPs, linesOf_len, hn]
  replace hR1 := Lib.hid hR1; replace hb1 := Lib.hid hb1; replace hE1 := Lib.hid hE1; replace hM1 := Lib.hid hM1; replace hPs := Lib.hid hPs; replace hPn := Lib.hid hPn; replace hn := Lib.hid hn
  replace hE := Lib.hid hE; replace hM := Lib.hid hM
  go_enter Tryd.func18, Tryd.ntmps18
  go_upto_region 1 with fail
  try (change Code.wp _ _ _ _ (w.alloc (.cells zero24.toArray 38)); rw [hw1])
  clear hw1
  go_wp2_with fail
  refine (split_any s ⟨#[10]⟩ m _ (by omega) hM1.out (by decide)).mono ?_
  rintro e w2 ⟨rfl, hw2⟩
  rw [hn.out]
  have hL2 : w2.heap[w1.heap.size]? = some (.cells (P.map Value.string).toArray 9) := by rw [hw2, ← hPs.out]; exact heap_alloc_new w1 _
  have b12 : Below w1.heap.size w1 w2 := by rw [hw2]; exact (Below.refl _ _).alloc (Nat.le_refl _) _
  have hb2 := hb1.out.trans (b12.mono hb1.out.size)
  have hR2 := (b12.block _ l1).trans hR1.out
  have l2 : w1.heap.size < w2.heap.size := (Array.getElem?_eq_some_iff.1 hL2).1
  clear hw2 b12 hb1 hR1
  replace hL2 := Lib.hid hL2; replace hb2 := Lib.hid hb2; replace hR2 := Lib.hid hR2
  by_cases h5 : n = 5
  case neg =>
    have d5 : ((n : Int) != 5) = true := by simp; omega
    have hN : NoQuote s := noQuote_len s (by rw [hPs.out, hPn.out]; exact h5)
    replace hN := Lib.hid hN
    go_wp2_with (refine wpList_store_blk rfl 38 _ _ rfl w.heap.size zero24 rfl rfl 38 _ hR2.out info38 rfl zero24_one ?_; intro wz hBz gz)
    refine bodyPost_ret (results_two rfl rfl rfl (range_block hBz) Tryd.underlying38 rfl info38) rfl ⟨hb2.out.grown gz hb2.out.size (by simp), .inr ⟨hN.out, rfl⟩⟩

  subst h5
  obtain ⟨s0, s1, s2, s3, s4, hP⟩ := five P hPn.out
  have hsm : ∀ t ∈ P, t.size ≤ 2097152 := fun t ht => Nat.le_trans (line_size s t (by rw [hPs.out]; exact ht)) hs
  obtain ⟨wB, hwB⟩ : ∃ wB, (w2.alloc (.cells zero24.toArray 38)).alloc (.cells #[.pointer (some ⟨w2.heap.size, 0, none⟩), .pointer (some ⟨w2.heap.size, 8, none⟩), .pointer (some ⟨w2.heap.size, 16, none⟩)] 82) = wB := ⟨_, rfl⟩
  have hb2B : Below w2.heap.size w2 wB := by rw [← hwB]; exact ((Below.refl _ _).alloc (Nat.le_refl _) _).alloc (by simp) _
  have hQB : wB.heap[w2.heap.size]? = some (.cells zero24.toArray 38) := by rw [← hwB, heap_alloc_old _ _ (by simp)]; exact heap_alloc_new w2 _
  have hpB : wB.heap[(w2.heap.size + 1)]? = some (.cells #[.pointer (some ⟨w2.heap.size, 0, none⟩), .pointer (some ⟨w2.heap.size, 8, none⟩), .pointer (some ⟨w2.heap.size, 16, none⟩)] 82) := by
    rw [← hwB]
    have := heap_alloc_new (w2.alloc (.cells zero24.toArray 38)) (.cells #[.pointer (some ⟨w2.heap.size, 0, none⟩), .pointer (some ⟨w2.heap.size, 8, none⟩), .pointer (some ⟨w2.heap.size, 16, none⟩)] 82)
    simpa using this
  have QB : Quo wB w2.heap.size (List.replicate 8 0) (List.replicate 8 0) (List.replicate 8 0) := Quo.new (by rw [← zero24_vw]; exact hQB) (by simp) (by simp) (by simp)
  have lB : w2.heap.size + 1 < wB.heap.size := (Array.getElem?_eq_some_iff.1 hpB).1
  have hbB := hb2.out.trans (hb2B.mono hb2.out.size)
  have hF : ∀ wr : World, wB.grownBy wr (some w2.heap.size) → (Below w.heap.size w wr ∧ wr.cell? ⟨0, 0, none⟩ = some (.iface u x) ∧ MaxL wr m ∧ wr.heap[w.heap.size]? = some (.cells zero24.toArray 38) ∧
      wr.cell? ⟨w2.heap.size + 1, 0, none⟩ = some (.pointer (some ⟨w2.heap.size, 0, none⟩)) ∧ wr.cell? ⟨w2.heap.size + 1, 1, none⟩ = some (.pointer (some ⟨w2.heap.size, 8, none⟩)) ∧ wr.cell? ⟨w2.heap.size + 1, 2, none⟩ = some (.pointer (some ⟨w2.heap.size, 16, none⟩)) ∧
      wr.cell? ⟨w1.heap.size, 1, none⟩ = some (.string s1) ∧ wr.cell? ⟨w1.heap.size, 2, none⟩ = some (.string s2) ∧ wr.cell? ⟨w1.heap.size, 3, none⟩ = some (.string s3)) := fun wr G => by
    have bw := hbB.grown G hbB.size (by intro j hj; simp at hj; omega)
    have hL : wr.heap[w1.heap.size]? = some (.cells #[.string s0, .string s1, .string s2, .string s3, .string s4] 9) := by
      rw [G.block w1.heap.size (by omega) (by simp; omega), hb2B.block _ l2, hL2.out, hP]; rfl
    have hp : wr.heap[w2.heap.size + 1]? = _ := (G.block (w2.heap.size + 1) lB (by simp)).trans hpB
    have hR : wr.heap[w.heap.size]? = _ := (G.block w.heap.size (by omega) (by simp; omega)).trans ((hb2B.block _ (by omega)).trans hR2.out)
    refine ⟨bw, ?_, ?_, hR, ?_, ?_, ?_, ?_, ?_, ?_⟩
    · rw [cell_kept (bw.block _ hgE)]; exact hE.out
    · show wr.cell? _ = _; rw [cell_kept (bw.block _ hgM)]; exact hM.out
    · rw [cell_of_row wr _ 0 _ _ _ hp]; rfl
    · rw [cell_of_row wr _ 1 _ _ _ hp]; rfl
    · rw [cell_of_row wr _ 2 _ _ _ hp]; rfl
    · rw [cell_of_row wr _ 1 _ _ _ hL]; rfl
    · rw [cell_of_row wr _ 2 _ _ _ hL]; rfl
    · rw [cell_of_row wr _ 3 _ _ _ hL]; rfl
  clear hQB hpB hb2B hbB hR2 hL2 hb2 hE1 hM1
  replace hF := Lib.hid hF; replace QB := Lib.hid QB; replace hP := Lib.hid hP; replace hsm := Lib.hid hsm
  go_upto_region 5 with fail
  go_wp2_with fail
  rw [show (w2.alloc (.cells #[.int .u32 0, .int .u32 0, .int .u32 0, .int .u32 0, .int .u32 0, .int .u32 0, .int .u32 0, .int .u32 0, .int .u32 0, .int .u32 0, .int .u32 0, .int .u32 0, .int .u32 0, .int .u32 0, .int .u32 0, .int .u32 0, .int .u32 0, .int .u32 0, .int .u32 0, .int .u32 0, .int .u32 0, .int .u32 0, .int .u32 0, .int .u32 0] 38)).alloc (.cells #[.pointer (some ⟨w2.heap.size, 0, none⟩), .pointer (some ⟨w2.heap.size, 8, none⟩), .pointer (some ⟨w2.heap.size, 16, none⟩)] 82) = wB from hwB]
  clear hwB
  go_loopw [6, 7, 8, 9, 10, 11, 12, 24] (fun _ _ _ _ _ _ _ i wr => ∃ (k : Nat) (a0 a1 a2 : List UInt32), k ≤ 3 ∧ i = .int .i64 (k : Int) ∧ a0.length = 8 ∧ a1.length = 8 ∧ a2.length = 8 ∧ Quo wr w2.heap.size a0 a1 a2 ∧ wB.grownBy wr (some w2.heap.size) ∧
      (1 ≤ k → hexAllL a0 = digitsOf P 1) ∧ (2 ≤ k → hexAllL a1 = digitsOf P 2) ∧ (3 ≤ k → hexAllL a2 = digitsOf P 3)) (fun _ _ _ _ _ _ _ i _ => 3 - (intOf i).toNat)
  case atStart => exact ⟨0, _, _, _, by omega, rfl, by simp, by simp, by simp, QB.out, World.grownBy.refl _ _, (fun h => by omega), (fun h => by omega), (fun h => by omega)⟩
  case round =>
    obtain ⟨wo, rfl⟩ : ∃ wo, wo = wr := ⟨wr, rfl⟩
    obtain ⟨k, a0, a1, a2, hk, rfl, L0, L1, L2, Qw, G, D0, D1, D2⟩ := hrel
    match k, hk with
    | 0, _ =>
      obtain ⟨bw, cE, cM, hR, pk0, pk1, pk2, lk1, lk2, lk3⟩ := hF.out wo G
      have hsz := G.size
      have hD0 : digitsOf P 1 = (Lib.cut (strL s1) [32]).2.1 := by unfold digitsOf; rw [hP.out]; rfl
      have ls0 := hsm.out s1 (by rw [hP.out]; simp)
      replace bw := Lib.hid bw; replace cE := Lib.hid cE; replace cM := Lib.hid cM; replace hR := Lib.hid hR; replace G := Lib.hid G; replace Qw := Lib.hid Qw; replace hD0 := Lib.hid hD0
      replace D0 := Lib.hid D0; replace D1 := Lib.hid D1; replace D2 := Lib.hid D2
      go_upto_region 8 with fail
      go_wp2_with fail
      refine (cut_any s1 ⟨#[32]⟩ m _ (by omega) cM.out).mono ?_
      rintro e w3 ⟨rfl, nn, rfl⟩
      obtain ⟨c1, hc1⟩ : ∃ z : ByteArray, ⟨(Lib.cut s1.data.toList (⟨#[32]⟩ : ByteArray).data.toList).1.toArray⟩ = z := ⟨_, rfl⟩
      obtain ⟨dg, hdg⟩ : ∃ z : ByteArray, ⟨(Lib.cut s1.data.toList (⟨#[32]⟩ : ByteArray).data.toList).2.1.toArray⟩ = z := ⟨_, rfl⟩
      obtain ⟨c3, hc3⟩ : ∃ z, (Lib.cut s1.data.toList (⟨#[32]⟩ : ByteArray).data.toList).2.2 = z := ⟨_, rfl⟩
      rw [hc1, hdg, hc3]
      have hdd : strL dg = digitsOf P 1 := by rw [hD0.out, ← hdg]; rfl
      have hdl : dg.size ≤ 2097152 := by
        have h1 := cut_len (strL s1)
        have h2 := strL_length dg
        have h3 := strL_length s1
        rw [hdd, hD0.out] at h2
        omega
      clear hc1 hc3 hdg
      replace hdd := Lib.hid hdd
      go_wp2_with fail
      refine (eight_any dg u x (wo.drewN nn) hdl (show (wo.drewN nn).cell? ⟨0, 0, none⟩ = _ from cE.out)).mono ?_
      rintro e w4 ⟨b4, ⟨l, h8, hl, rfl⟩ | ⟨hno, t, y, rfl⟩⟩
      · have G4 : wB.grownBy w4 (some w2.heap.size) := grownBy_trans (grownBy_trans G.out (grownBy_weak (World.grownBy_drewN' wo nn)) (.inl rfl)) (grownBy_weak ⟨b4.os, b4.tape, b4.output, b4.size, fun j hj _ => b4.block j hj⟩) (.inl rfl)
        have Q4 : Quo w4 w2.heap.size a0 a1 a2 := (Qw.out.drewN nn).below b4
        have hs4 := G4.size
        have l4 := Q4.lt
        have aW0 : Arr (w4.alloc (.cells (vw (List.replicate 8 0)).toArray 23)) w4.heap.size 23 (List.replicate 8 0) := Arr.new _ _ _
        have hd3 : hexAllL l = digitsOf P 1 := by rw [hl, hdd.out]
        clear b4 Qw G bw cE cM hR hl
        replace G4 := Lib.hid G4; replace Q4 := Lib.hid Q4; replace aW0 := Lib.hid aW0; replace hd3 := Lib.hid hd3
        go_upto_region 10 with (refine wpList_store_arr rfl 23 _ _ rfl w4.heap.size rfl l rfl aW0.out info23 (by simp) h8 ?_; intro w5 a5 g5)
        have b45 := below_new g5
        have G5 : wB.grownBy w5 (some w2.heap.size) := grownBy_trans G4.out (grownBy_weak ⟨b45.os, b45.tape, b45.output, b45.size, fun j hj _ => b45.block j hj⟩) (.inl rfl)
        have Q5 : Quo w5 w2.heap.size a0 a1 a2 := Q4.out.below b45
        clear b45 g5 G4 Q4 aW0
        replace G5 := Lib.hid G5; replace Q5 := Lib.hid Q5; replace a5 := Lib.hid a5
        go_wp2_with (first
          | (refine wpList_load_arr rfl 23 _ rfl w4.heap.size rfl a5.out Tryd.underlying23 info23 h8 ?_)
          | (refine wpList_store_words rfl 23 _ _ rfl w2.heap.size 0 l rfl rfl (there_part Q5.out.th 0 8 (by omega)) info23 h8 ?_))
        go_roundw
        case rel =>
          exact ⟨1, l, a1, a2, by omega, rfl, h8, L1, L2, Q5.out.set0 l h8, grownBy_trans G5.out (grownBy_setCells w5 w2.heap.size 0 (vw l)) (.inl rfl), (fun _ => hd3.out), (fun h => by omega), (fun h => by omega)⟩
        case measure => simp [intOf]
      · have G4 : wB.grownBy w4 (some w2.heap.size) := grownBy_trans (grownBy_trans G.out (grownBy_weak (World.grownBy_drewN' wo nn)) (.inl rfl)) (grownBy_weak ⟨b4.os, b4.tape, b4.output, b4.size, fun j hj _ => b4.block j hj⟩) (.inl rfl)
        have hN : NoQuote s := fun me da tg e1 e2 e3 e => hno me e1 (by rw [hdd.out, ← hPs.out]; exact (quote_lines s me da tg e).2.1.symm)
        have aW0 : Arr (w4.alloc (.cells (vw (List.replicate 8 0)).toArray 23)) w4.heap.size 23 (List.replicate 8 0) := Arr.new _ _ _
        clear b4 Qw G bw cE cM hR hno
        replace G4 := Lib.hid G4; replace hN := Lib.hid hN; replace aW0 := Lib.hid aW0
        go_upto_region 10 with (refine wpList_store_arr rfl 23 _ _ rfl w4.heap.size rfl (List.replicate 8 0) rfl aW0.out info23 (by simp) (by simp) ?_; intro w5 a5 g5)
        have b45 := below_new g5
        have G5 : wB.grownBy w5 (some w2.heap.size) := grownBy_trans G4.out (grownBy_weak ⟨b45.os, b45.tape, b45.output, b45.size, fun j hj _ => b45.block j hj⟩) (.inl rfl)
        obtain ⟨bw5, _, _, hR5, _⟩ := hF.out w5 G5
        clear b45 g5 G4 aW0 a5 G5
        replace bw5 := Lib.hid bw5; replace hR5 := Lib.hid hR5
        go_wp2_with (refine wpList_store_blk rfl 38 _ _ rfl w.heap.size zero24 rfl rfl 38 _ hR5.out info38 rfl zero24_one ?_; intro wz hBz gz)
        refine bodyPost_ret (results_two rfl rfl rfl (range_block hBz) Tryd.underlying38 rfl info38) rfl ⟨bw5.out.grown gz bw5.out.size (by simp), .inr ⟨hN.out, rfl⟩⟩
    | 1, _ =>
      obtain ⟨bw, cE, cM, hR, pk0, pk1, pk2, lk1, lk2, lk3⟩ := hF.out wo G
      have hsz := G.size
      have hD1 : digitsOf P 2 = (Lib.cut (strL s2) [32]).2.1 := by unfold digitsOf; rw [hP.out]; rfl
      have ls1 := hsm.out s2 (by rw [hP.out]; simp)
      replace bw := Lib.hid bw; replace cE := Lib.hid cE; replace cM := Lib.hid cM; replace hR := Lib.hid hR; replace G := Lib.hid G; replace Qw := Lib.hid Qw; replace hD1 := Lib.hid hD1
      replace D0 := Lib.hid D0; replace D1 := Lib.hid D1; replace D2 := Lib.hid D2
      go_upto_region 8 with fail
      go_wp2_with fail
      refine (cut_any s2 ⟨#[32]⟩ m _ (by omega) cM.out).mono ?_
      rintro e w3 ⟨rfl, nn, rfl⟩
      obtain ⟨c1, hc1⟩ : ∃ z : ByteArray, ⟨(Lib.cut s2.data.toList (⟨#[32]⟩ : ByteArray).data.toList).1.toArray⟩ = z := ⟨_, rfl⟩
      obtain ⟨dg, hdg⟩ : ∃ z : ByteArray, ⟨(Lib.cut s2.data.toList (⟨#[32]⟩ : ByteArray).data.toList).2.1.toArray⟩ = z := ⟨_, rfl⟩
      obtain ⟨c3, hc3⟩ : ∃ z, (Lib.cut s2.data.toList (⟨#[32]⟩ : ByteArray).data.toList).2.2 = z := ⟨_, rfl⟩
      rw [hc1, hdg, hc3]
      have hdd : strL dg = digitsOf P 2 := by rw [hD1.out, ← hdg]; rfl
      have hdl : dg.size ≤ 2097152 := by
        have h1 := cut_len (strL s2)
        have h2 := strL_length dg
        have h3 := strL_length s2
        rw [hdd, hD1.out] at h2
        omega
      clear hc1 hc3 hdg
      replace hdd := Lib.hid hdd
      go_wp2_with fail
      refine (eight_any dg u x (wo.drewN nn) hdl (show (wo.drewN nn).cell? ⟨0, 0, none⟩ = _ from cE.out)).mono ?_
      rintro e w4 ⟨b4, ⟨l, h8, hl, rfl⟩ | ⟨hno, t, y, rfl⟩⟩
      · have G4 : wB.grownBy w4 (some w2.heap.size) := grownBy_trans (grownBy_trans G.out (grownBy_weak (World.grownBy_drewN' wo nn)) (.inl rfl)) (grownBy_weak ⟨b4.os, b4.tape, b4.output, b4.size, fun j hj _ => b4.block j hj⟩) (.inl rfl)
        have Q4 : Quo w4 w2.heap.size a0 a1 a2 := (Qw.out.drewN nn).below b4
        have hs4 := G4.size
        have l4 := Q4.lt
        have aW0 : Arr (w4.alloc (.cells (vw (List.replicate 8 0)).toArray 23)) w4.heap.size 23 (List.replicate 8 0) := Arr.new _ _ _
        have hd3 : hexAllL l = digitsOf P 2 := by rw [hl, hdd.out]
        clear b4 Qw G bw cE cM hR hl
        replace G4 := Lib.hid G4; replace Q4 := Lib.hid Q4; replace aW0 := Lib.hid aW0; replace hd3 := Lib.hid hd3
        go_upto_region 10 with (refine wpList_store_arr rfl 23 _ _ rfl w4.heap.size rfl l rfl aW0.out info23 (by simp) h8 ?_; intro w5 a5 g5)
        have b45 := below_new g5
        have G5 : wB.grownBy w5 (some w2.heap.size) := grownBy_trans G4.out (grownBy_weak ⟨b45.os, b45.tape, b45.output, b45.size, fun j hj _ => b45.block j hj⟩) (.inl rfl)
        have Q5 : Quo w5 w2.heap.size a0 a1 a2 := Q4.out.below b45
        clear b45 g5 G4 Q4 aW0
        replace G5 := Lib.hid G5; replace Q5 := Lib.hid Q5; replace a5 := Lib.hid a5
        go_wp2_with (first
          | (refine wpList_load_arr rfl 23 _ rfl w4.heap.size rfl a5.out Tryd.underlying23 info23 h8 ?_)
          | (refine wpList_store_words rfl 23 _ _ rfl w2.heap.size 8 l rfl rfl (there_part Q5.out.th 8 8 (by omega)) info23 h8 ?_))
        go_roundw
        case rel =>
          exact ⟨2, a0, l, a2, by omega, rfl, L0, h8, L2, Q5.out.set1 l h8 L0, grownBy_trans G5.out (grownBy_setCells w5 w2.heap.size 8 (vw l)) (.inl rfl), (fun _ => D0.out (by omega)), (fun _ => hd3.out), (fun h => by omega)⟩
        case measure => simp [intOf]
      · have G4 : wB.grownBy w4 (some w2.heap.size) := grownBy_trans (grownBy_trans G.out (grownBy_weak (World.grownBy_drewN' wo nn)) (.inl rfl)) (grownBy_weak ⟨b4.os, b4.tape, b4.output, b4.size, fun j hj _ => b4.block j hj⟩) (.inl rfl)
        have hN : NoQuote s := fun me da tg e1 e2 e3 e => hno da e2 (by rw [hdd.out, ← hPs.out]; exact (quote_lines s me da tg e).2.2.1.symm)
        have aW0 : Arr (w4.alloc (.cells (vw (List.replicate 8 0)).toArray 23)) w4.heap.size 23 (List.replicate 8 0) := Arr.new _ _ _
        clear b4 Qw G bw cE cM hR hno
        replace G4 := Lib.hid G4; replace hN := Lib.hid hN; replace aW0 := Lib.hid aW0
        go_upto_region 10 with (refine wpList_store_arr rfl 23 _ _ rfl w4.heap.size rfl (List.replicate 8 0) rfl aW0.out info23 (by simp) (by simp) ?_; intro w5 a5 g5)
        have b45 := below_new g5
        have G5 : wB.grownBy w5 (some w2.heap.size) := grownBy_trans G4.out (grownBy_weak ⟨b45.os, b45.tape, b45.output, b45.size, fun j hj _ => b45.block j hj⟩) (.inl rfl)
        obtain ⟨bw5, _, _, hR5, _⟩ := hF.out w5 G5
        clear b45 g5 G4 aW0 a5 G5
        replace bw5 := Lib.hid bw5; replace hR5 := Lib.hid hR5
        go_wp2_with (refine wpList_store_blk rfl 38 _ _ rfl w.heap.size zero24 rfl rfl 38 _ hR5.out info38 rfl zero24_one ?_; intro wz hBz gz)
        refine bodyPost_ret (results_two rfl rfl rfl (range_block hBz) Tryd.underlying38 rfl info38) rfl ⟨bw5.out.grown gz bw5.out.size (by simp), .inr ⟨hN.out, rfl⟩⟩
    | 2, _ =>
      obtain ⟨bw, cE, cM, hR, pk0, pk1, pk2, lk1, lk2, lk3⟩ := hF.out wo G
      have hsz := G.size
      have hD2 : digitsOf P 3 = (Lib.cut (strL s3) [32]).2.1 := by unfold digitsOf; rw [hP.out]; rfl
      have ls2 := hsm.out s3 (by rw [hP.out]; simp)
      replace bw := Lib.hid bw; replace cE := Lib.hid cE; replace cM := Lib.hid cM; replace hR := Lib.hid hR; replace G := Lib.hid G; replace Qw := Lib.hid Qw; replace hD2 := Lib.hid hD2
      replace D0 := Lib.hid D0; replace D1 := Lib.hid D1; replace D2 := Lib.hid D2
      go_upto_region 8 with fail
      go_wp2_with fail
      refine (cut_any s3 ⟨#[32]⟩ m _ (by omega) cM.out).mono ?_
      rintro e w3 ⟨rfl, nn, rfl⟩
      obtain ⟨c1, hc1⟩ : ∃ z : ByteArray, ⟨(Lib.cut s3.data.toList (⟨#[32]⟩ : ByteArray).data.toList).1.toArray⟩ = z := ⟨_, rfl⟩
      obtain ⟨dg, hdg⟩ : ∃ z : ByteArray, ⟨(Lib.cut s3.data.toList (⟨#[32]⟩ : ByteArray).data.toList).2.1.toArray⟩ = z := ⟨_, rfl⟩
      obtain ⟨c3, hc3⟩ : ∃ z, (Lib.cut s3.data.toList (⟨#[32]⟩ : ByteArray).data.toList).2.2 = z := ⟨_, rfl⟩
      rw [hc1, hdg, hc3]
      have hdd : strL dg = digitsOf P 3 := by rw [hD2.out, ← hdg]; rfl
      have hdl : dg.size ≤ 2097152 := by
        have h1 := cut_len (strL s3)
        have h2 := strL_length dg
        have h3 := strL_length s3
        rw [hdd, hD2.out] at h2
        omega
      clear hc1 hc3 hdg
      replace hdd := Lib.hid hdd
      go_wp2_with fail
      refine (eight_any dg u x (wo.drewN nn) hdl (show (wo.drewN nn).cell? ⟨0, 0, none⟩ = _ from cE.out)).mono ?_
      rintro e w4 ⟨b4, ⟨l, h8, hl, rfl⟩ | ⟨hno, t, y, rfl⟩⟩
      · have G4 : wB.grownBy w4 (some w2.heap.size) := grownBy_trans (grownBy_trans G.out (grownBy_weak (World.grownBy_drewN' wo nn)) (.inl rfl)) (grownBy_weak ⟨b4.os, b4.tape, b4.output, b4.size, fun j hj _ => b4.block j hj⟩) (.inl rfl)
        have Q4 : Quo w4 w2.heap.size a0 a1 a2 := (Qw.out.drewN nn).below b4
        have hs4 := G4.size
        have l4 := Q4.lt
        have aW0 : Arr (w4.alloc (.cells (vw (List.replicate 8 0)).toArray 23)) w4.heap.size 23 (List.replicate 8 0) := Arr.new _ _ _
        have hd3 : hexAllL l = digitsOf P 3 := by rw [hl, hdd.out]
        clear b4 Qw G bw cE cM hR hl
        replace G4 := Lib.hid G4; replace Q4 := Lib.hid Q4; replace aW0 := Lib.hid aW0; replace hd3 := Lib.hid hd3
        go_upto_region 10 with (refine wpList_store_arr rfl 23 _ _ rfl w4.heap.size rfl l rfl aW0.out info23 (by simp) h8 ?_; intro w5 a5 g5)
        have b45 := below_new g5
        have G5 : wB.grownBy w5 (some w2.heap.size) := grownBy_trans G4.out (grownBy_weak ⟨b45.os, b45.tape, b45.output, b45.size, fun j hj _ => b45.block j hj⟩) (.inl rfl)
        have Q5 : Quo w5 w2.heap.size a0 a1 a2 := Q4.out.below b45
        clear b45 g5 G4 Q4 aW0
        replace G5 := Lib.hid G5; replace Q5 := Lib.hid Q5; replace a5 := Lib.hid a5
        go_wp2_with (first
          | (refine wpList_load_arr rfl 23 _ rfl w4.heap.size rfl a5.out Tryd.underlying23 info23 h8 ?_)
          | (refine wpList_store_words rfl 23 _ _ rfl w2.heap.size 16 l rfl rfl (there_part Q5.out.th 16 8 (by omega)) info23 h8 ?_))
        go_roundw
        case rel =>
          exact ⟨3, a0, a1, l, by omega, rfl, L0, L1, h8, Q5.out.set2 l h8 L0 L1, grownBy_trans G5.out (grownBy_setCells w5 w2.heap.size 16 (vw l)) (.inl rfl), (fun _ => D0.out (by omega)), (fun _ => D1.out (by omega)), (fun _ => hd3.out)⟩
        case measure => simp [intOf]
      · have G4 : wB.grownBy w4 (some w2.heap.size) := grownBy_trans (grownBy_trans G.out (grownBy_weak (World.grownBy_drewN' wo nn)) (.inl rfl)) (grownBy_weak ⟨b4.os, b4.tape, b4.output, b4.size, fun j hj _ => b4.block j hj⟩) (.inl rfl)
        have hN : NoQuote s := fun me da tg e1 e2 e3 e => hno tg e3 (by rw [hdd.out, ← hPs.out]; exact (quote_lines s me da tg e).2.2.2.symm)
        have aW0 : Arr (w4.alloc (.cells (vw (List.replicate 8 0)).toArray 23)) w4.heap.size 23 (List.replicate 8 0) := Arr.new _ _ _
        clear b4 Qw G bw cE cM hR hno
        replace G4 := Lib.hid G4; replace hN := Lib.hid hN; replace aW0 := Lib.hid aW0
        go_upto_region 10 with (refine wpList_store_arr rfl 23 _ _ rfl w4.heap.size rfl (List.replicate 8 0) rfl aW0.out info23 (by simp) (by simp) ?_; intro w5 a5 g5)
        have b45 := below_new g5
        have G5 : wB.grownBy w5 (some w2.heap.size) := grownBy_trans G4.out (grownBy_weak ⟨b45.os, b45.tape, b45.output, b45.size, fun j hj _ => b45.block j hj⟩) (.inl rfl)
        obtain ⟨bw5, _, _, hR5, _⟩ := hF.out w5 G5
        clear b45 g5 G4 aW0 a5 G5
        replace bw5 := Lib.hid bw5; replace hR5 := Lib.hid hR5
        go_wp2_with (refine wpList_store_blk rfl 38 _ _ rfl w.heap.size zero24 rfl rfl 38 _ hR5.out info38 rfl zero24_one ?_; intro wz hBz gz)
        refine bodyPost_ret (results_two rfl rfl rfl (range_block hBz) Tryd.underlying38 rfl info38) rfl ⟨bw5.out.grown gz bw5.out.size (by simp), .inr ⟨hN.out, rfl⟩⟩
    | 3, _ =>
      obtain ⟨bw, cE, cM, hR, _⟩ := hF.out wo G
      have d0 := D0 (by omega)
      have d1 := D1 (by omega)
      have d2 := D2 (by omega)
      have hwh := Qw.whole L0 L1
      obtain ⟨qd, hqd⟩ : ∃ qd, vw a0 ++ vw a1 ++ vw a2 = qd := ⟨_, rfl⟩
      have lqd : qd.length = 24 := by rw [← hqd]; simp [L0, L1, L2]
      have oqd : ∀ u ∈ qd, u.oneCell' = true := by
        rw [← hqd]; intro u hu
        rcases List.mem_append.1 hu with hu | hu
        · rcases List.mem_append.1 hu with hu | hu
          · exact vw_oneCell _ u hu
          · exact vw_oneCell _ u hu
        · exact vw_oneCell _ u hu
      rw [hqd] at hwh
      have hsz := G.size
      have lo := Qw.lt
      clear D0 D1 D2 cE cM
      replace bw := Lib.hid bw; replace hR := Lib.hid hR; replace G := Lib.hid G; replace Qw := Lib.hid Qw; replace d0 := Lib.hid d0; replace d1 := Lib.hid d1; replace d2 := Lib.hid d2; replace hwh := Lib.hid hwh; replace lqd := Lib.hid lqd; replace oqd := Lib.hid oqd; replace hqd := Lib.hid hqd
      go_wp2_with (refine wpList_load_mid rfl 38 _ rfl w2.heap.size 0 rfl qd _ hwh.out Tryd.underlying38 rfl (by rw [lqd.out]; exact info38) ?_)
      rw [← hqd.out]
      refine (format_any a0 a1 a2 _ L0 L1 L2).mono ?_
      rintro e w3 ⟨rfl, b3⟩
      rw [hqd.out]
      obtain ⟨fs, hfs⟩ : ∃ fs : ByteArray, ⟨(fmtL a0 a1 a2).toArray⟩ = fs := ⟨_, rfl⟩
      rw [hfs]
      have hst : strL fs = fmtL a0 a1 a2 := by rw [← hfs]; rfl
      have bw3 := bw.out.trans (b3.mono bw.out.size)
      have hR3 := (b3.block _ (Nat.lt_of_lt_of_le l1 (by omega))).trans hR.out
      have hwh3 : w3.rangeAt w2.heap.size 0 qd := rangeAt_kept hwh.out (b3.block _ lo)
      clear b3 bw hR hwh hfs Qw G
      replace bw3 := Lib.hid bw3; replace hR3 := Lib.hid hR3; replace hwh3 := Lib.hid hwh3
      by_cases he : fmtL a0 a1 a2 = strL s
      · have hq : (s.toList == fs.toList) = true := by rw [toList_eq_iff, hst]; simp [he]
        have hq2 : (fs.toList == s.toList) = true := by rw [toList_eq_iff, hst]; simp [he]
        replace he := Lib.hid he; replace hst := Lib.hid hst
        go_wp2_with (first
          | (refine wpList_load_mid rfl 38 _ rfl w2.heap.size 0 rfl qd _ hwh3.out Tryd.underlying38 rfl (by rw [lqd.out]; exact info38) ?_)
          | (refine wpList_store_blk rfl 38 _ _ rfl w.heap.size qd rfl rfl 38 _ hR3.out (by rw [lqd.out]; exact info38) (by rw [lqd.out]; rfl) oqd.out ?_; intro wz hBz gz))
        refine bodyPost_ret (results_two rfl rfl rfl (range_block hBz) Tryd.underlying38 rfl (by rw [lqd.out]; exact info38)) rfl ⟨bw3.out.grown gz bw3.out.size (by simp), .inl ⟨a0, a1, a2, L0, L1, L2, he.out, by rw [hqd.out]; rfl⟩⟩
      · have hN : NoQuote s := fun me da tg e1 e2 e3 e => by
          obtain ⟨_, q1, q2, q3⟩ := quote_lines s me da tg e
          rw [hPs.out] at q1 q2 q3
          rw [d0.out.symm] at q1
          rw [d1.out.symm] at q2
          rw [d2.out.symm] at q3
          rw [← hexAll_inj _ _ q1, ← hexAll_inj _ _ q2, ← hexAll_inj _ _ q3] at e
          exact he e
        have hq : (s.toList == fs.toList) = false := by rw [toList_eq_iff, hst]; simp; exact fun h => he h.symm
        have hq2 : (fs.toList == s.toList) = false := by rw [toList_eq_iff, hst]; simp; exact he
        replace he := Lib.hid he; replace hst := Lib.hid hst; replace hN := Lib.hid hN
        go_wp2_with (refine wpList_store_blk rfl 38 _ _ rfl w.heap.size zero24 rfl rfl 38 _ hR3.out info38 rfl zero24_one ?_; intro wz hBz gz)
        refine bodyPost_ret (results_two rfl rfl rfl (range_block hBz) Tryd.underlying38 rfl info38) rfl ⟨bw3.out.grown gz bw3.out.size (by simp), .inr ⟨hN.out, rfl⟩⟩
    | k + 4, hk => omega
end Go.Proofs.YtemanjahkohcpaaDoor
