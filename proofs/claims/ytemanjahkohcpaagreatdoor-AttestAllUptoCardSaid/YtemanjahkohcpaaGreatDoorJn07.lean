/- The contracts of a digest's Sum and Copy. The contract of mac's padded, for a key of at most 64 bytes. The contracts of mac's short, begun and New, for keys of at most a block. -/
import Derived.Test.YtemanjahkohcpaaGreatDoorADigEJn
import Derived.Test.YtemanjahkohcpaaGreatDoorJn02
namespace Go.Proofs.YtemanjahkohcpaaGreatDoor
open Go.RowKit WP
/-- the sum of a digest -/
def sumF (KL S L : List UInt32) (n : Int) : List UInt32 := foldB KL S (endL L 2147483648 (32 * n))
theorem sumF_len (KL S L : List UInt32) (n : Int) (h : S.length = 8) : (sumF KL S L n).length = 8 := foldB_len _ _ _ h
set_option maxRecDepth 100000 in
set_option maxHeartbeats 2000000 in
theorem dsum_any (KL S L : List UInt32) (n : Int) (v : Value) (g : Nat) (w : World) (hK : Rounds w KL) (hd : Dig w g S n v) (hv : Rd w v (vw L)) (hL : L.length ≤ 4294967296) (hn : 0 ≤ n) (hn2 : n ≤ 1099511627776) :
    Calls Tryz.prog 110 #[.pointer (some ⟨g, 0, none⟩)] w fun e w' => e = .returned (.agg (vw (sumF KL S L n)).toArray) ∧ Below w.heap.size w w' := by
  have aN : Arr (w.alloc (.cells (vw (List.replicate 8 0)).toArray 26)) w.heap.size 26 (List.replicate 8 0) := Arr.new _ _ _
  have hb1 : Below w.heap.size w (w.alloc (.cells (vw (List.replicate 8 0)).toArray 26)) := (Below.refl _ _).alloc (Nat.le_refl _) _
  have hd1 := hd.below hb1
  have hK1 := hK.below hb1
  have hv1 := hv.mono hb1
  have cn : (w.alloc (.cells (vw (List.replicate 8 0)).toArray 26)).cell? ⟨g, 8, none⟩ = _ := hd1.cn
  have lS := hd.len
  obtain ⟨w1, hw1⟩ : ∃ w1, w.alloc (.cells (vw (List.replicate 8 0)).toArray 26) = w1 := ⟨_, rfl⟩
  rw [hw1] at aN hb1 hd1 hK1 hv1 cn
  replace aN := Lib.hid aN; replace hb1 := Lib.hid hb1; replace hd1 := Lib.hid hd1; replace hK1 := Lib.hid hK1; replace hv1 := Lib.hid hv1
  clear hd hK hv
  go_enter Tryz.func110, Tryz.ntmps110
  go_upto_region 1 with fail
  change Code.wp _ _ _ _ (w.alloc (.cells (vw (List.replicate 8 0)).toArray 26))
  rw [hw1]
  clear hw1
  go_wp2_with fail
  refine (end_any KL S L n 2147483648 (32 * n) v g w1 hK1.out hd1.out hv1.out hL (by omega) (by omega) (by omega) (by omega)).mono ?_
  rintro e w2 ⟨rfl, b2⟩
  have a2 := Lib.hid (aN.out.below b2)
  have hb2 := Lib.hid (hb1.out.trans (b2.mono hb1.out.size))
  have lF := Lib.hid (sumF_len KL S L n lS)
  clear b2
  go_wp2_with (refine wpList_store_arr rfl 26 _ _ rfl w.heap.size rfl (sumF KL S L n) rfl a2.out info23 (by simp) lF.out ?_; intro w3 a3 g3; have hb3 := hb2.out.grown g3 hb2.out.size (by simp))
  refine bodyPost_ret (results_arr rfl rfl a3 Tryz.underlying26 info23 lF.out) rfl ⟨rfl, hb3⟩
set_option maxRecDepth 100000 in
set_option maxHeartbeats 2000000 in
theorem dcopy_any (S L : List UInt32) (n : Int) (v : Value) (g : Nat) (w : World) (hd : Dig w g S n v) (hv : Rd w v (vw L)) (hL : L.length ≤ 4294967296) :
    Calls Tryz.prog 111 #[.pointer (some ⟨g, 0, none⟩)] w fun e w' => ∃ g' v', e = .returned (.pointer (some ⟨g', 0, none⟩)) ∧ w.heap.size ≤ g' ∧ Dig w' g' S n v' ∧ Rd w' v' (vw L) ∧ v'.ownBlock ≠ some g' ∧ Below w.heap.size w w' := by
  obtain ⟨i0, hi, hz0, hz1, hz2⟩ := info_parts info22
  have lS := hd.len
  have hv8 := vw_lit8 S lS
  obtain ⟨ov, cv, rfl, v1, v2, _⟩ := hv.words
  have cn := hd.cn
  have cw := hd.cw
  have c0 : w.cell? ⟨g, 0, none⟩ = some (.int .u32 (wAt S 0)) := by simpa using hd.st 0 _ (vw_get S 0 (by omega))
  have c1 : w.cell? ⟨g, 1, none⟩ = some (.int .u32 (wAt S 1)) := by simpa using hd.st 1 _ (vw_get S 1 (by omega))
  have c2 : w.cell? ⟨g, 2, none⟩ = some (.int .u32 (wAt S 2)) := by simpa using hd.st 2 _ (vw_get S 2 (by omega))
  have c3 : w.cell? ⟨g, 3, none⟩ = some (.int .u32 (wAt S 3)) := by simpa using hd.st 3 _ (vw_get S 3 (by omega))
  have c4 : w.cell? ⟨g, 4, none⟩ = some (.int .u32 (wAt S 4)) := by simpa using hd.st 4 _ (vw_get S 4 (by omega))
  have c5 : w.cell? ⟨g, 5, none⟩ = some (.int .u32 (wAt S 5)) := by simpa using hd.st 5 _ (vw_get S 5 (by omega))
  have c6 : w.cell? ⟨g, 6, none⟩ = some (.int .u32 (wAt S 6)) := by simpa using hd.st 6 _ (vw_get S 6 (by omega))
  have c7 : w.cell? ⟨g, 7, none⟩ = some (.int .u32 (wAt S 7)) := by simpa using hd.st 7 _ (vw_get S 7 (by omega))
  replace hd := Lib.hid hd; replace hv := Lib.hid hv; replace hv8 := Lib.hid hv8
  go_enter Tryz.func111, Tryz.ntmps111
  go_upto_region 2 with fail
  have hlit : (vw S ++ [Value.int .i64 n, Value.slice ov L.length cv]).toArray = #[.int .u32 (wAt S 0), .int .u32 (wAt S 1), .int .u32 (wAt S 2), .int .u32 (wAt S 3), .int .u32 (wAt S 4), .int .u32 (wAt S 5), .int .u32 (wAt S 6), .int .u32 (wAt S 7), .int .i64 n, .slice ov L.length cv] := by
    have := hv8.out
    rw [← List.append_toArray, this]; rfl
  obtain ⟨w1, hw1⟩ : ∃ w1, w.alloc (.cells #[.int .u32 (wAt S 0), .int .u32 (wAt S 1), .int .u32 (wAt S 2), .int .u32 (wAt S 3), .int .u32 (wAt S 4), .int .u32 (wAt S 5), .int .u32 (wAt S 6), .int .u32 (wAt S 7), .int .i64 n, .slice ov L.length cv] 191) = w1 := ⟨_, rfl⟩
  have hd1 : Dig w1 w.heap.size S n (.slice ov L.length cv) := by
    rw [← hw1]; exact Dig.of_block (t := 191) (by rw [hlit]; exact heap_alloc_new w _) lS
  have hb1 : Below w.heap.size w w1 := by rw [← hw1]; exact (Below.refl _ _).alloc (Nat.le_refl _) _
  have hgd := (hd.out.below hb1).cw
  have hv1 := hv.out.mono hb1
  have lL := Lib.hid (length_vw L)
  have hne1 : g < w.heap.size := hd.out.lt
  rw [hw1]
  clear hw1 hd hv hlit hv8 cn cw c0 c1 c2 c3 c4 c5 c6 c7
  replace hd1 := Lib.hid hd1; replace hb1 := Lib.hid hb1; replace hv1 := Lib.hid hv1
  go_wp2_with (at_builtin; refine wpList_append_full _ rfl _ _ 111 rfl 25 i0 (.int .u32 0) 4 Tryz.underlying111 hi hz0 hz1 hz2 rfl none 0 [] (by rfl) ⟨none, 0, rfl, Nat.le_refl _, by decide, .inl rfl⟩ _ (vw L) (by rfl) hv1.out (vw_oneCell _) (by rw [lL.out]; simp only [maxLen]; omega) (by rw [lL.out]; omega) ?_; intro v' w7 hl7 b7 hfr; rw [List.nil_append] at hl7; obtain ⟨o7, c7, rfl, s1, s2, _⟩ := hl7.words; have hd7 := hd1.out.below b7; have f9 := (hd7.fr 9 (by decide)).2; have c9 := hd7.cw; rw [Nat.zero_add] at f9; replace hl7 := Lib.hid hl7; replace b7 := Lib.hid b7; replace hfr := Lib.hid hfr; replace hd7 := Lib.hid hd7)
  have g78 := grownBy_setCell w7 w.heap.size 9 (.slice o7 L.length c7)
  have hne : (Value.slice o7 L.length c7).ownBlock ≠ some w.heap.size := fun e => by
    rcases hfr.out with h | h
    · rw [h] at e; simp [Value.ownBlock] at e
    · have := h _ e; have := hd1.out.lt; omega
  go_ret
  exact ⟨_, _, rfl, Nat.le_refl _, hd7.out.setW _, hl7.out.grown g78 (.inr hne), hne, (hb1.out.trans (b7.out.mono hb1.out.size)).grown g78 (Nat.le_trans hb1.out.size b7.out.size) (by simp)⟩
end Go.Proofs.YtemanjahkohcpaaGreatDoor

namespace Go.Proofs.YtemanjahkohcpaaGreatDoor
open Go.RowKit WP
theorem infoU8 : (Tryz.prog.info? 5).map (·.size) = some 1 := by kernel_rfl
theorem vb_set (L : List UInt8) (i : Nat) (z : Int) (h1 : 0 ≤ z) (h2 : z ≤ 255) : (vb L).set i (.int .u8 z) = vb (L.set i (UInt8.ofNat z.toNat)) := by
  unfold vb
  rw [List.map_set]
  congr 2
  simp; omega
theorem vb_zeros (n : Nat) : vb (List.replicate n 0) = List.replicate n (.int .u8 0) := by simp [vb]
def padN (b : List UInt8) (p : Int) : Nat → List UInt8
  | 0 => b
  | k + 1 => (padN b p k).set k (UInt8.ofNat (bits .xor .u8 (bAt (padN b p k) k) p).toNat)
theorem padN_len (b : List UInt8) (p : Int) (k : Nat) : (padN b p k).length = b.length := by
  induction k with
  | zero => rfl
  | succ k ih => simp [padN, ih]
/-- the key's bytes, filled up to 64, each with the pad -/
def padL (key : List UInt8) (p : Int) : List UInt8 := padN (key ++ List.replicate (64 - key.length) 0) p 64
theorem padL_len (key : List UInt8) (p : Int) (h : key.length ≤ 64) : (padL key p).length = 64 := by
  unfold padL
  rw [padN_len, List.length_append, List.length_replicate]; omega
theorem own_block {w : World} {base g n : Nat} {e : TypeId} {xs : List Value} (h : w.ownsRow base e 1 (.slice (some ⟨g, 0, none⟩) n n) n xs) : w.heap[g]? = some (.cells xs.toArray e (0, 0)) := by
  rcases h.2 with ⟨h', _⟩ | ⟨g', cap', cur, h', _, hg, _, _, hs, ht⟩
  · simp at h'
  · simp only [Value.slice.injEq, Option.some.injEq, Addr.mk.injEq, and_true, true_and] at h'
    obtain ⟨rfl, rfl⟩ := h'
    have e : cur.toList.take (n * 1) = cur.toList := List.take_of_length_le (by simp; omega)
    rw [hg, ← ht, e]
theorem block_own {w : World} {base g n : Nat} {e : TypeId} {xs : List Value} (h : w.heap[g]? = some (.cells xs.toArray e (0, 0))) (hb : base ≤ g) (hl : xs.length = n) (hm : n ≤ maxLen) : w.ownsRow base e 1 (.slice (some ⟨g, 0, none⟩) n n) n xs :=
  ⟨by omega, .inr ⟨g, n, xs.toArray, rfl, hb, h, Nat.le_refl _, hm, by simp [hl], List.take_of_length_le (by simp [hl])⟩⟩
set_option maxRecDepth 100000 in
set_option maxHeartbeats 2000000 in
theorem padded_any (va : Value) (key : List UInt8) (p : Int) (w : World) (ha : Rd w va (vb key)) (hl : key.length ≤ 64) (_hp1 : 0 ≤ p) (_hp2 : p ≤ 255) :
    Calls Tryz.prog 116 #[va, .int .u8 p] w fun e w' => ∃ v', e = .returned v' ∧ w'.ownsRow w.heap.size 5 1 v' 64 (vb (padL key p)) ∧ Below w.heap.size w w' := by
  obtain ⟨i0, hi, hz0, hz1, hz2⟩ := info_parts info5
  obtain ⟨ao, ca, rfl, a1, a2, a3⟩ := ha.bytes
  replace a3 := Lib.hid a3; replace ha := Lib.hid ha
  go_enter Tryz.func116, Tryz.ntmps116
  go_wp2_with (at_make; refine wpList_make_full _ rfl _ _ 72 rfl w.heap.size 5 i0 (.int .u8 0) 1 Tryz.underlying72 hi hz0 hz1 .i64 .i64 _ _ 64 rfl rfl ?m0 ?m4 ?m1 ?m2 ?m3 ?_)
  case m0 => rfl
  case m4 => rfl
  case m1 => rw [hz2]; decide
  case m2 => simp [maxLen]
  case m3 => exact Nat.le_refl _
  intro w1 ho hg
  have hb1 := (Below.refl w.heap.size w).grown hg (Nat.le_refl _) (by simp)
  have hblk := own_block ho
  have hmade : (madeCells #[Value.int IntKind.u8 0] 64).toList = vb (List.replicate 64 0) := by rw [vb_zeros]; exact toList_madeCells_one _ _
  rw [hmade] at hblk
  have lk := Lib.hid (length_vb key)
  have hsrc : 0 < (vb key).length → (some (⟨w.heap.size, 0, none⟩ : Addr) = some ⟨w.heap.size, 0, none⟩) ∧ ∃ ad, ao = some ad ∧ ∀ j v, (vb key)[j]? = some v → w1.cell? (ad.add j) = some v := fun hp => by
    obtain ⟨b, off, rfl, hbk, hc⟩ := a3.out.resolve_left (by intro h; rw [h] at hp; simp [vb] at hp)
    refine ⟨rfl, _, rfl, fun j v hv => ?_⟩
    have hadd : (⟨b, off, none⟩ : Addr).add j = ⟨b, off + j, none⟩ := by unfold Addr.add; split <;> simp_all
    have hj : j < key.length := by have := (List.getElem?_eq_some_iff.1 hv).1; rwa [lk.out] at this
    rw [hadd, (hb1.cell (p := ⟨b, off + j, none⟩) hbk), hc j hj, ← vb_get key j hj]; exact hv
  clear ho hg hmade
  replace hb1 := Lib.hid hb1; replace hblk := Lib.hid hblk; replace hsrc := Lib.hid hsrc
  go_wp2_with (refine wpList_copy_splice rfl _ _ 72 72 rfl 5 Tryz.underlying72 infoU8 _ _ _ _ _ _ rfl rfl w.heap.size 0 (vb (List.replicate 64 0)) 5 hblk.out (vb key) (by rw [lk.out]; simp only [Nat.min_def]; split <;> omega) hsrc.out (by simp; omega) (vb_oneCell key) w.heap.size w hb1.out (Nat.le_refl _) ?_; intro w2 h2 b2)
  have ho2 : w2.ownsRow w.heap.size 5 1 (.slice (some ⟨w.heap.size, 0, none⟩) 64 64) 64 (vb (padN (key ++ List.replicate (64 - key.length) 0) p 0)) := by
    have e : splice (vb (List.replicate 64 0)) 0 (vb key) = vb (padN (key ++ List.replicate (64 - key.length) 0) p 0) := by
      unfold splice padN
      rw [vb_append, List.take_zero, List.nil_append, vb_zeros, vb_zeros, List.drop_replicate, Nat.zero_add, lk.out]
    refine block_own (by rw [← e]; exact h2) (Nat.le_refl _) (by rw [length_vb, padN_len, List.length_append, List.length_replicate]; omega) (by simp [maxLen])
  have lP : ∀ k, (padN (key ++ List.replicate (64 - key.length) 0) p k).length = 64 := fun k => by rw [padN_len, List.length_append, List.length_replicate]; omega
  obtain ⟨B, hB⟩ : ∃ B, key ++ List.replicate (64 - key.length) 0 = B := ⟨_, rfl⟩
  have hPL : padL key p = padN B p 64 := by rw [← hB]; rfl
  rw [hB] at ho2 lP
  clear h2 hb1 hblk hsrc hB a3 ha
  replace ho2 := Lib.hid ho2; replace b2 := Lib.hid b2; replace lP := Lib.hid lP; replace hPL := Lib.hid hPL
  go_wp2_with fail
  go_loopw [7, 21] (fun _ i wr => ∃ k : Nat, k ≤ 64 ∧ i = .int .i64 (k : Int) ∧ wr.ownsRow w.heap.size 5 1 (.slice (some ⟨w.heap.size, 0, none⟩) 64 64) 64 (vb (padN B p k)) ∧ Below w.heap.size w wr) (fun _ i _ => 64 - (intOf i).toNat)
  case atStart => exact ⟨0, by omega, rfl, ho2.out, b2.out⟩
  case round =>
    obtain ⟨k, hk, rfl, ho, hb⟩ := hrel
    by_cases hlt : k < 64
    · have hX1 : padN B p (k + 1) = (padN B p k).set k (UInt8.ofNat (bits .xor .u8 (bAt (padN B p k) k) p).toNat) := rfl
      have lX := lP.out k
      obtain ⟨X, hX⟩ : ∃ X, padN B p k = X := ⟨_, rfl⟩
      rw [hX] at hX1 lX ho
      have hc := (ho.cellAt k (by omega)).trans (vb_get X k (by omega))
      have hf := ho.frozenAt k
      have ⟨y1, y2⟩ := bAt_bd X k
      have hst := ho.stored k (.int .u8 (bits .xor .u8 (bAt X k) p))
      rw [vb_set _ _ _ (bits_lo_u8 _ _ _) (bits_hi_u8 _ _ _), ← hX1] at hst
      have hs := hb.size
      have hk64 : (k : Int) < 64 := by omega
      clear hX1 hX
      replace ho := Lib.hid ho; replace hb := Lib.hid hb; replace hst := Lib.hid hst
      generalize bAt X k = y at *
      go_wp2_with fail
      exact ⟨⟨k + 1, by omega, by go_num, hst.out.1, hb.out.grown hst.out.2 hs (by simp)⟩, by simp [intOf]; omega⟩
    · obtain rfl : k = 64 := by omega
      replace ho := Lib.hid ho; replace hb := Lib.hid hb
      go_wp2_with fail
      go_ret
      exact ⟨_, rfl, by rw [hPL.out]; exact ho.out, hb.out⟩
end Go.Proofs.YtemanjahkohcpaaGreatDoor

namespace Go.Proofs.YtemanjahkohcpaaGreatDoor
open Go.RowKit WP
theorem short_any (va : Value) (k : List UInt32) (w : World) (ha : Rd w va (vw k)) (hk : k.length ≤ 16) :
    Calls Tryz.prog 107 #[va] w fun e w' => ∃ v', e = .returned v' ∧ w'.ownsRow w.heap.size 5 1 v' (4 * k.length) (vb (bytesL k)) ∧ Below w.heap.size w w' := by
  obtain ⟨ao, ca, rfl, a1, a2, a3⟩ := ha.words
  clear a3
  replace ha := Lib.hid ha
  go_enter Tryz.func107, Tryz.ntmps107
  go_wp2_with fail
  refine (bytes_any _ k _ ha.out (by omega)).mono ?_
  rintro e w1 ⟨v1, rfl, o1, b1⟩
  replace o1 := Lib.hid o1; replace b1 := Lib.hid b1
  go_wp2_with fail
  go_ret
  exact ⟨_, rfl, o1.out, b1.out⟩
/-- the words of a padded key -/
def padW (key : List UInt8) (p : Int) : List UInt32 := wordsL (padL key p)
theorem padW_len (key : List UInt8) (p : Int) (h : key.length ≤ 64) : (padW key p).length = 16 := by
  unfold padW wordsL
  rw [List.length_map, List.length_range, padL_len key p h]
/-- a digest of a padded key -/
structure Begun (base : Nat) (KL : List UInt32) (key : List UInt8) (p : Int) (w : World) (g : Nat) (v : Value) : Prop where
  dig : Dig w g (foldB KL firstL (padW key p)) 16 v
  rd : Rd w v (vw (remB (padW key p)))
  base : base ≤ g
  far : ∀ k, v.ownBlock = some k → g < k
set_option maxRecDepth 100000 in
set_option maxHeartbeats 2000000 in
theorem begun_any (KL : List UInt32) (va : Value) (key : List UInt8) (p : Int) (w : World) (hK : Rounds w KL) (ha : Rd w va (vb key)) (hl : key.length ≤ 64) (hp1 : 0 ≤ p) (hp2 : p ≤ 255) :
    Calls Tryz.prog 108 #[va, .int .u8 p] w fun e w' => ∃ g v, e = .returned (.pointer (some ⟨g, 0, none⟩)) ∧ Begun w.heap.size KL key p w' g v ∧ Below w.heap.size w w' := by
  obtain ⟨ao, ca, rfl, a1, a2, a3⟩ := ha.bytes
  clear a3
  have h3 := hK.1
  replace ha := Lib.hid ha; replace hK := Lib.hid hK
  go_enter Tryz.func108, Tryz.ntmps108
  go_wp2_with fail
  refine (new_any _).mono ?_
  rintro e w1 ⟨g, rfl, hg, hd1, b1⟩
  have ha1 := ha.out.mono b1
  have hg1 := hd1.lt
  replace hd1 := Lib.hid hd1; replace b1 := Lib.hid b1; replace ha1 := Lib.hid ha1
  go_wp2_with fail
  refine (padded_any _ key p _ ha1.out hl hp1 hp2).mono ?_
  rintro e w2 ⟨v2, rfl, o2, b2⟩
  obtain ⟨o2', c2, rfl, _, _, _⟩ := (Rd.of_own o2).bytes
  have hr2 := Rd.of_own o2
  have lp := Lib.hid (padL_len key p hl)
  have hd2 := hd1.out.below b2
  have hb2 := b1.out.trans (b2.mono b1.out.size)
  clear o2 b2
  rw [lp.out] at hr2 ⊢
  replace hr2 := Lib.hid hr2; replace hd2 := Lib.hid hd2; replace hb2 := Lib.hid hb2
  go_wp2_with fail
  refine (words_yes _ (padL key p) _ hr2.out (by rw [lp.out]; omega) (by rw [lp.out])).mono ?_
  rintro e w3 ⟨v3, rfl, o3, b3⟩
  have hr3 : Rd w3 v3 (vw (padW key p)) := Rd.of_own o3
  have hd3 := hd2.out.below b3
  have hb3 := hb2.out.trans (b3.mono hb2.out.size)
  have hK3 := hK.out.below hb3
  have hg2 := hd2.out.lt
  have hne : v3.ownBlock ≠ some g := fun e => by have := (o3.lt _ e).1; omega
  have lW := Lib.hid (padW_len key p hl)
  obtain ⟨o3', c3, rfl, _, _, _⟩ := hr3.words
  clear o3 b3
  replace hr3 := Lib.hid hr3; replace hd3 := Lib.hid hd3; replace hb3 := Lib.hid hb3; replace hK3 := Lib.hid hK3; replace hne := Lib.hid hne
  go_wp2_with fail
  refine (add_any KL firstL [] (padW key p) 0 (.slice none 0 0) _ g _ hK3.out (by omega) hd3.out ⟨none, 0, rfl, Nat.le_refl _, by decide, .inl rfl⟩ (by simp [Value.ownBlock]) hr3.out hne.out (by omega) (by omega) (by simp) (by rw [lW.out]; omega)).mono ?_
  rintro e w4 ⟨rfl, v4, hd4, hr4, hf4, g4⟩
  rw [List.nil_append, lW.out] at hd4
  rw [List.nil_append] at hr4
  have hg3 := hd3.out.lt
  have hb4 := hb3.out.grown g4 hb3.out.size (by intro j hj; simp at hj; omega)
  replace hd4 := Lib.hid hd4; replace hr4 := Lib.hid hr4; replace hb4 := Lib.hid hb4; replace hf4 := Lib.hid hf4
  clear g4
  go_wp2_with fail
  go_ret
  exact ⟨g, v4, rfl, ⟨hd4.out, hr4.out, hg, fun k hk => by have := hf4.out k hk; omega⟩, hb4.out⟩
end Go.Proofs.YtemanjahkohcpaaGreatDoor
