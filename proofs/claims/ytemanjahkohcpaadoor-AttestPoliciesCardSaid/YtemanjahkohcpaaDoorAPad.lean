/- The contract of mac's padded, for a key of at most 64 bytes. -/
import Derived.Test.YtemanjahkohcpaaDoorAArr
namespace Go.Proofs.YtemanjahkohcpaaDoor
open Go.RowKit WP
theorem infoU8 : (Tryd.prog.info? 5).map (·.size) = some 1 := by kernel_rfl
theorem vb_set (L : List UInt8) (i : Nat) (z : Int) (h1 : 0 ≤ z) (h2 : z ≤ 255) : (vb L).set i (.int .u8 z) = vb (L.set i (UInt8.ofNat z.toNat)) := by
  unfold vb
  rw [List.map_set]
  congr 2
  simp; omega
theorem vb_zeros (n : Nat) : vb (List.replicate n 0) = List.replicate n (.int .u8 0) := by simp [vb]
def padN (b : List UInt8) (p : Int) : Nat → List UInt8
  | 0 => b
  | k + 1 => (padN b p k).set k (UInt8.ofNat (bits .xor .u8 (bAt (padN b p k) k) p).toNat)
theorem padN_len (b : List UInt8) (p : Int) (k : Nat) : (padN b p k).length = b.length := by
  induction k with
  | zero => rfl
  | succ k ih => simp [padN, ih]
/-- the key's bytes, filled up to 64, each with the pad -/
def padL (key : List UInt8) (p : Int) : List UInt8 := padN (key ++ List.replicate (64 - key.length) 0) p 64
theorem padL_len (key : List UInt8) (p : Int) (h : key.length ≤ 64) : (padL key p).length = 64 := by
  unfold padL
  rw [padN_len, List.length_append, List.length_replicate]; omega
theorem own_block {w : World} {base g n : Nat} {e : TypeId} {xs : List Value} (h : w.ownsRow base e 1 (.slice (some ⟨g, 0, none⟩) n n) n xs) : w.heap[g]? = some (.cells xs.toArray e (0, 0)) := by
  rcases h.2 with ⟨h', _⟩ | ⟨g', cap', cur, h', _, hg, _, _, hs, ht⟩
  · simp at h'
  · simp only [Value.slice.injEq, Option.some.injEq, Addr.mk.injEq, and_true, true_and] at h'
    obtain ⟨rfl, rfl⟩ := h'
    have e : cur.toList.take (n * 1) = cur.toList := List.take_of_length_le (by simp; omega)
    rw [hg, ← ht, e]
theorem block_own {w : World} {base g n : Nat} {e : TypeId} {xs : List Value} (h : w.heap[g]? = some (.cells xs.toArray e (0, 0))) (hb : base ≤ g) (hl : xs.length = n) (hm : n ≤ maxLen) : w.ownsRow base e 1 (.slice (some ⟨g, 0, none⟩) n n) n xs :=
  ⟨by omega, .inr ⟨g, n, xs.toArray, rfl, hb, h, Nat.le_refl _, hm, by simp [hl], List.take_of_length_le (by simp [hl])⟩⟩
set_option maxRecDepth 100000 in
set_option maxHeartbeats 2000000 in
theorem padded_any (va : Value) (key : List UInt8) (p : Int) (w : World) (ha : Rd w va (vb key)) (hl : key.length ≤ 64) (_hp1 : 0 ≤ p) (_hp2 : p ≤ 255) :
    Calls Tryd.prog 35 #[va, .int .u8 p] w fun e w' => ∃ v', e = .returned v' ∧ w'.ownsRow w.heap.size 5 1 v' 64 (vb (padL key p)) ∧ Below w.heap.size w w' := by
  obtain ⟨i0, hi, hz0, hz1, hz2⟩ := info_parts info5
  obtain ⟨ao, ca, rfl, a1, a2, a3⟩ := ha.bytes
  replace a3 := Lib.hid a3; replace ha := Lib.hid ha
  go_enter Tryd.func35, Tryd.ntmps35
  go_wp2_with (at_make; refine wpList_make_full _ rfl _ _ 30 rfl w.heap.size 5 i0 (.int .u8 0) 1 Tryd.underlying30 hi hz0 hz1 .i64 .i64 _ _ 64 rfl rfl ?m0 ?m4 ?m1 ?m2 ?m3 ?_)
  case m0 => rfl
  case m4 => rfl
  case m1 => rw [hz2]; decide
  case m2 => simp [maxLen]
  case m3 => exact Nat.le_refl _
  intro w1 ho hg
  have hb1 := (Below.refl w.heap.size w).grown hg (Nat.le_refl _) (by simp)
  have hblk := own_block ho
  have hmade : (madeCells #[Value.int IntKind.u8 0] 64).toList = vb (List.replicate 64 0) := by rw [vb_zeros]; exact toList_madeCells_one _ _
  rw [hmade] at hblk
  have lk := Lib.hid (length_vb key)
  have hsrc : 0 < (vb key).length → (some (⟨w.heap.size, 0, none⟩ : Addr) = some ⟨w.heap.size, 0, none⟩) ∧ ∃ ad, ao = some ad ∧ ∀ j v, (vb key)[j]? = some v → w1.cell? (ad.add j) = some v := fun hp => by
    obtain ⟨b, off, rfl, hbk, hc⟩ := a3.out.resolve_left (by intro h; rw [h] at hp; simp [vb] at hp)
    refine ⟨rfl, _, rfl, fun j v hv => ?_⟩
    have hadd : (⟨b, off, none⟩ : Addr).add j = ⟨b, off + j, none⟩ := by unfold Addr.add; split <;> simp_all
    have hj : j < key.length := by have := (List.getElem?_eq_some_iff.1 hv).1; rwa [lk.out] at this
    rw [hadd, (hb1.cell (p := ⟨b, off + j, none⟩) hbk), hc j hj, ← vb_get key j hj]; exact hv
  clear ho hg hmade
  replace hb1 := Lib.hid hb1; replace hblk := Lib.hid hblk; replace hsrc := Lib.hid hsrc
  go_wp2_with (refine wpList_copy_splice rfl _ _ 30 30 rfl 5 Tryd.underlying30 infoU8 _ _ _ _ _ _ rfl rfl w.heap.size 0 (vb (List.replicate 64 0)) 5 hblk.out (vb key) (by rw [lk.out]; simp only [Nat.min_def]; split <;> omega) hsrc.out (by simp; omega) (vb_oneCell key) w.heap.size w hb1.out (Nat.le_refl _) ?_; intro w2 h2 b2)
  have ho2 : w2.ownsRow w.heap.size 5 1 (.slice (some ⟨w.heap.size, 0, none⟩) 64 64) 64 (vb (padN (key ++ List.replicate (64 - key.length) 0) p 0)) := by
    have e : splice (vb (List.replicate 64 0)) 0 (vb key) = vb (padN (key ++ List.replicate (64 - key.length) 0) p 0) := by
      unfold splice padN
      rw [vb_append, List.take_zero, List.nil_append, vb_zeros, vb_zeros, List.drop_replicate, Nat.zero_add, lk.out]
    refine block_own (by rw [← e]; exact h2) (Nat.le_refl _) (by rw [length_vb, padN_len, List.length_append, List.length_replicate]; omega) (by simp [maxLen])
  have lP : ∀ k, (padN (key ++ List.replicate (64 - key.length) 0) p k).length = 64 := fun k => by rw [padN_len, List.length_append, List.length_replicate]; omega
  obtain ⟨B, hB⟩ : ∃ B, key ++ List.replicate (64 - key.length) 0 = B := ⟨_, rfl⟩
  have hPL : padL key p = padN B p 64 := by rw [← hB]; rfl
  rw [hB] at ho2 lP
  clear h2 hb1 hblk hsrc hB a3 ha
  replace ho2 := Lib.hid ho2; replace b2 := Lib.hid b2; replace lP := Lib.hid lP; replace hPL := Lib.hid hPL
  go_wp2_with fail
  go_loopw [7, 21] (fun _ i wr => ∃ k : Nat, k ≤ 64 ∧ i = .int .i64 (k : Int) ∧ wr.ownsRow w.heap.size 5 1 (.slice (some ⟨w.heap.size, 0, none⟩) 64 64) 64 (vb (padN B p k)) ∧ Below w.heap.size w wr) (fun _ i _ => 64 - (intOf i).toNat)
  case atStart => exact ⟨0, by omega, rfl, ho2.out, b2.out⟩
  case round =>
    obtain ⟨k, hk, rfl, ho, hb⟩ := hrel
    by_cases hlt : k < 64
    · have hX1 : padN B p (k + 1) = (padN B p k).set k (UInt8.ofNat (bits .xor .u8 (bAt (padN B p k) k) p).toNat) := rfl
      have lX := lP.out k
      obtain ⟨X, hX⟩ : ∃ X, padN B p k = X := ⟨_, rfl⟩
      rw [hX] at hX1 lX ho
      have hc := (ho.cellAt k (by omega)).trans (vb_get X k (by omega))
      have hf := ho.frozenAt k
      have ⟨y1, y2⟩ := bAt_bd X k
      have hst := ho.stored k (.int .u8 (bits .xor .u8 (bAt X k) p))
      rw [vb_set _ _ _ (bits_lo_u8 _ _ _) (bits_hi_u8 _ _ _), ← hX1] at hst
      have hs := hb.size
      have hk64 : (k : Int) < 64 := by omega
      clear hX1 hX
      replace ho := Lib.hid ho; replace hb := Lib.hid hb; replace hst := Lib.hid hst
      generalize bAt X k = y at *
      go_wp2_with fail
      exact ⟨⟨k + 1, by omega, by go_num, hst.out.1, hb.out.grown hst.out.2 hs (by simp)⟩, by simp [intOf]; omega⟩
    · obtain rfl : k = 64 := by omega
      replace ho := Lib.hid ho; replace hb := Lib.hid hb
      go_wp2_with fail
      go_ret
      exact ⟨_, rfl, by rw [hPL.out]; exact ho.out, hb.out⟩
end Go.Proofs.YtemanjahkohcpaaDoor
