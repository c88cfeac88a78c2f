/- The walk of AttestMacs. -/
import Derived.Test.YtemanjahkohcpaaDoorATagB
import Derived.Test.YtemanjahkohcpaaDoorAVer
import Derived.Test.YtemanjahkohcpaaDoorAEq
import Derived.Lib.SlBytesConst
namespace Go.Proofs.YtemanjahkohcpaaDoor
open Go.RowKit WP
theorem nameB_vals : vb nameB = [.int .u8 119, .int .u8 97, .int .u8 114, .int .u8 100, .int .u8 101, .int .u8 110, .int .u8 32, .int .u8 107, .int .u8 101, .int .u8 121, .int .u8 32, .int .u8 49] := by rfl
theorem bit_is (bit : Int) : ∃ b : Nat, b < 256 ∧ (wrap64 (bit.tmod 256 + 256)).tmod 256 = (b : Int) := by
  have h1 := Int.tmod_lt_of_pos bit (show (0 : Int) < 256 by decide)
  have h2 : -256 < bit.tmod 256 := Int.lt_tmod_of_pos bit (by decide)
  have e : wrap64 (bit.tmod 256 + 256) = bit.tmod 256 + 256 := by unfold wrap64; omega
  rw [e, Int.tmod_eq_emod_of_nonneg (by omega)]
  exact ⟨((bit.tmod 256 + 256) % 256).toNat, by omega, by omega⟩
theorem flip_ne (x : Int) (r : Nat) (h1 : 0 ≤ x) (h2 : x ≤ 4294967295) (hr : r < 32) :
    ∃ z, bits .xor .u32 x (2 ^ r % 4294967296) = z ∧ 0 ≤ z ∧ z ≤ 4294967295 ∧ z ≠ x := by
  have hp : (2 : Nat) ^ r < 2 ^ 32 := Nat.pow_lt_pow_right (by decide) hr
  have e : ((2 : Int) ^ r % 4294967296) = ((2 ^ r : Nat) : Int) := by
    have : ((2 : Int) ^ r) = ((2 ^ r : Nat) : Int) := by simp
    rw [this]; exact Int.emod_eq_of_lt (Int.natCast_nonneg _) (Int.ofNat_lt.2 (by simpa using hp))
  rw [e]
  have l1 : x.toNat < 2 ^ 32 := by omega
  have l4 := Nat.xor_lt_two_pow l1 hp
  refine ⟨_, rfl, ?_⟩
  rw [u32_xor x _ h1 (by omega) (Int.natCast_nonneg _) (by omega), Int.toNat_natCast]
  refine ⟨Int.natCast_nonneg _, by omega, fun h => ?_⟩
  have h' : x.toNat ^^^ 2 ^ r = x.toNat := by omega
  have := congrArg (fun n => n.testBit r) h'
  simp [Nat.testBit_xor, Nat.testBit_two_pow_self] at this
-- TOP
set_option maxRecDepth 100000 in
set_option maxHeartbeats 4000000 in
theorem macs_any (KL sd me da : List UInt32) (bit : Int) (w : World) (hKr : Rounds w KL) (ls : sd.length = 8) (lm : me.length = 8) (ld : da.length = 8) (bt1 : -9223372036854775808 ≤ bit) (bt2 : bit ≤ 9223372036854775807) :
    Calls Tryd.prog 3 #[.agg (vw sd).toArray, .agg (vw me).toArray, .agg (vw da).toArray, .int .i64 bit] w fun e w' => e = .returned (.bool true) ∧ Below w.heap.size w w' := by
  obtain ⟨i0, hi, hz0, hz1, hz2⟩ := info_parts info22
  have h3 := hKr.1
  have lvm := Lib.hid (length_vw me)
  have lvd := Lib.hid (length_vw da)
  have hKB := Lib.hid (key_bytes KL sd ls)
  obtain ⟨w1, hw1⟩ : ∃ w1, ((w.alloc (.cells (vw sd).toArray 23)).alloc (.cells (vw me).toArray 23)).alloc (.cells (vw da).toArray 23) = w1 := ⟨_, rfl⟩
  have aS : Arr w1 w.heap.size 23 sd := by rw [← hw1]; exact ((Arr.new w _ sd).alloc _).alloc _
  have aM : Arr w1 (w.heap.size + 1) 23 me := by
    rw [← hw1]
    have := (Arr.new (w.alloc (.cells (vw sd).toArray 23)) 23 me).alloc (.cells (vw da).toArray 23)
    simpa using this
  have aD : Arr w1 (w.heap.size + 1 + 1) 23 da := by
    rw [← hw1]
    have := Arr.new ((w.alloc (.cells (vw sd).toArray 23)).alloc (.cells (vw me).toArray 23)) 23 da
    simpa using this
  have hb1 : Below w.heap.size w w1 := by rw [← hw1]; exact (((Below.refl _ _).alloc (Nat.le_refl _) _).alloc (by simp) _).alloc (by simp; omega) _
  have hK1 := hKr.below hb1
  clear hKr
  replace aS := Lib.hid aS; replace aM := Lib.hid aM; replace aD := Lib.hid aD; replace hb1 := Lib.hid hb1; replace hK1 := Lib.hid hK1
  go_enter Tryd.func3, Tryd.ntmps3
  go_upto_region 1 with fail
  clear hw1
  go_wp2_with (refine wpList_load_arr rfl 23 _ rfl w.heap.size rfl aS.out Tryd.underlying23 info23 ls ?_)
  refine (key_any KL sd _ hK1.out ls).mono ?_
  rintro e w2 ⟨rfl, b2⟩
  obtain ⟨K, hK⟩ : ∃ K, keyF KL sd = K := ⟨_, rfl⟩
  have lK : K.length = 8 := by rw [← hK]; exact keyF_len _ _
  rw [hK]
  replace hKB := Lib.hid (hK.symm.trans hKB.out)
  clear hK
  have aS2 := aS.out.below b2
  have aM2 := aM.out.below b2
  have aD2 := aD.out.below b2
  have hK2 := hK1.out.below b2
  have hb2 := hb1.out.trans (b2.mono hb1.out.size)
  have aK0 : Arr (w2.alloc (.cells (vw (List.replicate 8 0)).toArray 23)) w2.heap.size 23 (List.replicate 8 0) := Arr.new _ _ _
  clear b2 aS aM aD hb1 hK1
  replace aS2 := Lib.hid aS2; replace aM2 := Lib.hid aM2; replace aD2 := Lib.hid aD2; replace hK2 := Lib.hid hK2; replace hb2 := Lib.hid hb2; replace aK0 := Lib.hid aK0
  go_upto_region 2 with (refine wpList_store_arr rfl 23 _ _ rfl w2.heap.size rfl K rfl aK0.out info23 (by simp) lK ?_; intro w3 aK3 g3)
  have b23 := below_new g3
  have aS3 := aS2.out.below b23
  have aM3 := aM2.out.below b23
  have aD3 := aD2.out.below b23
  have hK3 := hK2.out.below b23
  have hb3 := hb2.out.trans (b23.mono hb2.out.size)
  have rM : Rd w3 (.slice (some ⟨w.heap.size + 1, 0, none⟩) 8 8) (vw me) := by
    have := aM3.rd 8 (by omega) (by simp [maxLen])
    rwa [lm] at this
  have rD : Rd w3 (.slice (some ⟨w.heap.size + 1 + 1, 0, none⟩) 8 8) (vw da) := by
    have := aD3.rd 8 (by omega) (by simp [maxLen])
    rwa [ld] at this
  have rK : Rd w3 (.slice (some ⟨w2.heap.size, 0, none⟩) 8 8) (vw K) := by
    have := aK3.rd 8 (by omega) (by simp [maxLen])
    rwa [lK] at this
  have rS : Rd w3 (.slice (some ⟨w.heap.size, 0, none⟩) 8 8) (vw sd) := by
    have := aS3.rd 8 (by omega) (by simp [maxLen])
    rwa [ls] at this
  clear g3 b23 aS2 aM2 aD2 hK2 hb2 aK0
  replace aS3 := Lib.hid aS3; replace aM3 := Lib.hid aM3; replace aD3 := Lib.hid aD3; replace hK3 := Lib.hid hK3; replace hb3 := Lib.hid hb3; replace rM := Lib.hid rM; replace rD := Lib.hid rD; replace rK := Lib.hid rK; replace rS := Lib.hid rS; replace aK3 := Lib.hid aK3
  go_upto_region 4 with (at_builtin; refine wpList_append_rd _ rfl _ _ 25 rfl w3.heap.size 22 i0 (.int .u32 0) 4 Tryd.underlying25 hi hz0 hz1 hz2 rfl _ 0 [] rfl ⟨rfl, .inl ⟨rfl, rfl⟩⟩ _ (vw me) rfl rM.out (vw_oneCell me) (by rw [lvm.out]; simp only [maxLen]; omega) (by rw [lvm.out]; omega) (Nat.le_refl _) ?_; intro v4 w4 o4 O4; have b34 := O4.below (Nat.le_refl _) (fun k hk => by cases hk); rw [List.nil_append, lvm.out] at o4; replace o4 := Lib.hid o4; replace b34 := Lib.hid b34; clear O4)
  have rD4 := Lib.hid (rD.out.mono b34.out)
  have hs4 := b34.out.size
  go_upto_region 5 with (at_builtin; refine wpList_append_rd _ rfl _ _ 25 rfl w3.heap.size 22 i0 (.int .u32 0) 4 Tryd.underlying25 hi hz0 hz1 hz2 rfl _ _ _ rfl o4.out _ (vw da) rfl rD4.out (vw_oneCell da) (by rw [lvd.out]; simp only [maxLen]; omega) (by rw [lvd.out]; omega) hs4 ?_; intro v5 w5 o5 O5; have b35 := b34.out.trans (O5.below hs4 (fun k hk => (o4.out.lt k hk).1)); rw [← vw_append] at o5; replace o5 := Lib.hid o5; replace b35 := Lib.hid b35; clear O5)
  clear o4 b34 rD4 hs4
  go_wp2_with fail
  refine (mtag_any KL _ _ K (me ++ da) _ (hK3.out.below b35.out) (rK.out.mono b35.out) (Rd.of_own o5.out) (fun j hj => (o5.out.lt j hj).2) (by omega) (by rw [List.length_append]; omega)).mono ?_
  rintro e w6 ⟨rfl, b6⟩
  have hT : tagF KL (bytesL K) (me ++ da) = attF KL K me da := rfl
  rw [hT]
  obtain ⟨T, hT⟩ : ∃ T, attF KL K me da = T := ⟨_, rfl⟩
  have lT : T.length = 8 := by rw [← hT]; exact attF_len _ _ _ _
  rw [hT]
  replace hT := Lib.hid hT
  have b36 := b35.out.trans (b6.mono b35.out.size)
  have aK6 := aK3.out.below b36
  have aM6 := aM3.out.below b36
  have aD6 := aD3.out.below b36
  have rS6 := rS.out.mono b36
  have hK6 := hK3.out.below b36
  have hb6 := hb3.out.trans (b36.mono hb3.out.size)
  have l62 := aK6.lt
  have l6M := aM6.lt
  have l6D := aD6.lt
  have s6 := hb6.size
  have aT0 : Arr (w6.alloc (.cells (vw (List.replicate 8 0)).toArray 23)) w6.heap.size 23 (List.replicate 8 0) := Arr.new _ _ _
  clear b36 b6 b35 o5 aK3 aM3 aD3 hK3 hb3 rM rD rK rS aS3
  replace aK6 := Lib.hid aK6; replace aM6 := Lib.hid aM6; replace aD6 := Lib.hid aD6; replace hK6 := Lib.hid hK6; replace hb6 := Lib.hid hb6; replace rS6 := Lib.hid rS6; replace aT0 := Lib.hid aT0
  go_upto_region 6 with (refine wpList_store_arr rfl 23 _ _ rfl w6.heap.size rfl T rfl aT0.out info23 (by simp) lT ?_; intro w7 aT7 g7)
  have b67 := below_new g7
  have aK7 := aK6.out.below b67
  have aM7 := aM6.out.below b67
  have aD7 := aD6.out.below b67
  have hK7 := hK6.out.below b67
  have hb7 := hb6.out.trans (b67.mono hb6.out.size)
  have rS7 := rS6.out.mono b67
  have hS : ∀ w' : World, Below w7.heap.size w7 w' → (Below w7.heap.size w7 w' ∧ w'.cell? ⟨w2.heap.size, 0, none⟩ = some (.int .u32 (wAt K 0)) ∧ w'.cell? ⟨w2.heap.size, 1, none⟩ = some (.int .u32 (wAt K 1)) ∧ w'.cell? ⟨w2.heap.size, 2, none⟩ = some (.int .u32 (wAt K 2)) ∧ w'.cell? ⟨w2.heap.size, 3, none⟩ = some (.int .u32 (wAt K 3)) ∧ w'.cell? ⟨w2.heap.size, 4, none⟩ = some (.int .u32 (wAt K 4)) ∧ w'.cell? ⟨w2.heap.size, 5, none⟩ = some (.int .u32 (wAt K 5)) ∧ w'.cell? ⟨w2.heap.size, 6, none⟩ = some (.int .u32 (wAt K 6)) ∧ w'.cell? ⟨w2.heap.size, 7, none⟩ = some (.int .u32 (wAt K 7)) ∧ w'.cell? ⟨w.heap.size + 1, 0, none⟩ = some (.int .u32 (wAt me 0)) ∧ w'.cell? ⟨w.heap.size + 1, 1, none⟩ = some (.int .u32 (wAt me 1)) ∧ w'.cell? ⟨w.heap.size + 1, 2, none⟩ = some (.int .u32 (wAt me 2)) ∧ w'.cell? ⟨w.heap.size + 1, 3, none⟩ = some (.int .u32 (wAt me 3)) ∧ w'.cell? ⟨w.heap.size + 1, 4, none⟩ = some (.int .u32 (wAt me 4)) ∧ w'.cell? ⟨w.heap.size + 1, 5, none⟩ = some (.int .u32 (wAt me 5)) ∧ w'.cell? ⟨w.heap.size + 1, 6, none⟩ = some (.int .u32 (wAt me 6)) ∧ w'.cell? ⟨w.heap.size + 1, 7, none⟩ = some (.int .u32 (wAt me 7)) ∧ w'.cell? ⟨w.heap.size + 1 + 1, 0, none⟩ = some (.int .u32 (wAt da 0)) ∧ w'.cell? ⟨w.heap.size + 1 + 1, 1, none⟩ = some (.int .u32 (wAt da 1)) ∧ w'.cell? ⟨w.heap.size + 1 + 1, 2, none⟩ = some (.int .u32 (wAt da 2)) ∧ w'.cell? ⟨w.heap.size + 1 + 1, 3, none⟩ = some (.int .u32 (wAt da 3)) ∧ w'.cell? ⟨w.heap.size + 1 + 1, 4, none⟩ = some (.int .u32 (wAt da 4)) ∧ w'.cell? ⟨w.heap.size + 1 + 1, 5, none⟩ = some (.int .u32 (wAt da 5)) ∧ w'.cell? ⟨w.heap.size + 1 + 1, 6, none⟩ = some (.int .u32 (wAt da 6)) ∧ w'.cell? ⟨w.heap.size + 1 + 1, 7, none⟩ = some (.int .u32 (wAt da 7)) ∧ w'.cell? ⟨w6.heap.size, 0, none⟩ = some (.int .u32 (wAt T 0)) ∧ w'.cell? ⟨w6.heap.size, 1, none⟩ = some (.int .u32 (wAt T 1)) ∧ w'.cell? ⟨w6.heap.size, 2, none⟩ = some (.int .u32 (wAt T 2)) ∧ w'.cell? ⟨w6.heap.size, 3, none⟩ = some (.int .u32 (wAt T 3)) ∧ w'.cell? ⟨w6.heap.size, 4, none⟩ = some (.int .u32 (wAt T 4)) ∧ w'.cell? ⟨w6.heap.size, 5, none⟩ = some (.int .u32 (wAt T 5)) ∧ w'.cell? ⟨w6.heap.size, 6, none⟩ = some (.int .u32 (wAt T 6)) ∧ w'.cell? ⟨w6.heap.size, 7, none⟩ = some (.int .u32 (wAt T 7))) := fun w' h => ⟨h, (aK7.below h).cell 0 (by omega), (aK7.below h).cell 1 (by omega), (aK7.below h).cell 2 (by omega), (aK7.below h).cell 3 (by omega), (aK7.below h).cell 4 (by omega), (aK7.below h).cell 5 (by omega), (aK7.below h).cell 6 (by omega), (aK7.below h).cell 7 (by omega), (aM7.below h).cell 0 (by omega), (aM7.below h).cell 1 (by omega), (aM7.below h).cell 2 (by omega), (aM7.below h).cell 3 (by omega), (aM7.below h).cell 4 (by omega), (aM7.below h).cell 5 (by omega), (aM7.below h).cell 6 (by omega), (aM7.below h).cell 7 (by omega), (aD7.below h).cell 0 (by omega), (aD7.below h).cell 1 (by omega), (aD7.below h).cell 2 (by omega), (aD7.below h).cell 3 (by omega), (aD7.below h).cell 4 (by omega), (aD7.below h).cell 5 (by omega), (aD7.below h).cell 6 (by omega), (aD7.below h).cell 7 (by omega), (aT7.below h).cell 0 (by omega), (aT7.below h).cell 1 (by omega), (aT7.below h).cell 2 (by omega), (aT7.below h).cell 3 (by omega), (aT7.below h).cell 4 (by omega), (aT7.below h).cell 5 (by omega), (aT7.below h).cell 6 (by omega), (aT7.below h).cell 7 (by omega)⟩
  replace hS := Lib.hid hS
  have vT := Lib.hid (vw_lit8 T lT); have vk := Lib.hid (vw_lit8 K lK); have vm := Lib.hid (vw_lit8 me lm); have vd := Lib.hid (vw_lit8 da ld)
  clear g7 b67 aK6 aM6 aD6 hK6 hb6 rS6 aT0
  replace aK7 := Lib.hid aK7; replace aM7 := Lib.hid aM7; replace aD7 := Lib.hid aD7; replace hK7 := Lib.hid hK7; replace hb7 := Lib.hid hb7; replace rS7 := Lib.hid rS7; replace aT7 := Lib.hid aT7
  have hE : ∀ w' : World, (Op.equalIn 10000 23 (.agg #[Value.int IntKind.u32 (wAt T 0), Value.int IntKind.u32 (wAt T 1), Value.int IntKind.u32 (wAt T 2), Value.int IntKind.u32 (wAt T 3), Value.int IntKind.u32 (wAt T 4), Value.int IntKind.u32 (wAt T 5), Value.int IntKind.u32 (wAt T 6), Value.int IntKind.u32 (wAt T 7)]) (.agg #[Value.int IntKind.u32 (wAt T 0), Value.int IntKind.u32 (wAt T 1), Value.int IntKind.u32 (wAt T 2), Value.int IntKind.u32 (wAt T 3), Value.int IntKind.u32 (wAt T 4), Value.int IntKind.u32 (wAt T 5), Value.int IntKind.u32 (wAt T 6), Value.int IntKind.u32 (wAt T 7)])).run Tryd.prog w' = .ok true w' := fun w' => by
    rw [← vT.out, eq_words T T w' lT lT]; simp
  -- CUT6
  simp only [Act.put, List.setIfInBounds_toArray, List.set_cons_zero, List.set_cons_succ]
  go_cut [38] from 25 to 38 (fun r wx => r = .bool false ∧ Below w7.heap.size w7 wx)
  case first =>
    -- BIG
    go_region_held3 (fun w' => Below w7.heap.size w7 w' ∧ w'.cell? ⟨w2.heap.size, 0, none⟩ = some (.int .u32 (wAt K 0)) ∧ w'.cell? ⟨w2.heap.size, 1, none⟩ = some (.int .u32 (wAt K 1)) ∧ w'.cell? ⟨w2.heap.size, 2, none⟩ = some (.int .u32 (wAt K 2)) ∧ w'.cell? ⟨w2.heap.size, 3, none⟩ = some (.int .u32 (wAt K 3)) ∧ w'.cell? ⟨w2.heap.size, 4, none⟩ = some (.int .u32 (wAt K 4)) ∧ w'.cell? ⟨w2.heap.size, 5, none⟩ = some (.int .u32 (wAt K 5)) ∧ w'.cell? ⟨w2.heap.size, 6, none⟩ = some (.int .u32 (wAt K 6)) ∧ w'.cell? ⟨w2.heap.size, 7, none⟩ = some (.int .u32 (wAt K 7)) ∧ w'.cell? ⟨w.heap.size + 1, 0, none⟩ = some (.int .u32 (wAt me 0)) ∧ w'.cell? ⟨w.heap.size + 1, 1, none⟩ = some (.int .u32 (wAt me 1)) ∧ w'.cell? ⟨w.heap.size + 1, 2, none⟩ = some (.int .u32 (wAt me 2)) ∧ w'.cell? ⟨w.heap.size + 1, 3, none⟩ = some (.int .u32 (wAt me 3)) ∧ w'.cell? ⟨w.heap.size + 1, 4, none⟩ = some (.int .u32 (wAt me 4)) ∧ w'.cell? ⟨w.heap.size + 1, 5, none⟩ = some (.int .u32 (wAt me 5)) ∧ w'.cell? ⟨w.heap.size + 1, 6, none⟩ = some (.int .u32 (wAt me 6)) ∧ w'.cell? ⟨w.heap.size + 1, 7, none⟩ = some (.int .u32 (wAt me 7)) ∧ w'.cell? ⟨w.heap.size + 1 + 1, 0, none⟩ = some (.int .u32 (wAt da 0)) ∧ w'.cell? ⟨w.heap.size + 1 + 1, 1, none⟩ = some (.int .u32 (wAt da 1)) ∧ w'.cell? ⟨w.heap.size + 1 + 1, 2, none⟩ = some (.int .u32 (wAt da 2)) ∧ w'.cell? ⟨w.heap.size + 1 + 1, 3, none⟩ = some (.int .u32 (wAt da 3)) ∧ w'.cell? ⟨w.heap.size + 1 + 1, 4, none⟩ = some (.int .u32 (wAt da 4)) ∧ w'.cell? ⟨w.heap.size + 1 + 1, 5, none⟩ = some (.int .u32 (wAt da 5)) ∧ w'.cell? ⟨w.heap.size + 1 + 1, 6, none⟩ = some (.int .u32 (wAt da 6)) ∧ w'.cell? ⟨w.heap.size + 1 + 1, 7, none⟩ = some (.int .u32 (wAt da 7)) ∧ w'.cell? ⟨w6.heap.size, 0, none⟩ = some (.int .u32 (wAt T 0)) ∧ w'.cell? ⟨w6.heap.size, 1, none⟩ = some (.int .u32 (wAt T 1)) ∧ w'.cell? ⟨w6.heap.size, 2, none⟩ = some (.int .u32 (wAt T 2)) ∧ w'.cell? ⟨w6.heap.size, 3, none⟩ = some (.int .u32 (wAt T 3)) ∧ w'.cell? ⟨w6.heap.size, 4, none⟩ = some (.int .u32 (wAt T 4)) ∧ w'.cell? ⟨w6.heap.size, 5, none⟩ = some (.int .u32 (wAt T 5)) ∧ w'.cell? ⟨w6.heap.size, 6, none⟩ = some (.int .u32 (wAt T 6)) ∧ w'.cell? ⟨w6.heap.size, 7, none⟩ = some (.int .u32 (wAt T 7)))
      (first
        | exact hS.out _ (Below.refl _ _)
        | exact hS.out _ (Below.drew (Below.refl _ _))
        | assumption
        | exact hS.out _ (Below.drew (And.left (by assumption)))
        | exact hS.out _ (bX.trans (b2.mono bX.size))
        | exact hS.out _ (bY.trans (b3.mono bY.size)))
      (first
        | (go_at_call 10; rw [← vk.out, ← vm.out, ← vd.out]; obtain ⟨bX, _⟩ := (by assumption : Below w7.heap.size w7 _ ∧ _); refine (atag_any KL K me da _ (Rounds.below (w := w7) hK7.out bX) lK lm ld).mono ?_; rintro e w2 ⟨rfl, b2⟩; rw [hT.out, vT.out])
        | (go_at_call 11; rw [← vk.out, ← vm.out, ← vd.out, ← vT.out]; obtain ⟨bY, _⟩ := (by assumption : Below w7.heap.size w7 _ ∧ _); refine (verify_any KL K me da T _ (Rounds.below (w := w7) hK7.out bY) lK lm ld lT).mono ?_; rintro e w3 ⟨rfl, b3⟩; rw [decide_eq_true hT.out]))
    all_goals
      go_wp2_with fail
      go_meet
      case rel => exact ⟨rfl, And.left (by assumption)⟩
    -- GIB
  case rest =>
    obtain ⟨rfl, b78⟩ := hcut
    have aK8 := aK7.out.below b78
    have aM8 := aM7.out.below b78
    have aD8 := aD7.out.below b78
    have aT8 := aT7.out.below b78
    have hK8 := hK7.out.below b78
    have hb8 := hb7.out.trans (b78.mono hb7.out.size)
    have rS8 := rS7.out.mono b78
    clear b78 hS hE aK7 aM7 aD7 aT7 hK7 hb7 rS7
    replace aK8 := Lib.hid aK8; replace aM8 := Lib.hid aM8; replace aD8 := Lib.hid aD8; replace aT8 := Lib.hid aT8; replace hK8 := Lib.hid hK8; replace hb8 := Lib.hid hb8; replace rS8 := Lib.hid rS8
    go_wp2_with fail
    refine (bytes_any _ sd _ rS8.out (by omega)).mono ?_
    rintro e w9 ⟨v9, rfl, o9, b9⟩
    have lbs := length_bytesL sd
    have ba : Below w9.heap.size w9 (w9.alloc (.cells #[.int .u8 119, .int .u8 97, .int .u8 114, .int .u8 100, .int .u8 101, .int .u8 110, .int .u8 32, .int .u8 107, .int .u8 101, .int .u8 121, .int .u8 32, .int .u8 49] 5 (12, 13))) := (Below.refl _ _).alloc (Nat.le_refl _) _
    have hrn : Rd (w9.alloc (.cells #[.int .u8 119, .int .u8 97, .int .u8 114, .int .u8 100, .int .u8 101, .int .u8 110, .int .u8 32, .int .u8 107, .int .u8 101, .int .u8 121, .int .u8 32, .int .u8 49] 5 (12, 13))) (.slice (some ⟨w9.heap.size, 0, none⟩) 12 12) (vb nameB) := by
      rw [nameB_vals]; exact Rd.new w9 [.int .u8 119, .int .u8 97, .int .u8 114, .int .u8 100, .int .u8 101, .int .u8 110, .int .u8 32, .int .u8 107, .int .u8 101, .int .u8 121, .int .u8 32, .int .u8 49] 5 (12, 13) (by simp [maxLen])
    have kc : (convert 30 30 (.slice (some ⟨w9.heap.size, 0, none⟩) 12 12)).run Tryd.prog (w9.alloc (.cells #[.int .u8 119, .int .u8 97, .int .u8 114, .int .u8 100, .int .u8 101, .int .u8 110, .int .u8 32, .int .u8 107, .int .u8 101, .int .u8 121, .int .u8 32, .int .u8 49] 5)) = .ok (.slice (some ⟨w9.heap.size, 0, none⟩) 12 12) (w9.alloc (.cells #[.int .u8 119, .int .u8 97, .int .u8 114, .int .u8 100, .int .u8 101, .int .u8 110, .int .u8 32, .int .u8 107, .int .u8 101, .int .u8 121, .int .u8 32, .int .u8 49] 5 (12, 13))) :=
      Lib.run_convert_bytes_const (P := Tryd.prog) w9 30 5 #[.int .u8 119, .int .u8 97, .int .u8 114, .int .u8 100, .int .u8 101, .int .u8 110, .int .u8 32, .int .u8 107, .int .u8 101, .int .u8 121, .int .u8 32, .int .u8 49] 12 12 Tryd.underlying30 Tryd.underlying5
    have o10 := own_belowA o9 ba
    have b8a := b9.trans (ba.mono b9.size)
    have aKa := aK8.out.below b8a
    have aMa := aM8.out.below b8a
    have aDa := aD8.out.below b8a
    have aTa := aT8.out.below b8a
    have hKa := hK8.out.below b8a
    have hba := hb8.out.trans (b8a.mono hb8.out.size)
    clear b8a ba o9 b9 aK8 aM8 aD8 aT8 hK8 hb8 rS8
    replace aKa := Lib.hid aKa; replace aMa := Lib.hid aMa; replace aDa := Lib.hid aDa; replace aTa := Lib.hid aTa; replace hKa := Lib.hid hKa; replace hba := Lib.hid hba; replace o10 := Lib.hid o10; replace hrn := Lib.hid hrn; replace lbs := Lib.hid lbs
    go_wp2_with fail
    refine (tagbytes_any KL _ _ (bytesL sd) nameB _ hKa.out (Rd.of_own o10.out) hrn.out (by rw [lbs.out]; omega) (by decide) (by decide)).mono ?_
    rintro e wA ⟨rfl, bA⟩
    clear kc
    rw [← hKB.out]
    have aKb0 := aKa.out.below bA
    have aMb0 := aMa.out.below bA
    have aDb0 := aDa.out.below bA
    have aTb0 := aTa.out.below bA
    have hKb0 := hKa.out.below bA
    have l6A := aTb0.lt
    have hbb0 := hba.out.trans (bA.mono hba.out.size)
    have aB0 : Arr (wA.alloc (.cells (vw (List.replicate 8 0)).toArray 23)) wA.heap.size 23 (List.replicate 8 0) := Arr.new _ _ _
    clear bA aKa aMa aDa aTa hKa hba o10 hrn
    replace aKb0 := Lib.hid aKb0; replace aMb0 := Lib.hid aMb0; replace aDb0 := Lib.hid aDb0; replace aTb0 := Lib.hid aTb0; replace hKb0 := Lib.hid hKb0; replace hbb0 := Lib.hid hbb0; replace aB0 := Lib.hid aB0
    go_upto_region 9 with (refine wpList_store_arr rfl 23 _ _ rfl wA.heap.size rfl K rfl aB0.out info23 (by simp) lK ?_; intro wB aBB gB)
    have bAB := below_new gB
    have aKb := aKb0.out.below bAB
    have aMb := aMb0.out.below bAB
    have aDb := aDb0.out.below bAB
    have aTb := aTb0.out.below bAB
    have hKb := hKb0.out.below bAB
    have hbb := hbb0.out.trans (bAB.mono hbb0.out.size)
    clear gB bAB aKb0 aMb0 aDb0 aTb0 hKb0 hbb0 aB0
    replace aKb := Lib.hid aKb; replace aMb := Lib.hid aMb; replace aDb := Lib.hid aDb; replace aTb := Lib.hid aTb; replace hKb := Lib.hid hKb; replace hbb := Lib.hid hbb; replace aBB := Lib.hid aBB
    go_upto_region 10 with fail
    obtain ⟨b, hb1, hb2⟩ := bit_is bit
    have hq1 : (b : Int).tdiv 32 = ((b / 32 : Nat) : Int) := by rw [Int.tdiv_eq_ediv_of_nonneg (by omega)]; omega
    have hr1 : (b : Int).tmod 32 = ((b % 32 : Nat) : Int) := by rw [Int.tmod_eq_emod_of_nonneg (by omega)]; omega
    have hq2 : (b : Int) / 32 = ((b / 32 : Nat) : Int) := by omega
    have hr2 : (b : Int) % 32 = ((b % 32 : Nat) : Int) := by omega
    have q8 : b / 32 < 8 := by omega
    have r32 : b % 32 < 32 := by omega
    obtain ⟨q, hq⟩ : ∃ q, b / 32 = q := ⟨_, rfl⟩
    obtain ⟨r, hr⟩ : ∃ r, b % 32 = r := ⟨_, rfl⟩
    rw [hq] at hq1 hq2 q8
    rw [hr] at hr1 hr2 r32
    simp only [hb2]
    clear hq hr hb2
    have hcq := aTb.out.cell q (by omega)
    have hfq := aTb.out.frozen q
    have i1 : (0 : Int) ≤ (q : Int) := by omega
    have i2 : (q : Int) < 8 := by omega
    have i3 : (0 : Int) ≤ (r : Int) := by omega
    have i4 : (r : Int) < 32 := by omega
    go_upto_region 11 with fail
    have xb := wAt_bd T q
    obtain ⟨z, hz, z1, z2, zne⟩ := flip_ne (wAt T q) r xb.1 xb.2 (by omega)
    rw [hz]
    obtain ⟨aU, gU⟩ := aTb.out.set q z z1 z2
    obtain ⟨wC, hwC⟩ : ∃ wC, wB.setCell ⟨w6.heap.size, q, none⟩ (.int .u32 z) = wC := ⟨_, rfl⟩
    rw [hwC] at aU gU ⊢
    obtain ⟨U, hU⟩ : ∃ U, T.set q (ofI z) = U := ⟨_, rfl⟩
    have lU : U.length = 8 := by rw [← hU, List.length_set, lT]
    have hne : T ≠ U := by
      intro h
      have h1 : wAt U q = z := by
        rw [← hU]; unfold wAt
        rw [List.getD_eq_getElem?_getD, List.getElem?_set_self (by omega), Option.getD_some]
        exact ofI_val z z1 z2
      rw [← h] at h1
      exact zne h1.symm
    rw [hU] at aU
    have aKc := aKb.out.grown gU (by simp; omega)
    have aBc := aBB.out.grown gU (by simp; omega)
    have aMc := aMb.out.grown gU (by simp; omega)
    have aDc := aDb.out.grown gU (by simp; omega)
    have hKc := hKb.out.grown gU (by simp; omega)
    have hbc := hbb.out.grown gU hbb.out.size (by intro j hj; simp at hj; omega)
    have hF : decide (attF KL K me da = U) = false := decide_eq_false (by rw [hT.out]; exact hne)
    replace hF := Lib.hid hF
    have hE : ∀ w' : World, (Op.equalIn 10000 23 (.agg #[Value.int IntKind.u32 (wAt K 0), Value.int IntKind.u32 (wAt K 1), Value.int IntKind.u32 (wAt K 2), Value.int IntKind.u32 (wAt K 3), Value.int IntKind.u32 (wAt K 4), Value.int IntKind.u32 (wAt K 5), Value.int IntKind.u32 (wAt K 6), Value.int IntKind.u32 (wAt K 7)]) (.agg #[Value.int IntKind.u32 (wAt K 0), Value.int IntKind.u32 (wAt K 1), Value.int IntKind.u32 (wAt K 2), Value.int IntKind.u32 (wAt K 3), Value.int IntKind.u32 (wAt K 4), Value.int IntKind.u32 (wAt K 5), Value.int IntKind.u32 (wAt K 6), Value.int IntKind.u32 (wAt K 7)])).run Tryd.prog w' = .ok true w' := fun w' => by
      rw [← vk.out, eq_words K K w' lK lK]; simp
    have vU := Lib.hid (vw_lit8 U lU)
    clear hwC hU hne hz zne z1 z2 xb gU aTb aKb aBB aMb aDb hKb hbb hcq hfq hq1 hq2 hr1 hr2
    replace hKc := Lib.hid hKc; replace hbc := Lib.hid hbc
    have caKc0 := aKc.cell 0 (by omega)
    have caKc1 := aKc.cell 1 (by omega)
    have caKc2 := aKc.cell 2 (by omega)
    have caKc3 := aKc.cell 3 (by omega)
    have caKc4 := aKc.cell 4 (by omega)
    have caKc5 := aKc.cell 5 (by omega)
    have caKc6 := aKc.cell 6 (by omega)
    have caKc7 := aKc.cell 7 (by omega)
    have caBc0 := aBc.cell 0 (by omega)
    have caBc1 := aBc.cell 1 (by omega)
    have caBc2 := aBc.cell 2 (by omega)
    have caBc3 := aBc.cell 3 (by omega)
    have caBc4 := aBc.cell 4 (by omega)
    have caBc5 := aBc.cell 5 (by omega)
    have caBc6 := aBc.cell 6 (by omega)
    have caBc7 := aBc.cell 7 (by omega)
    have caMc0 := aMc.cell 0 (by omega)
    have caMc1 := aMc.cell 1 (by omega)
    have caMc2 := aMc.cell 2 (by omega)
    have caMc3 := aMc.cell 3 (by omega)
    have caMc4 := aMc.cell 4 (by omega)
    have caMc5 := aMc.cell 5 (by omega)
    have caMc6 := aMc.cell 6 (by omega)
    have caMc7 := aMc.cell 7 (by omega)
    have caDc0 := aDc.cell 0 (by omega)
    have caDc1 := aDc.cell 1 (by omega)
    have caDc2 := aDc.cell 2 (by omega)
    have caDc3 := aDc.cell 3 (by omega)
    have caDc4 := aDc.cell 4 (by omega)
    have caDc5 := aDc.cell 5 (by omega)
    have caDc6 := aDc.cell 6 (by omega)
    have caDc7 := aDc.cell 7 (by omega)
    have caU0 := aU.cell 0 (by omega)
    have caU1 := aU.cell 1 (by omega)
    have caU2 := aU.cell 2 (by omega)
    have caU3 := aU.cell 3 (by omega)
    have caU4 := aU.cell 4 (by omega)
    have caU5 := aU.cell 5 (by omega)
    have caU6 := aU.cell 6 (by omega)
    have caU7 := aU.cell 7 (by omega)
    replace aKc := Lib.hid aKc; replace aBc := Lib.hid aBc; replace aMc := Lib.hid aMc; replace aDc := Lib.hid aDc; replace aU := Lib.hid aU
    go_wp2_with fail
    rw [← vk.out, ← vm.out, ← vd.out, ← vU.out]
    refine (verify_any KL K me da U _ hKc.out lK lm ld lU).mono ?_
    rintro e wD ⟨rfl, bD⟩
    rw [hF.out]
    go_wp2_with fail
    go_ret
    exact ⟨rfl, hbc.out.trans (bD.mono hbc.out.size)⟩
end Go.Proofs.YtemanjahkohcpaaDoor
