/- The library's ParseUint at base 10 at this program's numbers. (Printed by wip/sh/layplain.py, laymark.py.) The contracts of text's tens, Number, Signed, Minus; ParseUint at base 16. The contracts of text's Number, Signed, Minus, Hexed; ParseUint at base 16. -/
import Derived.Test.YtiknookfnameiaaGreatDoorProg
import Derived.Shelf.Pu.ErrVarParseUint
import Derived.Test.YtiknookfnameiaaGreatDoorJn06
import Derived.Test.YtiknookfnameiaaGreatDoorJn08
import Derived.Lib.ConvBytes
import Derived.Lib.ParseIntBMem
import Derived.Laws.Strings3
import Derived.Laws.Closers25
import Derived.Laws.Closers25b
import Derived.WalkKit
import Derived.BigCall
import Derived.BigGuard
import Derived.Lib.SlBytesConst
import Derived.ArgAppend
import Derived.Lib.AtoiErrMem
namespace Go.Proofs
open Go.Shelf
def YtiknookfnameiaaGreatDoor.laysPUint_ren : Go.Shelf.Ren := ⟨fun | 14 => 143 | 16 => 165 | 17 => 166 | 19 => 174 | 20 => 175 | 21 => 176 | 22 => 177 | 23 => 178 | 24 => 179 | 25 => 182 | 27 => 33 | 26 => 183 | 28 => 53 | 29 => 76 | 30 => 102 | 31 => 103 | 32 => 104 | 33 => 105 | 35 => 129 | 34 => 128 | 36 => 130 | 37 => 131 | 38 => 132 | 39 => 149 | 40 => 150 | n => n, fun | 9 => 9 | 3 => 3 | 22 => 132 | 24 => 70 | 25 => 251 | 4 => 4 | 34 => 275 | 5 => 5 | 36 => 93 | 37 => 101 | 0 => 0 | 39 => 277 | 21 => 21 | 44 => 283 | 47 => 145 | 50 => 288 | 48 => 286 | 2 => 2 | 52 => 212 | 55 => 215 | 59 => 238 | 60 => 22 | 20 => 20 | 61 => 239 | 65 => 266 | 66 => 267 | 67 => 107 | n => n, fun | 0 => 12 | 1 => 13 | 2 => 5 | 3 => 8 | 4 => 9 | n => n⟩
theorem YtiknookfnameiaaGreatDoor.laysPUint : Go.Proofs.LaysPu.n14 Tryz.prog YtiknookfnameiaaGreatDoor.laysPUint_ren := {
 mixed := by kernel_rfl
 f14 := Tryz.func143.trans (congrArg some (by kernel_rfl))
 f16 := Tryz.func165.trans (congrArg some (by kernel_rfl))
 f17 := Tryz.func166.trans (congrArg some (by kernel_rfl))
 f19 := Tryz.func174.trans (congrArg some (by kernel_rfl))
 f20 := Tryz.func175.trans (congrArg some (by kernel_rfl))
 f21 := Tryz.func176.trans (congrArg some (by kernel_rfl))
 f22 := Tryz.func177.trans (congrArg some (by kernel_rfl))
 f23 := Tryz.func178.trans (congrArg some (by kernel_rfl))
 f24 := Tryz.func179.trans (congrArg some (by kernel_rfl))
 f25 := Tryz.func182.trans (congrArg some (by kernel_rfl))
 f26 := Tryz.func183.trans (congrArg some (by kernel_rfl))
 f27 := Tryz.func33.trans (congrArg some (by kernel_rfl))
 f28 := Tryz.func53.trans (congrArg some (by kernel_rfl))
 f29 := Tryz.func76.trans (congrArg some (by kernel_rfl))
 f30 := Tryz.func102.trans (congrArg some (by kernel_rfl))
 f31 := Tryz.func103.trans (congrArg some (by kernel_rfl))
 f32 := Tryz.func104.trans (congrArg some (by kernel_rfl))
 f33 := Tryz.func105.trans (congrArg some (by kernel_rfl))
 f34 := Tryz.func128.trans (congrArg some (by kernel_rfl))
 f35 := Tryz.func129.trans (congrArg some (by kernel_rfl))
 f36 := Tryz.func130.trans (congrArg some (by kernel_rfl))
 f37 := Tryz.func131.trans (congrArg some (by kernel_rfl))
 f38 := Tryz.func132.trans (congrArg some (by kernel_rfl))
 f39 := Tryz.func149.trans (congrArg some (by kernel_rfl))
 f40 := Tryz.func150.trans (congrArg some (by kernel_rfl))
 t0 := Tryz.underlying0
 a0 := Tryz.isAgg0
 z0 := Tryz.sizeOf0
 v0 := Tryz.zeroValue0
 i0 := by kernel_rfl
 t2 := Tryz.underlying2
 a2 := Tryz.isAgg2
 z2 := Tryz.sizeOf2
 v2 := Tryz.zeroValue2
 i2 := by kernel_rfl
 t3 := Tryz.underlying3
 a3 := Tryz.isAgg3
 z3 := Tryz.sizeOf3
 v3 := Tryz.zeroValue3
 i3 := by kernel_rfl
 t4 := Tryz.underlying4
 a4 := Tryz.isAgg4
 z4 := Tryz.sizeOf4
 v4 := Tryz.zeroValue4
 i4 := by kernel_rfl
 t5 := Tryz.underlying5
 a5 := Tryz.isAgg5
 z5 := Tryz.sizeOf5
 v5 := Tryz.zeroValue5
 i5 := by kernel_rfl
 t9 := Tryz.underlying9
 a9 := Tryz.isAgg9
 z9 := Tryz.sizeOf9
 v9 := Tryz.zeroValue9
 i9 := by kernel_rfl
 t20 := Tryz.underlying20
 a20 := Tryz.isAgg20
 z20 := Tryz.sizeOf20
 v20 := Tryz.zeroValue20
 i20 := by kernel_rfl
 t21 := Tryz.underlying21
 a21 := Tryz.isAgg21
 z21 := Tryz.sizeOf21
 v21 := Tryz.zeroValue21
 i21 := by kernel_rfl
 t22 := Tryz.underlying132
 a22 := Tryz.isAgg132
 z22 := Tryz.sizeOf132
 v22 := Tryz.zeroValue132
 i22 := by kernel_rfl
 t24 := Tryz.underlying70
 a24 := Tryz.isAgg70
 z24 := Tryz.sizeOf70
 v24 := Tryz.zeroValue70
 i24 := by kernel_rfl
 t25 := Tryz.underlying251
 a25 := Tryz.isAgg251
 z25 := Tryz.sizeOf251
 v25 := Tryz.zeroValue251
 i25 := by kernel_rfl
 t34 := Tryz.underlying275
 a34 := Tryz.isAgg275
 z34 := Tryz.sizeOf275
 v34 := Tryz.zeroValue275
 i34 := by kernel_rfl
 c34 := by kernel_rfl
 t36 := Tryz.underlying93
 a36 := Tryz.isAgg93
 z36 := Tryz.sizeOf93
 v36 := Tryz.zeroValue93
 i36 := by kernel_rfl
 t37 := Tryz.underlying101
 a37 := Tryz.isAgg101
 z37 := Tryz.sizeOf101
 v37 := Tryz.zeroValue101
 i37 := by kernel_rfl
 t39 := Tryz.underlying277
 a39 := Tryz.isAgg277
 z39 := Tryz.sizeOf277
 v39 := Tryz.zeroValue277
 i39 := by kernel_rfl
 t44 := Tryz.underlying283
 a44 := Tryz.isAgg283
 z44 := Tryz.sizeOf283
 v44 := Tryz.zeroValue283
 i44 := by kernel_rfl
 t47 := Tryz.underlying145
 a47 := Tryz.isAgg145
 z47 := Tryz.sizeOf145
 v47 := Tryz.zeroValue145
 i47 := by kernel_rfl
 t48 := Tryz.underlying286
 a48 := Tryz.isAgg286
 z48 := Tryz.sizeOf286
 v48 := Tryz.zeroValue286
 i48 := by kernel_rfl
 t50 := Tryz.underlying288
 a50 := Tryz.isAgg288
 z50 := Tryz.sizeOf288
 v50 := Tryz.zeroValue288
 i50 := by kernel_rfl
 t52 := Tryz.underlying212
 a52 := Tryz.isAgg212
 z52 := Tryz.sizeOf212
 v52 := Tryz.zeroValue212
 i52 := by kernel_rfl
 t55 := Tryz.underlying215
 a55 := Tryz.isAgg215
 z55 := Tryz.sizeOf215
 v55 := Tryz.zeroValue215
 i55 := by kernel_rfl
 t59 := Tryz.underlying238
 a59 := Tryz.isAgg238
 z59 := Tryz.sizeOf238
 v59 := Tryz.zeroValue238
 i59 := by kernel_rfl
 t60 := Tryz.underlying22
 a60 := Tryz.isAgg22
 z60 := Tryz.sizeOf22
 v60 := Tryz.zeroValue22
 i60 := by kernel_rfl
 t61 := Tryz.underlying239
 a61 := Tryz.isAgg239
 z61 := Tryz.sizeOf239
 t65 := Tryz.underlying266
 a65 := Tryz.isAgg266
 z65 := Tryz.sizeOf266
 v65 := Tryz.zeroValue266
 i65 := by kernel_rfl
 t66 := Tryz.underlying267
 a66 := Tryz.isAgg267
 z66 := Tryz.sizeOf267
 v66 := Tryz.zeroValue267
 i66 := by kernel_rfl
 t67 := Tryz.underlying107
 a67 := Tryz.isAgg107
 z67 := Tryz.sizeOf107
 v67 := Tryz.zeroValue107
 i67 := by kernel_rfl
 g0 := by kernel_rfl
 m0 := by kernel_rfl
 g1 := by kernel_rfl
 m1 := by kernel_rfl
 g2 := by kernel_rfl
 m2 := by kernel_rfl
 g3 := by kernel_rfl
 m3 := by kernel_rfl
 g4 := by kernel_rfl
 m4 := by kernel_rfl }
end Go.Proofs

namespace Go.Proofs
open Go.RowKit Go.Shelf
namespace YtiknookfnameiaaGreatDoor
open WP
theorem bs_empty (s : ByteArray) (h : s.size = 0) : s = ⟨#[]⟩ := by
 apply ByteArray.ext
 exact Array.eq_empty_of_size_eq_zero h
theorem bs_isEmpty (s : ByteArray) (h : s.size ≠ 0) : s.toList.isEmpty = false := by
 rw [ByteArray.toList_eq]
 cases hl : s.data.toList with
 | nil => exact absurd (by rw [← size_list, hl]; rfl) h
 | cons _ _ => rfl
set_option maxRecDepth 100000 in
theorem tensb_any (s : ByteArray) (w : World) (hs : s.size ≤ 9223372036854775807) :
  Calls Tryz.prog 142 #[.string s] w fun e w' => e = .returned (.bool (tensB s.data.toList)) ∧ w' = w := by
 by_cases h0 : s.size = 0
 ·obtain rfl := bs_empty s h0
  have e : tensB (⟨#[]⟩ : ByteArray).data.toList = false := rfl
  rw [e]
  go_enter Tryz.func142, Tryz.ntmps142
  go_wp2
  go_ret
  exact ⟨rfl, rfl⟩
 ·have he := bs_isEmpty s h0
  have hp : 0 < s.size := by omega
  have hl := size_list s
  have hemp : s.data.toList.isEmpty = false := by rw [ByteArray.toList_eq] at he; exact he
  have b0 := bAt_get s 0 hp
  have hval : s.data.toList.getD 0 0 = UInt8.ofNat (bAt s.data.toList 0).toNat := by
   unfold bAt; rw [Int.toNat_natCast, UInt8.ofNat_toNat]
  by_cases hz : 1 < s.size ∧ bAt s.data.toList 0 = 48
  ·have e : tensB s.data.toList = false := by
    unfold tensB
    rw [hval, hz.2, hl]
    simp [hz.1]
   rw [e]
   have d1 : decide ((s.size : Int) > 1) = true := decide_eq_true (by omega)
   rw [hz.2] at b0
   replace hz := Lib.hid hz; replace hl := Lib.hid hl; replace e := Lib.hid e; replace hval := Lib.hid hval; replace hemp := Lib.hid hemp
   go_enter Tryz.func142, Tryz.ntmps142
   go_wp2
   go_ret
   exact ⟨rfl, rfl⟩
  ·have e : tensB s.data.toList = s.data.toList.all isDg := by
    unfold tensB
    rw [hemp, hval, hl]
    by_cases h1 : 1 < s.size
    ·have h2 : bAt s.data.toList 0 ≠ 48 := fun h => hz ⟨h1, h⟩
     have h3 := bAt_bd s.data.toList 0
     have h4 : (UInt8.ofNat (bAt s.data.toList 0).toNat == (48 : UInt8)) = false := by
      rw [beq_eq_false_iff_ne]
      intro h
      have := congrArg UInt8.toNat h
      rw [UInt8.toNat_ofNat_of_lt' (by show _ < 256; omega)] at this
      have h5 : (48 : UInt8).toNat = 48 := rfl
      omega
     rw [h4]; simp
    ·simp [h1]
   rw [e]
   have hcase : (¬ 1 < s.size) ∨ (1 < s.size ∧ bAt s.data.toList 0 ≠ 48) := by
    by_cases h1 : 1 < s.size
    ·exact .inr ⟨h1, fun h => hz ⟨h1, h⟩⟩
    ·exact .inl h1
   obtain ⟨R, hR⟩ : ∃ R, s.data.toList.all isDg = R := ⟨_, rfl⟩
   rw [hR]
   obtain ⟨c0, hc0⟩ : ∃ c, bAt s.data.toList 0 = c := ⟨_, rfl⟩
   rw [hc0] at b0 hcase
   clear hz e hval hemp hc0
   replace hR := Lib.hid hR; replace hl := Lib.hid hl
   have body : ∀ (c : Prop), c → c := fun _ h => h
   clear body
   rcases hcase with h1 | ⟨h1, h2⟩
   all_goals
    first
     | (have d1 : decide ((s.size : Int) > 1) = false := decide_eq_false (by omega))
     | (have d1 : decide ((s.size : Int) > 1) = true := decide_eq_true (by omega)
        have d2 : (c0 == 48) = false := by simpa using h2)
    go_enter Tryz.func142, Tryz.ntmps142
    go_wp2
    clear b0
    go_loop [18] (fun i => ∃ k : Nat, k ≤ s.size ∧ i = .int .i64 k ∧ (s.data.toList.take k).all isDg = true) (fun i => s.size - (intOf i).toNat)
    case atStart => exact ⟨0, by omega, rfl, rfl⟩
    case round =>
     obtain ⟨k, hk, rfl, hall⟩ := hrel
     by_cases hlt : k < s.size
     ·have hkl : k < s.data.toList.length := by rw [hl.out]; exact hlt
      have htk : (s.data.toList.take (k + 1)).all isDg = ((s.data.toList.take k).all isDg && isDg s.data.toList[k]) := by
       rw [List.take_succ_eq_append_getElem hkl, List.all_append]; simp
      rw [hall, Bool.true_and] at htk
      have bk := bAt_get s k hlt
      have hbv : bAt s.data.toList k = ((s.data.toList[k].toNat : Nat) : Int) := by unfold bAt; rw [List.getD_eq_getElem?_getD, List.getElem?_eq_getElem hkl]; rfl
      have hdg : isDg s.data.toList[k] = decide (48 ≤ bAt s.data.toList k ∧ bAt s.data.toList k ≤ 57) := by
       rw [hbv]; unfold isDg; rw [decide_eq_decide]; omega
      rw [hdg] at htk
      have hno : ¬ (48 ≤ bAt s.data.toList k ∧ bAt s.data.toList k ≤ 57) → R = false := by
       intro hn
       rw [← hR.out, List.all_eq_false]
       exact ⟨s.data.toList[k], List.getElem_mem hkl, by rw [hdg]; simpa using hn⟩
      obtain ⟨c, hc⟩ : ∃ c, bAt s.data.toList k = c := ⟨_, rfl⟩
      rw [hc] at bk htk hno
      clear hbv hdg hc hall
      by_cases q1 : 48 ≤ c
      ·by_cases q2 : c ≤ 57
       ·rw [decide_eq_true ⟨q1, q2⟩] at htk
        have e1 : decide (c < 48) = false := decide_eq_false (by omega)
        have e2 : decide (c > 57) = false := decide_eq_false (by omega)
        clear hno
        replace htk := Lib.hid htk
        go_wp2
        go_round
        case rel => exact ⟨k + 1, by omega, by go_num, htk.out⟩
        case measure => simp [intOf]; omega
       ·have hRf := hno (fun h => q2 h.2)
        subst hRf
        have e1 : decide (c < 48) = false := decide_eq_false (by omega)
        have e2 : decide (c > 57) = true := decide_eq_true (by omega)
        clear hno htk
        go_wp2
        go_ret
        exact ⟨rfl, rfl⟩
      ·have hRf := hno (fun h => q1 h.1)
       subst hRf
       have e1 : decide (c < 48) = true := decide_eq_true (by omega)
       clear hno htk
       go_wp2
       go_ret
       exact ⟨rfl, rfl⟩
     ·rw [List.take_of_length_le (by rw [hl.out]; omega), hR.out] at hall
      subst hall
      go_wp2_with fail
      go_ret
      exact ⟨rfl, rfl⟩
end YtiknookfnameiaaGreatDoor
end Go.Proofs

namespace Go.Proofs
open Go.RowKit Go.Shelf
namespace YtiknookfnameiaaGreatDoor
open WP
set_option maxRecDepth 100000 in
theorem lower_hx (n : Nat) (w : World) (h : 97 ≤ n ∧ n ≤ 102) : Calls Tryz.prog 174 #[.int .u8 n] w fun e w' => e = .returned (.int .u8 n) ∧ w' = w := by
 have hb : bits .or .u8 (n : Int) 32 = n := by
  have : n = 97 ∨ n = 98 ∨ n = 99 ∨ n = 100 ∨ n = 101 ∨ n = 102 := by omega
  rcases this with rfl | rfl | rfl | rfl | rfl | rfl <;> decide
 go_enter Tryz.func174, Tryz.ntmps174
 go_wp2
 go_ret
 exact ⟨rfl, rfl⟩
set_option maxHeartbeats 8000000 in
set_option maxRecDepth 100000 in
theorem puint16_in (t : ByteArray) (w : World) (hne : t.size ≠ 0) (h8 : t.size ≤ 8) (hall : t.data.toList.all isHx = true) :
  Calls Tryz.prog 165 #[.string t, .int .i64 16, .int .i64 32] w fun e w' => e = .returned (.tuple #[.int .u64 (hxFrom 0 t.data.toList : Nat), .nilIface]) ∧ w' = Lib.bytesWorld w 5 t := by
 have hemp := bs_isEmpty t hne
 have hcv := Lib.run_convert_string_bytes (P := Tryz.prog) w 9 101 5 t (u := .string) Tryz.underlying9 Tryz.underlying101 Tryz.underlying5
 have hB : ∀ j, j < t.size → (Lib.bytesWorld w 5 t).cell? ⟨w.heap.size, j, none⟩ = some (.int .u8 (t.data.toList.getD j 0).toNat) := fun j hj => Lib.bytesWorld_cell w 5 t j hj
 obtain ⟨W1, hW1⟩ : ∃ W1, W1 = Lib.bytesWorld w 5 t := ⟨_, rfl⟩
 rw [← hW1] at hcv hB ⊢
 clear hW1
 obtain ⟨bs, hL⟩ : ∃ bs, bs = t.data.toList := ⟨_, rfl⟩
 have hLn : bs.length = t.size := by rw [hL, size_list]
 rw [← hL] at hB hall ⊢
 clear hL
 obtain ⟨V, hV⟩ : ∃ V, hxFrom 0 bs = V := ⟨_, rfl⟩
 rw [hV]
 have hmv : IntKind.u64.wrap (IntKind.u64.wrap 4294967296 - 1) = 4294967295 := by
  rw [IntKind.wrap_u64, IntKind.wrap_u64]
  decide
 replace hLn := Lib.hid hLn; replace hV := Lib.hid hV; replace hall := Lib.hid hall; replace hB := Lib.hid hB
 go_enter Tryz.func165, Tryz.ntmps165
 go_wp2
 go_loop [12, 13, 101] (fun vu vn vi => ∃ (k acc : Nat) (a : Int), vu = .bool false ∧ vn = .int .u64 a ∧ vi = .int .i64 k ∧ k ≤ t.size ∧ Hid (a = (acc : Int) ∧ acc < 16 ^ k ∧ hxFrom acc (bs.drop k) = V)) (fun _ _ vi => t.size - (intOf vi).toNat)
 case atStart => exact ⟨0, 0, 0, rfl, rfl, rfl, by omega, rfl, by decide, hV.out⟩
 case round =>
  obtain ⟨k, acc, a, rfl, rfl, rfl, hk, hh⟩ := hrel
  obtain ⟨ha, hacc, hdec⟩ := hh.out
  clear hh
  by_cases hkn : k < t.size
  ·have hkl : k < bs.length := by rw [hLn.out]; exact hkn
   have hc := hB.out k hkn
   have hdrop : bs.drop k = bs[k] :: bs.drop (k + 1) := List.drop_eq_getElem_cons hkl
   have hget : bs.getD k 0 = bs[k] := by simp [List.getD, List.getElem?_eq_getElem hkl]
   have hx := List.all_eq_true.1 hall.out bs[k] (List.getElem_mem hkl)
   rw [hdrop] at hdec
   rw [hget] at hc
   obtain ⟨c, hcc⟩ : ∃ c, bs[k] = c := ⟨_, rfl⟩
   rw [hcc] at hc hdec hx
   have hstep : hxFrom (acc * 16 + hxVal c) (bs.drop (k + 1)) = V := hdec
   have hvl := hxVal_lt c
   have hp1 : 16 ^ (k + 1) ≤ 16 ^ 8 := Nat.pow_le_pow_right (by decide) (by omega)
   have hp2 : (16 : Nat) ^ 8 = 4294967296 := rfl
   have hp3 : (16 : Nat) ^ (k + 1) = 16 ^ k * 16 := Nat.pow_succ _ _
   rw [hp2, hp3] at hp1
   obtain ⟨p, hp⟩ : ∃ p, 16 ^ k = p := ⟨_, rfl⟩
   rw [hp] at hacc hp1 hp3
   have hnew : acc * 16 + hxVal c < 16 ^ (k + 1) := by rw [hp3]; omega
   have hc256 := c.toNat_lt
   have hsp : (48 ≤ c.toNat ∧ c.toNat ≤ 57 ∧ hxVal c = c.toNat - 48) ∨ (97 ≤ c.toNat ∧ c.toNat ≤ 102 ∧ hxVal c = c.toNat - 87) := by
    unfold isHx dgN at hx
    unfold hxVal dgN
    by_cases q1 : 48 ≤ c.toNat ∧ c.toNat ≤ 57
    ·left; rw [if_pos q1]; exact ⟨q1.1, q1.2, rfl⟩
    ·rw [if_neg q1] at hx
     by_cases q2 : 97 ≤ c.toNat ∧ c.toNat ≤ 102
     ·right; rw [if_neg q1, if_pos q2]; exact ⟨q2.1, q2.2, rfl⟩
     ·rw [if_neg q2] at hx; cases hx
   have a0 : 0 ≤ a := by omega
   have a1 : a ≤ 268435455 := by omega
   obtain ⟨d, hd⟩ : ∃ d, hxVal c = d := ⟨_, rfl⟩
   rw [hd] at hstep hnew hsp hvl
   clear hdrop hget hdec hp hp1 hp2 hp3 hacc hcc hx hd hkl
   rcases hsp with ⟨q1, q2, q3⟩ | ⟨q1, q2, q3⟩
   ·have HN : Hid (a * 16 + ((c.toNat : Int) - 48) = ((acc * 16 + d : Nat) : Int) ∧ acc * 16 + d < 16 ^ (k + 1) ∧ hxFrom (acc * 16 + d) (bs.drop (k + 1)) = V) := Lib.hid ⟨by omega, hnew, hstep⟩
    have iov : a * 16 + ((c.toNat : Int) - 48) ≤ 4294967295 := by omega
    have b1 : decide ((c.toNat : Int) - 48 ≥ 16) = false := decide_eq_false (by omega)
    clear q3 hnew hstep ha hvl
    go_wp2
    refine ⟨⟨k + 1, acc * 16 + d, a * 16 + ((c.toNat : Int) - 48), rfl, (by first | rfl | (congr 1; omega)), (by first | rfl | (congr 1; omega)), by omega, HN⟩, by simp [intOf]; omega⟩
   ·have HN : Hid (a * 16 + ((c.toNat : Int) - 97 + 10) = ((acc * 16 + d : Nat) : Int) ∧ acc * 16 + d < 16 ^ (k + 1) ∧ hxFrom (acc * 16 + d) (bs.drop (k + 1)) = V) := Lib.hid ⟨by omega, hnew, hstep⟩
    have iov : a * 16 + ((c.toNat : Int) - 97 + 10) ≤ 4294967295 := by omega
    have b1 : decide ((c.toNat : Int) - 97 + 10 ≥ 16) = false := decide_eq_false (by omega)
    have hlw := fun W => lower_hx c.toNat W ⟨q1, q2⟩
    clear q3 hnew hstep ha hvl
    replace hlw := Lib.hid hlw
    go_wp2_with (go_at_call 174; refine (hlw.out _).mono ?_; rintro e w' ⟨rfl, rfl⟩)
    refine ⟨⟨k + 1, acc * 16 + d, a * 16 + ((c.toNat : Int) - 97 + 10), rfl, (by first | rfl | (congr 1; omega)), (by first | rfl | (congr 1; omega)), by omega, HN⟩, by simp [intOf]; omega⟩
  ·have hkk : k = t.size := by omega
   subst hkk
   rw [List.drop_eq_nil_of_le (by rw [hLn.out]; exact Nat.le_refl _)] at hdec
   have hv : acc = V := hdec
   subst hv
   subst ha
   clear hdec hacc
   go_wp2
   go_ret2
   exact ⟨rfl, rfl⟩
set_option maxRecDepth 100000 in
theorem puint16_any (t : ByteArray) (w : World) (hne : t.size ≠ 0) (h8 : t.size ≤ 8) (hall : t.data.toList.all isHx = true) :
  Calls Tryz.prog 143 #[.string t, .int .i64 16, .int .i64 32] w fun e w' => e = .returned (.tuple #[.int .u64 (hxFrom 0 t.data.toList : Nat), .nilIface]) ∧ Below w.heap.size w w' := by
 have hc := puint16_in t w hne h8 hall
 have hb := Lib.bytesWorld_below w 5 t
 go_enter Tryz.func143, Tryz.ntmps143
 go_wp2_with (go_at_call 165; refine hc.mono ?_; rintro e w' ⟨rfl, rfl⟩)
 go_ret2
 exact ⟨rfl, hb⟩
end YtiknookfnameiaaGreatDoor
end Go.Proofs
