/- The contracts of text's Number, Signed, Minus, Hexed; ParseUint at base 16. -/
import Derived.Test.YtefbogmgcihndaaGreatDoorTNum
import Derived.Lib.SlBytesConst
import Derived.ArgAppend
import Derived.Lib.AtoiErrMem
namespace Go.Proofs
open Go.RowKit Go.Shelf
namespace YtefbogmgcihndaaGreatDoor
open WP
set_option maxRecDepth 100000 in
theorem lower_hx (n : Nat) (w : World) (h : 97 ≤ n ∧ n ≤ 102) : Calls Tryz.prog 82 #[.int .u8 n] w fun e w' => e = .returned (.int .u8 n) ∧ w' = w := by
  have hb : bits .or .u8 (n : Int) 32 = n := by
    have : n = 97 ∨ n = 98 ∨ n = 99 ∨ n = 100 ∨ n = 101 ∨ n = 102 := by omega
    rcases this with rfl | rfl | rfl | rfl | rfl | rfl <;> decide
  go_enter Tryz.func82, Tryz.ntmps82
  go_wp2
  go_ret
  exact ⟨rfl, rfl⟩
set_option maxHeartbeats 8000000 in
set_option maxRecDepth 100000 in
theorem puint16_in (t : ByteArray) (w : World) (hne : t.size ≠ 0) (h8 : t.size ≤ 8) (hall : t.data.toList.all isHx = true) :
    Calls Tryz.prog 64 #[.string t, .int .i64 16, .int .i64 32] w fun e w' => e = .returned (.tuple #[.int .u64 (hxFrom 0 t.data.toList : Nat), .nilIface]) ∧ w' = Lib.bytesWorld w 5 t := by
  have hemp := bs_isEmpty t hne
  have hcv := Lib.run_convert_string_bytes (P := Tryz.prog) w 9 25 5 t (u := .string) Tryz.underlying9 Tryz.underlying25 Tryz.underlying5
  have hB : ∀ j, j < t.size → (Lib.bytesWorld w 5 t).cell? ⟨w.heap.size, j, none⟩ = some (.int .u8 (t.data.toList.getD j 0).toNat) := fun j hj => Lib.bytesWorld_cell w 5 t j hj
  obtain ⟨W1, hW1⟩ : ∃ W1, W1 = Lib.bytesWorld w 5 t := ⟨_, rfl⟩
  rw [← hW1] at hcv hB ⊢
  clear hW1
  obtain ⟨bs, hL⟩ : ∃ bs, bs = t.data.toList := ⟨_, rfl⟩
  have hLn : bs.length = t.size := by rw [hL, size_list]
  rw [← hL] at hB hall ⊢
  clear hL
  obtain ⟨V, hV⟩ : ∃ V, hxFrom 0 bs = V := ⟨_, rfl⟩
  rw [hV]
  have hmv : IntKind.u64.wrap (IntKind.u64.wrap 4294967296 - 1) = 4294967295 := by
    rw [IntKind.wrap_u64, IntKind.wrap_u64]
    decide
  replace hLn := Lib.hid hLn; replace hV := Lib.hid hV; replace hall := Lib.hid hall; replace hB := Lib.hid hB
  go_enter Tryz.func64, Tryz.ntmps64
  go_wp2
  go_loop [12, 13, 101] (fun vu vn vi => ∃ (k acc : Nat) (a : Int), vu = .bool false ∧ vn = .int .u64 a ∧ vi = .int .i64 k ∧ k ≤ t.size ∧ Hid (a = (acc : Int) ∧ acc < 16 ^ k ∧ hxFrom acc (bs.drop k) = V)) (fun _ _ vi => t.size - (intOf vi).toNat)
  case atStart => exact ⟨0, 0, 0, rfl, rfl, rfl, by omega, rfl, by decide, hV.out⟩
  case round =>
    obtain ⟨k, acc, a, rfl, rfl, rfl, hk, hh⟩ := hrel
    obtain ⟨ha, hacc, hdec⟩ := hh.out
    clear hh
    by_cases hkn : k < t.size
    · have hkl : k < bs.length := by rw [hLn.out]; exact hkn
      have hc := hB.out k hkn
      have hdrop : bs.drop k = bs[k] :: bs.drop (k + 1) := List.drop_eq_getElem_cons hkl
      have hget : bs.getD k 0 = bs[k] := by simp [List.getD, List.getElem?_eq_getElem hkl]
      have hx := List.all_eq_true.1 hall.out bs[k] (List.getElem_mem hkl)
      rw [hdrop] at hdec
      rw [hget] at hc
      obtain ⟨c, hcc⟩ : ∃ c, bs[k] = c := ⟨_, rfl⟩
      rw [hcc] at hc hdec hx
      have hstep : hxFrom (acc * 16 + hxVal c) (bs.drop (k + 1)) = V := hdec
      have hvl := hxVal_lt c
      have hp1 : 16 ^ (k + 1) ≤ 16 ^ 8 := Nat.pow_le_pow_right (by decide) (by omega)
      have hp2 : (16 : Nat) ^ 8 = 4294967296 := rfl
      have hp3 : (16 : Nat) ^ (k + 1) = 16 ^ k * 16 := Nat.pow_succ _ _
      rw [hp2, hp3] at hp1
      obtain ⟨p, hp⟩ : ∃ p, 16 ^ k = p := ⟨_, rfl⟩
      rw [hp] at hacc hp1 hp3
      have hnew : acc * 16 + hxVal c < 16 ^ (k + 1) := by rw [hp3]; omega
      have hc256 := c.toNat_lt
      have hsp : (48 ≤ c.toNat ∧ c.toNat ≤ 57 ∧ hxVal c = c.toNat - 48) ∨ (97 ≤ c.toNat ∧ c.toNat ≤ 102 ∧ hxVal c = c.toNat - 87) := by
        unfold isHx dgN at hx
        unfold hxVal dgN
        by_cases q1 : 48 ≤ c.toNat ∧ c.toNat ≤ 57
        · left; rw [if_pos q1]; exact ⟨q1.1, q1.2, rfl⟩
        · rw [if_neg q1] at hx
          by_cases q2 : 97 ≤ c.toNat ∧ c.toNat ≤ 102
          · right; rw [if_neg q1, if_pos q2]; exact ⟨q2.1, q2.2, rfl⟩
          · rw [if_neg q2] at hx; cases hx
      have a0 : 0 ≤ a := by omega
      have a1 : a ≤ 268435455 := by omega
      obtain ⟨d, hd⟩ : ∃ d, hxVal c = d := ⟨_, rfl⟩
      rw [hd] at hstep hnew hsp hvl
      clear hdrop hget hdec hp hp1 hp2 hp3 hacc hcc hx hd hkl
      rcases hsp with ⟨q1, q2, q3⟩ | ⟨q1, q2, q3⟩
      · have HN : Hid (a * 16 + ((c.toNat : Int) - 48) = ((acc * 16 + d : Nat) : Int) ∧ acc * 16 + d < 16 ^ (k + 1) ∧ hxFrom (acc * 16 + d) (bs.drop (k + 1)) = V) := Lib.hid ⟨by omega, hnew, hstep⟩
        have iov : a * 16 + ((c.toNat : Int) - 48) ≤ 4294967295 := by omega
        have b1 : decide ((c.toNat : Int) - 48 ≥ 16) = false := decide_eq_false (by omega)
        clear q3 hnew hstep ha hvl
        go_wp2
        refine ⟨⟨k + 1, acc * 16 + d, a * 16 + ((c.toNat : Int) - 48), rfl, (by first | rfl | (congr 1; omega)), (by first | rfl | (congr 1; omega)), by omega, HN⟩, by simp [intOf]; omega⟩
      · have HN : Hid (a * 16 + ((c.toNat : Int) - 97 + 10) = ((acc * 16 + d : Nat) : Int) ∧ acc * 16 + d < 16 ^ (k + 1) ∧ hxFrom (acc * 16 + d) (bs.drop (k + 1)) = V) := Lib.hid ⟨by omega, hnew, hstep⟩
        have iov : a * 16 + ((c.toNat : Int) - 97 + 10) ≤ 4294967295 := by omega
        have b1 : decide ((c.toNat : Int) - 97 + 10 ≥ 16) = false := decide_eq_false (by omega)
        have hlw := fun W => lower_hx c.toNat W ⟨q1, q2⟩
        clear q3 hnew hstep ha hvl
        replace hlw := Lib.hid hlw
        go_wp2_with (go_at_call 82; refine (hlw.out _).mono ?_; rintro e w' ⟨rfl, rfl⟩)
        refine ⟨⟨k + 1, acc * 16 + d, a * 16 + ((c.toNat : Int) - 97 + 10), rfl, (by first | rfl | (congr 1; omega)), (by first | rfl | (congr 1; omega)), by omega, HN⟩, by simp [intOf]; omega⟩
    · have hkk : k = t.size := by omega
      subst hkk
      rw [List.drop_eq_nil_of_le (by rw [hLn.out]; exact Nat.le_refl _)] at hdec
      have hv : acc = V := hdec
      subst hv
      subst ha
      clear hdec hacc
      go_wp2
      go_ret2
      exact ⟨rfl, rfl⟩
set_option maxRecDepth 100000 in
theorem puint16_any (t : ByteArray) (w : World) (hne : t.size ≠ 0) (h8 : t.size ≤ 8) (hall : t.data.toList.all isHx = true) :
    Calls Tryz.prog 44 #[.string t, .int .i64 16, .int .i64 32] w fun e w' => e = .returned (.tuple #[.int .u64 (hxFrom 0 t.data.toList : Nat), .nilIface]) ∧ Below w.heap.size w w' := by
  have hc := puint16_in t w hne h8 hall
  have hb := Lib.bytesWorld_below w 5 t
  go_enter Tryz.func44, Tryz.ntmps44
  go_wp2_with (go_at_call 64; refine hc.mono ?_; rintro e w' ⟨rfl, rfl⟩)
  go_ret2
  exact ⟨rfl, hb⟩
end YtefbogmgcihndaaGreatDoor
end Go.Proofs
