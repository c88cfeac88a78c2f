/- The contracts of the numerals: the library's Itoa, text's Minus and Hexed, the reference's ten, Tens, Hexed, Minus. The contract of isa's CondName. The contracts of AsmLands' small functions: within, name, line. -/
import Derived.Test.YtiknookfnameiaaGreatDoorJn38
import Derived.Test.YtiknookfnameiaaGreatDoorJn02
import Derived.Test.YtiknookfnameiaaGreatDoorJn18
import Derived.Ground.NamesProg
import Derived.Lib.ItoaMem
import Derived.Lib.SlBytesConst
import Derived.ArgAppend
import Derived.Lib.SmallJoins
import Derived.Test.YtiknookfnameiaaGreatDoorVLbJn
namespace Go.Proofs
open Go.RowKit Go.Shelf Go.Sort
namespace YtiknookfnameiaaGreatDoor
open WP
theorem retS {a b : ByteArray} (h : a = b) : Ending.returned (.string a) = .returned (.string b) := by rw [h]
abbrev Pow10P (w : World) : Prop := Lib.TabIs Tryz.prog w "internal/strconv.uint64pow10" .u64 Lib.pow10Tab
theorem pow10P_blocks {w w' : World} (h : Pow10P w) (hk : ∀ k, k < w.heap.size → w'.heap[k]? = w.heap[k]?) : Pow10P w' := by
  unfold Pow10P Lib.TabIs World.var? at *
  cases hg : Tryz.prog.globalNamed "internal/strconv.uint64pow10" with
  | none => simp [hg] at h
  | some g =>
    simp only [hg, Option.bind_some] at h ⊢
    have hlt : g < w.heap.size := by
      rcases Nat.lt_or_ge g w.heap.size with h' | h'
      · exact h'
      · rw [Array.getElem?_eq_none h'] at h; simp at h
    rw [hk g hlt]
    exact h
theorem pow10P_later {w w' : World} (h : Pow10P w) (hb : Below w.heap.size w w') : Pow10P w' := pow10P_blocks h fun k hk => hb.block k hk
theorem growP_below (w : World) (k : Nat) (os : Array Obj) : Below w.heap.size w (grow (w.drewN k) os) := by
  have h0 : Below w.heap.size w (w.drewN k) := below_drewN (Below.refl _ _) _
  exact ⟨h0.os, h0.tape, h0.output, by rw [size_grow]; have := h0.size; omega, fun j hj => by rw [heap_grow_old _ _ (by have := h0.size; omega)]; exact h0.block j hj⟩
theorem itoa_any (n : Int) (w : World) (h0 : -9223372036854775808 ≤ n) (h1 : n ≤ 9223372036854775807) (htab : Pow10P w) :
    Calls Tryz.prog 33 #[.int .i64 n] w fun e w' => e = .returned (.string (strS (Lib.itoa n))) ∧ Below w.heap.size w w' := by
  refine (Any.strconv_Itoa laysItoa n h0 h1 w htab).mono ?_
  rintro e w' ⟨rfl, k, os, rfl⟩
  exact ⟨rfl, growP_below _ _ _⟩
theorem fintP_any (n : Int) (w : World) (h0 : -9223372036854775808 ≤ n) (h1 : n ≤ 9223372036854775807) (htab : Pow10P w) :
    Calls Tryz.prog 78 #[.int .i64 n, .int .i64 10] w fun e w' => e = .returned (.string (strS (Lib.itoa n))) ∧ Below w.heap.size w w' := by
  refine (Any.strconv_FormatInt_10 laysFIntP n h0 h1 w htab).mono ?_
  rintro e w' ⟨rfl, k, os, rfl⟩
  exact ⟨rfl, growP_below _ _ _⟩
set_option maxRecDepth 100000 in
theorem minusP_any (n : Int) (w : World) (h0 : -2147483648 ≤ n) (h1 : n ≤ 2147483647) (htab : Pow10P w) :
    Calls Tryz.prog 56 #[.int .i32 n] w fun e w' => e = .returned (.string (strS (Lib.itoa n))) ∧ Below w.heap.size w w' := by
  obtain ⟨S, hS⟩ : ∃ S, strS (Lib.itoa n) = S := ⟨_, rfl⟩
  have hc := fun W hW => fintP_any n W (by omega) (by omega) hW
  rw [hS] at hc ⊢
  clear hS
  go_enter Tryz.func56, Tryz.ntmps56
  go_wp2_with (go_at_call 78; refine (hc _ htab).mono ?_; rintro e w' ⟨rfl, hb⟩)
  go_ret
  exact ⟨rfl, hb⟩
set_option maxRecDepth 100000 in
theorem dig_index (D : Nat) (hD : D < 16) (W : World) :
    (Instr.index 9 (.string ⟨#[48, 49, 50, 51, 52, 53, 54, 55, 56, 57, 97, 98, 99, 100, 101, 102]⟩) (.int .u32 (D : Int))).run Tryz.prog W = .ok (.int .u8 ((dg16 D).toNat)) W := by
  have : D = 0 ∨ D = 1 ∨ D = 2 ∨ D = 3 ∨ D = 4 ∨ D = 5 ∨ D = 6 ∨ D = 7 ∨ D = 8 ∨ D = 9 ∨ D = 10 ∨ D = 11 ∨ D = 12 ∨ D = 13 ∨ D = 14 ∨ D = 15 := by omega
  rcases this with rfl | rfl | rfl | rfl | rfl | rfl | rfl | rfl | rfl | rfl | rfl | rfl | rfl | rfl | rfl | rfl <;> rfl
theorem dig_calc (x : Int) (k : Nat) (h1 : 0 ≤ x) (h2 : x ≤ 4294967295) : bits .and .u32 (x / 2 ^ (28 - 4 * k)) 15 = ((x.toNat / 2 ^ (28 - 4 * k) % 16 : Nat) : Int) := by
  obtain ⟨x, rfl⟩ := Int.eq_ofNat_of_zero_le h1
  have e3 : ((2 : Int) ^ (28 - 4 * k)) = ((2 ^ (28 - 4 * k) : Nat) : Int) := by simp
  rw [e3, ← Int.natCast_ediv]
  have hlt : x / 2 ^ (28 - 4 * k) < 4294967296 := Nat.lt_of_le_of_lt (Nat.div_le_self _ _) (by omega)
  have := bits_mask .u32 32 (by decide) (fun m a b => by rw [IntKind.wrap_u32]; omega) 4 (by decide) (((x / 2 ^ (28 - 4 * k) : Nat) : Int)) (Int.natCast_nonneg _) (by omega)
  have e4 : (2 ^ 4 - 1 : Int) = 15 := by decide
  rw [e4] at this
  rw [this]
  simp
theorem infoB8 : (Tryz.prog.info? 5).map (fun i => (i.zero, i.size, i.bytes)) = some (some (.int .u8 0), 1, 1) := by kernel_rfl
def hexTP (w : Int) : ByteArray := strS ([48, 120] ++ hx8P w.toNat)
set_option maxRecDepth 100000 in
set_option maxHeartbeats 1000000 in
theorem hexedP_any (x : Int) (w : World) (h1 : 0 ≤ x) (h2 : x ≤ 4294967295) :
    Calls Tryz.prog 28 #[.int .u32 x] w fun e w' => e = .returned (.string (hexTP x)) ∧ Below w.heap.size w w' := by
  obtain ⟨i0, hi, hz0, hz1, hz2⟩ := info_parts infoB8
  obtain ⟨S, hS⟩ : ∃ S, hexTP x = S := ⟨_, rfl⟩
  rw [hS]
  replace hS := Lib.hid hS
  have kc := Lib.run_convert_bytes_const (P := Tryz.prog) w 101 5 #[.int .u8 48, .int .u8 120] 2 2 Tryz.underlying101 Tryz.underlying5
  go_enter Tryz.func28, Tryz.ntmps28
  go_wp2
  clear kc
  go_loopw [3, 7] (fun b i wr => ∃ k : Nat, k ≤ 8 ∧ i = .int .i64 k ∧ ((k = 0 ∧ b = .slice (some ⟨w.heap.size, 0, none⟩) 2 2 ∧ wr = w.alloc (.cells #[.int .u8 48, .int .u8 120] 5 (2, 3))) ∨ (wr.ownsRow w.heap.size 5 1 b (2 + k) (vb ([48, 120] ++ (hx8P x.toNat).take k)) ∧ Below w.heap.size w wr))) (fun _ i _ => 8 - (intOf i).toNat)
  case atStart => exact ⟨0, by omega, rfl, .inl ⟨rfl, rfl, rfl⟩⟩
  case round =>
    obtain ⟨wr, rfl⟩ : ∃ wo, wo = wr := ⟨wr, rfl⟩
    obtain ⟨k, hk, rfl, hor⟩ := hrel
    by_cases hlt : k < 8
    · have hd := dig_calc x k h1 h2
      have hix := dig_index (x.toNat / 2 ^ (28 - 4 * k) % 16) (Nat.mod_lt _ (by decide))
      have ht : vb ([48, 120] ++ (hx8P x.toNat).take (k + 1)) = vb ([48, 120] ++ (hx8P x.toNat).take k) ++ [.int .u8 (dg16 (x.toNat / 2 ^ (28 - 4 * k) % 16)).toNat] := by
        rw [hx8P_take x.toNat k hlt, ← List.append_assoc, vb_append]; rfl
      rcases hor with ⟨hk0, rfl, rfl⟩ | ⟨ho, hb⟩
      · have hq : (w.alloc (.cells #[.int .u8 48, .int .u8 120] 5 (2, 3))).heap[w.heap.size]? = some (.cells #[.int .u8 48, .int .u8 120] 5 (2, 3)) := heap_alloc_new _ _
        have hb : Below w.heap.size w (w.alloc (.cells #[.int .u8 48, .int .u8 120] 5 (2, 3))) := (Below.refl _ _).alloc (Nat.le_refl _) _
        have hs := hb.size
        have q0 : (w.alloc (.cells #[.int .u8 48, .int .u8 120] 5 (2, 3))).cell? ⟨w.heap.size, 0, none⟩ = some (.int .u8 48) := by simp only [World.cell?, hq]; rfl
        have q1 : (w.alloc (.cells #[.int .u8 48, .int .u8 120] 5 (2, 3))).cell? ⟨w.heap.size, 0 + 1, none⟩ = some (.int .u8 120) := by simp only [World.cell?, hq]; rfl
        generalize x.toNat / 2 ^ (28 - 4 * k) % 16 = D at *
        obtain ⟨wz, hwz⟩ : ∃ wz, w.alloc (.cells #[.int .u8 48, .int .u8 120] 5 (2, 3)) = wz := ⟨_, rfl⟩
        rw [hwz] at hb hs q0 q1 ⊢
        clear hwz hq
        replace ht := Lib.hid ht; replace hb := Lib.hid hb; replace hk0 := Lib.hid hk0
        go_wp2_with (at_builtin; refine wpList_append_arg _ rfl _ _ 101 rfl 5 i0 (.int .u8 0) 1 1 Tryz.underlying101 hi hz0 hz1 hz2 rfl (by decide) w.heap.size 0 2 2 [.int .u8 48, .int .u8 120] rfl rfl ?a0 ⟨wz.heap.size, 0, none⟩ 1 1 [.int .u8 ((dg16 D).toNat)] rfl rfl ?a1 ?a2 (fun h => absurd h (by omega)) ?a3 ?a4 (fun h => absurd h (by omega)) ?_)
        case a0 => intro j u hu; rcases j with _ | _ | j <;> simp at hu <;> subst hu <;> (first | (rw [World.cell?_alloc_old _ _ _ (Nat.ne_of_lt (World.block_lt_of_cell? _ _ q0))]; exact q0) | (rw [World.cell?_alloc_old _ _ _ (Nat.ne_of_lt (World.block_lt_of_cell? _ _ q1))]; exact q1))
        case a1 => exact cell_one_new _ _ _
        case a2 => simp [Value.oneCell']
        case a3 => simp only [maxLen]; omega
        case a4 => omega
        intro v1 w1 ho1 hO1
        have hfin : w1.ownsRow w.heap.size 5 1 v1 (2 + (k + 1)) (vb ([48, 120] ++ (hx8P x.toNat).take (k + 1))) := by
          rw [ht.out, hk0.out]
          have := Joins.ownsRow_le (base' := w.heap.size) ho1 (by omega)
          simpa [vb] using this
        have hb2 : Below w.heap.size w w1 := hb.out.trans ((Below.alloc (Below.refl _ _) hs _).grown hO1 (by simp; omega) (fun k hk => by cases hk))
        clear ho1 hO1
        replace hfin := Lib.hid hfin; replace hb2 := Lib.hid hb2
        go_wp2
        go_roundw
        case rel => exact ⟨k + 1, by omega, by go_num, .inr ⟨hfin.out, hb2.out⟩⟩
        case measure => simp [intOf]; omega
      · have hs := hb.size
        replace ht := Lib.hid ht
        generalize x.toNat / 2 ^ (28 - 4 * k) % 16 = D at *
        replace hb := Lib.hid hb; replace ho := Lib.hid ho
        go_wp2_with (at_builtin; refine wpList_append_onto' _ rfl _ _ 101 rfl w.heap.size 5 i0 (.int .u8 0) 1 1 Tryz.underlying101 hi hz0 hz1 hz2 rfl (by decide) _ _ _ rfl (ho.out.alloc _) ⟨wr.heap.size, 0, none⟩ 1 1 [.int .u8 ((dg16 D).toNat)] rfl rfl ?c1 ?c2 ?c3 ?c4 ?c5 ?_)
        case c1 => exact cell_one_new _ _ _
        case c2 => simp [Value.oneCell']
        case c3 => simp only [maxLen]; omega
        case c4 => omega
        case c5 => simp; omega
        intro v1 w1 ho1 hO1
        have hfin : w1.ownsRow w.heap.size 5 1 v1 (2 + (k + 1)) (vb ([48, 120] ++ (hx8P x.toNat).take (k + 1))) := by
          rw [ht.out, ← Nat.add_assoc]; simpa using ho1
        have hb2 : Below w.heap.size w w1 := hb.out.trans ((Below.alloc (Below.refl _ _) hs _).trans (hO1.below (by simp; omega) (fun g hg => (ho.out.lt g hg).1)))
        clear ho1 hO1
        replace hfin := Lib.hid hfin; replace hb2 := Lib.hid hb2
        go_wp2
        go_roundw
        case rel => exact ⟨k + 1, by omega, by go_num, .inr ⟨hfin.out, hb2.out⟩⟩
        case measure => simp [intOf]; omega
    · obtain rfl : k = 8 := by omega
      rcases hor with ⟨h, _⟩ | ⟨ho, hb⟩
      · cases h
      have hcv := conv_bytes (P := Tryz.prog) (Rd.of_own ho) 101 5 9 Tryz.underlying101 Tryz.underlying5 Tryz.underlying9
      rw [List.take_of_length_le (by rw [hx8P_len]; omega)] at hcv
      change _ = Result.ok (Value.string (hexTP x)) wr at hcv
      rw [hS.out] at hcv
      replace ho := Lib.hid ho; replace hb := Lib.hid hb
      go_wp2_with fail
      go_ret
      exact ⟨rfl, hb.out⟩
/-- one digit of the reference's table -/
theorem dig_piece (D : Nat) (hD : D < 16) : (ByteArray.extract ⟨#[48, 49, 50, 51, 52, 53, 54, 55, 56, 57, 97, 98, 99, 100, 101, 102]⟩ D (D + 1)) = ⟨#[dg16 D]⟩ := by
  have : D = 0 ∨ D = 1 ∨ D = 2 ∨ D = 3 ∨ D = 4 ∨ D = 5 ∨ D = 6 ∨ D = 7 ∨ D = 8 ∨ D = 9 ∨ D = 10 ∨ D = 11 ∨ D = 12 ∨ D = 13 ∨ D = 14 ∨ D = 15 := by omega
  rcases this with rfl | rfl | rfl | rfl | rfl | rfl | rfl | rfl | rfl | rfl | rfl | rfl | rfl | rfl | rfl | rfl <;> rfl
theorem strS_cons (c : UInt8) (L : List UInt8) : (⟨#[c]⟩ : ByteArray) ++ strS L = strS (c :: L) := by
  apply ByteArray.ext; simp [strS]
theorem strS_app (a b : List UInt8) : strS a ++ strS b = strS (a ++ b) := by
  apply ByteArray.ext; simp [strS]
theorem strS_size (a : List UInt8) : (strS a).size = a.length := by simp [strS, ByteArray.size]
set_option maxRecDepth 100000 in
set_option maxHeartbeats 1000000 in
theorem rten_any (u : Nat) (w : World) (hu : u < 4294967296) :
    Calls Tryz.prog 167 #[.int .i64 u] w fun e w' => e = .returned (.string (strS (Lib.decDigits u))) ∧ w' = w := by
  have h0 := tenInv_start u
  have hl0 := (decP_len u hu).2
  have e0 := dig_piece (u % 10) (by omega)
  have m0 : ((u : Int) % 10).toNat = u % 10 := by omega
  have m1 : ((u : Int) % 10 + 1).toNat = u % 10 + 1 := by omega
  replace h0 := Lib.hid h0
  go_enter Tryz.func167, Tryz.ntmps167
  go_wp2
  go_loop [3, 0] (fun s n => ∃ (m : Nat) (L : List UInt8), m < 4294967296 ∧ n = .int .i64 m ∧ s = .string (strS L) ∧ tenInv u m L) (fun _ n => (intOf n).toNat)
  case atStart => exact ⟨u / 10, [dg16 (u % 10)], by omega, by go_num, rfl, h0.out⟩
  case round =>
    obtain ⟨m, L, hm, rfl, rfl, hI⟩ := hrel
    have hL := tenInv_len hI
    have hsz : (strS L).size ≤ 10 := by rw [strS_size]; omega
    clear e0 m0 m1 h0
    by_cases hp : 0 < m
    · have h2 := tenInv_step hI (by omega)
      have hcat := strS_cons (dg16 (m % 10)) L
      have e1 := dig_piece (m % 10) (by omega)
      have n0 : ((m : Int) % 10).toNat = m % 10 := by omega
      have n1 : ((m : Int) % 10 + 1).toNat = m % 10 + 1 := by omega
      replace h2 := Lib.hid h2; replace hI := Lib.hid hI; replace hcat := Lib.hid hcat
      go_wp2
      go_round
      case rel => exact ⟨m / 10, dg16 (m % 10) :: L, by omega, by go_num, by rw [← hcat.out], h2.out⟩
      case measure => simp [intOf]; omega
    · obtain rfl : m = 0 := by omega
      have hE := Lib.hid (tenInv_end hI)
      clear hI
      go_wp2_with fail
      go_ret
      exact ⟨retS (congrArg strS hE.out), rfl⟩
set_option maxRecDepth 100000 in
theorem rtens_any (u : Nat) (w : World) (hu : u < 4294967296) :
    Calls Tryz.prog 146 #[.int .u32 u] w fun e w' => e = .returned (.string (strS (Lib.decDigits u))) ∧ w' = w := by
  have hc := fun W => rten_any u W hu
  generalize strS (Lib.decDigits u) = S at *
  go_enter Tryz.func146, Tryz.ntmps146
  go_wp2_with (go_at_call 167; refine (hc _).mono ?_; rintro e w' ⟨rfl, rfl⟩)
  go_ret
  exact ⟨rfl, rfl⟩
end YtiknookfnameiaaGreatDoor
end Go.Proofs

namespace Go.Proofs
open Go.RowKit
namespace YtiknookfnameiaaGreatDoor
open WP
set_option maxRecDepth 100000 in
theorem cond_any (n : Nat) (w : World) (hT : Tabs w) :
    Calls Tryz.prog 29 #[.int .i64 n] w fun e w' => e = .returned (.string (strS (condI n))) ∧ w' = w := by
  by_cases hn : n < 7
  · exact cond_of n w hn hT
  · have e : strS (condI n) = ⟨#[]⟩ := by
      unfold condI strS; rw [if_pos (by omega), List.getD_eq_getElem?_getD, List.getElem?_eq_none (by show 7 ≤ _; omega)]; rfl
    rw [e]
    clear hT e
    go_enter Tryz.func29, Tryz.ntmps29
    go_wp2
    go_ret; exact ⟨rfl, rfl⟩
end YtiknookfnameiaaGreatDoor
end Go.Proofs

namespace Go.Proofs.YtiknookfnameiaaGreatDoor
open Go.RowKit WP
set_option linter.unusedSimpArgs false
set_option linter.unusedVariables false
def i64B (x : Int) : Prop := -9223372036854775808 ≤ x ∧ x ≤ 9223372036854775807
structure PieceOk (p : Piece) : Prop where
  k : i64B p.kind
  a : i64B p.a
  c : i64B p.cond
  t : i64B p.tgt
  v : p.v < 4294967296
def pcC (p : Piece) : Array Value := #[.int .i64 p.kind, .int .i64 p.a, .int .i64 p.cond, .int .i64 p.tgt, .int .u32 (p.v : Int)]
def pcV (p : Piece) : Value := .agg (pcC p)
theorem strS_lit (a : List UInt8) : (⟨a.toArray⟩ : ByteArray) = strS a := rfl
theorem md_tmod (x : Int) (m : Nat) (hm : 0 < m) : (x.tmod m < 0 → x.tmod (m : Int) + m = (md x m : Int)) ∧ (¬ x.tmod m < 0 → x.tmod (m : Int) = (md x m : Int)) := by
  unfold md
  have h1 := Int.emod_nonneg x (show (m : Int) ≠ 0 by omega)
  have h2 := Int.emod_lt_of_pos x (show (0 : Int) < m by omega)
  have h3 := Int.tmod_eq_emod (a := x) (b := (m : Int))
  constructor
  · intro h
    rw [Int.toNat_of_nonneg h1]
    rw [h3] at h ⊢
    split at h
    · omega
    · rename_i hc; rw [if_neg hc]; simp
  · intro h
    rw [Int.toNat_of_nonneg h1]
    rw [h3] at h ⊢
    split at h
    · rename_i hc; rw [if_pos hc]; simp
    · simp at h; omega
set_option maxRecDepth 100000 in
theorem lwithin_any (x : Int) (h : Nat) (w : World) (hx : i64B x) (hh : h ≤ 4096) :
    Calls Tryz.prog 21 #[.int .i64 x, .int .i64 0, .int .i64 (h : Int)] w fun e w' => e = .returned (.int .i64 (md x (h + 1) : Int)) ∧ w' = w := by
  obtain ⟨hx1, hx2⟩ := hx
  obtain ⟨t1, t2⟩ := md_tmod x (h + 1) (by omega)
  have hlt := md_lt x (h + 1) (by omega)
  obtain ⟨m, hm⟩ : ∃ m, md x (h + 1) = m := ⟨_, rfl⟩
  rw [hm] at t1 t2 hlt ⊢
  have hc : ((h + 1 : Nat) : Int) = (h : Int) + 1 := by omega
  rw [hc] at t1 t2
  have hw0 : wrap64 ((h : Int) + 1) = (h : Int) + 1 := by unfold wrap64; omega
  have hz : ¬ ((h : Int) + 1 = 0) := by omega
  obtain ⟨r, hr⟩ : ∃ r, x.tmod ((h : Int) + 1) = r := ⟨_, rfl⟩
  rw [hr] at t1 t2
  clear hm hc
  by_cases hn : r < 0
  · have t := t1 hn
    have d1 : decide (r < 0) = true := decide_eq_true hn
    clear t1 t2
    go_enter Tryz.func21, Tryz.ntmps21
    go_wp2_with fail
    go_ret
    exact ⟨by rw [show r + (h : Int) + 1 = (m : Int) by omega]; rfl, rfl⟩
  · have t := t2 hn
    have d1 : decide (r < 0) = false := decide_eq_false hn
    clear t1 t2
    go_enter Tryz.func21, Tryz.ntmps21
    go_wp2_with fail
    go_ret
    exact ⟨rfl, rfl⟩
set_option maxRecDepth 100000 in
theorem lname_any (i : Nat) (w : World) (hi : i ≤ 4096) (hP : Pow10 w) :
    Calls Tryz.prog 17 #[.int .i64 (i : Int)] w fun e w' => e = .returned (.string (strS (nmP i))) ∧ Below w.heap.size w w' := by
  have ht := tens_any i (by omega) w hP
  have hw : IntKind.u32.wrap (i : Int) = (i : Int) := by rw [IntKind.wrap_u32]; omega
  have he : (⟨#[112]⟩ : ByteArray) ++ (⟨(Lib.decDigits i).toArray⟩ : ByteArray) = strS (nmP i) := by
    rw [strS_lit (Lib.decDigits i), show (⟨#[112]⟩ : ByteArray) = strS [112] from rfl, strS_app]; rfl
  obtain ⟨D, hD⟩ : ∃ D : ByteArray, (⟨(Lib.decDigits i).toArray⟩ : ByteArray) = D := ⟨_, rfl⟩
  obtain ⟨N, hN⟩ : ∃ N, strS (nmP i) = N := ⟨_, rfl⟩
  have hz : ByteArray.size ⟨(Lib.decDigits i).toArray⟩ ≤ 10 := by rw [ByteArray.size]; have := (decP_len i (by omega)).2; simpa using this
  rw [hD] at ht he hz
  have y1 : ¬ (9223372036854775807 < 1 + D.size) := by omega
  clear hz
  rw [hN] at he ⊢
  clear hD hN
  replace ht := Lib.hid ht
  go_enter Tryz.func17, Tryz.ntmps17
  go_wp2_with fail
  refine ht.out.mono ?_
  rintro e w1 ⟨rfl, b1⟩
  replace b1 := Lib.hid b1
  go_wp2_with fail
  go_ret
  exact ⟨by first | rfl | rw [he], b1.out⟩
end Go.Proofs.YtiknookfnameiaaGreatDoor
