/- AsmLands' plain law, first half: the program that the statement writes, piece by piece; each line as it is read. No program in sight. AsmLands' plain law, second half: the whole text is read into the pieces' words; its labels stand at their places. No program in sight. The contracts of the numerals: the library's Itoa, text's Minus and Hexed, the reference's ten, Tens, Hexed, Minus. -/
import Derived.Test.YtiknookfnameiaaGreatDoorVBkJn
import Derived.Test.YtiknookfnameiaaGreatDoorJn37
import Derived.Test.YtiknookfnameiaaGreatDoorJn02
import Derived.Test.YtiknookfnameiaaGreatDoorJn16
import Derived.Ground.NamesProg
import Derived.Lib.ItoaMem
import Derived.Lib.SlBytesConst
import Derived.ArgAppend
import Derived.Lib.SmallJoins
namespace Go.Proofs.YtiknookfnameiaaGreatDoor
open WP
structure Piece where
  (kind a cond tgt : Int)
  v : Nat
/-- a number brought to 0 .. m-1 -/
def md (x : Int) (m : Nat) : Nat := (x % (m : Int)).toNat
theorem md_lt (x : Int) (m : Nat) (h : 0 < m) : md x m < m := by
  unfold md
  have h1 := Int.emod_nonneg x (show (m : Int) ≠ 0 by omega)
  have h2 := Int.emod_lt_of_pos x (show (0 : Int) < m by omega)
  omega
def nmP (i : Nat) : List UInt8 := 112 :: Lib.decDigits i
def toP (n : Nat) (p : Piece) : Nat := md p.tgt (n + 1)
def odd (p : Piece) : Bool := decide (p.a % 2 ≠ 0)
/-- the words of a piece's statement -/
def stTx (n : Nat) (p : Piece) : List (List UInt8) :=
  match md p.kind 5 with
  | 0 => [[119, 111, 114, 100], [48, 120] ++ hx8P p.v]
  | 1 => [[108, 105], 114 :: Lib.decDigits (md p.a 15), Lib.decDigits p.v]
  | 2 => if odd p = true then [[98, 108], nmP (toP n p)] else [[98], condI (md p.cond 7 : Nat), nmP (toP n p)]
  | 3 => [[119, 111, 114, 100], nmP (toP n p)]
  | _ => [[122, 101, 114, 111], Lib.decDigits (p.v % 4)]
def szP (p : Piece) : Nat :=
  match md p.kind 5 with
  | 1 => 2
  | 0 => 1
  | 2 => 1
  | 3 => 1
  | _ => p.v % 4
def insP (p : Piece) : Ins := if odd p = true then { ins0 with op := 22 } else { ins0 with op := 21, k := (md p.cond 7 : Nat) }
/-- the words that are laid at first -/
def preP (p : Piece) : List Int :=
  match md p.kind 5 with
  | 0 => [(p.v : Int)]
  | 1 => layM (.li (md p.a 15 : Nat)) p.v
  | 2 => [encF (insP p)]
  | 3 => [0]
  | _ => List.replicate (p.v % 4) 0
/-- what waits for a label -/
def latP (n : Nat) (p : Piece) (at' : Nat) : List (Wht × Nat × ByteArray) :=
  match md p.kind 5 with
  | 2 => [(.jmp (insP p), at', ⟨(nmP (toP n p)).toArray⟩)]
  | 3 => [(.word, at', ⟨(nmP (toP n p)).toArray⟩)]
  | _ => []
end Go.Proofs.YtiknookfnameiaaGreatDoor

namespace Go.Proofs.YtiknookfnameiaaGreatDoor
open WP
/-- the place of a piece -/
def plc (ps : Nat → Piece) : Nat → Nat
  | 0 => 0
  | k + 1 => plc ps k + szP (ps k)
/-- a piece's line -/
def lnP (ps : Nat → Piece) (n i : Nat) : List UInt8 := joinW ((nmP i ++ [58]) :: stTx n (ps i)) ++ 32 :: 35 :: 32 :: nmP i
def endP (n : Nat) : List UInt8 := 9 :: (nmP n ++ [58])
def srcP (ps : Nat → Piece) (n k : Nat) : List UInt8 := (List.range k).flatMap fun i => lnP ps n i ++ [10]
def fullP (ps : Nat → Piece) (n : Nat) : List UInt8 := srcP ps n n ++ (endP n ++ [10])
def labsP (ps : Nat → Piece) (k : Nat) : List (ByteArray × Nat) := (List.range k).map fun j => (⟨(nmP j).toArray⟩, plc ps j)
structure InvP (ps : Nat → Piece) (n k : Nat) (st : Asm) : Prop where
  ws : st.ws = (List.range k).flatMap fun i => preP (ps i)
  labs : st.labs = labsP ps k
  lat : st.lat.map latK = (List.range k).flatMap fun i => latP n (ps i) (plc ps i)
/-- the words of a piece -/
def wordsP (base : Int) (ps : Nat → Piece) (n i : Nat) : List Int :=
  match md (ps i).kind 5 with
  | 0 => [((ps i).v : Int)]
  | 1 => layM (.li (md (ps i).a 15 : Nat)) (ps i).v
  | 2 => [encF { insP (ps i) with imm := (plc ps (toP n (ps i)) : Int) - plc ps i - 1 }]
  | 3 => [(base + 4 * (plc ps (toP n (ps i)) : Int)) % 4294967296]
  | _ => List.replicate ((ps i).v % 4) 0
def mixP (base : Int) (ps : Nat → Piece) (n k d : Nat) : List Int := (List.range k).flatMap (wordsP base ps n) ++ (List.range' k d).flatMap fun i => preP (ps i)
end Go.Proofs.YtiknookfnameiaaGreatDoor

namespace Go.Proofs
open Go.RowKit Go.Shelf Go.Sort
namespace YtiknookfnameiaaGreatDoor
open WP
theorem retS {a b : ByteArray} (h : a = b) : Ending.returned (.string a) = .returned (.string b) := by rw [h]
abbrev Pow10P (w : World) : Prop := Lib.TabIs Tryz.prog w "internal/strconv.uint64pow10" .u64 Lib.pow10Tab
theorem pow10P_blocks {w w' : World} (h : Pow10P w) (hk : ∀ k, k < w.heap.size → w'.heap[k]? = w.heap[k]?) : Pow10P w' := by
  unfold Pow10P Lib.TabIs World.var? at *
  cases hg : Tryz.prog.globalNamed "internal/strconv.uint64pow10" with
  | none => simp [hg] at h
  | some g =>
    simp only [hg, Option.bind_some] at h ⊢
    have hlt : g < w.heap.size := by
      rcases Nat.lt_or_ge g w.heap.size with h' | h'
      · exact h'
      · rw [Array.getElem?_eq_none h'] at h; simp at h
    rw [hk g hlt]
    exact h
theorem pow10P_later {w w' : World} (h : Pow10P w) (hb : Below w.heap.size w w') : Pow10P w' := pow10P_blocks h fun k hk => hb.block k hk
theorem growP_below (w : World) (k : Nat) (os : Array Obj) : Below w.heap.size w (grow (w.drewN k) os) := by
  have h0 : Below w.heap.size w (w.drewN k) := ⟨rfl, rfl, rfl, Nat.le_refl _, fun _ _ => rfl⟩
  exact ⟨h0.os, h0.tape, h0.output, by rw [size_grow]; have := h0.size; omega, fun j hj => by rw [heap_grow_old _ _ (by have := h0.size; omega)]; exact h0.block j hj⟩
theorem itoa_any (n : Int) (w : World) (h0 : -9223372036854775808 ≤ n) (h1 : n ≤ 9223372036854775807) (htab : Pow10P w) :
    Calls Tryz.prog 33 #[.int .i64 n] w fun e w' => e = .returned (.string (strS (Lib.itoa n))) ∧ Below w.heap.size w w' := by
  refine (Any.strconv_Itoa laysItoa n h0 h1 w htab).mono ?_
  rintro e w' ⟨rfl, k, os, rfl⟩
  exact ⟨rfl, growP_below _ _ _⟩
theorem fintP_any (n : Int) (w : World) (h0 : -9223372036854775808 ≤ n) (h1 : n ≤ 9223372036854775807) (htab : Pow10P w) :
    Calls Tryz.prog 78 #[.int .i64 n, .int .i64 10] w fun e w' => e = .returned (.string (strS (Lib.itoa n))) ∧ Below w.heap.size w w' := by
  refine (Any.strconv_FormatInt_10 laysFIntP n h0 h1 w htab).mono ?_
  rintro e w' ⟨rfl, k, os, rfl⟩
  exact ⟨rfl, growP_below _ _ _⟩
set_option maxRecDepth 100000 in
theorem minusP_any (n : Int) (w : World) (h0 : -2147483648 ≤ n) (h1 : n ≤ 2147483647) (htab : Pow10P w) :
    Calls Tryz.prog 56 #[.int .i32 n] w fun e w' => e = .returned (.string (strS (Lib.itoa n))) ∧ Below w.heap.size w w' := by
  obtain ⟨S, hS⟩ : ∃ S, strS (Lib.itoa n) = S := ⟨_, rfl⟩
  have hc := fun W hW => fintP_any n W (by omega) (by omega) hW
  rw [hS] at hc ⊢
  clear hS
  go_enter Tryz.func56, Tryz.ntmps56
  go_wp2_with (go_at_call 78; refine (hc _ htab).mono ?_; rintro e w' ⟨rfl, hb⟩)
  go_ret
  exact ⟨rfl, hb⟩
set_option maxRecDepth 100000 in
theorem dig_index (D : Nat) (hD : D < 16) (W : World) :
    (Instr.index 9 (.string ⟨#[48, 49, 50, 51, 52, 53, 54, 55, 56, 57, 97, 98, 99, 100, 101, 102]⟩) (.int .u32 (D : Int))).run Tryz.prog W = .ok (.int .u8 ((dg16 D).toNat)) W := by
  have : D = 0 ∨ D = 1 ∨ D = 2 ∨ D = 3 ∨ D = 4 ∨ D = 5 ∨ D = 6 ∨ D = 7 ∨ D = 8 ∨ D = 9 ∨ D = 10 ∨ D = 11 ∨ D = 12 ∨ D = 13 ∨ D = 14 ∨ D = 15 := by omega
  rcases this with rfl | rfl | rfl | rfl | rfl | rfl | rfl | rfl | rfl | rfl | rfl | rfl | rfl | rfl | rfl | rfl <;> rfl
theorem dig_calc (x : Int) (k : Nat) (h1 : 0 ≤ x) (h2 : x ≤ 4294967295) : bits .and .u32 (x / 2 ^ (28 - 4 * k)) 15 = ((x.toNat / 2 ^ (28 - 4 * k) % 16 : Nat) : Int) := by
  obtain ⟨x, rfl⟩ := Int.eq_ofNat_of_zero_le h1
  have e3 : ((2 : Int) ^ (28 - 4 * k)) = ((2 ^ (28 - 4 * k) : Nat) : Int) := by simp
  rw [e3, ← Int.natCast_ediv]
  have hlt : x / 2 ^ (28 - 4 * k) < 4294967296 := Nat.lt_of_le_of_lt (Nat.div_le_self _ _) (by omega)
  have := bits_mask .u32 32 (by decide) (fun m a b => by rw [IntKind.wrap_u32]; omega) 4 (by decide) (((x / 2 ^ (28 - 4 * k) : Nat) : Int)) (Int.natCast_nonneg _) (by omega)
  have e4 : (2 ^ 4 - 1 : Int) = 15 := by decide
  rw [e4] at this
  rw [this]
  simp
theorem infoB8 : (Tryz.prog.info? 5).map (fun i => (i.zero, i.size, i.bytes)) = some (some (.int .u8 0), 1, 1) := by kernel_rfl
def hexTP (w : Int) : ByteArray := strS ([48, 120] ++ hx8P w.toNat)
set_option maxRecDepth 100000 in
set_option maxHeartbeats 1000000 in
theorem hexedP_any (x : Int) (w : World) (h1 : 0 ≤ x) (h2 : x ≤ 4294967295) :
    Calls Tryz.prog 28 #[.int .u32 x] w fun e w' => e = .returned (.string (hexTP x)) ∧ Below w.heap.size w w' := by
  obtain ⟨i0, hi, hz0, hz1, hz2⟩ := info_parts infoB8
  obtain ⟨S, hS⟩ : ∃ S, hexTP x = S := ⟨_, rfl⟩
  rw [hS]
  replace hS := Lib.hid hS
  have kc := Lib.run_convert_bytes_const (P := Tryz.prog) w 101 5 #[.int .u8 48, .int .u8 120] 2 2 Tryz.underlying101 Tryz.underlying5
  go_enter Tryz.func28, Tryz.ntmps28
  go_wp2
  clear kc
  go_loopw [3, 7] (fun b i wr => ∃ k : Nat, k ≤ 8 ∧ i = .int .i64 k ∧ ((k = 0 ∧ b = .slice (some ⟨w.heap.size, 0, none⟩) 2 2 ∧ wr = w.alloc (.cells #[.int .u8 48, .int .u8 120] 5 (2, 3))) ∨ (wr.ownsRow w.heap.size 5 1 b (2 + k) (vb ([48, 120] ++ (hx8P x.toNat).take k)) ∧ Below w.heap.size w wr))) (fun _ i _ => 8 - (intOf i).toNat)
  case atStart => exact ⟨0, by omega, rfl, .inl ⟨rfl, rfl, rfl⟩⟩
  case round =>
    obtain ⟨wr, rfl⟩ : ∃ wo, wo = wr := ⟨wr, rfl⟩
    obtain ⟨k, hk, rfl, hor⟩ := hrel
    by_cases hlt : k < 8
    · have hd := dig_calc x k h1 h2
      have hix := dig_index (x.toNat / 2 ^ (28 - 4 * k) % 16) (Nat.mod_lt _ (by decide))
      have ht : vb ([48, 120] ++ (hx8P x.toNat).take (k + 1)) = vb ([48, 120] ++ (hx8P x.toNat).take k) ++ [.int .u8 (dg16 (x.toNat / 2 ^ (28 - 4 * k) % 16)).toNat] := by
        rw [hx8P_take x.toNat k hlt, ← List.append_assoc, vb_append]; rfl
      rcases hor with ⟨hk0, rfl, rfl⟩ | ⟨ho, hb⟩
      · have hq : (w.alloc (.cells #[.int .u8 48, .int .u8 120] 5 (2, 3))).heap[w.heap.size]? = some (.cells #[.int .u8 48, .int .u8 120] 5 (2, 3)) := heap_alloc_new _ _
        have hb : Below w.heap.size w (w.alloc (.cells #[.int .u8 48, .int .u8 120] 5 (2, 3))) := (Below.refl _ _).alloc (Nat.le_refl _) _
        have hs := hb.size
        have q0 : (w.alloc (.cells #[.int .u8 48, .int .u8 120] 5 (2, 3))).cell? ⟨w.heap.size, 0, none⟩ = some (.int .u8 48) := by simp only [World.cell?, hq]; rfl
        have q1 : (w.alloc (.cells #[.int .u8 48, .int .u8 120] 5 (2, 3))).cell? ⟨w.heap.size, 0 + 1, none⟩ = some (.int .u8 120) := by simp only [World.cell?, hq]; rfl
        generalize x.toNat / 2 ^ (28 - 4 * k) % 16 = D at *
        obtain ⟨wz, hwz⟩ : ∃ wz, w.alloc (.cells #[.int .u8 48, .int .u8 120] 5 (2, 3)) = wz := ⟨_, rfl⟩
        rw [hwz] at hb hs q0 q1 ⊢
        clear hwz hq
        replace ht := Lib.hid ht; replace hb := Lib.hid hb; replace hk0 := Lib.hid hk0
        go_wp2_with (at_builtin; refine wpList_append_arg _ rfl _ _ 101 rfl 5 i0 (.int .u8 0) 1 1 Tryz.underlying101 hi hz0 hz1 hz2 rfl (by decide) w.heap.size 0 2 2 [.int .u8 48, .int .u8 120] rfl rfl ?a0 ⟨wz.heap.size, 0, none⟩ 1 1 [.int .u8 ((dg16 D).toNat)] rfl rfl ?a1 ?a2 (fun h => absurd h (by omega)) ?a3 ?a4 (fun h => absurd h (by omega)) ?_)
        case a0 => intro j u hu; rcases j with _ | _ | j <;> simp at hu <;> subst hu <;> (first | (rw [World.cell?_alloc_old _ _ _ (Nat.ne_of_lt (World.block_lt_of_cell? _ _ q0))]; exact q0) | (rw [World.cell?_alloc_old _ _ _ (Nat.ne_of_lt (World.block_lt_of_cell? _ _ q1))]; exact q1))
        case a1 => exact cell_one_new _ _ _
        case a2 => simp [Value.oneCell']
        case a3 => simp only [maxLen]; omega
        case a4 => omega
        intro v1 w1 ho1 hO1
        have hfin : w1.ownsRow w.heap.size 5 1 v1 (2 + (k + 1)) (vb ([48, 120] ++ (hx8P x.toNat).take (k + 1))) := by
          rw [ht.out, hk0.out]
          have := Joins.ownsRow_le (base' := w.heap.size) ho1 (by omega)
          simpa [vb] using this
        have hb2 : Below w.heap.size w w1 := hb.out.trans ((Below.alloc (Below.refl _ _) hs _).grown hO1 (by simp; omega) (fun k hk => by cases hk))
        clear ho1 hO1
        replace hfin := Lib.hid hfin; replace hb2 := Lib.hid hb2
        go_wp2
        go_roundw
        case rel => exact ⟨k + 1, by omega, by go_num, .inr ⟨hfin.out, hb2.out⟩⟩
        case measure => simp [intOf]; omega
      · have hs := hb.size
        replace ht := Lib.hid ht
        generalize x.toNat / 2 ^ (28 - 4 * k) % 16 = D at *
        replace hb := Lib.hid hb; replace ho := Lib.hid ho
        go_wp2_with (at_builtin; refine wpList_append_onto' _ rfl _ _ 101 rfl w.heap.size 5 i0 (.int .u8 0) 1 1 Tryz.underlying101 hi hz0 hz1 hz2 rfl (by decide) _ _ _ rfl (ho.out.alloc _) ⟨wr.heap.size, 0, none⟩ 1 1 [.int .u8 ((dg16 D).toNat)] rfl rfl ?c1 ?c2 ?c3 ?c4 ?c5 ?_)
        case c1 => exact cell_one_new _ _ _
        case c2 => simp [Value.oneCell']
        case c3 => simp only [maxLen]; omega
        case c4 => omega
        case c5 => simp; omega
        intro v1 w1 ho1 hO1
        have hfin : w1.ownsRow w.heap.size 5 1 v1 (2 + (k + 1)) (vb ([48, 120] ++ (hx8P x.toNat).take (k + 1))) := by
          rw [ht.out, ← Nat.add_assoc]; simpa using ho1
        have hb2 : Below w.heap.size w w1 := hb.out.trans ((Below.alloc (Below.refl _ _) hs _).trans (hO1.below (by simp; omega) (fun g hg => (ho.out.lt g hg).1)))
        clear ho1 hO1
        replace hfin := Lib.hid hfin; replace hb2 := Lib.hid hb2
        go_wp2
        go_roundw
        case rel => exact ⟨k + 1, by omega, by go_num, .inr ⟨hfin.out, hb2.out⟩⟩
        case measure => simp [intOf]; omega
    · obtain rfl : k = 8 := by omega
      rcases hor with ⟨h, _⟩ | ⟨ho, hb⟩
      · cases h
      have hcv := conv_bytes (P := Tryz.prog) (Rd.of_own ho) 101 5 9 Tryz.underlying101 Tryz.underlying5 Tryz.underlying9
      rw [List.take_of_length_le (by rw [hx8P_len]; omega)] at hcv
      change _ = Result.ok (Value.string (hexTP x)) wr at hcv
      rw [hS.out] at hcv
      replace ho := Lib.hid ho; replace hb := Lib.hid hb
      go_wp2_with fail
      go_ret
      exact ⟨rfl, hb.out⟩
theorem strS_cons (c : UInt8) (L : List UInt8) : (⟨#[c]⟩ : ByteArray) ++ strS L = strS (c :: L) := by
  apply ByteArray.ext; simp [strS]
theorem strS_size (a : List UInt8) : (strS a).size = a.length := by simp [strS, ByteArray.size]
end YtiknookfnameiaaGreatDoor
end Go.Proofs
