/- Plain laws on words of 32 bits: fields, moves, turns, by their bits. No program in sight. The contracts of RotateLeft32 and of sha's right. The contracts of word.Bytes and word.Words. -/
import Derived.Test.YtemanjahkohcpaaGreatDoorProg
import Derived.Test.YtemanjahkohcpaaGreatDoorBase
import Derived.WalkKit
import Derived.WalkSpells
import Derived.WalkLawsBesides
import Derived.Lib.Hide
namespace Go.Proofs.YtemanjahkohcpaaGreatDoor.WP
/-! plain laws on words: fields, moves, turns -/
def maskN (lo n : Nat) : Nat := (2 ^ n - 1) * 2 ^ lo
def fieldN (w lo n : Nat) : Nat := w / 2 ^ lo % 2 ^ n
def setN (w lo n v : Nat) : Nat := (w &&& (4294967295 - maskN lo n)) ||| ((v * 2 ^ lo % 4294967296) &&& maskN lo n)
def rotN (w s : Nat) : Nat := (w * 2 ^ s % 4294967296) ||| (w / 2 ^ (32 - s))

theorem testBit_maskN (lo n i : Nat) : (maskN lo n).testBit i = (decide (lo ≤ i) && decide (i < lo + n)) := by
  unfold maskN
  rw [Nat.testBit_mul_two_pow, Nat.testBit_two_pow_sub_one]
  by_cases h : lo ≤ i <;> simp [h]
  omega
theorem lt32_of_testBit {x : Nat} (h : ∀ i, 32 ≤ i → x.testBit i = false) : x < 4294967296 :=
  Nat.lt_pow_two_of_testBit (n := 32) x h
theorem testBit_hi {x : Nat} (h : x < 4294967296) {i : Nat} (hi : 32 ≤ i) : x.testBit i = false :=
  Nat.testBit_lt_two_pow (Nat.lt_of_lt_of_le h (Nat.pow_le_pow_right (by decide) hi : 2 ^ 32 ≤ 2 ^ i))
theorem maskN_lt (lo n : Nat) (h : lo + n ≤ 32) : maskN lo n < 4294967296 :=
  lt32_of_testBit fun i hi => by rw [testBit_maskN]; simp; omega
theorem testBit_not (m i : Nat) (h : m < 4294967296) : (4294967295 - m).testBit i = (decide (i < 32) && !m.testBit i) := by
  have := Nat.testBit_two_pow_sub_succ (n := 32) h i
  rw [← this]; congr 1; omega
theorem testBit_fieldN (w lo n i : Nat) : (fieldN w lo n).testBit i = (decide (i < n) && w.testBit (i + lo)) := by
  unfold fieldN; rw [Nat.testBit_mod_two_pow, Nat.testBit_div_two_pow]
theorem testBit_setN (w lo n v i : Nat) (hw : w < 4294967296) (h : lo + n ≤ 32) :
    (setN w lo n v).testBit i = if lo ≤ i ∧ i < lo + n then v.testBit (i - lo) else w.testBit i := by
  have e : (4294967296 : Nat) = 2 ^ 32 := by decide
  unfold setN
  rw [e, Nat.testBit_or, Nat.testBit_and, Nat.testBit_and, testBit_not _ _ (maskN_lt lo n h), testBit_maskN, Nat.testBit_mod_two_pow, Nat.testBit_mul_two_pow]
  by_cases h1 : lo ≤ i <;> by_cases h2 : i < lo + n <;> by_cases h3 : i < 32 <;> simp [h1, h2, h3]
  all_goals first | omega | exact testBit_hi hw (by omega)
theorem testBit_rotN (w s i : Nat) (hw : w < 4294967296) (hs : s ≤ 32) :
    (rotN w s).testBit i = if s ≤ i then (decide (i < 32) && w.testBit (i - s)) else w.testBit (i + (32 - s)) := by
  have e : (4294967296 : Nat) = 2 ^ 32 := by decide
  unfold rotN
  rw [e, Nat.testBit_or, Nat.testBit_mod_two_pow, Nat.testBit_mul_two_pow, Nat.testBit_div_two_pow]
  by_cases h1 : s ≤ i <;> by_cases h3 : i < 32 <;> simp [h1, h3]
  · intro h; rw [testBit_hi hw (by omega)] at h; cases h
  · exact testBit_hi hw (by omega)
theorem field_prog (w lo n : Nat) : (w &&& maskN lo n) / 2 ^ lo = fieldN w lo n := by
  apply Nat.eq_of_testBit_eq; intro i
  rw [Nat.testBit_div_two_pow, Nat.testBit_and, testBit_maskN, testBit_fieldN]
  by_cases h : i < n <;> simp [h]
  · intro _; omega
  · intro _; omega
theorem fieldN_lt (w lo n : Nat) (h : n ≤ 32) : fieldN w lo n < 4294967296 :=
  lt32_of_testBit fun i hi => by rw [testBit_fieldN]; simp; omega
theorem setN_lt (w lo n v : Nat) (hw : w < 4294967296) (h : lo + n ≤ 32) : setN w lo n v < 4294967296 :=
  lt32_of_testBit fun i hi => by rw [testBit_setN _ _ _ _ _ hw h, if_neg (by omega), testBit_hi hw hi]
theorem rotN_lt (w s : Nat) (hw : w < 4294967296) (h : s ≤ 32) : rotN w s < 4294967296 :=
  lt32_of_testBit fun i hi => by rw [testBit_rotN _ _ _ hw h, if_pos (by omega)]; simp; omega

/-- (1) a field is the word moved up, then down -/
theorem field_moves (w lo n : Nat) (h : lo + n ≤ 32) :
    (w * 2 ^ (32 - lo - n) % 4294967296) / 2 ^ (32 - lo - n + lo) = fieldN w lo n := by
  have e : (4294967296 : Nat) = 2 ^ 32 := by decide
  apply Nat.eq_of_testBit_eq; intro i
  rw [e, Nat.testBit_div_two_pow, Nat.testBit_mod_two_pow, Nat.testBit_mul_two_pow, testBit_fieldN]
  by_cases h1 : i < n <;> simp [h1]
  · have h2 : i + (32 - lo - n + lo) < 32 := by omega
    have h3 : 32 ≤ i + (32 - lo - n + lo) + n + lo := by omega
    have h4 : i + (32 - lo - n + lo) - (32 - lo - n) = i + lo := by omega
    simp only [h2, h3, h4, decide_true, Bool.true_and]
  · intro _; omega
theorem set_back (w lo n v : Nat) (hw : w < 4294967296) (h : lo + n ≤ 32) : setN (setN w lo n v) lo n (fieldN w lo n) = w := by
  apply Nat.eq_of_testBit_eq; intro i
  rw [testBit_setN _ _ _ _ _ (setN_lt w lo n v hw h) h, testBit_setN _ _ _ _ _ hw h, testBit_fieldN]
  by_cases h1 : lo ≤ i ∧ i < lo + n
  · simp [h1]
    have h2 : i - lo < n := by omega
    simp [h2]
  · simp [h1]
theorem field_set (w lo n v : Nat) (hw : w < 4294967296) (h : lo + n ≤ 32) : fieldN (setN w lo n v) lo n = fieldN v 0 n := by
  apply Nat.eq_of_testBit_eq; intro i
  rw [testBit_fieldN, testBit_setN _ _ _ _ _ hw h, testBit_fieldN]
  by_cases h1 : i < n <;> simp [h1]
  intro _; omega
theorem field_set_lo (w lo n v : Nat) (hw : w < 4294967296) (h : lo + n ≤ 32) : fieldN (setN w lo n v) 0 lo = fieldN w 0 lo := by
  apply Nat.eq_of_testBit_eq; intro i
  rw [testBit_fieldN, testBit_setN _ _ _ _ _ hw h, testBit_fieldN]
  by_cases h1 : i < lo <;> simp [h1]
  intro _; omega
theorem field_set_hi (w lo n v u : Nat) (hw : w < 4294967296) (h : lo + n ≤ 32) : fieldN (setN w lo n v) (lo + n) u = fieldN w (lo + n) u := by
  apply Nat.eq_of_testBit_eq; intro i
  rw [testBit_fieldN, testBit_setN _ _ _ _ _ hw h, testBit_fieldN]
  by_cases h1 : i < u <;> simp [h1]
  intro _; omega
theorem rot_rot (w s t : Nat) (hw : w < 4294967296) (hs : s ≤ 32) (ht : t ≤ 32) (h : s + t = 32 ∨ s + t = 0 ∨ s + t = 64) : rotN (rotN w s) t = w := by
  apply Nat.eq_of_testBit_eq; intro i
  rw [testBit_rotN _ _ _ (rotN_lt w s hw hs) ht, testBit_rotN _ _ _ hw hs, testBit_rotN _ _ _ hw hs]
  by_cases hi : i < 32
  · rcases h with h | h | h
    · by_cases h1 : t ≤ i
      · rw [if_pos h1, if_neg (by omega), decide_eq_true hi, Bool.true_and]; congr 1; omega
      · rw [if_neg h1, if_pos (by omega), decide_eq_true (show i + (32 - t) < 32 by omega), Bool.true_and]; congr 1; omega
    · rw [if_pos (by omega), if_pos (by omega), decide_eq_true hi, decide_eq_true (show i - t < 32 by omega), Bool.true_and, Bool.true_and]; congr 1; omega
    · rw [if_neg (by omega), if_neg (by omega)]; congr 1; omega
  · rw [testBit_hi (x := w) hw (i := i) (by omega), if_pos (by omega), decide_eq_false hi, Bool.false_and]
theorem rot_low (w s : Nat) (hw : w < 4294967296) (hs : s ≤ 32) (h0 : 0 < s) : fieldN (rotN w s) 0 1 = fieldN w (32 - s) 1 := by
  apply Nat.eq_of_testBit_eq; intro i
  rw [testBit_fieldN, testBit_rotN _ _ _ hw hs, testBit_fieldN]
  by_cases h1 : i < 1 <;> simp [h1]
  intro _; omega
theorem rotN_zero (w : Nat) (hw : w < 4294967296) : rotN w 0 = w := by
  apply Nat.eq_of_testBit_eq; intro i
  rw [testBit_rotN _ _ _ hw (by omega), if_pos (by omega)]
  by_cases h : i < 32 <;> simp [h]
  exact testBit_hi hw (by omega)
end Go.Proofs.YtemanjahkohcpaaGreatDoor.WP

namespace Go.Proofs.YtemanjahkohcpaaGreatDoor
open Go.RowKit WP
def rotI (w s : Int) : Int := ((rotN w.toNat s.toNat : Nat) : Int)
theorem rotl_and (n s : Int) (_h3 : -31 ≤ n) (_h4 : n ≤ 31) (hs : s = n % 32) : bits .and .u64 (IntKind.u64.wrap n) 31 = s := by
  rw [IntKind.wrap_u64]
  have := bits_mask .u64 64 (by decide) (fun m a b => by rw [IntKind.wrap_u64]; omega) 5 (by decide) (n % 18446744073709551616) (by omega) (by omega)
  have e : (2 ^ 5 - 1 : Int) = 31 := by decide
  rw [e] at this
  rw [this]
  have e : (2 ^ 5 : Int) = 32 := by decide
  rw [e]; omega
theorem rotl_calc (x s : Int) (h1 : 0 ≤ x) (h2 : x ≤ 4294967295) (h3 : 0 ≤ s) (h4 : s ≤ 31) :
    bits .or .u32 (x * 2 ^ s.toNat % 4294967296) (x / 2 ^ (32 - s).toNat) = rotI x s := by
  obtain ⟨x, rfl⟩ := Int.eq_ofNat_of_zero_le h1
  obtain ⟨s, rfl⟩ := Int.eq_ofNat_of_zero_le h3
  have e2 : ((2 : Int) ^ s) = ((2 ^ s : Nat) : Int) := by simp
  have e3 : ((2 : Int) ^ (32 - s)) = ((2 ^ (32 - s) : Nat) : Int) := by simp
  have e4 : ((32 : Int) - (s : Int)).toNat = 32 - s := by omega
  simp only [e4, Int.toNat_natCast, e2, e3, rotI, rotN]
  have e5 : ((x : Int) / ((2 ^ (32 - s) : Nat) : Int)) = ((x / 2 ^ (32 - s) : Nat) : Int) := (Int.natCast_ediv x _).symm
  have e6 : ((x : Int) * ((2 ^ s : Nat) : Int) % 4294967296) = ((x * 2 ^ s % 4294967296 : Nat) : Int) := by rw [← Int.natCast_mul]; omega
  rw [e5, e6, u32_or_nat _ _ (by omega) (Nat.lt_of_le_of_lt (Nat.div_le_self _ _) (by omega))]
theorem rotl_any (x n : Int) (w : World) (h1 : 0 ≤ x) (h2 : x ≤ 4294967295) (h3 : -31 ≤ n) (h4 : n ≤ 31):
    Calls Tryz.prog 122 #[.int .u32 x, .int .i64 n] w fun e w' => e = .returned (.int .u32 (rotI x (n % 32))) ∧ w = w' := by
  obtain ⟨s, hs⟩ : ∃ s, s = n % 32 := ⟨_, rfl⟩
  have ha := rotl_and n s h3 h4 hs
  have s1 : 0 ≤ s := by omega
  have s2 : s ≤ 31 := by omega
  have hc := rotl_calc x s h1 h2 s1 s2
  rw [← hs]; clear hs
  go_enter Tryz.func122, Tryz.ntmps122
  go_wp2
  go_ret
  exact ⟨rfl, rfl⟩
theorem rotI_bd (x s : Int) (h1 : 0 ≤ x) (h2 : x ≤ 4294967295) (h3 : 0 ≤ s) (h4 : s ≤ 31) : 0 ≤ rotI x s ∧ rotI x s ≤ 4294967295 := by
  have := rotN_lt x.toNat s.toNat (by omega) (by omega)
  unfold rotI; omega
/-- turned to the right -/
def sr (x n : Int) : Int := rotI x (-n % 32)
theorem sr_bd (x n : Int) (h1 : 0 ≤ x) (h2 : x ≤ 4294967295) : 0 ≤ sr x n ∧ sr x n ≤ 4294967295 := rotI_bd _ _ h1 h2 (by omega) (by omega)
theorem sright_any (x n : Int) (w : World) (h1 : 0 ≤ x) (h2 : x ≤ 4294967295) (h3 : 0 ≤ n) (h4 : n ≤ 31) :
    Calls Tryz.prog 118 #[.int .u32 x, .int .i64 n] w fun e w' => e = .returned (.int .u32 (sr x n)) ∧ w' = w := by
  go_enter Tryz.func118, Tryz.ntmps118
  go_wp2_with (go_at_call 122; refine (rotl_any _ _ _ h1 h2 (by omega) (by omega)).mono ?_; rintro e w' ⟨rfl, rfl⟩)
  go_ret
  exact ⟨rfl, rfl⟩
end Go.Proofs.YtemanjahkohcpaaGreatDoor

namespace Go.Proofs.YtemanjahkohcpaaGreatDoor
open Go.RowKit WP
theorem info5 : (Tryz.prog.info? 5).map (fun i => (i.zero, i.size, i.bytes)) = some (some (.int .u8 0), 1, 1) := by kernel_rfl
theorem info22 : (Tryz.prog.info? 25).map (fun i => (i.zero, i.size, i.bytes)) = some (some (.int .u32 0), 1, 4) := by kernel_rfl
def wordB (x : UInt32) : List UInt8 := [UInt8.ofNat (x.toNat / 16777216), UInt8.ofNat (x.toNat / 65536), UInt8.ofNat (x.toNat / 256), UInt8.ofNat x.toNat]
def bytesL (l : List UInt32) : List UInt8 := l.flatMap wordB
theorem length_bytesL (l : List UInt32) : (bytesL l).length = 4 * l.length := by
  induction l with
  | nil => rfl
  | cons a l ih => simp only [bytesL, List.flatMap_cons, List.length_append, List.length_cons] at ih ⊢; rw [ih]; simp [wordB]; omega
theorem bytesL_take (l : List UInt32) (k : Nat) (h : k < l.length) : bytesL (l.take (k + 1)) = bytesL (l.take k) ++ wordB l[k] := by
  unfold bytesL; rw [List.take_succ_eq_append_getElem h, List.flatMap_append]; simp
theorem wordB_val (l : List UInt32) (k : Nat) (h : k < l.length) :
    [Value.int .u8 (wAt l k / 16777216), .int .u8 (wAt l k / 65536 % 256), .int .u8 (wAt l k / 256 % 256), .int .u8 (wAt l k % 256)] = vb (wordB l[k]) := by
  have hlt := (l[k]).toNat_lt
  simp only [wordB, vb, List.map_cons, List.map_nil, wAt, List.getD_eq_getElem?_getD, List.getElem?_eq_getElem h, Option.getD_some, UInt8.toNat_ofNat']
  simp
  omega
set_option maxRecDepth 100000 in
set_option maxHeartbeats 1600000 in
theorem bytes_any (va : Value) (l : List UInt32) (w : World) (ha : Rd w va (vw l)) (hl : l.length ≤ 4294967296) :
    Calls Tryz.prog 113 #[va] w fun e w' => ∃ v', e = .returned v' ∧ w'.ownsRow w.heap.size 5 1 v' (4 * l.length) (vb (bytesL l)) ∧ Below w.heap.size w w' := by
  obtain ⟨ao, ca, rfl, a1, a2, a3⟩ := ha.words
  obtain ⟨i0, hi, hz0, hz1, hz2⟩ := info_parts info5
  have a3 := Lib.hid a3
  go_enter Tryz.func113, Tryz.ntmps113
  go_wp2_with (at_make; refine wpList_make_own _ rfl _ _ 72 rfl w.heap.size 5 i0 (.int .u8 0) 1 Tryz.underlying72 hi hz0 hz1 .i64 .i64 _ (4 * l.length) rfl rfl ?m0 ?m1 ?m2 ?m3 ?_)
  case m0 => simp
  case m1 => rw [hz2]; omega
  case m2 => simp only [maxLen]; omega
  case m3 => omega
  intro w1 ho hg
  have hb := (Below.refl w.heap.size w).grown hg (Nat.le_refl _) (by simp)
  clear hg
  have ho := Lib.hid ho; have hb := Lib.hid hb
  go_wp2
  go_loopw [3, 4, 5, 12] (fun b _ _ i wr => ∃ k : Nat, k ≤ l.length ∧ i = .int .i64 k ∧ wr.ownsRow w.heap.size 5 1 b (4 * k) (vb (bytesL (l.take k))) ∧ Below w.heap.size w wr) (fun _ _ _ i _ => l.length - (intOf i).toNat)
  case atStart => exact ⟨0, by omega, rfl, ho.out, hb.out⟩
  case round =>
    obtain ⟨k, hk, rfl, ho, hb⟩ := hrel
    have hs := hb.size
    by_cases hlt : k < l.length
    · obtain ⟨ba, oa, rfl, hba, hca⟩ := a3.out.resolve_left (by intro h; rw [h] at hlt; simp at hlt)
      have hca := (hb.cell (p := ⟨ba, oa + k, none⟩) hba).trans (hca k hlt)
      have xb := wAt_bd l k
      have hv := Lib.hid (wordB_val l k hlt)
      obtain ⟨x1, x2⟩ := xb
      have ho := Lib.hid ho; have hb := Lib.hid hb
      go_wp2_with (at_builtin; refine wpList_append_onto' _ rfl _ _ 72 rfl w.heap.size 5 i0 (.int .u8 0) 1 1 Tryz.underlying72 hi hz0 hz1 hz2 rfl (by decide) _ _ _ rfl (ho.out.alloc _) ⟨wr.heap.size, 0, none⟩ 4 4 [.int .u8 (wAt l k / 16777216), .int .u8 (wAt l k / 65536 % 256), .int .u8 (wAt l k / 256 % 256), .int .u8 (wAt l k % 256)] rfl rfl ?c1 ?c2 ?c3 ?c4 ?c5 ?_)
      case c1 => exact cells_new _ _ _ _
      case c2 => simp [Value.oneCell']
      case c3 => simp only [maxLen]; omega
      case c4 => omega
      case c5 => simp; omega
      intro v1 w2 ho1 hO1
      have hfin : w2.ownsRow w.heap.size 5 1 v1 (4 * (k + 1)) (vb (bytesL (l.take (k + 1)))) := by
        rw [bytesL_take l k hlt, vb_append, ← hv.out]; exact ho1
      have hb2 := hb.out.trans ((Onto.alloc _ hO1 (fun g hg => (ho.out.lt g hg).2)).below (B := w.heap.size) hs (fun g hg => (ho.out.lt g hg).1))
      clear ho1 hO1 hca
      have hfin := Lib.hid hfin
      have hb2 := Lib.hid hb2
      go_wp2
      go_roundw
      case rel => exact ⟨k + 1, by omega, by go_num, hfin.out, hb2.out⟩
      case measure => simp [intOf]; omega
    · obtain rfl : k = l.length := by omega
      rw [List.take_of_length_le (Nat.le_refl _)] at ho
      go_wp2_with fail
      go_ret
      exact ⟨_, rfl, ho, hb⟩
/-! ### Words -/
def word4 (l : List UInt8) (i : Nat) : Int := bAt l (4 * i) * 16777216 + bAt l (4 * i + 1) * 65536 + bAt l (4 * i + 2) * 256 + bAt l (4 * i + 3)
theorem word4_bd (l : List UInt8) (i : Nat) : 0 ≤ word4 l i ∧ word4 l i ≤ 4294967295 := by
  have := bAt_bd l (4 * i); have := bAt_bd l (4 * i + 1); have := bAt_bd l (4 * i + 2); have := bAt_bd l (4 * i + 3)
  unfold word4; omega
theorem or4 (a b c d : Int) (a1 : 0 ≤ a) (a2 : a ≤ 255) (b1 : 0 ≤ b) (b2 : b ≤ 255) (c1 : 0 ≤ c) (c2 : c ≤ 255) (d1 : 0 ≤ d) (d2 : d ≤ 255) :
    bits .or .u32 (bits .or .u32 (bits .or .u32 (a * 16777216) (b * 65536)) (c * 256)) d = a * 16777216 + b * 65536 + c * 256 + d := by
  rw [u32_or (a * 16777216) _ (by omega) (by omega) (by omega) (by omega), nat_join 24 _ _ (by omega) (by omega)]
  rw [u32_or _ (c * 256) (by omega) (by omega) (by omega) (by omega), nat_join 16 _ _ (by omega) (by omega)]
  rw [u32_or _ d (by omega) (by omega) (by omega) (by omega), nat_join 8 _ _ (by omega) (by omega)]
  omega
def wordsL (l : List UInt8) : List UInt32 := (List.range (l.length / 4)).map fun i => ofI (word4 l i)
/-- the first k of n, then zeros -/
def filled (f : Nat → Int) (n k : Nat) : List Value := ((List.range n).map fun i => if i < k then .int .u32 (f i) else .int .u32 0)
theorem filled_zero (f : Nat → Int) (n : Nat) : filled f n 0 = List.replicate n (.int .u32 0) := by
  apply List.ext_getElem <;> simp [filled]
theorem filled_step (f : Nat → Int) (n k : Nat) (_h : k < n) : (filled f n k).set k (.int .u32 (f k)) = filled f n (k + 1) := by
  apply List.ext_getElem
  · simp [filled]
  · intro i h1 h2
    simp only [filled, List.length_set, List.length_map, List.length_range] at h1
    rw [List.getElem_set]
    simp only [filled, List.getElem_map, List.getElem_range]
    by_cases hik : k = i
    · subst hik; simp
    · rw [if_neg hik]
      by_cases h3 : i < k
      · rw [if_pos h3, if_pos (by omega)]
      · rw [if_neg h3, if_neg (by omega)]
theorem filled_full (f : Nat → Int) (n : Nat) (hf : ∀ i, 0 ≤ f i ∧ f i ≤ 4294967295) : filled f n n = vw ((List.range n).map fun i => ofI (f i)) := by
  apply List.ext_getElem
  · simp [filled, vw]
  · intro i h1 h2
    simp only [filled, List.length_map, List.length_range] at h1
    simp [filled, vw, h1, ofI_val _ (hf i).1 (hf i).2]
theorem filled_get (f : Nat → Int) (n k : Nat) (h : k < n) : ∃ u, (filled f n k)[k]? = some u := ⟨_, List.getElem?_eq_getElem (by simpa [filled] using h)⟩
set_option maxRecDepth 100000 in
set_option maxHeartbeats 1600000 in
theorem words_yes (vb_ : Value) (l : List UInt8) (w : World) (ha : Rd w vb_ (vb l)) (hl : l.length ≤ 1048576) (h4 : l.length % 4 = 0) :
    Calls Tryz.prog 115 #[vb_] w fun e w' => ∃ v', e = .returned (.tuple #[v', .int .i64 0]) ∧ w'.ownsRow w.heap.size 25 1 v' (l.length / 4) (vw (wordsL l)) ∧ Below w.heap.size w w' := by
  obtain ⟨ao, ca, rfl, a1, a2, a3⟩ := ha.bytes
  obtain ⟨i0, hi, hz0, hz1, hz2⟩ := info_parts info22
  obtain ⟨n, hn⟩ : ∃ n, l.length = 4 * n := ⟨l.length / 4, by omega⟩
  have hdiv : l.length / 4 = n := by omega
  unfold wordsL
  rw [hdiv, hn]
  have a3 := Lib.hid a3; have hn' := Lib.hid hn
  have a1' : 4 * n ≤ ca := by omega
  have hn1 : n ≤ 262144 := by omega
  have e1 : ((4 * (n : Int)) % 4 != 0) = false := by simp
  have e2 : (4 * (n : Int)) / 4 = n := by omega
  clear hn hdiv a1 h4 hl
  go_enter Tryz.func115, Tryz.ntmps115
  go_wp2_with (at_make; refine wpList_make_full _ rfl _ _ 111 rfl w.heap.size 25 i0 (.int .u32 0) 1 Tryz.underlying111 hi hz0 hz1 .i64 .i64 _ _ n rfl rfl ?m0 ?m4 ?m1 ?m2 ?m3 ?_)
  case m0 => rfl
  case m4 => rfl
  case m1 => rw [hz2]; omega
  case m2 => simp only [maxLen]; omega
  case m3 => exact Nat.le_refl _
  intro w1 ho hg
  have hb := (Below.refl w.heap.size w).grown hg (Nat.le_refl _) (by simp)
  have ho : w1.ownsRow w.heap.size 25 1 (.slice (some ⟨w.heap.size, 0, none⟩) n n) n (filled (word4 l) n 0) := by
    rw [filled_zero, ← toList_madeCells_one]; exact ho
  clear hg
  have ho := Lib.hid ho; have hb := Lib.hid hb
  go_wp2
  go_loopw [5, 6, 20] (fun _ _ i wr => ∃ k : Nat, k ≤ n ∧ i = .int .i64 k ∧ wr.ownsRow w.heap.size 25 1 (.slice (some ⟨w.heap.size, 0, none⟩) n n) n (filled (word4 l) n k) ∧ Below w.heap.size w wr) (fun _ _ i _ => n - (intOf i).toNat)
  case atStart => exact ⟨0, by omega, rfl, ho.out, hb.out⟩
  case round =>
    obtain ⟨k, hk, rfl, ho, hb⟩ := hrel
    have hs := hb.size
    by_cases hlt : k < n
    · have hl4 : 4 * k + 4 ≤ l.length := by have := hn'.out; omega
      obtain ⟨ba, oa, rfl, hba, hca⟩ := a3.out.resolve_left (by intro h; rw [h] at hl4; simp at hl4)
      have hc0 := (hb.cell (p := ⟨ba, oa + 4 * k, none⟩) hba).trans (hca (4 * k) (by omega))
      have hc1 := (hb.cell (p := ⟨ba, oa + 4 * k + 1, none⟩) hba).trans (hca (4 * k + 1) (by omega))
      have hc2 := (hb.cell (p := ⟨ba, oa + 4 * k + 2, none⟩) hba).trans (hca (4 * k + 2) (by omega))
      have hc3 := (hb.cell (p := ⟨ba, oa + 4 * k + 3, none⟩) hba).trans (hca (4 * k + 3) (by omega))
      have hor : bits .or .u32 (bits .or .u32 (bits .or .u32 (bAt l (4 * k) * 16777216) (bAt l (4 * k + 1) * 65536)) (bAt l (4 * k + 2) * 256)) (bAt l (4 * k + 3)) = word4 l k := or4 (bAt l (4 * k)) (bAt l (4 * k + 1)) (bAt l (4 * k + 2)) (bAt l (4 * k + 3)) (bAt_bd l _).1 (bAt_bd l _).2 (bAt_bd l _).1 (bAt_bd l _).2 (bAt_bd l _).1 (bAt_bd l _).2 (bAt_bd l _).1 (bAt_bd l _).2
      obtain ⟨p1, p2⟩ := bAt_bd l (4 * k)
      obtain ⟨q1, q2⟩ := bAt_bd l (4 * k + 1)
      obtain ⟨r1, r2⟩ := bAt_bd l (4 * k + 2)
      obtain ⟨s1, s2⟩ := bAt_bd l (4 * k + 3)
      obtain ⟨u, hu⟩ := filled_get (word4 l) n k hlt
      have hcu := (ho.cellAt k (by omega)).trans hu
      have hfu := ho.frozenAt k
      have hst := ho.stored k (.int .u32 (word4 l k))
      have g1 : 4 * k < ca := by omega
      have ho := Lib.hid ho; have hb := Lib.hid hb
      have hst := Lib.hid hst
      clear hu hca
      go_wp2_with fail
      go_region
      go_wp2
      go_roundw
      case rel =>
        refine ⟨k + 1, by omega, by go_num, ?_, ?_⟩
        · rw [← filled_step _ _ _ hlt]; exact hst.out.1
        · exact (hb.out.grown hst.out.2 hs (by simp)).drew
      case measure => simp [intOf]; omega
    · obtain rfl : k = n := by omega
      rw [filled_full _ _ (word4_bd l)] at ho
      have ho := Lib.hid ho; have hb := Lib.hid hb
      go_wp2
      go_ret2
      exact ⟨_, rfl, ho.out, hb.out⟩
end Go.Proofs.YtemanjahkohcpaaGreatDoor
