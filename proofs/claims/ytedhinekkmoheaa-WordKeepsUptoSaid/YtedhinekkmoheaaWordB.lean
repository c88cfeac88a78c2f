/- The contracts of package word's functions over lists and texts: Bytes, Words, parse, ParseHex, HexAll, ParseAll. -/
import Derived.Test.YtedhinekkmoheaaWordH
import Derived.Test.YtedhinekkmoheaaWordS
namespace Go.Proofs.Ytedhinekkmoheaa
open Go.RowKit WP

theorem info22 : (Try.prog.info? 22).map (fun i => (i.zero, i.size, i.bytes)) = some (some (.int .u32 0), 1, 4) := by kernel_rfl
def wordB (x : UInt32) : List UInt8 := [UInt8.ofNat (x.toNat / 16777216), UInt8.ofNat (x.toNat / 65536), UInt8.ofNat (x.toNat / 256), UInt8.ofNat x.toNat]
def bytesL (l : List UInt32) : List UInt8 := l.flatMap wordB
theorem length_bytesL (l : List UInt32) : (bytesL l).length = 4 * l.length := by
  induction l with
  | nil => rfl
  | cons a l ih => simp only [bytesL, List.flatMap_cons, List.length_append, List.length_cons] at ih ⊢; rw [ih]; simp [wordB]; omega
theorem bytesL_take (l : List UInt32) (k : Nat) (h : k < l.length) : bytesL (l.take (k + 1)) = bytesL (l.take k) ++ wordB l[k] := by
  unfold bytesL; rw [List.take_succ_eq_append_getElem h, List.flatMap_append]; simp
theorem wordB_val (l : List UInt32) (k : Nat) (h : k < l.length) :
    [Value.int .u8 (wAt l k / 16777216), .int .u8 (wAt l k / 65536 % 256), .int .u8 (wAt l k / 256 % 256), .int .u8 (wAt l k % 256)] = vb (wordB l[k]) := by
  have hlt := (l[k]).toNat_lt
  simp only [wordB, vb, List.map_cons, List.map_nil, wAt, List.getD_eq_getElem?_getD, List.getElem?_eq_getElem h, Option.getD_some, UInt8.toNat_ofNat']
  simp
  omega
set_option maxHeartbeats 400000 in
theorem bytes_any (va : Value) (l : List UInt32) (w : World) (ha : Rd w va (vw l)) (hl : l.length ≤ 4294967296) :
    Calls Try.prog 25 #[va] w fun e w' => ∃ v', e = .returned v' ∧ w'.ownsRow w.heap.size 5 1 v' (4 * l.length) (vb (bytesL l)) ∧ Below w.heap.size w w' := by
  obtain ⟨ao, ca, rfl, a1, a2, a3⟩ := ha.words
  obtain ⟨i0, hi, hz0, hz1, hz2⟩ := info_parts info5
  have a3 := Lib.hid a3
  go_enter Try.func25, Try.ntmps25
  go_wp2_with (at_make; refine wpList_make_own _ rfl _ _ 48 rfl w.heap.size 5 i0 (.int .u8 0) 1 Try.underlying48 hi hz0 hz1 .i64 .i64 _ (4 * l.length) rfl rfl ?m0 ?m1 ?m2 ?m3 ?_)
  case m0 => simp
  case m1 => rw [hz2]; omega
  case m2 => simp only [maxLen]; omega
  case m3 => omega
  intro w1 ho hg
  have hb := (Below.refl w.heap.size w).grown hg (Nat.le_refl _) (by simp)
  clear hg
  have ho := Lib.hid ho; have hb := Lib.hid hb
  go_wp2
  go_loopw [3, 4, 5, 12] (fun b _ _ i wr => ∃ k : Nat, k ≤ l.length ∧ i = .int .i64 k ∧ wr.ownsRow w.heap.size 5 1 b (4 * k) (vb (bytesL (l.take k))) ∧ Below w.heap.size w wr) (fun _ _ _ i _ => l.length - (intOf i).toNat)
  case atStart => exact ⟨0, by omega, rfl, ho.out, hb.out⟩
  case round =>
    obtain ⟨k, hk, rfl, ho, hb⟩ := hrel
    have hs := hb.size
    by_cases hlt : k < l.length
    · obtain ⟨ba, oa, rfl, hba, hca⟩ := a3.out.resolve_left (by intro h; rw [h] at hlt; simp at hlt)
      have hca := (hb.cell (p := ⟨ba, oa + k, none⟩) hba).trans (hca k hlt)
      have xb := wAt_bd l k
      have hv := Lib.hid (wordB_val l k hlt)
      obtain ⟨x1, x2⟩ := xb
      have ho := Lib.hid ho; have hb := Lib.hid hb
      go_wp2_with (at_builtin; refine wpList_append_onto' _ rfl _ _ 48 rfl w.heap.size 5 i0 (.int .u8 0) 1 1 Try.underlying48 hi hz0 hz1 hz2 rfl (by decide) _ _ _ rfl (ho.out.alloc _) ⟨wr.heap.size, 0, none⟩ 4 4 [.int .u8 (wAt l k / 16777216), .int .u8 (wAt l k / 65536 % 256), .int .u8 (wAt l k / 256 % 256), .int .u8 (wAt l k % 256)] rfl rfl ?c1 ?c2 ?c3 ?c4 ?c5 ?_)
      case c1 => exact cells_new _ _ _ _
      case c2 => simp [Value.oneCell']
      case c3 => simp only [maxLen]; omega
      case c4 => omega
      case c5 => simp; omega
      intro v1 w2 ho1 hO1
      have hfin : w2.ownsRow w.heap.size 5 1 v1 (4 * (k + 1)) (vb (bytesL (l.take (k + 1)))) := by
        rw [bytesL_take l k hlt, vb_append, ← hv.out]; exact ho1
      have hb2 := hb.out.trans ((Onto.alloc _ hO1 (fun g hg => (ho.out.lt g hg).2)).below (B := w.heap.size) hs (fun g hg => (ho.out.lt g hg).1))
      clear ho1 hO1 hca
      have hfin := Lib.hid hfin
      have hb2 := Lib.hid hb2
      go_wp2
      go_roundw
      case rel => exact ⟨k + 1, by omega, by go_num, hfin.out, hb2.out⟩
      case measure => simp [intOf]; omega
    · obtain rfl : k = l.length := by omega
      rw [List.take_of_length_le (Nat.le_refl _)] at ho
      go_wp2_with fail
      go_ret
      exact ⟨_, rfl, ho, hb⟩
end Go.Proofs.Ytedhinekkmoheaa
