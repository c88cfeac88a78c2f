/- The contracts of the reference's Bytes and HexAll. -/
import Derived.Test.YtedhinekkmoheaaRefE
import Derived.Deep.RegionHeld3
import Derived.Deep.AppendLies
namespace Go.Proofs.Ytedhinekkmoheaa
open Go.RowKit WP
theorem below_app {B : Nat} {w wr w1 : World} {o : Obj} {v : Value} (hb : Below B w wr) (hs : B ≤ wr.heap.size) (hg : (wr.alloc o).drew.grownBy w1 v.ownBlock) (hv : ∀ g, v.ownBlock = some g → B ≤ g) : Below B w w1 :=
  hb.grown (grownBy_trans (grownBy_trans (World.grownBy_alloc wr o _) (grownBy_drew _ _) (.inl rfl)) hg (.inl rfl)) hs hv
theorem two24 : twoI 24 = 16777216 := by decide
theorem two16 : twoI 16 = 65536 := by decide
theorem two8 : twoI 8 = 256 := by decide
set_option maxRecDepth 100000 in
set_option maxHeartbeats 2000000 in
theorem rbytes_any (va : Value) (l : List UInt32) (w : World) (ha : Rd w va (vw l)) (hl : l.length ≤ 4294967296) :
    Calls Try.prog 24 #[va] w fun e w' => ∃ v', e = .returned v' ∧ w'.ownsRow w.heap.size 5 1 v' (4 * l.length) (vb (bytesL l)) ∧ Below w.heap.size w w' := by
  obtain ⟨ao, ca, rfl, a1, a2, a3⟩ := ha.words
  obtain ⟨i0, hi, hz0, hz1, hz2⟩ := info_parts info5
  have a3 := Lib.hid a3
  go_enter Try.func24, Try.ntmps24
  go_wp2
  go_loopw [3, 4, 5] (fun b i _ wr => ∃ k : Nat, k ≤ l.length ∧ i = .int .i64 k ∧ wr.ownsRow w.heap.size 5 1 b (4 * k) (vb (bytesL (l.take k))) ∧ Below w.heap.size w wr) (fun _ i _ _ => l.length - (intOf i).toNat)
  case atStart => exact ⟨0, by omega, rfl, World.ownsRow_nil _ _ _ _, Below.refl _ _⟩
  case round =>
    obtain ⟨k, hk, rfl, ho, hb⟩ := hrel
    have hs := hb.size
    by_cases hlt : k < l.length
    · obtain ⟨ba, oa, rfl, hba, hca⟩ := a3.out.resolve_left (by intro h; rw [h] at hlt; simp at hlt)
      have hca := (hb.cell (p := ⟨ba, oa + k, none⟩) hba).trans (hca k hlt)
      obtain ⟨x1, x2⟩ := wAt_bd l k
      have hv := Lib.hid (wordB_val l k hlt)
      have ho := Lib.hid ho; have hb := Lib.hid hb
      go_wp2_with fail
      have u1 : (wAt l k).tdiv 16777216 = wAt l k / 16777216 := Int.tdiv_eq_ediv_of_nonneg x1
      have u2 : (wAt l k).tdiv 65536 = wAt l k / 65536 := Int.tdiv_eq_ediv_of_nonneg x1
      have u3 : (wAt l k).tdiv 256 = wAt l k / 256 := Int.tdiv_eq_ediv_of_nonneg x1
      have u4 : (wAt l k / 65536).tmod 256 = wAt l k / 65536 % 256 := Int.tmod_eq_emod_of_nonneg (by omega)
      have u5 : (wAt l k / 256).tmod 256 = wAt l k / 256 % 256 := Int.tmod_eq_emod_of_nonneg (by omega)
      have u6 : (wAt l k).tmod 256 = wAt l k % 256 := Int.tmod_eq_emod_of_nonneg x1
      have w1 : IntKind.u8.wrap (wAt l k / 16777216) = wAt l k / 16777216 := by rw [IntKind.wrap_u8]; omega
      have w2 : IntKind.u8.wrap (wAt l k / 65536 % 256) = wAt l k / 65536 % 256 := by rw [IntKind.wrap_u8]; omega
      have w3 : IntKind.u8.wrap (wAt l k / 256 % 256) = wAt l k / 256 % 256 := by rw [IntKind.wrap_u8]; omega
      have w4 : IntKind.u8.wrap (wAt l k % 256) = wAt l k % 256 := by rw [IntKind.wrap_u8]; omega
      have s1 : IntKind.i64.wrap (wAt l k / 16777216) = wAt l k / 16777216 := IntWalk.i64_in _ (by omega)
      have s2 : IntKind.i64.wrap (wAt l k / 65536) = wAt l k / 65536 := IntWalk.i64_in _ (by omega)
      have s3 : IntKind.i64.wrap (wAt l k / 256) = wAt l k / 256 := IntWalk.i64_in _ (by omega)
      go_region_held3 (fun w' => wr.heap.size ≤ w'.heap.size)
        (first
          | assumption
          | (simp; done)
          | (simp; omega)
          | (have hgs := hgrow.size; simp at hgs; omega))
        (first
          | (go_at_call 41; refine (two_any _ _ (by omega) (by omega)).mono ?_; rintro e w1 ⟨rfl, rfl⟩; (first | rw [two24] | rw [two16] | rw [two8]))
          | (refine step_append_lies _ (by rfl) _ _ _ (by rfl) w.heap.size 5 i0 (.int .u8 0) 1 1 Try.underlying48 hi hz0 hz1 hz2 rfl (by omega) _ _ _ (by rfl) ((ho.out.alloc _).drew)
              ⟨wr.heap.size, 0, none⟩ 4 4 [.int .u8 (wAt l k / 16777216), .int .u8 (wAt l k / 65536 % 256), .int .u8 (wAt l k / 256 % 256), .int .u8 (wAt l k % 256)] (by rfl) (by rfl) (World.news_of_block (cs := #[.int .u8 (wAt l k / 16777216), .int .u8 (wAt l k / 65536 % 256), .int .u8 (wAt l k / 256 % 256), .int .u8 (wAt l k % 256)]) (fr := (0, 0)) (heap_alloc_new wr _)) (by simp [Value.oneCell'])
              (by omega) (by simp only [maxLen]; omega) (by omega) (by simp; omega) (wr.heap.size + 1) (by simp) ?_; intro gg cap w1 hown1 hgrow hat hgl))
      clear u1 u2 u3 u4 u5 u6 w2 w3 w4 s1 s2 s3
      have hfin : w1.ownsRow w.heap.size 5 1 (.slice (some ⟨gg, 0, none⟩) (4 * k + 4) cap) (4 * (k + 1)) (vb (bytesL (l.take (k + 1)))) := by
        rw [bytesL_take l k hlt, vb_append, ← hv.out]; exact hown1
      have hb2 := below_app hb.out hs hgrow (fun g hg => (ho.out.lt g hg).1)
      clear hown1 hgrow hat hca
      have hfin := Lib.hid hfin
      have hb2 := Lib.hid hb2
      go_wp2
      go_roundw
      case rel => exact ⟨k + 1, by omega, by go_num, hfin.out, hb2.out⟩
      case measure => simp [intOf]; omega
    · obtain rfl : k = l.length := by omega
      rw [List.take_of_length_le (Nat.le_refl _)] at ho
      go_wp2_with fail
      go_ret
      exact ⟨_, rfl, ho, hb⟩
end Go.Proofs.Ytedhinekkmoheaa
