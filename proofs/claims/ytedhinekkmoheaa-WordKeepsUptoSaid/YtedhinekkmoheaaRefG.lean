/- The contract of the reference's HexAll. -/
import Derived.Test.YtedhinekkmoheaaRefF
import Derived.Lib.AppendStr
namespace Go.Proofs.Ytedhinekkmoheaa
open Go.RowKit WP
theorem strCells_hex (x : Int) : Lib.strCells (hexS x) = vb (hexL x.toNat) := by
  simp [Lib.strCells, hexS, vb]
theorem hexS_size (x : Int) : (hexS x).size = 8 := by unfold hexS; rw [size_mk, length_hexL]
set_option maxRecDepth 100000 in
set_option maxHeartbeats 1000000 in
theorem rhexall_any (va : Value) (l : List UInt32) (w : World) (ha : Rd w va (vw l)) (hl : l.length ≤ 4294967296) :
    Calls Try.prog 40 #[va] w fun e w' => e = .returned (.string ⟨(hexAllL l).toArray⟩) ∧ Below w.heap.size w w' := by
  obtain ⟨ao, ca, rfl, a1, a2, a3⟩ := ha.words
  obtain ⟨i0, hi, hz0, hz1, hz2⟩ := info_parts info5
  have a3 := Lib.hid a3
  go_enter Try.func40, Try.ntmps40
  go_wp2
  go_loopw [3, 4] (fun b i wr => ∃ k : Nat, k ≤ l.length ∧ i = .int .i64 k ∧ wr.ownsRow w.heap.size 5 1 b (8 * k) (vb (hexAllL (l.take k))) ∧ Below w.heap.size w wr) (fun _ i _ => l.length - (intOf i).toNat)
  case atStart => exact ⟨0, by omega, rfl, World.ownsRow_nil _ _ _ _, Below.refl _ _⟩
  case round =>
    obtain ⟨k, hk, rfl, ho, hb⟩ := hrel
    have hs := hb.size
    by_cases hlt : k < l.length
    · obtain ⟨ba, oa, rfl, hba, hca⟩ := a3.out.resolve_left (by intro h; rw [h] at hlt; simp at hlt)
      have hca := (hb.cell (p := ⟨ba, oa + k, none⟩) hba).trans (hca k hlt)
      obtain ⟨x1, x2⟩ := wAt_bd l k
      have ho := Lib.hid ho; have hb := Lib.hid hb
      go_wp2_with (first
        | (go_at_call 46; refine (rhex_any _ _ x1 x2).mono ?_; rintro e w1 ⟨rfl, rfl⟩)
        | (at_builtin; refine Lib.wpList_append_own_string _ rfl _ _ 48 9 rfl w.heap.size 5 i0 Try.underlying48 Try.underlying9 hi hz0 hz1 hz2 _ _ _ rfl ho.out (hexS (wAt l k)) rfl ?c1 ?c2 ?c3 ?_))
      case c1 => rw [hexS_size]; simp only [maxLen]; omega
      case c2 => rw [hexS_size]; omega
      case c3 => exact hs
      intro v1 w1 ho1 hg1 _
      have hfin : w1.ownsRow w.heap.size 5 1 v1 (8 * (k + 1)) (vb (hexAllL (l.take (k + 1)))) := by
        rw [hexAllL_take l k hlt, vb_append]
        rw [strCells_hex, hexS_size] at ho1
        exact ho1
      have hb2 := hb.out.grown hg1 hs (fun g hg => (ho.out.lt g hg).1)
      clear ho1 hg1 hca
      have hfin := Lib.hid hfin
      have hb2 := Lib.hid hb2
      go_wp2
      go_roundw
      case rel => exact ⟨k + 1, by omega, by go_num, hfin.out, hb2.out⟩
      case measure => simp [intOf]; omega
    · obtain rfl : k = l.length := by omega
      rw [List.take_of_length_le (Nat.le_refl _)] at ho
      have hcv := conv_bytes (P := Try.prog) (Rd.of_own ho) 48 5 9 Try.underlying48 Try.underlying5 Try.underlying9
      have ho := Lib.hid ho; have hb := Lib.hid hb
      go_wp2
      go_ret
      exact ⟨rfl, hb.out⟩
end Go.Proofs.Ytedhinekkmoheaa
