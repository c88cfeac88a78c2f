/- The contract of the reference's Words. -/
import Derived.Test.YtedhinekkmoheaaRefG
namespace Go.Proofs.Ytedhinekkmoheaa
open Go.RowKit WP
def word4P (l : List UInt8) (q : Nat) : Nat → Int
  | 0 => 0
  | j + 1 => 256 * word4P l q j + bAt l (4 * q + j)
theorem word4P_full (l : List UInt8) (q : Nat) : word4P l q 4 = word4 l q := by
  simp only [word4P, word4, Nat.add_zero]; omega
theorem word4P_bd (l : List UInt8) (q j : Nat) (h : j ≤ 4) : 0 ≤ word4P l q j ∧ word4P l q j ≤ 4294967295 := by
  have h0 := bAt_bd l (4 * q); have h1 := bAt_bd l (4 * q + 1); have h2 := bAt_bd l (4 * q + 2); have h3 := bAt_bd l (4 * q + 3)
  have : j = 0 ∨ j = 1 ∨ j = 2 ∨ j = 3 ∨ j = 4 := by omega
  rcases this with rfl | rfl | rfl | rfl | rfl <;> simp only [word4P, Nat.add_zero] <;> omega
theorem wordsL_take (l : List UInt8) (q : Nat) (h : q < l.length / 4) : vw ((wordsL l).take (q + 1)) = vw ((wordsL l).take q) ++ [.int .u32 (word4 l q)] := by
  have hl : q < (wordsL l).length := by unfold wordsL; simpa using h
  rw [List.take_succ_eq_append_getElem hl, vw_append]
  congr 1
  obtain ⟨h1, h2⟩ := word4_bd l q
  simp [vw, wordsL, ofI_val _ h1 h2]
set_option maxRecDepth 100000 in
set_option maxHeartbeats 1000000 in
theorem rwords_yes (va : Value) (l : List UInt8) (w : World) (ha : Rd w va (vb l)) (hl : l.length ≤ 1048576) (h4 : l.length % 4 = 0) :
    Calls Try.prog 39 #[va] w fun e w' => ∃ v', e = .returned (.tuple #[v', .int .i64 0]) ∧ w'.ownsRow w.heap.size 22 1 v' (l.length / 4) (vw (wordsL l)) ∧ Below w.heap.size w w' := by
  obtain ⟨ao, ca, rfl, a1, a2, a3⟩ := ha.bytes
  obtain ⟨i0, hi, hz0, hz1, hz2⟩ := info_parts info22
  obtain ⟨n, hn⟩ : ∃ n, l.length = 4 * n := ⟨l.length / 4, by omega⟩
  have hdiv : l.length / 4 = n := by omega
  have hwl : (wordsL l).length = n := by unfold wordsL; simp [hdiv]
  have hst := Lib.hid (wordsL_take l)
  rw [hdiv] at hst ⊢
  have hwl := Lib.hid hwl
  have A3 := Lib.hid a3; have hn' := Lib.hid hn
  have e1 : (((l.length : Nat) : Int) % 4 != 0) = false := by simp; omega
  rw [hn] at e1 ⊢
  have a1' : 4 * n ≤ ca := by omega
  have hn1 : n ≤ 262144 := by omega
  clear hn hdiv a1 h4 hl a3
  go_enter Try.func39, Try.ntmps39
  go_wp2
  go_loopw [4, 5, 6, 7] (fun b i _ _ wr => ∃ q : Nat, q ≤ n ∧ i = .int .i64 ((4 * q : Nat) : Int) ∧ wr.ownsRow w.heap.size 22 1 b q (vw ((wordsL l).take q)) ∧ Below w.heap.size w wr) (fun _ i _ _ _ => 4 * n - (intOf i).toNat)
  case atStart => exact ⟨0, by omega, rfl, World.ownsRow_nil _ _ _ _, Below.refl _ _⟩
  case round =>
    obtain ⟨q, hq, rfl, ho, hb⟩ := hrel
    have hs := hb.size
    by_cases hlt : q < n
    · have hl4 : 4 * q + 4 ≤ l.length := by have := hn'.out; omega
      obtain ⟨ba, oa, rfl, hba, hca⟩ := A3.out.resolve_left (by intro h; rw [h] at hl4; simp at hl4)
      have hst := Lib.hid (hst.out q hlt)
      have hc : ∀ j, j < 4 → wr.cell? ⟨ba, oa + (4 * q + j), none⟩ = some (.int .u8 (bAt l (4 * q + j))) :=
        fun j hj => (hb.cell (p := ⟨ba, oa + (4 * q + j), none⟩) hba).trans (hca (4 * q + j) (by omega))
      have hc := Lib.hid hc
      have ho := Lib.hid ho; have hb := Lib.hid hb
      clear hca
      go_wp2_with fail
      go_loop [6, 7] (fun m j => ∃ p : Nat, p ≤ 4 ∧ j = .int .i64 p ∧ m = .int .i64 (word4P l q p)) (fun _ j => 4 - (intOf j).toNat)
      case atStart => exact ⟨0, by omega, rfl, rfl⟩
      case round =>
        obtain ⟨p, hp, rfl, rfl⟩ := hrel
        have hbd := word4P_bd l q p hp
        by_cases hp4 : p < 4
        · have hcp := hc.out p hp4
          have hb4 := word4P_bd l q (p + 1) (by omega)
          have hstep : word4P l q (p + 1) = 256 * word4P l q p + bAt l (4 * q + p) := rfl
          have hbb := bAt_bd l (4 * q + p)
          have hS := Lib.hid hstep
          rw [hstep] at hb4
          clear hstep
          go_wp2_with fail
          go_round
          case rel => exact ⟨p + 1, by omega, by go_num, congrArg (Value.int .i64) (by rw [hS.out])⟩
          case measure => simp [intOf]; omega
        · obtain rfl : p = 4 := by omega
          rw [word4P_full] at hbd ⊢
          go_wp2_with (at_builtin; refine wpList_append_onto' _ rfl _ _ 39 rfl w.heap.size 22 i0 (.int .u32 0) 1 4 Try.underlying39 hi hz0 hz1 hz2 rfl (by decide) _ _ _ rfl (ho.out.alloc _) ⟨wr.heap.size, 0, none⟩ 1 1 [.int .u32 (word4 l q)] rfl rfl ?c1 ?c2 ?c3 ?c4 ?c5 ?_)
          try (case c1 => exact cells_new _ _ _ _)
          case c2 => simp [Value.oneCell']
          case c3 => simp only [maxLen]; omega
          case c4 => omega
          case c5 => first | omega | (simp; omega)
          intro v1 w2 ho1 hO1
          have hfin : w2.ownsRow w.heap.size 22 1 v1 (q + 1) (vw ((wordsL l).take (q + 1))) := by
            rw [hst.out]; exact ho1
          have hb2 := hb.out.trans ((Onto.alloc _ hO1 (fun g hg => (ho.out.lt g hg).2)).below (B := w.heap.size) hs (fun g hg => (ho.out.lt g hg).1))
          clear ho1 hO1
          have hfin := Lib.hid hfin
          have hb2 := Lib.hid hb2
          go_wp2
          go_roundw
          case rel => exact ⟨q + 1, by omega, by go_num, hfin.out, hb2.out⟩
          case measure => simp [intOf]; omega
    · obtain rfl : q = n := by omega
      rw [List.take_of_length_le (by rw [hwl.out]; omega)] at ho
      have ho := Lib.hid ho; have hb := Lib.hid hb
      go_wp2
      go_ret2
      exact ⟨_, rfl, ho.out, hb.out⟩
theorem rwords_long (va : Value) (l : List UInt8) (w : World) (ha : Rd w va (vb l)) (hl : 1048576 < l.length) :
    Calls Try.prog 39 #[va] w fun e w' => e = .returned (.tuple #[.slice none 0 0, .int .i64 2]) ∧ w = w' := by
  obtain ⟨ao, ca, rfl, a1, a2, a3⟩ := ha.bytes
  clear a3
  go_enter Try.func39, Try.ntmps39
  go_wp2
  go_ret2
  exact ⟨rfl, rfl⟩
theorem rwords_part (va : Value) (l : List UInt8) (w : World) (ha : Rd w va (vb l)) (hl : l.length ≤ 1048576) (h4 : l.length % 4 ≠ 0) :
    Calls Try.prog 39 #[va] w fun e w' => e = .returned (.tuple #[.slice none 0 0, .int .i64 11]) ∧ w = w' := by
  obtain ⟨ao, ca, rfl, a1, a2, a3⟩ := ha.bytes
  clear a3
  have e1 : ((l.length : Int) % 4 != 0) = true := by simp; omega
  clear h4
  go_enter Try.func39, Try.ntmps39
  go_wp2
  go_ret2
  exact ⟨rfl, rfl⟩
end Go.Proofs.Ytedhinekkmoheaa
