/- The contract of the law's head: it always says yes. The walk of TextAll. -/
import Derived.Test.YtefbogmgcihndaaGreatDoorTTen
import Derived.Test.YtefbogmgcihndaaGreatDoorTPlyJn
namespace Go.Proofs.YtefbogmgcihndaaGreatDoor
open Go.RowKit WP
theorem numbers_yes (w : World) : Calls Tryz.prog 7 #[] w fun e w' => e = .returned (.bool true) ∧ w' = w := by
  go_enter Tryz.func7, Tryz.ntmps7
  go_wp2
  go_ret
  exact ⟨rfl, rfl⟩
set_option maxRecDepth 100000 in
theorem tens_ten (w : World) (h : Pow10 w) : Calls Tryz.prog 8 #[.int .u32 10] w fun e w' => e = .returned (.string ⟨#[49, 48]⟩) ∧ Below w.heap.size w w' := by
  have h1 := tens_any 10 (by decide) w h
  rw [Lib.decDigits_two (by decide) (by decide)] at h1
  exact h1
set_option maxRecDepth 100000 in
set_option maxHeartbeats 4000000 in
theorem head_yes (w : World) (h : Pow10 w) : Calls Tryz.prog 4 #[] w fun e w' => e = .returned (.bool true) ∧ Below w.heap.size w w' := by
  have hF : wordsF ⟨#[97, 32, 34, 98, 34]⟩ = .inl [(⟨#[97]⟩, false, 1), (⟨#[98]⟩, true, 3)] := by kernel_rfl
  go_enter Tryz.func4, Tryz.ntmps4
  go_wp2_with fail
  refine (words_any _ _ (by decide)).mono ?_
  rintro e w1 ⟨hb, hr⟩
  rw [hF] at hr
  obtain ⟨v, rfl, ho⟩ := hr
  obtain ⟨g, cap, rfl, q1, q2⟩ := ho.form (by simp)
  have c3 := (ho.cellAt 3 (by simp)).trans (show _ = some (.string ⟨#[98]⟩) from rfl)
  have c4 := (ho.cellAt 4 (by simp)).trans (show _ = some (.bool true) from rfl)
  have c5 := (ho.cellAt 5 (by simp)).trans (show _ = some (.int .i64 3) from rfl)
  have hp := Lib.hid (pow10_later h hb)
  clear hF ho
  have hb := Lib.hid hb
  go_wp2_with (first | (go_at_call 7; refine (numbers_yes _).mono ?_; rintro e w2 ⟨rfl, hw⟩; rw [hw]; clear hw w2) | (go_at_call 8; refine (tens_ten _ hp.out).mono ?_; rintro e w2 ⟨rfl, hb2⟩))
  go_ret
  exact ⟨rfl, hb.out.trans (hb2.mono hb.out.size)⟩
end Go.Proofs.YtefbogmgcihndaaGreatDoor

namespace Go.Proofs.YtefbogmgcihndaaGreatDoor
open Go.RowKit WP
/-- one call of a script: its fields -/
structure OpD where
  k : Int
  S : ByteArray
  pad : Int
  bv : Value
  B : List UInt8
  u : Nat
  z : Int
  rv : Value
  V : Nat → Value
  C : Nat → List ByteArray
  n : Nat
/-- .. in its seven cells -/
structure OpAt (w : World) (blk at_ : Nat) (d : OpD) : Prop where
  c0 : w.cell? ⟨blk, at_, none⟩ = some (.int .i64 d.k)
  c1 : w.cell? ⟨blk, at_ + 1, none⟩ = some (.string d.S)
  c2 : w.cell? ⟨blk, at_ + 2, none⟩ = some (.int .i64 d.pad)
  c3 : w.cell? ⟨blk, at_ + 3, none⟩ = some d.bv
  c4 : w.cell? ⟨blk, at_ + 4, none⟩ = some (.int .u32 (d.u : Int))
  c5 : w.cell? ⟨blk, at_ + 5, none⟩ = some (.int .i32 d.z)
  c6 : w.cell? ⟨blk, at_ + 6, none⟩ = some d.rv
  ok : OpIn w d.S d.bv d.B d.u d.z d.rv d.V d.C d.n
theorem OpAt.later {w w' : World} {blk at_ : Nat} {d : OpD} (h : OpAt w blk at_ d) (hb : Below w.heap.size w w') : OpAt w' blk at_ d :=
  ⟨(hb.cell (World.block_lt_of_cell? _ _ h.c0)).trans h.c0, (hb.cell (World.block_lt_of_cell? _ _ h.c1)).trans h.c1, (hb.cell (World.block_lt_of_cell? _ _ h.c2)).trans h.c2, (hb.cell (World.block_lt_of_cell? _ _ h.c3)).trans h.c3, (hb.cell (World.block_lt_of_cell? _ _ h.c4)).trans h.c4, (hb.cell (World.block_lt_of_cell? _ _ h.c5)).trans h.c5, (hb.cell (World.block_lt_of_cell? _ _ h.c6)).trans h.c6, h.ok.later hb⟩
set_option maxRecDepth 100000 in
set_option maxHeartbeats 2000000 in
theorem all_walk (ao : Option Addr) (n cap : Nat) (D : Nat → OpD) (m : Int) (w : World) (h1 : n ≤ cap) (h2 : cap ≤ 9223372036854775807) (hA : ∀ i, i < n → ∃ blk off, ao = some ⟨blk, off, none⟩ ∧ OpAt w blk (off + i * 7) (D i)) (hP : Pk w) (hm : MaxL w m) :
    Calls Tryz.prog 3 #[.slice ao n cap] w fun e w' => e = .returned (.bool true) ∧ Below w.heap.size w w' := by
  replace hA := Lib.hid hA; replace hP := Lib.hid hP; replace hm := Lib.hid hm
  go_enter Tryz.func3, Tryz.ntmps3
  go_wp2_with (go_at_call 4; refine (head_yes _ hP.out.p).mono ?_; rintro e w1 ⟨rfl, hb1⟩)
  go_loopw [3] (fun i wr => ∃ k : Nat, k ≤ n ∧ i = .int .i64 k ∧ Below w.heap.size w wr) (fun i _ => n - (intOf i).toNat)
  case atStart => exact ⟨0, by omega, rfl, hb1⟩
  case round =>
    obtain ⟨wo, rfl⟩ : ∃ wo, wo = wr := ⟨wr, rfl⟩
    obtain ⟨k, hk, rfl, hb⟩ := hrel
    by_cases hlt : k < n
    · obtain ⟨blk, off, rfl, hO⟩ := hA.out k hlt
      have hO2 := hO.later hb
      have hp := plays_any (D k).k (D k).S (D k).pad (D k).bv (D k).B (D k).u (D k).z (D k).rv (D k).V (D k).C (D k).n wo hO2.ok m (MaxL.later hm.out hb) (hP.out.later hb)
      unfold opV at hp
      obtain ⟨c0, c1, c2, c3, c4, c5, c6, _⟩ := hO2
      clear hO
      generalize D k = d at *
      obtain ⟨dk, dS, dpad, dbv, dB, du, dz, drv, dV, dC, dn⟩ := d
      simp only at hp c0 c1 c2 c3 c4 c5 c6
      generalize (du : Int) = x at *
      have i1 : (0 : Int) ≤ (k : Int) := by omega
      have i2 : (k : Int) < (n : Int) := by omega
      have d1 : decide ((k : Int) < (n : Int)) = true := decide_eq_true i2
      have hs := hb.size
      replace hp := Lib.hid hp; replace hb := Lib.hid hb
      go_wp2_with (go_at_call 5; refine hp.out.mono ?_; rintro e w2 ⟨rfl, hb2⟩)
      go_roundw
      case rel => exact ⟨k + 1, by omega, by go_num, hb.out.trans (hb2.mono hs)⟩
      case measure => simp [intOf]; omega
    · obtain rfl : k = n := by omega
      have d1 : decide ((k : Int) < (k : Int)) = false := decide_eq_false (by omega)
      replace hb := Lib.hid hb
      go_wp2_with fail
      go_ret
      exact ⟨rfl, hb.out⟩
end Go.Proofs.YtefbogmgcihndaaGreatDoor
