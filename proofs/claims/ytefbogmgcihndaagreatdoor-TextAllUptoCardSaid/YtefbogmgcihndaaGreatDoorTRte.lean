/- The reference's Tens, Hexed and Minus. -/
import Derived.Test.YtefbogmgcihndaaGreatDoorTNuE
namespace Go.Proofs
open Go.RowKit
namespace YtefbogmgcihndaaGreatDoor
open WP
def strS (l : List UInt8) : ByteArray := ⟨l.toArray⟩
theorem hx8_drop (w i : Nat) (_h : i < 8) : (hx8 w).drop (7 - i) = hB8 (w / 16 ^ i % 16) :: (hx8 w).drop (8 - i) := by
  have : i = 0 ∨ i = 1 ∨ i = 2 ∨ i = 3 ∨ i = 4 ∨ i = 5 ∨ i = 6 ∨ i = 7 := by omega
  rcases this with rfl | rfl | rfl | rfl | rfl | rfl | rfl | rfl <;> simp [hx8, List.range, List.range.loop]
/-- what the document's loop over the tens keeps -/
def tenInv (u m : Nat) (L : List UInt8) : Prop := (if m = 0 then L else Lib.decDigits m ++ L) = Lib.decDigits u
theorem dec_step (m : Nat) (L : List UInt8) (_h : m ≠ 0) : Lib.decDigits m ++ L = if m / 10 = 0 then hB8 (m % 10) :: L else Lib.decDigits (m / 10) ++ hB8 (m % 10) :: L := by
  have hd : hB8 (m % 10) = UInt8.ofNat (48 + m % 10) := by unfold hB8; rw [if_pos (by omega)]
  rw [hd]
  by_cases h1 : m < 10
  · rw [if_pos (by omega), Lib.decDigits_one h1, Nat.mod_eq_of_lt h1]; rfl
  · rw [if_neg (by omega)]
    conv => lhs; rw [Lib.decDigits, dif_neg h1]
    simp
theorem tenInv_start (u : Nat) : tenInv u (u / 10) [hB8 (u % 10)] := by
  unfold tenInv
  by_cases h : u = 0
  · subst h; rw [if_pos rfl, Lib.decDigits_one (by decide)]; rfl
  · rw [← dec_step u [] h, List.append_nil]
theorem tenInv_step {u m : Nat} {L : List UInt8} (h : tenInv u m L) (hm : m ≠ 0) : tenInv u (m / 10) (hB8 (m % 10) :: L) := by
  unfold tenInv at *
  rw [if_neg hm] at h
  rw [← dec_step m L hm, h]
theorem tenInv_end {u : Nat} {L : List UInt8} (h : tenInv u 0 L) : L = Lib.decDigits u := by unfold tenInv at h; rwa [if_pos rfl] at h
theorem tenInv_len {u m : Nat} {L : List UInt8} (h : tenInv u m L) : L.length ≤ (Lib.decDigits u).length := by
  unfold tenInv at h
  rw [← h]
  split
  · exact Nat.le_refl _
  · rw [List.length_append]; omega
theorem decR_len (u : Nat) (h : u < 4294967296) : 1 ≤ (Lib.decDigits u).length ∧ (Lib.decDigits u).length ≤ 10 := by
  rw [Lib.decDigits_length]
  refine ⟨Lib.nDigits_pos u, ?_⟩
  by_cases h1 : u < 100
  · by_cases h2 : u < 10
    · rw [Lib.nDigits_small h2]; omega
    · rw [Lib.nDigits_big h2, Lib.nDigits_small (by omega)]; omega
  · have go : ∀ k m, m < 10 ^ (k + 1) → Lib.nDigits m ≤ k + 1 := by
      intro k
      induction k with
      | zero => intro m hm; rw [Lib.nDigits_small (by simpa using hm)]; omega
      | succ k ih =>
        intro m hm
        by_cases h3 : m < 10
        · rw [Lib.nDigits_small h3]; omega
        · rw [Lib.nDigits_big h3]
          have := ih (m / 10) (by rw [Nat.pow_succ] at hm; omega)
          omega
    exact go 9 u (by omega)
theorem retS {a b : ByteArray} (h : a = b) : Ending.returned (.string a) = .returned (.string b) := by rw [h]
/-- one digit of the reference's table -/
theorem digR_piece (D : Nat) (hD : D < 16) : (ByteArray.extract ⟨#[48, 49, 50, 51, 52, 53, 54, 55, 56, 57, 97, 98, 99, 100, 101, 102]⟩ D (D + 1)) = ⟨#[hB8 D]⟩ := by
  have : D = 0 ∨ D = 1 ∨ D = 2 ∨ D = 3 ∨ D = 4 ∨ D = 5 ∨ D = 6 ∨ D = 7 ∨ D = 8 ∨ D = 9 ∨ D = 10 ∨ D = 11 ∨ D = 12 ∨ D = 13 ∨ D = 14 ∨ D = 15 := by omega
  rcases this with rfl | rfl | rfl | rfl | rfl | rfl | rfl | rfl | rfl | rfl | rfl | rfl | rfl | rfl | rfl | rfl <;> rfl
theorem strS_cons (c : UInt8) (L : List UInt8) : (⟨#[c]⟩ : ByteArray) ++ strS L = strS (c :: L) := by
  apply ByteArray.ext; simp [strS]
theorem strS_app (a b : List UInt8) : strS a ++ strS b = strS (a ++ b) := by
  apply ByteArray.ext; simp [strS]
theorem strS_size (a : List UInt8) : (strS a).size = a.length := by simp [strS, ByteArray.size]
set_option maxRecDepth 100000 in
set_option maxHeartbeats 1000000 in
theorem rten_any (u : Nat) (w : World) (hu : u < 4294967296) :
    Calls Tryz.prog 46 #[.int .i64 u] w fun e w' => e = .returned (.string (strS (Lib.decDigits u))) ∧ w' = w := by
  have h0 := tenInv_start u
  have hl0 := (decR_len u hu).2
  have e0 := digR_piece (u % 10) (by omega)
  have m0 : ((u : Int) % 10).toNat = u % 10 := by omega
  have m1 : ((u : Int) % 10 + 1).toNat = u % 10 + 1 := by omega
  replace h0 := Lib.hid h0
  go_enter Tryz.func46, Tryz.ntmps46
  go_wp2
  go_loop [3, 0] (fun s n => ∃ (m : Nat) (L : List UInt8), m < 4294967296 ∧ n = .int .i64 m ∧ s = .string (strS L) ∧ tenInv u m L) (fun _ n => (intOf n).toNat)
  case atStart => exact ⟨u / 10, [hB8 (u % 10)], by omega, by go_num, rfl, h0.out⟩
  case round =>
    obtain ⟨m, L, hm, rfl, rfl, hI⟩ := hrel
    have hL := tenInv_len hI
    have hsz : (strS L).size ≤ 10 := by rw [strS_size]; omega
    clear e0 m0 m1 h0
    by_cases hp : 0 < m
    · have h2 := tenInv_step hI (by omega)
      have hcat := strS_cons (hB8 (m % 10)) L
      have e1 := digR_piece (m % 10) (by omega)
      have n0 : ((m : Int) % 10).toNat = m % 10 := by omega
      have n1 : ((m : Int) % 10 + 1).toNat = m % 10 + 1 := by omega
      replace h2 := Lib.hid h2; replace hI := Lib.hid hI; replace hcat := Lib.hid hcat
      go_wp2
      go_round
      case rel => exact ⟨m / 10, hB8 (m % 10) :: L, by omega, by go_num, by rw [← hcat.out], h2.out⟩
      case measure => simp [intOf]; omega
    · obtain rfl : m = 0 := by omega
      have hE := Lib.hid (tenInv_end hI)
      clear hI
      go_wp2_with fail
      go_ret
      exact ⟨retS (congrArg strS hE.out), rfl⟩
set_option maxRecDepth 100000 in
theorem rtens_any (u : Nat) (w : World) (hu : u < 4294967296) :
    Calls Tryz.prog 21 #[.int .u32 u] w fun e w' => e = .returned (.string (strS (Lib.decDigits u))) ∧ w' = w := by
  have hc := fun W => rten_any u W hu
  generalize strS (Lib.decDigits u) = S at *
  go_enter Tryz.func21, Tryz.ntmps21
  go_wp2_with (go_at_call 46; refine (hc _).mono ?_; rintro e w' ⟨rfl, rfl⟩)
  go_ret
  exact ⟨rfl, rfl⟩
set_option maxRecDepth 100000 in
set_option maxHeartbeats 1000000 in
theorem rhexed_any (x : Int) (w : World) (h1 : 0 ≤ x) (h2 : x ≤ 4294967295) :
    Calls Tryz.prog 23 #[.int .u32 x] w fun e w' => e = .returned (.string (hexTx x)) ∧ w' = w := by
  obtain ⟨x, rfl⟩ := Int.eq_ofNat_of_zero_le h1
  go_enter Tryz.func23, Tryz.ntmps23
  go_wp2
  go_loop [3, 4, 5] (fun s n i => ∃ k : Nat, k ≤ 8 ∧ i = .int .i64 k ∧ n = .int .i64 ((x / 16 ^ k : Nat) : Int) ∧ s = .string (strS ((hx8 x).drop (8 - k)))) (fun _ _ i => 8 - (intOf i).toNat)
  case atStart => exact ⟨0, by omega, rfl, by simp, by rw [List.drop_of_length_le (by rw [hx8_len]; omega)]; rfl⟩
  case round =>
    obtain ⟨k, hk, rfl, rfl, rfl⟩ := hrel
    by_cases hlt : k < 8
    · have hd := hx8_drop x k hlt
      have hm : x / 16 ^ k < 4294967296 := Nat.lt_of_le_of_lt (Nat.div_le_self _ _) (by omega)
      have hnx : x / 16 ^ (k + 1) = x / 16 ^ k / 16 := by rw [Nat.pow_succ, Nat.div_div_eq_div_mul]
      obtain ⟨m, hmm⟩ : ∃ m, x / 16 ^ k = m := ⟨_, rfl⟩
      rw [hmm] at hd hm hnx
      rw [hmm]
      have hsz : (strS ((hx8 x).drop (8 - k))).size ≤ 8 := by rw [strS_size, List.length_drop, hx8_len]; omega
      have hcat := strS_cons (hB8 (m % 16)) ((hx8 x).drop (8 - k))
      rw [← hd] at hcat
      obtain ⟨S, hS⟩ : ∃ S, strS ((hx8 x).drop (8 - k)) = S := ⟨_, rfl⟩
      rw [hS] at hcat hsz
      rw [hS]
      have e1 := digR_piece (m % 16) (by omega)
      have n0 : ((m : Int) % 16).toNat = m % 16 := by omega
      have n1 : ((m : Int) % 16 + 1).toNat = m % 16 + 1 := by omega
      clear hd hmm hS
      replace hnx := Lib.hid hnx; replace hcat := Lib.hid hcat
      go_wp2
      go_round
      case rel => exact ⟨k + 1, by omega, by go_num, by rw [hnx.out]; go_num, by rw [show 8 - (k + 1) = 7 - k by omega, ← hcat.out]⟩
      case measure => simp [intOf]; omega
    · obtain rfl : k = 8 := by omega
      have hsz : (strS ((hx8 x).drop (8 - 8))).size ≤ 8 := by rw [strS_size, List.length_drop, hx8_len]; omega
      have hcat : (⟨#[48, 120]⟩ : ByteArray) ++ strS ((hx8 x).drop (8 - 8)) = hexTx x := by
        show _ = strS ([48, 120] ++ hx8 x); rw [← strS_app]; rfl
      generalize strS ((hx8 x).drop (8 - 8)) = S at *
      replace hcat := Lib.hid hcat
      go_wp2_with fail
      go_ret
      exact ⟨by rw [← hcat.out]; rfl, rfl⟩
set_option maxRecDepth 100000 in
theorem rminus_any (n : Int) (w : World) (h0 : -2147483648 ≤ n) (h1 : n ≤ 2147483647) :
    Calls Tryz.prog 25 #[.int .i32 n] w fun e w' => e = .returned (.string (strS (Lib.itoa n))) ∧ w' = w := by
  by_cases hn : n < 0
  · obtain ⟨m, hm⟩ : ∃ m : Nat, -n = m := ⟨n.natAbs, by omega⟩
    have e : strS (Lib.itoa n) = (⟨#[45]⟩ : ByteArray) ++ strS (Lib.decDigits m) := by
      rw [strS_cons]; unfold Lib.itoa; rw [if_pos hn, show n.natAbs = m by omega]
    have hc := fun W => rten_any m W (by omega)
    have hs := (decR_len m (by omega)).2
    rw [← strS_size] at hs
    rw [e]
    generalize strS (Lib.decDigits m) = S at *
    rw [← hm] at hc
    clear e hm
    go_enter Tryz.func25, Tryz.ntmps25
    go_wp2_with (go_at_call 46; refine (hc _).mono ?_; rintro e w' ⟨rfl, rfl⟩)
    go_ret
    exact ⟨rfl, rfl⟩
  · obtain ⟨m, rfl⟩ := Int.eq_ofNat_of_zero_le (show 0 ≤ n by omega)
    have e : strS (Lib.itoa m) = strS (Lib.decDigits m) := by unfold Lib.itoa; rw [if_neg hn]; rfl
    have hc := fun W => rten_any m W (by omega)
    rw [e]
    have dn : decide ((m : Int) < 0) = false := decide_eq_false hn
    generalize strS (Lib.decDigits m) = S at *
    clear e
    go_enter Tryz.func25, Tryz.ntmps25
    go_wp2_with (go_at_call 46; refine (hc _).mono ?_; rintro e w' ⟨rfl, rfl⟩)
    go_ret
    exact ⟨rfl, rfl⟩
end YtefbogmgcihndaaGreatDoor
end Go.Proofs
