/- The contract of WordAll. -/
import Derived.Test.YtedhinekkmoheaaLawF
namespace Go.Proofs.Ytedhinekkmoheaa
open Go.RowKit WP
/-- one call of a script, at its eleven cells -/
def OpAt (w : World) (blk at_ : Nat) : Prop :=
  ∃ (K A B C D N M : Int) (vL vP vB : Value) (l p : List UInt32) (b : List UInt8) (s : ByteArray),
    OpOk w A B C D N M vL vP vB l p b s ∧ -9223372036854775808 ≤ K ∧ K ≤ 9223372036854775807 ∧
    w.cell? ⟨blk, at_, none⟩ = some (.int .i64 K) ∧ w.cell? ⟨blk, at_ + 1, none⟩ = some (.int .u32 A) ∧ w.cell? ⟨blk, at_ + 2, none⟩ = some (.int .u32 B) ∧
    w.cell? ⟨blk, at_ + 3, none⟩ = some (.int .u32 C) ∧ w.cell? ⟨blk, at_ + 4, none⟩ = some (.int .u32 D) ∧ w.cell? ⟨blk, at_ + 5, none⟩ = some (.int .i64 N) ∧
    w.cell? ⟨blk, at_ + 6, none⟩ = some (.int .i64 M) ∧ w.cell? ⟨blk, at_ + 7, none⟩ = some vL ∧ w.cell? ⟨blk, at_ + 8, none⟩ = some vP ∧
    w.cell? ⟨blk, at_ + 9, none⟩ = some vB ∧ w.cell? ⟨blk, at_ + 10, none⟩ = some (.string s)
theorem OpAt.mono {w w' : World} {blk a : Nat} (h : OpAt w blk a) (hb : Below w.heap.size w w') (hlt : blk < w.heap.size) : OpAt w' blk a := by
  obtain ⟨K, A, B, C, D, N, M, vL, vP, vB, l, p, b, s, h0, k1, k2, c0, c1, c2, c3, c4, c5, c6, c7, c8, c9, c10⟩ := h
  have e : ∀ o, w'.cell? ⟨blk, o, none⟩ = w.cell? ⟨blk, o, none⟩ := fun o => hb.cell (p := ⟨blk, o, none⟩) hlt
  refine ⟨K, A, B, C, D, N, M, vL, vP, vB, l, p, b, s, h0.mono hb, k1, k2, ?_, ?_, ?_, ?_, ?_, ?_, ?_, ?_, ?_, ?_, ?_⟩ <;> (rw [e]; assumption)
set_option maxRecDepth 100000 in
set_option maxHeartbeats 1000000 in
theorem all_walk (ao : Option Addr) (n cap : Nat) (w : World) (h1 : n ≤ cap) (h2 : cap ≤ 9223372036854775807)
    (h3 : n = 0 ∨ ∃ blk off, ao = some ⟨blk, off, none⟩ ∧ blk < w.heap.size ∧ ∀ i, i < n → OpAt w blk (off + i * 11)) :
    Calls Try.prog 7 #[.slice ao n cap] w fun e w' => e = .returned (.bool true) ∧ Below w.heap.size w w' := by
  have h3 := Lib.hid h3
  have hx : ((hexS 48879).toList == [48, 48, 48, 48, 98, 101, 101, 102]) = true := by rw [ByteArray.toList_eq]; decide
  go_enter Try.func7, Try.ntmps7
  go_wp2_with (first
    | (go_at_call 32; refine (numbers_any _).mono ?_; rintro e w1 ⟨rfl, rfl⟩)
    | (go_at_call 31; refine (hex_any _ _ (by omega) (by omega)).mono ?_; rintro e w1 ⟨rfl, hb0⟩))
  go_loopw [3, 4] (fun i _ wr => ∃ k : Nat, k ≤ n ∧ i = .int .i64 k ∧ Below w.heap.size w wr) (fun i _ _ => n - (intOf i).toNat)
  case atStart => exact ⟨0, by omega, rfl, hb0⟩
  case round =>
    obtain ⟨k, hk, rfl, hb⟩ := hrel
    have hs := hb.size
    by_cases hlt : k < n
    · obtain ⟨blk, off, rfl, hblk, hat⟩ := h3.out.resolve_left (by omega)
      have hat := (hat k hlt).mono hb hblk
      obtain ⟨K, A, B, C, D, N, M, vL, vP, vB, l, p, b, s, ok, k1, k2, c0, c1, c2, c3, c4, c5, c6, c7, c8, c9, c10⟩ := hat
      have ok := Lib.hid ok
      have hB := Lib.hid hb
      clear hb
      go_wp2_with (first
        | (go_at_call 33; refine (plays_any _ _ _ _ _ _ _ _ _ _ l p b s _ ok.out k1 k2).mono ?_; rintro e w1 ⟨rfl, hb1⟩))
      go_roundw
      case rel => exact ⟨k + 1, by omega, by go_num, hB.out.trans (hb1.mono hs)⟩
      case measure => simp [intOf]; omega
    · obtain rfl : k = n := by omega
      go_wp2_with fail
      go_ret
      exact ⟨rfl, hb⟩
end Go.Proofs.Ytedhinekkmoheaa
