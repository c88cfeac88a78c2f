/- The contract of ParseAll of package word. -/
import Derived.Test.YtedhinekkmoheaaWordD
namespace Go.Proofs.Ytedhinekkmoheaa
open Go.RowKit WP

def chunkN (s : ByteArray) (i : Nat) : Option Nat := parse8 (s.extract (8 * i) s.size)
def chunkI (s : ByteArray) (i : Nat) : Int := (((chunkN s i).getD 0 : Nat) : Int)
theorem parse8_lt (s : ByteArray) (n : Nat) (h : parse8 s = some n) : n < 4294967296 := by
  have h1 := parseFrom_lt _ _ _ h
  have h2 : ((strL s).take 8).length ≤ 8 := by simp; omega
  have h3 : (16 : Nat) ^ ((strL s).take 8).length ≤ 16 ^ 8 := Nat.pow_le_pow_right (by decide) h2
  omega
theorem chunkI_bd (s : ByteArray) (i : Nat) : 0 ≤ chunkI s i ∧ chunkI s i ≤ 4294967295 := by
  unfold chunkI
  cases h : chunkN s i with
  | none => simp
  | some n => have := parse8_lt _ _ h; simp; omega
def parseAllL (s : ByteArray) : List UInt32 := (List.range (s.size / 8)).map fun i => ofI (chunkI s i)
def ParseAllPost (s : ByteArray) (w : World) (e : Ending) (w' : World) : Prop :=
  Below w.heap.size w w' ∧
    ((∃ v', e = .returned (.tuple #[v', .int .i64 0]) ∧ w'.ownsRow w.heap.size 22 1 v' (s.size / 8) (vw (parseAllL s)) ∧ ∀ i, i < s.size / 8 → chunkN s i ≠ none) ∨
     (e = .returned (.tuple #[.slice none 0 0, .int .i64 10]) ∧ ∃ i, i < s.size / 8 ∧ chunkN s i = none))
set_option maxHeartbeats 800000 in
theorem parseall_any (s : ByteArray) (w : World) (hl : s.size ≤ 2097152) (h8 : s.size % 8 = 0) :
    Calls Try.prog 29 #[.string s] w (ParseAllPost s w) := by
  obtain ⟨i0, hi, hz0, hz1, hz2⟩ := info_parts info22
  obtain ⟨n, hn⟩ : ∃ n, s.size = 8 * n := ⟨s.size / 8, by omega⟩
  have hn' := Lib.hid hn
  have e1 : ((s.size : Int) % 8 != 0) = false := by simp; omega
  have e2 : (s.size : Int) / 8 = n := by omega
  have hn1 : n ≤ 262144 := by omega
  have hn2 : 8 * n ≤ s.size := by omega
  clear hn h8
  go_enter Try.func29, Try.ntmps29
  go_wp2_with (at_make; refine wpList_make_full _ rfl _ _ 39 rfl w.heap.size 22 i0 (.int .u32 0) 1 Try.underlying39 hi hz0 hz1 .i64 .i64 _ _ n rfl rfl ?m0 ?m4 ?m1 ?m2 ?m3 ?_)
  case m0 => rfl
  case m4 => rfl
  case m1 => rw [hz2]; omega
  case m2 => simp only [maxLen]; omega
  case m3 => exact Nat.le_refl _
  intro w1 ho hg
  have hb := (Below.refl w.heap.size w).grown hg (Nat.le_refl _) (by simp)
  have ho : w1.ownsRow w.heap.size 22 1 (.slice (some ⟨w.heap.size, 0, none⟩) n n) n (filled (chunkI s) n 0) := by
    rw [filled_zero, ← toList_madeCells_one]; exact ho
  clear hg e1 e2
  have ho := Lib.hid ho; have hb := Lib.hid hb
  go_wp2
  go_loopw [5, 6, 7, 21] (fun _ _ _ i wr => ∃ k : Nat, k ≤ n ∧ i = .int .i64 k ∧ wr.ownsRow w.heap.size 22 1 (.slice (some ⟨w.heap.size, 0, none⟩) n n) n (filled (chunkI s) n k) ∧ (∀ i, i < k → chunkN s i ≠ none) ∧ Below w.heap.size w wr) (fun _ _ _ i _ => n - (intOf i).toNat)
  case atStart => exact ⟨0, by omega, rfl, ho.out, by intro i h; omega, hb.out⟩
  case round =>
    obtain ⟨k, hk, rfl, ho, hall, hb⟩ := hrel
    have hs := hb.size
    by_cases hlt : k < n
    · obtain ⟨u, hu⟩ := filled_get (chunkI s) n k hlt
      have hcu := (ho.cellAt k (by omega)).trans hu
      have hfu := ho.frozenAt k
      have hst := ho.stored k (.int .u32 (chunkI s k))
      have ho := Lib.hid ho; have hb := Lib.hid hb
      have hst := Lib.hid hst
      have hall := Lib.hid hall
      clear hu
      have hk8 : 8 * k + 8 ≤ s.size := by omega
      have hsz : (s.extract (8 * k) s.size).size = s.size - 8 * k := by simp
      have hsz := Lib.hid hsz
      cases hp : chunkN s k with
      | some m =>
        have hm : chunkI s k = (m : Int) := by unfold chunkI; rw [hp]; rfl
        have hp8 : parse8 (s.extract (8 * k) s.size) = some m := hp
        have hp := Lib.hid hp; have hp8 := Lib.hid hp8
        rw [hm] at hst
        have hm := Lib.hid hm
        go_wp2_with (go_at_call 43; refine (parse_any _ _ (by rw [hsz.out]; omega) (by rw [hsz.out]; omega)).mono ?_; rw [hp8.out]; unfold parseV; rintro e w' ⟨rfl, rfl⟩)
        go_roundw
        case rel =>
          refine ⟨k + 1, by omega, by go_num, ?_, ?_, ?_⟩
          · rw [← filled_step _ _ _ hlt, hm.out]; exact hst.out.1
          · intro i hi
            by_cases hik : i = k
            · rw [hik, hp.out]; simp
            · exact hall.out i (by omega)
          · exact hb.out.grown hst.out.2 hs (by simp)
        case measure => simp [intOf]; omega
      | none =>
        have hp8 : parse8 (s.extract (8 * k) s.size) = none := hp
        have hp := Lib.hid hp; have hp8 := Lib.hid hp8
        go_wp2_with (go_at_call 43; refine (parse_any _ _ (by rw [hsz.out]; omega) (by rw [hsz.out]; omega)).mono ?_; rw [hp8.out]; unfold parseV; rintro e w' ⟨rfl, rfl⟩)
        go_ret2
        refine ⟨hb.out, .inr ⟨rfl, k, ?_, hp.out⟩⟩
        have := hn'.out; omega
    · obtain rfl : k = n := by omega
      rw [filled_full _ _ (chunkI_bd s)] at ho
      have ho := Lib.hid ho; have hb := Lib.hid hb; have hall := Lib.hid hall
      go_wp2
      go_ret2
      have hdiv : s.size / 8 = k := by have := hn'.out; omega
      refine ⟨hb.out, .inl ⟨_, rfl, ?_, ?_⟩⟩
      · unfold parseAllL; rw [hdiv]; exact ho.out
      · rw [hdiv]; exact hall.out
theorem parseall_long (s : ByteArray) (w : World) (hm : s.size ≤ 9223372036854775807) (hl : 2097152 < s.size) :
    Calls Try.prog 29 #[.string s] w fun e w' => e = .returned (.tuple #[.slice none 0 0, .int .i64 2]) ∧ w = w' := by
  go_enter Try.func29, Try.ntmps29
  go_wp2
  go_ret2
  exact ⟨rfl, rfl⟩
theorem parseall_part (s : ByteArray) (w : World) (hl : s.size ≤ 2097152) (h8 : s.size % 8 ≠ 0) :
    Calls Try.prog 29 #[.string s] w fun e w' => e = .returned (.tuple #[.slice none 0 0, .int .i64 10]) ∧ w = w' := by
  have e1 : ((s.size : Int) % 8 != 0) = true := by simp; omega
  clear h8
  go_enter Try.func29, Try.ntmps29
  go_wp2
  go_ret2
  exact ⟨rfl, rfl⟩
end Go.Proofs.Ytedhinekkmoheaa
