/- The law's same and sameWords, asked of lists that are alike. -/
import Derived.Test.YtefbogmgcihndaaDoorTCols
import Derived.Test.YtefbogmgcihndaaDoorTWdP
import Derived.BigQuiet
namespace Go.Proofs.YtefbogmgcihndaaDoor
open Go.RowKit WP
theorem rd_strs {w : World} {v : Value} {l : List ByteArray} (h : Rd w v (vs l)) : ∃ ao ca, v = .slice ao l.length ca ∧ l.length ≤ ca ∧ ca ≤ 9223372036854775807 ∧ ∀ i, i < l.length → ∃ b off, ao = some ⟨b, off, none⟩ ∧ w.cell? ⟨b, off + i, none⟩ = some (.string (nthB l i)) := by
  obtain ⟨ao, ca, hV, a1, a2, a3⟩ := h
  rw [vs_length] at hV a1
  refine ⟨ao, ca, hV, a1, by simpa [maxLen] using a2, fun i hi => ?_⟩
  rcases a3 with a3 | ⟨b, off, rfl, a3⟩
  · have h0 := congrArg List.length a3; rw [vs_length] at h0; have h0 : l.length = 0 := h0; omega
  · exact ⟨b, off, rfl, a3 i _ (vs_get _ _ hi)⟩
set_option maxRecDepth 100000 in
set_option maxHeartbeats 1000000 in
theorem lsame_any (v u : Value) (l : List ByteArray) (w : World) (hv : Rd w v (vs l)) (hu : Rd w u (vs l)) :
    Calls Tryd.prog 42 #[v, u] w fun e w' => e = .returned (.bool true) ∧ ∃ n, w' = w.drewN n := by
  obtain ⟨ao, ca, rfl, a1, a2, a3⟩ := rd_strs hv
  obtain ⟨bo, cb, rfl, b1, b2, b3⟩ := rd_strs hu
  have hne : ((l.length : Int) != (l.length : Int)) = false := by simp
  replace a3 := Lib.hid a3; replace b3 := Lib.hid b3
  clear hv hu
  go_enter Tryd.func42, Tryd.ntmps42
  go_wp2_with fail
  go_loopw [5] (fun i wr => ∃ k : Nat, k ≤ l.length ∧ i = .int .i64 k ∧ ∃ n, wr = w.drewN n) (fun i _ => l.length - (intOf i).toNat)
  case atStart => exact ⟨0, by omega, rfl, 0, rfl⟩
  case round =>
    obtain ⟨k, hk, rfl, n, rfl⟩ := hrel
    by_cases hlt : k < l.length
    · obtain ⟨ab, af, rfl, hc⟩ := a3.out k hlt
      obtain ⟨bb, bf, rfl, hd⟩ := b3.out k hlt
      generalize nthB l k = S at *
      have i1 : (0 : Int) ≤ (k : Int) := by omega
      have i2 : (k : Int) < (l.length : Int) := by omega
      have d1 : decide ((k : Int) < (l.length : Int)) = true := decide_eq_true i2
      go_wp2_with fail
      go_quiet (fail)
      go_wp2_with fail
      go_roundw
      case rel => exact ⟨k + 1, by omega, by go_num, n + nq, rfl⟩
      case measure => simp [intOf]; omega
    · obtain rfl : k = l.length := by omega
      have d1 : decide ((l.length : Int) < (l.length : Int)) = false := decide_eq_false (by omega)
      go_wp2_with fail
      go_ret
      exact ⟨rfl, n, rfl⟩
/-- a list of words that only is read -/
def WdAt (w : World) (v : Value) (l : List W) : Prop :=
  ∃ ao ca, v = .slice ao l.length ca ∧ l.length ≤ ca ∧ ca ≤ 9223372036854775807 ∧ ∀ (i : Nat) (h : i < l.length), ∃ b off, ao = some ⟨b, off, none⟩ ∧ off = 0 ∧ w.cell? ⟨b, i * 3, none⟩ = some (.string (l[i]).1) ∧ w.cell? ⟨b, i * 3 + 1, none⟩ = some (.bool (l[i]).2.1) ∧ w.cell? ⟨b, i * 3 + 2, none⟩ = some (.int .i64 ((l[i]).2.2 : Int))
theorem ww_get3 : ∀ (l : List W) (j : Nat) (h : j < l.length), (ww l)[j * 3]? = some (.string (l[j]).1) ∧ (ww l)[j * 3 + 1]? = some (.bool (l[j]).2.1) ∧ (ww l)[j * 3 + 2]? = some (.int .i64 ((l[j]).2.2 : Int))
  | [], j, h => absurd h (by simp)
  | x :: l, 0, _ => ⟨rfl, rfl, rfl⟩
  | x :: l, j + 1, h => by
    have ih := ww_get3 l j (by simpa using h)
    have e : ww (x :: l) = [.string x.1, .bool x.2.1, .int .i64 (x.2.2 : Int)] ++ ww l := rfl
    have e1 : (j + 1) * 3 = j * 3 + 3 := by omega
    rw [e, e1]
    exact ih
theorem ww_length (l : List W) : (ww l).length = l.length * 3 := by
  induction l with
  | nil => rfl
  | cons x l ih => show (_ ++ ww l).length = _; rw [List.length_append, ih]; simp; omega
theorem WdAt.of_own {w : World} {B : Nat} {e : TypeId} {v : Value} {l : List W} (h : w.ownsRow B e 3 v l.length (ww l)) : WdAt w v l := by
  rcases h.2 with ⟨rfl, hn⟩ | ⟨g, cap, cur, rfl, h1, h2, h3, h4, h5, h6⟩
  · refine ⟨none, 0, by rw [hn], by omega, by omega, fun i hi => absurd hi (by omega)⟩
  · refine ⟨_, cap, rfl, h3, by simpa [maxLen] using h4, fun i hi => ⟨g, 0, rfl, rfl, ?_, ?_, ?_⟩⟩
    · have := h.cellAt (i * 3) (by omega); rw [this]; exact (ww_get3 l i hi).1
    · have := h.cellAt (i * 3 + 1) (by omega); rw [this]; exact (ww_get3 l i hi).2.1
    · have := h.cellAt (i * 3 + 2) (by omega); rw [this]; exact (ww_get3 l i hi).2.2
set_option maxRecDepth 100000 in
set_option maxHeartbeats 2000000 in
theorem sameWords_any (v u : Value) (l : List W) (w : World) (hv : WdAt w v l) (hu : WdAt w u l) :
    Calls Tryd.prog 43 #[v, u] w fun e w' => e = .returned (.bool true) ∧ ∃ n, w' = w.drewN n := by
  obtain ⟨ao, ca, rfl, a1, a2, a3⟩ := hv
  obtain ⟨bo, cb, rfl, b1, b2, b3⟩ := hu
  have hne : ((l.length : Int) != (l.length : Int)) = false := by simp
  replace a3 := Lib.hid a3; replace b3 := Lib.hid b3
  go_enter Tryd.func43, Tryd.ntmps43
  go_wp2_with fail
  go_loopw [5] (fun i wr => ∃ k : Nat, k ≤ l.length ∧ i = .int .i64 k ∧ ∃ n, wr = w.drewN n) (fun i _ => l.length - (intOf i).toNat)
  case atStart => exact ⟨0, by omega, rfl, 0, rfl⟩
  case round =>
    obtain ⟨k, hk, rfl, n, rfl⟩ := hrel
    by_cases hlt : k < l.length
    · obtain ⟨ab, af, rfl, rfl, c0, c1, c2⟩ := a3.out k hlt
      obtain ⟨bb, bf, rfl, rfl, e0, e1, e2⟩ := b3.out k hlt
      generalize l[k] = x at *
      obtain ⟨S, q, z⟩ := x
      simp only at c0 c1 c2 e0 e1 e2
      have i1 : (0 : Int) ≤ (k : Int) := by omega
      have i2 : (k : Int) < (l.length : Int) := by omega
      have d1 : decide ((k : Int) < (l.length : Int)) = true := decide_eq_true i2
      go_wp2_with fail
      go_quiet (fail)
      go_wp2_with fail
      go_roundw
      case rel => exact ⟨k + 1, by omega, by go_num, n + nq, rfl⟩
      case measure => simp [intOf]; omega
    · obtain rfl : k = l.length := by omega
      have d1 : decide ((l.length : Int) < (l.length : Int)) = false := decide_eq_false (by omega)
      go_wp2_with fail
      go_ret
      exact ⟨rfl, n, rfl⟩
end Go.Proofs.YtefbogmgcihndaaDoor
