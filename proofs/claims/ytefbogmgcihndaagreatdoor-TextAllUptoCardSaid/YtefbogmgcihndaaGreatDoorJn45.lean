/- The law's same and sameWords, asked of lists that are alike. The law's padded. -/
import Derived.Test.YtefbogmgcihndaaGreatDoorTCols
import Derived.Test.YtefbogmgcihndaaGreatDoorTWdP
import Derived.BigQuiet
import Derived.Test.YtefbogmgcihndaaGreatDoorTSm
import Derived.Test.YtefbogmgcihndaaGreatDoorTRd
namespace Go.Proofs.YtefbogmgcihndaaGreatDoor
open Go.RowKit WP
theorem rd_strs {w : World} {v : Value} {l : List ByteArray} (h : Rd w v (vs l)) : ∃ ao ca, v = .slice ao l.length ca ∧ l.length ≤ ca ∧ ca ≤ 9223372036854775807 ∧ ∀ i, i < l.length → ∃ b off, ao = some ⟨b, off, none⟩ ∧ w.cell? ⟨b, off + i, none⟩ = some (.string (nthB l i)) := by
  obtain ⟨ao, ca, hV, a1, a2, a3⟩ := h
  rw [vs_length] at hV a1
  refine ⟨ao, ca, hV, a1, by simpa [maxLen] using a2, fun i hi => ?_⟩
  rcases a3 with a3 | ⟨b, off, rfl, a3⟩
  · have h0 := congrArg List.length a3; rw [vs_length] at h0; have h0 : l.length = 0 := h0; omega
  · exact ⟨b, off, rfl, a3 i _ (vs_get _ _ hi)⟩
set_option maxRecDepth 100000 in
set_option maxHeartbeats 1000000 in
theorem lsame_any (v u : Value) (l : List ByteArray) (w : World) (hv : Rd w v (vs l)) (hu : Rd w u (vs l)) :
    Calls Tryz.prog 12 #[v, u] w fun e w' => e = .returned (.bool true) ∧ ∃ n, w' = w.drewN n := by
  obtain ⟨ao, ca, rfl, a1, a2, a3⟩ := rd_strs hv
  obtain ⟨bo, cb, rfl, b1, b2, b3⟩ := rd_strs hu
  have hne : ((l.length : Int) != (l.length : Int)) = false := by simp
  replace a3 := Lib.hid a3; replace b3 := Lib.hid b3
  clear hv hu
  go_enter Tryz.func12, Tryz.ntmps12
  go_wp2_with fail
  go_loopw [5] (fun i wr => ∃ k : Nat, k ≤ l.length ∧ i = .int .i64 k ∧ ∃ n, wr = w.drewN n) (fun i _ => l.length - (intOf i).toNat)
  case atStart => exact ⟨0, by omega, rfl, 0, rfl⟩
  case round =>
    obtain ⟨k, hk, rfl, n, rfl⟩ := hrel
    by_cases hlt : k < l.length
    · obtain ⟨ab, af, rfl, hc⟩ := a3.out k hlt
      obtain ⟨bb, bf, rfl, hd⟩ := b3.out k hlt
      generalize nthB l k = S at *
      have i1 : (0 : Int) ≤ (k : Int) := by omega
      have i2 : (k : Int) < (l.length : Int) := by omega
      have d1 : decide ((k : Int) < (l.length : Int)) = true := decide_eq_true i2
      go_wp2_with fail
      go_quiet (fail)
      go_wp2_with fail
      go_roundw
      case rel => exact ⟨k + 1, by omega, by go_num, n + nq, rfl⟩
      case measure => simp [intOf]; omega
    · obtain rfl : k = l.length := by omega
      have d1 : decide ((l.length : Int) < (l.length : Int)) = false := decide_eq_false (by omega)
      go_wp2_with fail
      go_ret
      exact ⟨rfl, n, rfl⟩
/-- a list of words that only is read -/
def WdAt (w : World) (v : Value) (l : List W) : Prop :=
  ∃ ao ca, v = .slice ao l.length ca ∧ l.length ≤ ca ∧ ca ≤ 9223372036854775807 ∧ ∀ (i : Nat) (h : i < l.length), ∃ b off, ao = some ⟨b, off, none⟩ ∧ off = 0 ∧ w.cell? ⟨b, i * 3, none⟩ = some (.string (l[i]).1) ∧ w.cell? ⟨b, i * 3 + 1, none⟩ = some (.bool (l[i]).2.1) ∧ w.cell? ⟨b, i * 3 + 2, none⟩ = some (.int .i64 ((l[i]).2.2 : Int))
theorem ww_get3 : ∀ (l : List W) (j : Nat) (h : j < l.length), (ww l)[j * 3]? = some (.string (l[j]).1) ∧ (ww l)[j * 3 + 1]? = some (.bool (l[j]).2.1) ∧ (ww l)[j * 3 + 2]? = some (.int .i64 ((l[j]).2.2 : Int))
  | [], j, h => absurd h (by simp)
  | x :: l, 0, _ => ⟨rfl, rfl, rfl⟩
  | x :: l, j + 1, h => by
    have ih := ww_get3 l j (by simpa using h)
    have e : ww (x :: l) = [.string x.1, .bool x.2.1, .int .i64 (x.2.2 : Int)] ++ ww l := rfl
    have e1 : (j + 1) * 3 = j * 3 + 3 := by omega
    rw [e, e1]
    exact ih
theorem ww_length (l : List W) : (ww l).length = l.length * 3 := by
  induction l with
  | nil => rfl
  | cons x l ih => show (_ ++ ww l).length = _; rw [List.length_append, ih]; simp; omega
theorem WdAt.of_own {w : World} {B : Nat} {e : TypeId} {v : Value} {l : List W} (h : w.ownsRow B e 3 v l.length (ww l)) : WdAt w v l := by
  rcases h.2 with ⟨rfl, hn⟩ | ⟨g, cap, cur, rfl, h1, h2, h3, h4, h5, h6⟩
  · refine ⟨none, 0, by rw [hn], by omega, by omega, fun i hi => absurd hi (by omega)⟩
  · refine ⟨_, cap, rfl, h3, by simpa [maxLen] using h4, fun i hi => ⟨g, 0, rfl, rfl, ?_, ?_, ?_⟩⟩
    · have := h.cellAt (i * 3) (by omega); rw [this]; exact (ww_get3 l i hi).1
    · have := h.cellAt (i * 3 + 1) (by omega); rw [this]; exact (ww_get3 l i hi).2.1
    · have := h.cellAt (i * 3 + 2) (by omega); rw [this]; exact (ww_get3 l i hi).2.2
set_option maxRecDepth 100000 in
set_option maxHeartbeats 2000000 in
theorem sameWords_any (v u : Value) (l : List W) (w : World) (hv : WdAt w v l) (hu : WdAt w u l) :
    Calls Tryz.prog 14 #[v, u] w fun e w' => e = .returned (.bool true) ∧ ∃ n, w' = w.drewN n := by
  obtain ⟨ao, ca, rfl, a1, a2, a3⟩ := hv
  obtain ⟨bo, cb, rfl, b1, b2, b3⟩ := hu
  have hne : ((l.length : Int) != (l.length : Int)) = false := by simp
  replace a3 := Lib.hid a3; replace b3 := Lib.hid b3
  go_enter Tryz.func14, Tryz.ntmps14
  go_wp2_with fail
  go_loopw [5] (fun i wr => ∃ k : Nat, k ≤ l.length ∧ i = .int .i64 k ∧ ∃ n, wr = w.drewN n) (fun i _ => l.length - (intOf i).toNat)
  case atStart => exact ⟨0, by omega, rfl, 0, rfl⟩
  case round =>
    obtain ⟨k, hk, rfl, n, rfl⟩ := hrel
    by_cases hlt : k < l.length
    · obtain ⟨ab, af, rfl, rfl, c0, c1, c2⟩ := a3.out k hlt
      obtain ⟨bb, bf, rfl, rfl, e0, e1, e2⟩ := b3.out k hlt
      generalize l[k] = x at *
      obtain ⟨S, q, z⟩ := x
      simp only at c0 c1 c2 e0 e1 e2
      have i1 : (0 : Int) ≤ (k : Int) := by omega
      have i2 : (k : Int) < (l.length : Int) := by omega
      have d1 : decide ((k : Int) < (l.length : Int)) = true := decide_eq_true i2
      go_wp2_with fail
      go_quiet (fail)
      go_wp2_with fail
      go_roundw
      case rel => exact ⟨k + 1, by omega, by go_num, n + nq, rfl⟩
      case measure => simp [intOf]; omega
    · obtain rfl : k = l.length := by omega
      have d1 : decide ((l.length : Int) < (l.length : Int)) = false := decide_eq_false (by omega)
      go_wp2_with fail
      go_ret
      exact ⟨rfl, n, rfl⟩
end Go.Proofs.YtefbogmgcihndaaGreatDoor

namespace Go.Proofs.YtefbogmgcihndaaGreatDoor
open Go.RowKit WP
set_option maxRecDepth 100000 in
set_option maxHeartbeats 1000000 in
theorem padded_any (s : ByteArray) (pad : Int) (w : World) (hs : s.size ≤ 1048576) :
    Calls Tryz.prog 9 #[.string s, .int .i64 pad] w fun e w' => (∃ P : ByteArray, e = .returned (.string P) ∧ P.size ≤ 1114116) ∧ Below w.heap.size w w' := by
  obtain ⟨i0, hi, hz0, hz1, hz2⟩ := info_parts infoBr
  have hcv : Lib.strCells s = vb s.data.toList := rfl
  have hsl := size_list s
  obtain ⟨l, hl⟩ : ∃ l, s.data.toList = l := ⟨_, rfl⟩
  rw [hl] at hcv hsl
  clear hl
  have hlb : l.length ≤ 1048576 := by omega
  replace hcv := Lib.hid hcv; replace hsl := Lib.hid hsl
  go_enter Tryz.func9, Tryz.ntmps9
  go_wp2_with (at_builtin; refine Lib.wpList_append_own_string _ rfl _ _ 25 9 rfl w.heap.size 5 i0 Tryz.underlying25 Tryz.underlying9 hi hz0 hz1 hz2 _ 0 [] rfl (World.ownsRow_nil _ _ _ _) _ rfl ?h3 ?h4 ?h5 ?_)
  case h3 => unfold maxLen; omega
  case h4 => omega
  case h5 => exact Nat.le_refl _
  intro v4 w4 ho4 hg4 _
  have ho : w4.ownsRow w.heap.size 5 1 v4 l.length (vb l) := by rw [← hcv.out, hsl.out]; simpa using ho4
  have hb : Below w.heap.size w w4 := (Below.refl w.heap.size w).grown hg4 (Nat.le_refl _) (fun k hk => by simp [Value.ownBlock] at hk)
  clear ho4 hg4
  replace ho := Lib.hid ho; replace hb := Lib.hid hb
  go_wp2_with fail
  go_loopw [5, 6] (fun v i wr => ∃ k : Nat, k ≤ 65540 ∧ i = .int .i64 k ∧ wr.ownsRow w.heap.size 5 1 v (l.length + k) (vb (l ++ List.replicate k 97)) ∧ Below w.heap.size w wr) (fun _ i _ => 65540 - (intOf i).toNat)
  case atStart => exact ⟨0, by omega, rfl, by simpa using ho.out, hb.out⟩
  case round =>
    clear ho hb
    obtain ⟨wo, rfl⟩ : ∃ wo, wo = wr := ⟨wr, rfl⟩
    obtain ⟨vr, rfl⟩ : ∃ b, b = u5 := ⟨u5, rfl⟩
    obtain ⟨k, hk, rfl, ho, hb⟩ := hrel
    have hs1 := hb.size
    obtain ⟨al, cl, rfl⟩ := slice_form ho
    have hcv2 := conv_bytes (P := Tryz.prog) (Rd.of_own ho) 25 5 9 Tryz.underlying25 Tryz.underlying5 Tryz.underlying9
    obtain ⟨P, hP⟩ : ∃ P : ByteArray, ⟨(l ++ List.replicate k 97).toArray⟩ = P := ⟨_, rfl⟩
    have hPs : P.size ≤ 1114116 := by rw [← hP]; show (l ++ List.replicate k 97).toArray.size ≤ _; simp; omega
    rw [hP] at hcv2
    clear hP
    replace ho := Lib.hid ho; replace hb := Lib.hid hb
    by_cases hlt : (k : Int) < pad
    · have d1 : decide ((k : Int) < pad) = true := decide_eq_true hlt
      by_cases h2 : k < 65540
      · have d2 : decide ((k : Int) < 65540) = true := decide_eq_true (by omega)
        go_wp2_with (at_builtin; refine wpList_append_onto' _ rfl _ _ 25 rfl w.heap.size 5 i0 (.int .u8 0) 1 1 Tryz.underlying25 hi hz0 hz1 hz2 rfl (by decide) _ _ _ rfl (ho.out.alloc _) ⟨wo.heap.size, 0, none⟩ 1 1 [.int .u8 97] rfl rfl ?c1 ?c2 ?c3 ?c4 ?c5 ?_)
        case c1 => exact cell_one_new _ _ _
        case c2 => simp [Value.oneCell']
        case c3 => simp only [maxLen]; omega
        case c4 => omega
        case c5 => simp; omega
        intro v1 w1 ho1 hO1
        have hfin : w1.ownsRow w.heap.size 5 1 v1 (l.length + (k + 1)) (vb (l ++ List.replicate (k + 1) 97)) := by
          rw [List.replicate_succ', ← List.append_assoc, vb_append, ← Nat.add_assoc]; exact ho1
        have hb2 : Below w.heap.size w w1 := hb.out.trans ((Below.alloc (Below.refl _ _) hs1 _).trans (hO1.below (by simp; omega) (fun g hg => (ho.out.lt g hg).1)))
        clear ho1 hO1 hcv2
        replace hfin := Lib.hid hfin; replace hb2 := Lib.hid hb2
        go_wp2_with fail
        go_roundw
        case rel => exact ⟨k + 1, by omega, by go_num, hfin.out, hb2.out⟩
        case measure => simp [intOf]; omega
      · have d2 : decide ((k : Int) < 65540) = false := decide_eq_false (by omega)
        go_wp2_with fail
        go_ret
        exact ⟨⟨P, rfl, hPs⟩, hb.out⟩
    · have d1 : decide ((k : Int) < pad) = false := decide_eq_false hlt
      go_wp2_with fail
      go_ret
      exact ⟨⟨P, rfl, hPs⟩, hb.out⟩
end Go.Proofs.YtefbogmgcihndaaGreatDoor
