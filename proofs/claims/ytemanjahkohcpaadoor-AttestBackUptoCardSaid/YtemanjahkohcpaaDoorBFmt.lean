/- The contracts of attest's hex, lines and Format. -/
import Derived.Test.YtemanjahkohcpaaDoorBShelf
namespace Go.Proofs.YtemanjahkohcpaaDoor
open Go.RowKit WP
/-- texts, one behind the other, each with its end -/
def linesL (ls : List ByteArray) : List UInt8 := ls.flatMap fun s => strL s ++ [10]
theorem linesL_take (ls : List ByteArray) (k : Nat) (h : k < ls.length) : linesL (ls.take (k + 1)) = linesL (ls.take k) ++ (strL ls[k] ++ [10]) := by
  unfold linesL; rw [List.take_succ_eq_append_getElem h, List.flatMap_append]; simp
theorem hexf_any (l : List UInt32) (w : World) (h8 : l.length = 8) :
    Calls Tryd.prog 37 #[.agg (vw l).toArray] w fun e w' => e = .returned (.string ⟨(hexAllL l).toArray⟩) ∧ Below w.heap.size w w' := by
  obtain ⟨w1, hw1⟩ : ∃ w1, w.alloc (.cells (vw l).toArray 23) = w1 := ⟨_, rfl⟩
  have aL : Arr w1 w.heap.size 23 l := by rw [← hw1]; exact Arr.new w _ l
  have hb1 : Below w.heap.size w w1 := by rw [← hw1]; exact (Below.refl _ _).alloc (Nat.le_refl _) _
  have rL : Rd w1 (.slice (some ⟨w.heap.size, 0, none⟩) 8 8) (vw l) := by
    have := aL.rd 8 (by omega) (by simp [maxLen])
    rwa [h8] at this
  replace rL := Lib.hid rL; replace hb1 := Lib.hid hb1
  clear aL
  go_enter Tryd.func37, Tryd.ntmps37
  go_upto_region 1 with fail
  try (change Code.wp _ _ _ _ (w.alloc (.cells (vw l).toArray 23)); rw [hw1])
  clear hw1
  go_wp2_with fail
  refine (hexall_any _ l _ rL.out (by omega)).mono ?_
  rintro e w2 ⟨rfl, b2⟩
  have hb2 := Lib.hid (hb1.out.trans (b2.mono hb1.out.size))
  clear b2 rL hb1
  go_wp2_with fail
  go_ret
  exact ⟨rfl, hb2.out⟩
set_option maxRecDepth 100000 in
set_option maxHeartbeats 2000000 in
theorem lines_any (v : Value) (ls : List ByteArray) (w : World) (hv : Rd w v (ls.map Value.string)) (hlen : (linesL ls).length ≤ 1073741824) :
    Calls Tryd.prog 36 #[v] w fun e w' => e = .returned (.string ⟨(linesL ls).toArray⟩) ∧ Below w.heap.size w w' := by
  obtain ⟨ao, cap, rfl, n1, n2, hcs⟩ := hv
  rw [List.length_map] at n1 ⊢
  obtain ⟨n, hn⟩ : ∃ n, ls.length = n := ⟨_, rfl⟩
  rw [hn] at n1 ⊢
  have hB0 := Lib.fresh_isBuilder 114 5 w
  obtain ⟨w1, hw1⟩ : ∃ w1, w.alloc (.cells #[.pointer none, .slice none 0 0] 114) = w1 := ⟨_, rfl⟩
  rw [hw1] at hB0
  have hb1 : Below w.heap.size w w1 := by rw [← hw1]; exact (Below.refl _ _).alloc (Nat.le_refl _) _
  have hlt : w.heap.size < w1.heap.size := by rw [← hw1]; simp
  have n63 : (n : Int) ≤ 9223372036854775807 := by simp only [maxLen] at n2; omega
  replace hn := Lib.hid hn; replace hcs := Lib.hid hcs; replace hB0 := Lib.hid hB0; replace hb1 := Lib.hid hb1; replace hlen := Lib.hid hlen
  go_enter Tryd.func36, Tryd.ntmps36
  go_upto_region 2 with fail
  try (change Code.wp _ _ _ _ (w.alloc (.cells #[.pointer none, .slice none 0 0] 114)); rw [hw1])
  clear hw1
  go_wp2_with fail
  go_loopw [5, 8] (fun _ i wr => ∃ k : Nat, k ≤ n ∧ i = .int .i64 (k : Int) ∧ Lib.IsBuilder 114 5 w.heap.size w.heap.size (vb (linesL (ls.take k))) wr ∧ Below w.heap.size w wr ∧ w.heap.size < wr.heap.size) (fun _ i _ => n - (intOf i).toNat)
  case atStart => exact ⟨0, by omega, rfl, hB0.out, hb1.out, hlt⟩
  case round =>
    obtain ⟨wo, rfl⟩ : ∃ wo, wo = wr := ⟨wr, rfl⟩
    obtain ⟨k, hk, rfl, hB, hb, hsz⟩ := hrel
    by_cases hlt2 : k < n
    · have hkl : k < ls.length := by rw [hn.out]; exact hlt2
      obtain ⟨s, hs⟩ : ∃ s, ls[k] = s := ⟨_, rfl⟩
      have htk := linesL_take ls k hkl
      rw [hs] at htk
      obtain ⟨b, off, rfl, hc⟩ := hcs.out.resolve_left (by intro h; have := congrArg List.length h; rw [List.length_map] at this; simp at this; rw [this] at hkl; simp at hkl)
      have hcell : wo.cell? ⟨b, off + k, none⟩ = some (.string s) := by
        have h1 := hc k (.string s) (by rw [List.getElem?_map, List.getElem?_eq_getElem hkl, hs]; rfl)
        rw [hb.cell (p := ⟨b, off + k, none⟩) (World.block_lt_of_cell? w _ h1)]; exact h1
      have hle : (linesL (ls.take (k + 1))).length ≤ (linesL ls).length := by
        have e : linesL ls = linesL (ls.take (k + 1)) ++ linesL (ls.drop (k + 1)) := by unfold linesL; rw [← List.flatMap_append, List.take_append_drop]
        rw [e, List.length_append]; omega
      have hl0 := hlen.out
      have hlk : (vb (linesL (ls.take k))).length + (s ++ ⟨#[10]⟩ : ByteArray).size ≤ 140737488355328 := by
        rw [htk, List.length_append, List.length_append] at hle
        have e1 : (s ++ ⟨#[10]⟩ : ByteArray).size = s.size + 1 := by rw [ByteArray.size_append]; rfl
        have e2 := strL_length s
        rw [length_vb, e1]
        simp only [List.length_cons, List.length_nil] at hle
        omega
      have hcat : vb (linesL (ls.take k)) ++ Lib.strCells (s ++ ⟨#[10]⟩) = vb (linesL (ls.take (k + 1))) := by
        rw [htk, vb_append]
        refine congrArg (fun z => vb (linesL (ls.take k)) ++ z) ?_
        show vb (strL (s ++ ⟨#[10]⟩)) = _
        refine congrArg vb ?_
        unfold strL; simp
      have hs63 : ¬ 9223372036854775807 < s.size + 1 := by
        have e1 : (s ++ ⟨#[10]⟩ : ByteArray).size = s.size + 1 := by rw [ByteArray.size_append]; rfl
        rw [e1] at hlk; omega
      have i1 : (0 : Int) ≤ (k : Int) := by omega
      have i2 : (k : Int) < (n : Int) := by omega
      clear hc hkl hs htk hle hl0
      replace hB := Lib.hid hB; replace hb := Lib.hid hb; replace hlk := Lib.hid hlk; replace hcat := Lib.hid hcat
      go_wp2_with fail
      refine (ws_any w.heap.size w.heap.size _ _ _ hB.out hlk.out (by omega)).mono ?_
      rintro e w3 ⟨rfl, hB3, b3⟩
      rw [hcat.out] at hB3
      have hb3 := hb.out.trans b3
      have hs3 := b3.size
      clear b3 hs63
      replace hB3 := Lib.hid hB3; replace hb3 := Lib.hid hb3
      go_wp2_with fail
      go_roundw
      case rel => exact ⟨k + 1, by omega, by go_num, .inr hB3.out, hb3.out, by omega⟩
      case measure => simp [intOf]; omega
    · obtain rfl : k = n := by omega
      have htk : ls.take k = ls := by rw [← hn.out]; exact List.take_length
      rw [htk] at hB
      replace hB := Lib.hid hB; replace hb := Lib.hid hb
      clear htk
      go_wp2_with fail
      refine (str_any w.heap.size w.heap.size _ _ hB.out (by omega)).mono ?_
      rintro e w3 ⟨rfl, b3⟩
      have hb3 := Lib.hid (hb.out.trans b3)
      clear b3
      go_wp2_with fail
      go_ret
      exact ⟨rfl, hb3.out⟩
end Go.Proofs.YtemanjahkohcpaaDoor
