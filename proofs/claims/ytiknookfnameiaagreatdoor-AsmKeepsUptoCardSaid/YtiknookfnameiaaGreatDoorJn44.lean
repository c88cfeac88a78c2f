/- The contract of the reference's text: one word's line (printed by genAsL.py). The library's strings.Builder at this seat's program: WriteString, String. Print's plain side: names of places, bounds of the lines. -/
import Derived.Test.YtiknookfnameiaaGreatDoorAsLJn
import Derived.Test.YtiknookfnameiaaGreatDoorJn40
import Derived.Test.YtiknookfnameiaaGreatDoorJn04
import Derived.WalkKit
import Derived.Shelf.Strings.Builder1
import Derived.Lib.AppendStr
namespace Go.Proofs
open Go.RowKit
namespace YtiknookfnameiaaGreatDoor
open WP
end YtiknookfnameiaaGreatDoor
end Go.Proofs

namespace Go.Proofs
open Go.RowKit Go.Shelf
namespace YtiknookfnameiaaGreatDoor
open Go WP
set_option maxRecDepth 100000
theorem extraBStr : Builder.Extra Tryz.prog laysBStr_ren := {
  sizeBuilder := by kernel_rfl
  liesBuilder := by kernel_rfl
  t5 := Tryz.underlying5
  a5 := Tryz.isAgg5
  z5 := Tryz.sizeOf5
  v5 := Tryz.zeroValue5
  infoByte := by kernel_rfl
  cellsByte := by kernel_rfl
  sizeByte := by kernel_rfl
  neB5 := by decide }
theorem infoB : (Tryz.prog.info? 103).map (·.size) = some 2 := by kernel_rfl
theorem liesB : liesAt Tryz.prog Tryz.prog.depth 103 (2 / Tryz.prog.cellsOf 103) 0 103 1 = true := by kernel_rfl
set_option maxHeartbeats 1000000 in
set_option maxRecDepth 100000 in
theorem copied_used (b : Nat) (w : World) (h0 : w.cell? ⟨b, 0, none⟩ = some (.pointer (some ⟨b, 0, none⟩))) :
    Calls Tryz.prog 54 #[.pointer (some ⟨b, 0, none⟩)] w fun e w' => e = .returned (.tuple #[]) ∧ w' = w := by
  obtain ⟨j, hj, _⟩ := Option.map_eq_some_iff.1 infoB
  go_enter Tryz.func54, Tryz.ntmps54
  go_wp2
  rw [Lib.run_neq_ptr_same w _ Tryz.underlying100 hj]
  go_wp2
  go_end0
  exact ⟨rfl, rfl⟩
set_option maxHeartbeats 1000000 in
set_option maxRecDepth 100000 in
theorem copied_fresh (b : Nat) (w : World) (h0 : w.cell? ⟨b, 0, none⟩ = some (.pointer none)) (hsh : w.shape? b = some (103, 2)) (hfz : w.frozen? ⟨b, 0, none⟩ = false) :
    Calls Tryz.prog 54 #[.pointer (some ⟨b, 0, none⟩)] w fun e w' => e = .returned (.tuple #[]) ∧ w' = w.setCell ⟨b, 0, none⟩ (.pointer (some ⟨b, 0, none⟩)) := by
  obtain ⟨j, hj, hjs⟩ := Option.map_eq_some_iff.1 infoB
  go_enter Tryz.func54, Tryz.ntmps54
  go_wp2
  rw [Lib.run_to_unsafe w ⟨b, 0, none⟩ Tryz.underlying100 Tryz.underlying157 hj (by rw [hjs]; decide) hsh (Nat.zero_lt_succ 1)]
  simp only [Result.andThen]
  rw [Oper.upon_value]
  go_wp2
  rw [run_callFunc_extern Tryz.func77 (by kernel_rfl) (by kernel_rfl) (by kernel_rfl) (e := Extern.AbiNoEscape.same) (by kernel_rfl)]
  rw [Lib.run_noEscape]
  simp only [Result.andThen]
  rw [Oper.upon_value]
  go_wp2
  rw [Lib.run_from_unsafe w ⟨b, 0, none⟩ Tryz.underlying157 Tryz.underlying100 hj hsh liesB]
  simp only [Result.andThen]
  rw [Oper.upon_value]
  go_wp2
  go_end0
  exact ⟨rfl, rfl⟩
theorem copied_any (B b : Nat) (bs : List Value) (w : World) (h : Lib.IsBuilder 103 5 B b bs w) :
    Calls Tryz.prog 54 #[.pointer (some ⟨b, 0, none⟩)] w fun e w' => e = .returned (.tuple #[]) ∧ (Lib.BuilderAt 103 5 B b (.pointer (some ⟨b, 0, none⟩)) bs w' ∧ Below B w w') := by
  rcases h with h | h
  · refine (copied_fresh b w h.cell0 h.shape h.frozen0).mono ?_
    rintro e w' ⟨rfl, rfl⟩
    exact ⟨rfl, h.used _, (Below.refl B w).setCell (p := ⟨b, 0, none⟩) h.1 _⟩
  · refine (copied_used b w h.cell0).mono ?_
    rintro e w' ⟨rfl, rfl⟩
    exact ⟨rfl, h, Below.refl B _⟩
set_option maxHeartbeats 1000000 in
set_option maxRecDepth 100000 in
theorem ws_any (B b : Nat) (bs : List Value) (s : ByteArray) (w : World) (h : Lib.IsBuilder 103 5 B b bs w) (hlen : bs.length + s.size ≤ 140737488355328) (hBw : B ≤ w.heap.size) :
    Calls Tryz.prog 34 #[.pointer (some ⟨b, 0, none⟩), .string s] w fun e w' => e = .returned (.tuple #[.int .i64 s.size, .nilIface]) ∧ (Lib.BuilderAt 103 5 B b (.pointer (some ⟨b, 0, none⟩)) (bs ++ Lib.strCells s) w' ∧ Below B w w') := by
  obtain ⟨i0, hi, hz0, hz1, hz2⟩ := info_parts infoB8
  go_enter Tryz.func34, Tryz.ntmps34
  go_wp2_with fail
  refine (copied_any B b bs _ h).mono ?_
  rintro e w1 ⟨rfl, h1, hb1⟩
  obtain ⟨hB, v, hbk, hown, hne⟩ := h1
  have c0 : w1.cell? ⟨b, 0, none⟩ = some (.pointer (some ⟨b, 0, none⟩)) := by rw [Lib.cell_of_heap hbk]; rfl
  have c1 : w1.cell? ⟨b, 1, none⟩ = some v := by rw [Lib.cell_of_heap hbk]; rfl
  go_wp2_with (at_builtin; refine Lib.wpList_append_own_string _ rfl _ _ 101 9 rfl B 5 i0 Tryz.underlying101 Tryz.underlying9 hi hz0 hz1 hz2 _ _ _ rfl hown s rfl ?c3 ?c4 ?c5 ?_)
  case c3 => unfold maxLen; omega
  case c4 => omega
  case c5 => have := hb1.size; omega
  intro v' w2 hown' hgrow _
  have hlt : b < w1.heap.size := (Array.getElem?_eq_some_iff.1 hbk).1
  have hb2 : w2.heap[b]? = some (.cells #[.pointer (some ⟨b, 0, none⟩), v] 103 (0, 0)) := by
    rw [hgrow.block b hlt (fun e => hne e.symm)]
    exact hbk
  have d0 : w2.cell? ⟨b, 0, none⟩ = some (.pointer (some ⟨b, 0, none⟩)) := by rw [Lib.cell_of_heap hb2]; rfl
  have d1 : w2.cell? ⟨b, 1, none⟩ = some v := by rw [Lib.cell_of_heap hb2]; rfl
  have f1 : w2.frozen? ⟨b, 1, none⟩ = false := Lib.frozen_of_heap hb2 1
  obtain ⟨ao, n', cap, rfl⟩ : ∃ ao n' cap, v' = .slice ao n' cap := by
    rcases hown'.2 with ⟨hv, _⟩ | ⟨g, cap, cur, hv, _⟩
    · exact ⟨_, _, _, hv⟩
    · exact ⟨_, _, _, hv⟩
  go_wp2
  go_ret2
  refine ⟨rfl, ?_, ?_⟩
  · exact Lib.BuilderAt.put (T := 103) (e := 5) hB hb2 (bs' := bs ++ Lib.strCells s) (by simpa [Lib.strCells_length] using hown') (by decide)
  · exact (hb1.grown hgrow (by have := hb1.size; omega) (fun k hk => (hown.lt k hk).1)).setCell (p := ⟨b, 1, none⟩) hB _
theorem str_any (B b : Nat) (l : List UInt8) (w : World) (h : Lib.IsBuilder 103 5 B b (Lib.byteCells l) w) (hBw : B ≤ w.heap.size) :
    Calls Tryz.prog 36 #[.pointer (some ⟨b, 0, none⟩)] w fun e w' => e = .returned (.string ⟨l.toArray⟩) ∧ Below B w w' :=
  Any.Builder_String_any laysBStr extraBStr B b l w h hBw
theorem bld_later {B b : Nat} {p : Value} {bs : List Value} {w w' : World} (h : Lib.BuilderAt 103 5 B b p bs w) (hb : Below w.heap.size w w') : Lib.BuilderAt 103 5 B b p bs w' := by
  obtain ⟨hB, v, hbk, hown, hne⟩ := h
  exact ⟨hB, v, (hb.block _ (Array.getElem?_eq_some_iff.1 hbk).1).trans hbk, own_belowI hown hb, hne⟩
theorem isb_later {B b : Nat} {bs : List Value} {w w' : World} (h : Lib.IsBuilder 103 5 B b bs w) (hb : Below w.heap.size w w') : Lib.IsBuilder 103 5 B b bs w' := by
  rcases h with h | h
  · exact .inl (bld_later h hb)
  · exact .inr (bld_later h hb)
end YtiknookfnameiaaGreatDoor
end Go.Proofs

namespace Go.Proofs
open Go.RowKit
namespace YtiknookfnameiaaGreatDoor
open WP
theorem lit_len (D : Ins) (lab : List UInt8) (c : UInt8) (ha : 0 ≤ D.a ∧ D.a < 16) (hb : 0 ≤ D.b ∧ D.b < 16) (hc : 0 ≤ D.c ∧ D.c < 16) (hk : 0 ≤ D.k ∧ D.k < 8) (hm : -32768 ≤ D.imm ∧ D.imm ≤ 65535) (hl : lab.length ≤ 64) : (litI D lab c).length ≤ 66 := by
  unfold litI
  have h1 := (decP_len D.a.toNat (by omega)).2
  have h2 := (decP_len D.b.toNat (by omega)).2
  have h3 := (decP_len D.c.toNat (by omega)).2
  have h4 := itoaP_len D.imm (by omega) (by omega)
  have h5 := cond_len D.k.toNat
  rw [Int.toNat_of_nonneg hk.1] at h5
  rw [List.length_cons]
  split
  · simp only [List.length_cons]; omega
  split
  · simp only [List.length_cons]; omega
  split
  · simp only [List.length_cons]; omega
  split
  · omega
  split <;> omega
theorem fold_len (D : Ins) (lab : List UInt8) (h : ∀ c, (litI D lab c).length ≤ 66) : ∀ (L acc : List UInt8), (L.foldl (fun s c => s ++ litI D lab c) acc).length ≤ acc.length + 66 * L.length
  | [], acc => by simp
  | c :: L, acc => by
    rw [List.foldl_cons]
    have := fold_len D lab h L (acc ++ litI D lab c)
    have := h c
    simp only [List.length_append, List.length_cons] at *
    omega
theorem line_len (x : Int) (lab : List UInt8) (h0 : 0 ≤ x) (h1 : x ≤ 4294967295) (hl : lab.length ≤ 64) : (lineL x lab).length ≤ 300 := by
  unfold lineL
  have bd := decI_bd x h0 h1
  split
  · unfold insL
    have := fold_len (decI x) lab (fun c => lit_len _ _ c bd.2.1 bd.2.2.1 bd.2.2.2.1 bd.2.2.2.2.1 bd.2.2.2.2.2 hl) (shapeI (decI x).op) (nameI (decI x).op)
    have h2 := name_len (decI x).op
    have h3 := shape_len (decI x).op
    omega
  · simp [hx8P_len]
theorem count_le (B : List Bool) (j : Nat) : (B.take j).count true ≤ j := Nat.le_trans List.count_le_length (List.length_take_le _ _)
theorem nm_len (B : List Bool) (j : Nat) (h : j ≤ 4096) : (nmAt B j).length ≤ 11 := by
  unfold nmAt
  split
  · have := (decP_len ((B.take j).count true) (by have := count_le B j; omega)).2
    simp; omega
  · simp
theorem nm_yes (B : List Bool) (j : Nat) (h : B.getD j false = true) : nmAt B j = 108 :: Lib.decDigits ((B.take j).count true) := by unfold nmAt; rw [if_pos h]
theorem nm_no (B : List Bool) (j : Nat) (h : B.getD j false = false) : nmAt B j = [] := by unfold nmAt; rw [if_neg (by rw [h]; simp)]
/-- the names of the first k places, the rest still empty -/
def nmK (B : List Bool) (n k : Nat) : List Value := (List.range n).map fun j => .string (strS (if j < k then nmAt B j else []))
theorem nmK_len (B : List Bool) (n k : Nat) : (nmK B n k).length = n := by simp [nmK]
theorem nmK_zero (B : List Bool) (n : Nat) : nmK B n 0 = List.replicate n (.string ⟨#[]⟩) := by
  unfold nmK
  rw [List.eq_replicate_iff]
  refine ⟨by simp, ?_⟩
  intro b hb
  obtain ⟨j, _, rfl⟩ := List.mem_map.1 hb
  rfl
theorem nmK_get (B : List Bool) (n k j : Nat) (h : j < n) : (nmK B n k)[j]? = some (.string (strS (if j < k then nmAt B j else []))) := by
  unfold nmK; rw [List.getElem?_map, List.getElem?_range h]; rfl
theorem nmK_step (B : List Bool) (n k : Nat) : (nmK B n k).set k (.string (strS (nmAt B k))) = nmK B n (k + 1) := by
  refine List.ext_getElem? fun j => ?_
  by_cases hj : j < n
  · rw [nmK_get B n (k + 1) j hj, List.getElem?_set]
    by_cases e : k = j
    · subst e
      rw [if_pos rfl, if_pos (by rw [nmK_len]; exact hj), if_pos (by omega)]
    · rw [if_neg e, nmK_get B n k j hj]
      by_cases h2 : j < k
      · rw [if_pos h2, if_pos (by omega)]
      · rw [if_neg h2, if_neg (by omega)]
  · rw [List.getElem?_eq_none (by rw [List.length_set, nmK_len]; omega), List.getElem?_eq_none (by rw [nmK_len]; omega)]
theorem nmK_skip (B : List Bool) (n k : Nat) (h : B.getD k false = false) : nmK B n (k + 1) = nmK B n k := by
  unfold nmK
  refine List.map_congr_left fun j _ => ?_
  by_cases e : j = k
  · subst e; rw [if_pos (by omega), if_neg (by omega), nm_no B j h]
  · by_cases h2 : j < k
    · rw [if_pos h2, if_pos (by omega)]
    · rw [if_neg h2, if_neg (by omega)]
theorem nmK_full (B : List Bool) (n j : Nat) (h : j < n) : (nmK B n n)[j]? = some (.string (strS (nmAt B j))) := by rw [nmK_get B n n j h, if_pos h]
theorem count_step (B : List Bool) (k : Nat) (h : k < B.length) : (B.take (k + 1)).count true = (B.take k).count true + (if B.getD k false = true then 1 else 0) := by
  rw [List.take_succ_eq_append_getElem h, List.count_append, List.getD_eq_getElem?_getD, List.getElem?_eq_getElem h]
  cases B[k] <;> simp
theorem bools_get (B : List Bool) (j : Nat) (h : j < B.length) : (B.map Value.bool)[j]? = some (.bool (B.getD j false)) := by
  rw [List.getElem?_map, List.getD_eq_getElem?_getD, List.getElem?_eq_getElem h]; rfl
theorem bools_set (B : List Bool) (j : Nat) : (B.map Value.bool).set j (.bool true) = (B.set j true).map Value.bool := by rw [List.map_set]
theorem bools_zero (n : Nat) : (List.replicate n false).map Value.bool = List.replicate n (.bool false) := by simp
theorem lab_len (l : List UInt32) (i : Nat) (hn : l.length ≤ 2048) : (labL (namedL l l.length) (tgtO (wAt l i) i l.length)).length ≤ 64 := by
  cases ht : tgtO (wAt l i) i l.length with
  | none => simp [labL]
  | some t =>
    have := tgtO_le ht
    have := nm_len (namedL l l.length) t (by omega)
    show (nmAt (namedL l l.length) t).length ≤ 64
    omega
theorem piece_len (l : List UInt32) (i : Nat) (hi : i ≤ l.length) (hn : l.length ≤ 2048) : (pieceL l i).length ≤ 400 := by
  unfold pieceL
  have h1 := nm_len (namedL l l.length) i (by omega)
  rw [List.length_append]
  have h2 : (if (namedL l l.length).getD i false = true then nmAt (namedL l l.length) i ++ [58, 10] else []).length ≤ 13 := by
    split
    · simp; omega
    · simp
  have h3 : (if i < l.length then lineL (wAt l i) (labL (namedL l l.length) (tgtO (wAt l i) i l.length)) ++ [10] else []).length ≤ 301 := by
    split
    · have hb := wAt_bd l i
      have hlab := lab_len l i hn
      have := line_len (wAt l i) _ hb.1 hb.2 hlab
      simp; omega
    · simp
  omega
theorem print_len (l : List UInt32) (k : Nat) (hk : k ≤ l.length + 1) (hn : l.length ≤ 2048) : (printL l k).length ≤ 400 * k := by
  induction k with
  | zero => simp [printL]
  | succ k ih =>
    rw [printL_succ, List.length_append]
    have := ih (by omega)
    have := piece_len l k (by omega) hn
    omega
/-- a row keeps while its own block keeps -/
theorem own_same {w w' : World} {base : Nat} {e : TypeId} {size n : Nat} {v : Value} {xs : List Value} (h : w.ownsRow base e size v n xs) (he : ∀ g, v.ownBlock = some g → w'.heap[g]? = w.heap[g]?) : w'.ownsRow base e size v n xs := by
  refine ⟨h.1, ?_⟩
  rcases h.2 with hv | ⟨g, cap, cur, hv, hb, hg, r⟩
  · exact .inl hv
  · exact .inr ⟨g, cap, cur, hv, hb, (he g (by rw [hv]; rfl)).trans hg, r⟩
end YtiknookfnameiaaGreatDoor
end Go.Proofs
