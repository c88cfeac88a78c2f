/- The library's IndexByte, HasSuffix, TrimSuffix at this dump. The contract of isa's Decode (its rounds printed by genIsaE.py, its end by hand). -/
import Derived.Test.YtiknookfnameiaaGreatDoorJn25
import Derived.Shelf.Strings.Search1
import Derived.Laws.Strings3
import Derived.Test.YtiknookfnameiaaGreatDoorJn04
namespace Go.Proofs.YtiknookfnameiaaGreatDoor
open Go.RowKit WP
set_option linter.unusedSimpArgs false
set_option maxRecDepth 100000 in
theorem sidx_any (s : ByteArray) (c : Int) (w : World) : Calls Tryz.prog 137 #[.string s, .int .u8 c] w fun e w' => e = .returned (.int .i64 (Lib.indexByte s.data.toList c.toNat.toUInt8)) ∧ w' = w := by
  go_enter Tryz.func137, Tryz.ntmps137
  go_wp2
  rw [run_callFunc_extern Tryz.func155 (by kernel_rfl) (by kernel_rfl) (by kernel_rfl) (e := Extern.BytealgIndexByte.indexByte) (by kernel_rfl), Lib.run_indexByteString]
  simp only [Result.andThen]
  rw [Oper.upon_value]
  go_wp2
  go_ret
  exact ⟨rfl, rfl⟩
set_option maxRecDepth 100000 in
theorem idx_any (s : ByteArray) (c : Int) (w : World) : Calls Tryz.prog 109 #[.string s, .int .u8 c] w fun e w' => e = .returned (.int .i64 (Lib.indexByte s.data.toList c.toNat.toUInt8)) ∧ w' = w := by
  have h := fun W => sidx_any s c W
  replace h := Lib.hid h
  go_enter Tryz.func109, Tryz.ntmps109
  go_wp2_with (go_at_call 137; refine (h.out _).mono ?_; rintro e w' ⟨rfl, rfl⟩)
  go_ret
  exact ⟨rfl, rfl⟩
end Go.Proofs.YtiknookfnameiaaGreatDoor

namespace Go.Proofs
namespace YtiknookfnameiaaGreatDoor
open Go.RowKit WP
theorem readI_imm (w : Int) (h0 : 0 ≤ w) (h1 : w ≤ 4294967295) : -2147483648 ≤ (readI w).imm ∧ (readI w).imm ≤ 2147483647 := by
  rw [read_eq w h0 (by omega)]
  unfold rreadI
  simp only
  repeat' split
  all_goals omega
/-- what is held while a word is read -/
structure DecSt (C : Nat) (w0 w : World) (r : Ins) (s : ByteArray) (pos : Nat) : Prop where
  z : w.heap[C]? = some (.cells (insC ins0) 92 (0, 0))
  blk : w.heap[C + 1]? = some (.cells (insC r) 92 (0, 0))
  it : w.heap[C + 2]? = some (.stringIter s pos)
  size : C + 3 ≤ w.heap.size
  below : Below C w0 w
namespace DecSt
variable {C : Nat} {w0 w : World} {r : Ins} {s : ByteArray} {pos : Nat}
theorem next (h : DecSt C w0 w r s pos) (p : Nat) : DecSt C w0 (w.iterAt (C + 2) s p) r s p :=
  ⟨by rw [Lib.iterAt_other _ _ _ _ _ (by omega)]; exact h.z, by rw [Lib.iterAt_other _ _ _ _ _ (by omega)]; exact h.blk, Lib.iterAt_heap _ _ _ _ _ h.it,
    by rw [Lib.iterAt_size]; exact h.size, Lib.below_iterAt h.below (by omega) _ _⟩
theorem struck (h : DecSt C w0 w r s pos) (j : Nat) (u : Value) (r' : Ins) (e : (insC r).setIfInBounds j u = insC r') : DecSt C w0 (w.setCell ⟨C + 1, j, none⟩ u) r' s pos := by
  have hs := h.size
  refine ⟨?_, ?_, ?_, by simpa using hs, ?_⟩
  · rw [heap_setCell_other _ _ _ _ (by simp)]; exact h.z
  · rw [heap_setCell_same w (C + 1) j _ _ _ h.blk, e]
  · rw [heap_setCell_other _ _ _ _ (by simp)]; exact h.it
  · exact Below.setCell h.below (by show C ≤ C + 1; omega) _
end DecSt
theorem results_fst {P : Program} {fn : Func} {t t2 : Tmp} {ty : TypeId} (h : fn.results = #[.cell t ty, .tmp t2]) {tmps : Array Value} {w : World} {g : Nat} {cs : Array Value} {T : TypeId} {v2 : Value} {d : TypeDesc}
    (hp : tmps.getD t undef = .pointer (some ⟨g, 0, none⟩)) (h2 : tmps.getD t2 undef = v2)
    (hc : w.heap[g]? = some (.cells cs T (0, 0))) (hu : P.underlying ty = some d) (hd : d.isRow = true) (hi : (P.info? ty).map (·.size) = some cs.size) : (results fn tmps).run P w = .ok (.tuple #[.agg cs, v2]) w := by
  have hr : w.rangeAt g 0 cs.toList := fun j u hu => by
    rw [Nat.zero_add, cell_of_row _ _ _ _ _ _ hc]; simpa using hu
  have hv := run_loadVar_mid (P := P) w g 0 ty cs.toList d hr hu hd (by simpa using hi)
  have hp' : tmps[t]?.getD undef = .pointer (some ⟨g, 0, none⟩) := by simpa [Array.getD_eq_getD_getElem?] using hp
  have h2' : tmps[t2]?.getD undef = v2 := by simpa [Array.getD_eq_getD_getElem?] using h2
  simp [results, h, hp', hv, asAddr, h2']
section
variable {P : Program}
theorem wpList_store_whole {ops : Array Oper} {rest : List Oper} {o : Oper} {a : Act} {w : World} {Q : Exit → Act → World → Prop} (hgd : o.guard = none) (ty : TypeId) (x y : Operand) (ho : o.op = .store ty x y)
    (g : Nat) (cells : Array Value) (hx : a.eval x = .pointer (some ⟨g, 0, none⟩)) (hy : a.eval y = .agg cells)
    (t : TypeId) (old : Array Value) (hg : w.heap[g]? = some (.cells old t (0, 0))) (hi : (P.info? ty).map (·.size) = some cells.size)
    (hold : old.size = cells.size) (h1 : cells.all (·.oneCell') = true)
    (k : ∀ w', w'.heap[g]? = some (.cells cells t (0, 0)) → w.grownBy w' (some g) → wpList P ops Q rest (a.put o.dst undef) w') : wpList P ops Q (o :: rest) a w :=
  wpList_store_row hgd ty x y ho g cells hx hy t old hg hi hold h1
    (k _ (setRow_heap w g _ _ t _ hg) ⟨rfl, rfl, rfl, by simp [World.setRow], fun j _ hj => setRow_other w g j _ (fun e => hj (by simp [e]))⟩)
end
set_option maxRecDepth 100000 in
set_option maxHeartbeats 4000000 in
theorem decode_any (x : Int) (w : World) (hT : Tabs w) (h0 : 0 ≤ x) (h1 : x ≤ 4294967295) :
    Calls Tryz.prog 31 #[.int .u32 x] w fun e w' => Below w.heap.size w w' ∧ e = .returned (.tuple #[.agg (insC (decI x)), .int .i64 (if goodI x then 0 else 50)]) := by
  obtain ⟨r0, hr0⟩ : ∃ r, readI x = r := ⟨_, rfl⟩
  have hec := fun W hW => encode_any (readI x) W hW (readI_imm x h0 h1).1 (readI_imm x h0 h1).2
  have hgood : goodI x = (decide (checkI r0 = 0) && decide (wordI r0 = x)) := by rw [← hr0]; rfl
  have hdec : decI x = if goodI x then r0 else ins0 := by rw [← hr0]; rfl
  rw [hdec, hgood]
  rw [hr0] at hec
  clear hdec hgood
  obtain ⟨PI, hPI⟩ : ∃ PI, insC (if (decide (checkI r0 = 0) && decide (wordI r0 = x)) = true then r0 else ins0) = PI := ⟨_, rfl⟩
  obtain ⟨PC, hPC⟩ : ∃ PC : Int, (if (decide (checkI r0 = 0) && decide (wordI r0 = x)) = true then 0 else 50) = PC := ⟨_, rfl⟩
  rw [hPI, hPC]
  replace hPI := Lib.hid hPI; replace hPC := Lib.hid hPC
  obtain ⟨op, hop⟩ : ∃ op, fieldI x 26 6 = op := ⟨_, rfl⟩
  obtain ⟨L, hL⟩ : ∃ L, shapeI op = L := ⟨_, rfl⟩
  have hasc : ∀ c ∈ L, c.toNat < 128 := by rw [← hL]; exact shape_ascii op
  have hlen : L.length ≤ 3 := by rw [← hL]; exact shape_len op
  have hRd : L.foldl (dec1 x) ⟨op, 0, 0, 0, 0, 0⟩ = r0 := by rw [← hr0, ← hL, ← hop]; rfl
  have bo : 0 ≤ op ∧ op ≤ 4294967295 := by rw [← hop]; exact fieldI_bd _ _ _ (by omega)
  have hSz : (strS L).size = L.length := by simp [strS, ByteArray.size]
  clear hr0
  go_enter Tryz.func31, Tryz.ntmps31
  go_wp2_with (first
    | (go_at_call 50; refine (field_yes x 26 6 _ h0 h1 (by omega) (by omega) (by omega)).mono ?_; rintro e w2 ⟨rfl, rfl⟩; rw [hop])
    | (go_at_call 51; refine (shape_any _ _ (hT.later (((Below.refl _ _).alloc (Nat.le_refl _) _).alloc (by simp) _))).mono ?_; rintro e w2 ⟨rfl, hw⟩; rw [hw, hL]; clear hw w2))
  go_loopw [6] (fun _ wl => ∃ (r : Ins) (pos : Nat), DecSt w.heap.size w wl r (strS L) pos ∧ pos ≤ L.length ∧ (L.drop pos).foldl (dec1 x) r = r0) (fun _ wl => L.length - wl.iterPos (w.heap.size + 2))
  case atStart =>
    have hs := fld_start w (insC ins0) (insC ⟨op, 0, 0, 0, 0, 0⟩) 92 (strS L)
    exact ⟨_, 0, ⟨hs.1, hs.2.1, hs.2.2.1, hs.2.2.2.1, hs.2.2.2.2⟩, Nat.zero_le _, hRd⟩
  case round =>
    obtain ⟨wo, rfl⟩ : ∃ wo, wo = wr := ⟨wr, rfl⟩
    obtain ⟨r, pos, hst, hpl, hRs⟩ := hrel
    clear hRd hL
    have hpos0 := iterPos_of hst.it
    by_cases hp : pos < L.length
    · obtain ⟨y, hy⟩ : ∃ y, L[pos] = y := ⟨_, rfl⟩
      have hya : y.toNat < 128 := by rw [← hy]; exact hasc _ (List.getElem_mem hp)
      have hys : (strS L)[pos]'(by rw [hSz]; exact hp) = y := by rw [← hy]; rfl
      have hnx : ∀ ty, (Instr.next (.pointer (some ⟨w.heap.size + 2, 0, none⟩)) true ty).run Tryz.prog wo = .ok (.tuple #[.bool true, .int .i64 pos, .int .i32 y.toNat]) (wo.iterAt (w.heap.size + 2) (strS L) (pos + 1)) := fun ty => by
        have := Lib.run_next_ascii_at (P := Tryz.prog) wo (w.heap.size + 2) (strS L) pos ty hst.it (by rw [hSz]; exact hp) (by rw [hys]; exact hya)
        rw [hys] at this; exact this
      have hst2 := hst.next (pos + 1)
      rw [List.drop_eq_getElem_cons hp, hy] at hRs
      rw [List.foldl_cons] at hRs
      obtain ⟨W1, hW1⟩ : ∃ W1, wo.iterAt (w.heap.size + 2) (strS L) (pos + 1) = W1 := ⟨_, rfl⟩
      rw [hW1] at hnx hst2
      clear hW1 hst hy hys
      have hsz1 := hst2.size
      have HS := Lib.hid hst2
      clear hst2
      by_cases h97 : y = 97
      · have hf : dec1 x r y = { r with a := fieldI x 22 4 } := by simp [dec1, h97]
        rw [hf] at hRs
        have hxn : (y.toNat : Int) = 97 := by rw [h97]; rfl
        rw [hxn] at hnx
        clear h97 hxn
        have hV0 := fieldI_bd x 22 4 (by omega)
        obtain ⟨V, hV⟩ : ∃ V, fieldI x 22 4 = V := ⟨_, rfl⟩
        rw [hV] at hRs hV0
        have hc : W1.cell? ⟨w.heap.size + 1, 2, none⟩ = some (.int .i64 r.a) := cell_of_row _ _ _ _ _ _ HS.out.blk
        have hz : W1.frozen? ⟨w.heap.size + 1, 2, none⟩ = false := frozen_of_row _ _ 2 _ _ HS.out.blk
        have HS2 := Lib.hid (HS.out.struck 2 (.int .i64 V) { r with a := V } rfl)
        clear hf HS
        replace hRs := Lib.hid hRs
        go_wp2_with (go_at_call 50; refine (field_yes x 22 4 _ h0 h1 (by omega) (by omega) (by omega)).mono ?_; rintro e w2 ⟨rfl, rfl⟩; rw [hV])
        go_roundw
        case rel => exact ⟨_, pos + 1, HS2.out, by omega, hRs.out⟩
        case measure => rw [iterPos_of HS2.out.it, hpos0]; omega
      have d97 : ¬ ((y.toNat : Int) = 97) := fun e => h97 (UInt8.toNat.inj (by show y.toNat = 97; omega))
      by_cases h98 : y = 98
      · have hf : dec1 x r y = { r with b := fieldI x 18 4 } := by simp [dec1, h98]
        rw [hf] at hRs
        have hxn : (y.toNat : Int) = 98 := by rw [h98]; rfl
        rw [hxn] at hnx
        clear h98 hxn
        have hV0 := fieldI_bd x 18 4 (by omega)
        obtain ⟨V, hV⟩ : ∃ V, fieldI x 18 4 = V := ⟨_, rfl⟩
        rw [hV] at hRs hV0
        have hc : W1.cell? ⟨w.heap.size + 1, 3, none⟩ = some (.int .i64 r.b) := cell_of_row _ _ _ _ _ _ HS.out.blk
        have hz : W1.frozen? ⟨w.heap.size + 1, 3, none⟩ = false := frozen_of_row _ _ 3 _ _ HS.out.blk
        have HS2 := Lib.hid (HS.out.struck 3 (.int .i64 V) { r with b := V } rfl)
        clear hf HS
        replace hRs := Lib.hid hRs
        go_wp2_with (go_at_call 50; refine (field_yes x 18 4 _ h0 h1 (by omega) (by omega) (by omega)).mono ?_; rintro e w2 ⟨rfl, rfl⟩; rw [hV])
        go_roundw
        case rel => exact ⟨_, pos + 1, HS2.out, by omega, hRs.out⟩
        case measure => rw [iterPos_of HS2.out.it, hpos0]; omega
      have d98 : ¬ ((y.toNat : Int) = 98) := fun e => h98 (UInt8.toNat.inj (by show y.toNat = 98; omega))
      by_cases h99 : y = 99
      · have hf : dec1 x r y = { r with c := fieldI x 14 4 } := by simp [dec1, h99]
        rw [hf] at hRs
        have hxn : (y.toNat : Int) = 99 := by rw [h99]; rfl
        rw [hxn] at hnx
        clear h99 hxn
        have hV0 := fieldI_bd x 14 4 (by omega)
        obtain ⟨V, hV⟩ : ∃ V, fieldI x 14 4 = V := ⟨_, rfl⟩
        rw [hV] at hRs hV0
        have hc : W1.cell? ⟨w.heap.size + 1, 4, none⟩ = some (.int .i64 r.c) := cell_of_row _ _ _ _ _ _ HS.out.blk
        have hz : W1.frozen? ⟨w.heap.size + 1, 4, none⟩ = false := frozen_of_row _ _ 4 _ _ HS.out.blk
        have HS2 := Lib.hid (HS.out.struck 4 (.int .i64 V) { r with c := V } rfl)
        clear hf HS
        replace hRs := Lib.hid hRs
        go_wp2_with (go_at_call 50; refine (field_yes x 14 4 _ h0 h1 (by omega) (by omega) (by omega)).mono ?_; rintro e w2 ⟨rfl, rfl⟩; rw [hV])
        go_roundw
        case rel => exact ⟨_, pos + 1, HS2.out, by omega, hRs.out⟩
        case measure => rw [iterPos_of HS2.out.it, hpos0]; omega
      have d99 : ¬ ((y.toNat : Int) = 99) := fun e => h99 (UInt8.toNat.inj (by show y.toNat = 99; omega))
      by_cases h107 : y = 107
      · have hf : dec1 x r y = { r with k := fieldI x 22 3 } := by simp [dec1, h107]
        rw [hf] at hRs
        have hxn : (y.toNat : Int) = 107 := by rw [h107]; rfl
        rw [hxn] at hnx
        clear h107 hxn
        have hV0 := fieldI_bd x 22 3 (by omega)
        obtain ⟨V, hV⟩ : ∃ V, fieldI x 22 3 = V := ⟨_, rfl⟩
        rw [hV] at hRs hV0
        have hc : W1.cell? ⟨w.heap.size + 1, 1, none⟩ = some (.int .i64 r.k) := cell_of_row _ _ _ _ _ _ HS.out.blk
        have hz : W1.frozen? ⟨w.heap.size + 1, 1, none⟩ = false := frozen_of_row _ _ 1 _ _ HS.out.blk
        have HS2 := Lib.hid (HS.out.struck 1 (.int .i64 V) { r with k := V } rfl)
        clear hf HS
        replace hRs := Lib.hid hRs
        go_wp2_with (go_at_call 50; refine (field_yes x 22 3 _ h0 h1 (by omega) (by omega) (by omega)).mono ?_; rintro e w2 ⟨rfl, rfl⟩; rw [hV])
        go_roundw
        case rel => exact ⟨_, pos + 1, HS2.out, by omega, hRs.out⟩
        case measure => rw [iterPos_of HS2.out.it, hpos0]; omega
      have d107 : ¬ ((y.toNat : Int) = 107) := fun e => h107 (UInt8.toNat.inj (by show y.toNat = 107; omega))
      by_cases h117 : y = 117
      · have hf : dec1 x r y = { r with imm := fieldI x 0 16 } := by simp [dec1, h117]
        rw [hf] at hRs
        have hxn : (y.toNat : Int) = 117 := by rw [h117]; rfl
        rw [hxn] at hnx
        clear h117 hxn
        have hV0 : 0 ≤ fieldI x 0 16 ∧ fieldI x 0 16 ≤ 65535 := by rw [(fld_at x h0).2.2.2.2]; omega
        obtain ⟨V, hV⟩ : ∃ V, fieldI x 0 16 = V := ⟨_, rfl⟩
        rw [hV] at hRs hV0
        have hc : W1.cell? ⟨w.heap.size + 1, 5, none⟩ = some (.int .i32 r.imm) := cell_of_row _ _ _ _ _ _ HS.out.blk
        have hz : W1.frozen? ⟨w.heap.size + 1, 5, none⟩ = false := frozen_of_row _ _ 5 _ _ HS.out.blk
        have HS2 := Lib.hid (HS.out.struck 5 (.int .i32 V) { r with imm := V } rfl)
        clear hf HS
        replace hRs := Lib.hid hRs
        go_wp2_with (go_at_call 50; refine (field_yes x 0 16 _ h0 h1 (by omega) (by omega) (by omega)).mono ?_; rintro e w2 ⟨rfl, rfl⟩; rw [hV])
        go_roundw
        case rel => exact ⟨_, pos + 1, HS2.out, by omega, hRs.out⟩
        case measure => rw [iterPos_of HS2.out.it, hpos0]; omega
      have d117 : ¬ ((y.toNat : Int) = 117) := fun e => h117 (UInt8.toNat.inj (by show y.toNat = 117; omega))
      have hf : dec1 x r y = { r with imm := extI x 16 } := by simp [dec1, h97, h98, h99, h107, h117]
      rw [hf] at hRs
      clear h97 h98 h99 h107 h117
      have hV0 := f_ext_bd x 16 h0 h1 (by omega) (by omega)
      obtain ⟨V, hV⟩ : ∃ V, extI x 16 = V := ⟨_, rfl⟩
      rw [hV] at hRs hV0
      have hc : W1.cell? ⟨w.heap.size + 1, 5, none⟩ = some (.int .i32 r.imm) := cell_of_row _ _ _ _ _ _ HS.out.blk
      have hz : W1.frozen? ⟨w.heap.size + 1, 5, none⟩ = false := frozen_of_row _ _ 5 _ _ HS.out.blk
      have HS2 := Lib.hid (HS.out.struck 5 (.int .i32 V) { r with imm := V } rfl)
      clear hf HS
      replace hRs := Lib.hid hRs
      go_wp2_with (go_at_call 52; refine (extend_yes x 16 _ h0 h1 (by omega) (by omega)).mono ?_; rintro e w2 ⟨rfl, rfl⟩; rw [hV])
      go_roundw
      case rel => exact ⟨_, pos + 1, HS2.out, by omega, hRs.out⟩
      case measure => rw [iterPos_of HS2.out.it, hpos0]; omega
    · have hnx : ∀ ty, (Instr.next (.pointer (some ⟨w.heap.size + 2, 0, none⟩)) true ty).run Tryz.prog wo = .ok (.tuple #[.bool false]) wo := fun ty => Lib.run_next_end_at wo _ (strS L) pos ty hst.it (by rw [hSz]; exact hp)
      rw [List.drop_eq_nil_of_le (by omega)] at hRs
      have hR : r = r0 := hRs
      subst hR
      have hT2 := hT.later hst.below
      have hsz := hst.size
      have e0 : wo.cell? ⟨w.heap.size + 1, 0, none⟩ = some (.int .i64 r.op) := cell_of_row _ _ _ _ _ _ hst.blk
      have e1 : wo.cell? ⟨w.heap.size + 1, 1, none⟩ = some (.int .i64 r.k) := cell_of_row _ _ _ _ _ _ hst.blk
      have e2 : wo.cell? ⟨w.heap.size + 1, 2, none⟩ = some (.int .i64 r.a) := cell_of_row _ _ _ _ _ _ hst.blk
      have e3 : wo.cell? ⟨w.heap.size + 1, 3, none⟩ = some (.int .i64 r.b) := cell_of_row _ _ _ _ _ _ hst.blk
      have e4 : wo.cell? ⟨w.heap.size + 1, 4, none⟩ = some (.int .i64 r.c) := cell_of_row _ _ _ _ _ _ hst.blk
      have e5 : wo.cell? ⟨w.heap.size + 1, 5, none⟩ = some (.int .i32 r.imm) := cell_of_row _ _ _ _ _ _ hst.blk
      obtain ⟨K, hK⟩ : ∃ K, checkI r = K := ⟨_, rfl⟩
      obtain ⟨V, hV⟩ : ∃ V, (if K = 0 then wordI r else 0) = V := ⟨_, rfl⟩
      have hen := hec wo hT2
      rw [hK, hV, show insC r = #[.int .i64 r.op, .int .i64 r.k, .int .i64 r.a, .int .i64 r.b, .int .i64 r.c, .int .i32 r.imm] from rfl] at hen
      have HS := Lib.hid hst
      clear hst hec hRs hT hT2
      go_upto_region 18 with (go_at_call 30; refine hen.mono ?_; rintro e w3 ⟨hb3, rfl⟩)
      have hbA : Below w.heap.size w w3 := HS.out.below.trans (hb3.mono (by omega))
      have hs3 := hb3.size
      have hq0 : w3.heap[w.heap.size]? = some (.cells #[.int .i64 0, .int .i64 0, .int .i64 0, .int .i64 0, .int .i64 0, .int .i32 0] 92 (0, 0)) := (hb3.block _ (by omega)).trans HS.out.z
      have hq1 : w3.heap[w.heap.size + 1]? = some (.cells (insC r) 92 (0, 0)) := (hb3.block _ (by omega)).trans HS.out.blk
      clear e0 e1 e2 e3 e4 e5 hb3 HS hen
      have e0 : w3.cell? ⟨w.heap.size + 1, 0, none⟩ = some (.int .i64 r.op) := cell_of_row _ _ _ _ _ _ hq1
      have e1 : w3.cell? ⟨w.heap.size + 1, 1, none⟩ = some (.int .i64 r.k) := cell_of_row _ _ _ _ _ _ hq1
      have e2 : w3.cell? ⟨w.heap.size + 1, 2, none⟩ = some (.int .i64 r.a) := cell_of_row _ _ _ _ _ _ hq1
      have e3 : w3.cell? ⟨w.heap.size + 1, 3, none⟩ = some (.int .i64 r.b) := cell_of_row _ _ _ _ _ _ hq1
      have e4 : w3.cell? ⟨w.heap.size + 1, 4, none⟩ = some (.int .i64 r.c) := cell_of_row _ _ _ _ _ _ hq1
      have e5 : w3.cell? ⟨w.heap.size + 1, 5, none⟩ = some (.int .i32 r.imm) := cell_of_row _ _ _ _ _ _ hq1
      have g0 : w3.cell? ⟨w.heap.size, 0, none⟩ = some (.int .i64 0) := cell_of_row _ _ _ _ _ _ hq0
      have g1 : w3.cell? ⟨w.heap.size, 1, none⟩ = some (.int .i64 0) := cell_of_row _ _ _ _ _ _ hq0
      have g2 : w3.cell? ⟨w.heap.size, 2, none⟩ = some (.int .i64 0) := cell_of_row _ _ _ _ _ _ hq0
      have g3 : w3.cell? ⟨w.heap.size, 3, none⟩ = some (.int .i64 0) := cell_of_row _ _ _ _ _ _ hq0
      have g4 : w3.cell? ⟨w.heap.size, 4, none⟩ = some (.int .i64 0) := cell_of_row _ _ _ _ _ _ hq0
      have g5 : w3.cell? ⟨w.heap.size, 5, none⟩ = some (.int .i32 0) := cell_of_row _ _ _ _ _ _ hq0
      have gz : ∀ j, w3.frozen? ⟨w.heap.size, j, none⟩ = false := fun j => frozen_of_row _ _ j _ _ hq0
      by_cases hK0 : K = 0
      · by_cases hVx : V = x
        · have hg : (decide (checkI r = 0) && decide (wordI r = x)) = true := by
            rw [if_pos hK0] at hV; rw [hK, hV, hK0, hVx]; simp
          subst hK0; subst hVx
          replace hg := Lib.hid hg
          clear hK hV
          have dV : (V != V) = false := by simp
          replace hbA := Lib.hid hbA; replace hq1 := Lib.hid hq1
          replace hq0 := Lib.hid hq0
          clear gz g0 g1 g2 g3 g4 g5
          have hOne : (#[.int .i64 r.op, .int .i64 r.k, .int .i64 r.a, .int .i64 r.b, .int .i64 r.c, .int .i32 r.imm] : Array Value).all (·.oneCell') = true := by simp [Value.oneCell']
          replace hOne := Lib.hid hOne
          go_wp2_with (first | (refine wpList_store_whole rfl 92 _ _ rfl w.heap.size #[.int .i64 r.op, .int .i64 r.k, .int .i64 r.a, .int .i64 r.b, .int .i64 r.c, .int .i32 r.imm] rfl rfl 92 _ hq0.out infoIns rfl hOne.out ?_; intro w5 hB5 g5; have hbf := Lib.hid (hbA.out.grown g5 (by omega) (by intro k hk; simp only [Option.some.injEq] at hk; omega)); clear g5; replace hB5 := Lib.hid hB5))
          exact bodyPost_ret (v := .tuple #[.agg (insC r), .int .i64 0]) (results_fst rfl rfl rfl hB5.out Tryz.underlying92 rfl infoIns) rfl ⟨hbf.out, by rw [← hPI.out, ← hPC.out, hg.out]; rfl⟩
        · have dV : (V == x) = false := by simpa using hVx
          have hg : (decide (checkI r = 0) && decide (wordI r = x)) = false := by rw [if_pos hK0] at hV; rw [hV]; simp [hVx]
          replace hg := Lib.hid hg
          have s0 : w3.setCell ⟨w.heap.size, 0, none⟩ (.int .i64 0) = w3 := setCell_idI hq0 rfl
          have s1 : w3.setCell ⟨w.heap.size, 1, none⟩ (.int .i64 0) = w3 := setCell_idI hq0 rfl
          have s2 : w3.setCell ⟨w.heap.size, 2, none⟩ (.int .i64 0) = w3 := setCell_idI hq0 rfl
          have s3 : w3.setCell ⟨w.heap.size, 3, none⟩ (.int .i64 0) = w3 := setCell_idI hq0 rfl
          have s4 : w3.setCell ⟨w.heap.size, 4, none⟩ (.int .i64 0) = w3 := setCell_idI hq0 rfl
          have s5 : w3.setCell ⟨w.heap.size, 5, none⟩ (.int .i32 0) = w3 := setCell_idI hq0 rfl
          subst hK0
          clear hK hV
          replace hbA := Lib.hid hbA; replace hq0 := Lib.hid hq0; replace hq1 := Lib.hid hq1
          go_wp2_with fail
          exact bodyPost_ret (v := .tuple #[.agg (insC ins0), .int .i64 50]) (results_fst rfl rfl rfl hq0.out Tryz.underlying92 rfl infoIns) rfl ⟨hbA.out, by rw [← hPI.out, ← hPC.out, hg.out]; rfl⟩
      · have dK : (K == 0) = false := by simpa using hK0
        have hg : (decide (checkI r = 0) && decide (wordI r = x)) = false := by rw [hK]; simp [hK0]
        replace hg := Lib.hid hg
        have s0 : w3.setCell ⟨w.heap.size, 0, none⟩ (.int .i64 0) = w3 := setCell_idI hq0 rfl
        have s1 : w3.setCell ⟨w.heap.size, 1, none⟩ (.int .i64 0) = w3 := setCell_idI hq0 rfl
        have s2 : w3.setCell ⟨w.heap.size, 2, none⟩ (.int .i64 0) = w3 := setCell_idI hq0 rfl
        have s3 : w3.setCell ⟨w.heap.size, 3, none⟩ (.int .i64 0) = w3 := setCell_idI hq0 rfl
        have s4 : w3.setCell ⟨w.heap.size, 4, none⟩ (.int .i64 0) = w3 := setCell_idI hq0 rfl
        have s5 : w3.setCell ⟨w.heap.size, 5, none⟩ (.int .i32 0) = w3 := setCell_idI hq0 rfl
        clear hK hV
        replace hbA := Lib.hid hbA; replace hq0 := Lib.hid hq0; replace hq1 := Lib.hid hq1
        go_wp2_with fail
        exact bodyPost_ret (v := .tuple #[.agg (insC ins0), .int .i64 50]) (results_fst rfl rfl rfl hq0.out Tryz.underlying92 rfl infoIns) rfl ⟨hbA.out, by rw [← hPI.out, ← hPC.out, hg.out]; rfl⟩
end YtiknookfnameiaaGreatDoor
end Go.Proofs
