/- The contract of isa's CondName. The contracts of AsmLands' small functions: within, name, line. How long a printed text is, and how it ends. No program in sight. AsmKeeps: the small things its walk wants. -/
import Derived.Test.YtiknookfnameiaaGreatDoorJn02
import Derived.Test.YtiknookfnameiaaGreatDoorJn35
import Derived.Test.YtiknookfnameiaaGreatDoorJn40
import Derived.Test.YtiknookfnameiaaGreatDoorVBkJn
import Derived.Test.YtiknookfnameiaaGreatDoorJn37
namespace Go.Proofs
open Go.RowKit
namespace YtiknookfnameiaaGreatDoor
open WP
set_option maxRecDepth 100000 in
theorem cond_any (n : Nat) (w : World) (hT : Tabs w) :
    Calls Tryz.prog 29 #[.int .i64 n] w fun e w' => e = .returned (.string (strS (condI n))) ∧ w' = w := by
  by_cases hn : n < 7
  · exact cond_of n w hn hT
  · have e : strS (condI n) = ⟨#[]⟩ := by
      unfold condI strS; rw [if_pos (by omega), List.getD_eq_getElem?_getD, List.getElem?_eq_none (by show 7 ≤ _; omega)]; rfl
    rw [e]
    clear hT e
    go_enter Tryz.func29, Tryz.ntmps29
    go_wp2
    go_ret; exact ⟨rfl, rfl⟩
end YtiknookfnameiaaGreatDoor
end Go.Proofs

namespace Go.Proofs.YtiknookfnameiaaGreatDoor
open Go.RowKit WP
set_option linter.unusedSimpArgs false
set_option linter.unusedVariables false
def i64B (x : Int) : Prop := -9223372036854775808 ≤ x ∧ x ≤ 9223372036854775807
structure PieceOk (p : Piece) : Prop where
  k : i64B p.kind
  a : i64B p.a
  c : i64B p.cond
  t : i64B p.tgt
  v : p.v < 4294967296
def pcC (p : Piece) : Array Value := #[.int .i64 p.kind, .int .i64 p.a, .int .i64 p.cond, .int .i64 p.tgt, .int .u32 (p.v : Int)]
def pcV (p : Piece) : Value := .agg (pcC p)
theorem md_tmod (x : Int) (m : Nat) (hm : 0 < m) : (x.tmod m < 0 → x.tmod (m : Int) + m = (md x m : Int)) ∧ (¬ x.tmod m < 0 → x.tmod (m : Int) = (md x m : Int)) := by
  unfold md
  have h1 := Int.emod_nonneg x (show (m : Int) ≠ 0 by omega)
  have h2 := Int.emod_lt_of_pos x (show (0 : Int) < m by omega)
  have h3 := Int.tmod_eq_emod (a := x) (b := (m : Int))
  constructor
  · intro h
    rw [Int.toNat_of_nonneg h1]
    rw [h3] at h ⊢
    split at h
    · omega
    · rename_i hc; rw [if_neg hc]; simp
  · intro h
    rw [Int.toNat_of_nonneg h1]
    rw [h3] at h ⊢
    split at h
    · rename_i hc; rw [if_pos hc]; simp
    · simp at h; omega
end Go.Proofs.YtiknookfnameiaaGreatDoor

namespace Go.Proofs.YtiknookfnameiaaGreatDoor
open WP
theorem dec_two (m : Nat) (h : m ≤ 14) : (Lib.decDigits m).length ≤ 2 := by
  rw [Lib.decDigits_length]
  by_cases h1 : m < 10
  · rw [Lib.nDigits_small h1]; omega
  · rw [Lib.nDigits_big h1, Lib.nDigits_small (by omega)]; omega
theorem dec_five (m : Nat) (h : m ≤ 65535) : (Lib.decDigits m).length ≤ 5 := by
  rw [Lib.decDigits_length]
  by_cases h1 : m < 10
  · rw [Lib.nDigits_small h1]; omega
  by_cases h2 : m / 10 < 10
  · rw [Lib.nDigits_big h1, Lib.nDigits_small h2]; omega
  by_cases h3 : m / 10 / 10 < 10
  · rw [Lib.nDigits_big h1, Lib.nDigits_big h2, Lib.nDigits_small h3]; omega
  by_cases h4 : m / 10 / 10 / 10 < 10
  · rw [Lib.nDigits_big h1, Lib.nDigits_big h2, Lib.nDigits_big h3, Lib.nDigits_small h4]; omega
  · rw [Lib.nDigits_big h1, Lib.nDigits_big h2, Lib.nDigits_big h3, Lib.nDigits_big h4, Lib.nDigits_small (by omega)]; omega
theorem itoa_six (n : Int) (h0 : -32768 ≤ n) (h1 : n ≤ 65535) : (Lib.itoa n).length ≤ 6 := by
  unfold Lib.itoa
  split
  · have := dec_five n.natAbs (by omega); simp; omega
  · have := dec_five n.toNat (by omega); omega
theorem lit_short (i : Ins) (lab : List UInt8) (c : UInt8) (hl : lab.length ≤ 5) (hc : c = 97 ∨ c = 98 ∨ c = 99 ∨ c = 107 ∨ c = 117 ∨ c = 115 ∨ c = 111) (hb : inB i c) : (litI i lab c).length ≤ if c = 97 ∨ c = 98 ∨ c = 99 then 4 else 7 := by
  unfold inB okFld fld at hb
  have hreg : ∀ a : Int, 0 ≤ a ∧ a ≤ 14 → (Lib.decDigits a.toNat).length ≤ 2 := fun a h => dec_two _ (by omega)
  rcases hc with rfl | rfl | rfl | rfl | rfl | rfl | rfl
  · have hb' : 0 ≤ i.a ∧ i.a ≤ 14 := by simpa using hb
    have := hreg _ hb'
    simp [litI]; omega
  · have hb' : 0 ≤ i.b ∧ i.b ≤ 14 := by simpa using hb
    have := hreg _ hb'
    simp [litI]; omega
  · have hb' : 0 ≤ i.c ∧ i.c ≤ 14 := by simpa using hb
    have := hreg _ hb'
    simp [litI]; omega
  · have hb' : 0 ≤ i.k ∧ i.k ≤ 6 := by simpa using hb
    obtain ⟨n, hn⟩ := Int.eq_ofNat_of_zero_le hb'.1
    have : ∀ m : Fin 7, (condI (m.val : Nat)).length ≤ 6 := by decide
    have := this ⟨n, by omega⟩
    simp [litI, hn]; simpa using this
  · have hb' : 0 ≤ i.imm ∧ i.imm ≤ 65535 := by simpa using hb
    have := itoa_six i.imm (by omega) (by omega)
    simp [litI]; omega
  · have hb' : -32768 ≤ i.imm ∧ i.imm ≤ 32767 := by simpa using hb
    have := itoa_six i.imm (by omega) (by omega)
    simp [litI]; omega
  · have hb' : -32768 ≤ i.imm ∧ i.imm ≤ 32767 := by simpa using hb
    have := itoa_six i.imm (by omega) (by omega)
    by_cases hL : lab = []
    · simp [litI, hL]; omega
    · simp [litI, hL]; omega
theorem line_short (w : Int) (lab : List UInt8) (_h0 : 0 ≤ w) (_h1 : w < 4294967296) (hl : lab.length ≤ 5) : (lineL w lab).length ≤ 19 := by
  unfold lineL
  by_cases hg : goodI w = true
  · rw [if_pos hg]
    obtain ⟨hd, hc, hw, hop⟩ := good_dec hg
    have hf := good_fld hg
    rw [hd]
    have hnm : (nameI (readI w).op).length ≤ 4 := by
      obtain ⟨n, hn⟩ := Int.eq_ofNat_of_zero_le (show 0 ≤ (readI w).op by omega)
      rw [hn]
      have : ∀ m : Fin 25, (nameI (m.val : Nat)).length ≤ 4 := by decide +kernel
      exact this ⟨n, by omega⟩
    unfold insL
    have hs := fun c hc => lit_short (readI w) lab c hl (shape_let (readI w).op c hc (by omega) (by omega)) (hf c hc)
    rcases shape_cases (readI w).op (by omega) (by omega) with ⟨e, hn⟩ | ⟨_, e | e | e | e | e | e | e | e | e⟩
    · exact absurd hop hn
    all_goals
      rw [e] at hs ⊢
      simp only [List.foldl_cons, List.foldl_nil, List.length_append]
      simp only [List.mem_cons, List.not_mem_nil, or_false, forall_eq_or_imp, forall_eq] at hs
      simp at hs
      omega
  · rw [if_neg hg]
    simp [hx8P_len]
theorem labW_len (l : List UInt32) (i : Nat) (hi : i < l.length) (hn : l.length ≤ 2048) : (labW l i).length ≤ 5 := by
  unfold labW
  cases ht : tgtO (wAt l i) i l.length with
  | none => simp [labL]
  | some t => exact (nm_ok _ t (isTo_yes hi ht) (by have := tgtO_le ht; omega)).2.2.2
theorem piece_short (l : List UInt32) (i : Nat) (hi : i ≤ l.length) (hn : l.length ≤ 2048) : (pieceL l i).length ≤ 27 := by
  unfold pieceL
  rw [List.length_append]
  have h2 : (if (namedL l l.length).getD i false = true then nmAt (namedL l l.length) i ++ [58, 10] else []).length ≤ 7 := by
    split
    · rename_i h
      have := (nm_ok _ i h (by omega)).2.2.2
      simp; omega
    · simp
  have h3 : (if i < l.length then lineL (wAt l i) (labL (namedL l l.length) (tgtO (wAt l i) i l.length)) ++ [10] else []).length ≤ 20 := by
    split
    · rename_i h
      have hb := wAt_bd l i
      have := line_short (wAt l i) (labW l i) hb.1 (by omega) (labW_len l i h hn)
      unfold labW at this
      simp; omega
    · simp
  omega
theorem print_short (l : List UInt32) (hn : l.length ≤ 2048) : ∀ k, k ≤ l.length + 1 → (printL l k).length ≤ 27 * k
  | 0, _ => by simp [printL]
  | k + 1, hk => by
    rw [printL_succ, List.length_append]
    have := print_short l hn k (by omega)
    have := piece_short l k (by omega) hn
    omega
theorem print_bd (l : List UInt32) (hn : l.length ≤ 2048) : (printL l (l.length + 1)).length ≤ 65536 := by
  have := print_short l hn (l.length + 1) (Nat.le_refl _); omega
end Go.Proofs.YtiknookfnameiaaGreatDoor

namespace Go.Proofs.YtiknookfnameiaaGreatDoor
open Go.RowKit WP
set_option linter.unusedSimpArgs false
set_option linter.unusedVariables false
set_option maxRecDepth 100000 in
theorem kwithin_any (x : Int) (w : World) (hx : i64B x) :
    Calls Tryz.prog 21 #[.int .i64 x, .int .i64 2, .int .i64 6] w fun e w' => e = .returned (.int .i64 ((2 + md x 5 : Nat) : Int)) ∧ w' = w := by
  obtain ⟨hx1, hx2⟩ := hx
  obtain ⟨t1, t2⟩ := md_tmod x 5 (by omega)
  have hlt := md_lt x 5 (by omega)
  obtain ⟨m, hm⟩ : ∃ m, md x 5 = m := ⟨_, rfl⟩
  rw [hm] at t1 t2 hlt ⊢
  obtain ⟨r, hr⟩ : ∃ r, x.tmod (5 : Int) = r := ⟨_, rfl⟩
  rw [show ((5 : Nat) : Int) = (5 : Int) from rfl, hr] at t1 t2
  clear hm
  by_cases hn : r < 0
  · have t := t1 hn
    have d1 : decide (r < 0) = true := decide_eq_true hn
    clear t1 t2
    go_enter Tryz.func21, Tryz.ntmps21
    go_wp2_with fail
    go_ret
    exact ⟨ret1 (by omega), rfl⟩
  · have t := t2 hn
    have d1 : decide (r < 0) = false := decide_eq_false hn
    clear t1 t2
    go_enter Tryz.func21, Tryz.ntmps21
    go_wp2_with fail
    go_ret
    exact ⟨ret1 (by omega), rfl⟩
/-- the text of the labels -/
def labT : ByteArray := ⟨#[112, 58, 32, 113, 58, 32, 115, 118, 99, 32, 48, 10, 114, 58, 32, 119, 111, 114, 100, 32, 112, 10, 115, 58]⟩
def pL : ByteArray × Nat := (⟨#[112]⟩, 0)
def qL : ByteArray × Nat := (⟨#[113]⟩, 0)
def rL : ByteArray × Nat := (⟨#[114]⟩, 1)
def sL : ByteArray × Nat := (⟨#[115]⟩, 2)
theorem lab_read : ∃ ws, readM 0 labT = .inl (ws, [pL, qL, rL, sL]) := by
  have h : (match readM 0 labT with | .inl x => some x.2 | .inr _ => none) = some [pL, qL, rL, sL] := by decide +kernel
  cases hr : readM 0 labT with
  | inr f => rw [hr] at h; cases h
  | inl x =>
    rw [hr] at h
    simp only [Option.some.injEq] at h
    obtain ⟨ws, labs⟩ := x
    exact ⟨ws, by rw [← h]⟩
theorem rd_take {w : World} {ao : Option Addr} {n cap : Nat} {xs : List Value} (h : Rd w (.slice ao n cap) xs) (k : Nat) (hk : k ≤ n) : Rd w (.slice ao k cap) (xs.take k) := by
  obtain ⟨ao', c, hV, a1, a2, a3⟩ := h
  simp only [Value.slice.injEq] at hV
  obtain ⟨rfl, rfl, rfl⟩ := hV
  have hl : (xs.take k).length = k := by rw [List.length_take]; omega
  refine ⟨ao, cap, by rw [hl], by omega, a2, ?_⟩
  rcases a3 with a3 | ⟨b, off, rfl, a3⟩
  · exact .inl (by rw [a3]; simp)
  · refine .inr ⟨b, off, rfl, fun j u hu => a3 j u ?_⟩
    have hj := (List.getElem?_eq_some_iff.1 hu).1
    rwa [List.getElem?_take_of_lt (by omega)] at hu
theorem vw_take (l : List UInt32) (k : Nat) : (vw l).take k = vw (l.take k) := by unfold vw; exact List.map_take.symm
theorem rd_own {w : World} {base g n m c : Nat} {e : TypeId} {xs ys : List Value} (h : w.ownsRow base e 1 (.slice (some ⟨g, 0, none⟩) m c) m (xs ++ ys)) (hx : xs.length = n) : Rd w (.slice (some ⟨g, 0, none⟩) n c) xs := by
  have h0 := h.1
  rw [List.length_append, Nat.mul_one] at h0
  obtain ⟨_, _, hv, h1, h2⟩ := own_shape h
  simp only [Value.slice.injEq, true_and] at hv
  obtain ⟨rfl, rfl⟩ := hv
  refine ⟨_, c, by rw [hx], by omega, h2, .inr ⟨g, 0, rfl, fun j u hu => ?_⟩⟩
  rw [Nat.zero_add, h.cellAt j (by have := (List.getElem?_eq_some_iff.1 hu).1; omega)]
  rw [List.getElem?_append_left (List.getElem?_eq_some_iff.1 hu).1]; exact hu
theorem vw_set (l : List UInt32) (h : Nat) (y : Int) (h0 : IntKind.u32.min ≤ y) (h1 : y ≤ IntKind.u32.max) : (vw l).set h (.int .u32 y) = vw (l.set h (UInt32.ofNat y.toNat)) := by
  have h0' : 0 ≤ y := h0
  have h1' : y ≤ 4294967295 := h1
  unfold vw
  rw [List.map_set]
  congr 1
  have : ((UInt32.ofNat y.toNat).toNat : Int) = y := by simp; omega
  rw [this]
theorem reads_cell {w : World} {size g m m' c j : Nat} {xs : List Value} {u : Value} (h : Reads w size (.slice (some ⟨g, 0, none⟩) m c) m' xs) (hu : xs[j]? = some u) : w.cell? ⟨g, j, none⟩ = some u := by
  rcases h.2 with ⟨hv, _⟩ | ⟨g', cap', hv, hg, h1, h2, hc⟩
  · simp at hv
  · simp only [Value.slice.injEq, Option.some.injEq, Addr.mk.injEq, and_true] at hv
    obtain ⟨rfl, rfl, rfl⟩ := hv
    exact hc j u hu
theorem reads_form {w : World} {size n : Nat} {v : Value} {xs : List Value} (h : Reads w size v n xs) (hn : n ≠ 0) : ∃ g c, v = .slice (some ⟨g, 0, none⟩) n c ∧ n ≤ c ∧ c ≤ 9223372036854775807 := by
  obtain ⟨g, cap, hv, _, h1, h2, _⟩ := h.cellAt hn
  exact ⟨g, cap, hv, h1, h2⟩
def wM : Value := .int .u32 4276993775
theorem infoHeld6 : (Tryz.prog.info? 65).map (fun i => (i.zero, i.size, i.bytes)) = some (some (.agg #[.slice none 0 0, .slice none 0 0, .int .u32 0]), 3, 56) := by kernel_rfl
theorem infoRowL : (Tryz.prog.info? 37).map (fun i => (i.zero, i.size, i.bytes)) = some (some (.slice none 0 0), 1, 24) := by kernel_rfl
theorem infoRowW : (Tryz.prog.info? 24).map (fun i => (i.zero, i.size, i.bytes)) = some (some (.slice none 0 0), 1, 24) := by kernel_rfl
theorem far1 {S x : Value} (h : Far x S) : ∀ s ∈ [S], Far x s := fun s hs => by rw [List.mem_singleton.1 hs]; exact h
theorem mark_done {base B5 : Nat} {wx w1 wv w5 : World} {lv ml mk : Value} {n : Nat} {xs : List Value} (ol : OutW wx base 22 1 lv n xs) (hw1 : wx.alloc (.cells #[lv, .slice none 0 0, mk] 65) = w1)
    (ti : Touch [lv] w1 wv) (oi : OutW wv base 22 1 lv n (List.replicate n mk)) (b5 : Below wv.heap.size wv w5) (hml : w5.ownsRow B5 22 1 ml (n + 1) (List.replicate n mk ++ [mk])) (hB5 : wv.heap.size ≤ B5) :
    w5.cell? ⟨wx.heap.size, 1, none⟩ = some (.slice none 0 0) ∧ w5.frozen? ⟨wx.heap.size, 1, none⟩ = false ∧
    (w5.setCell ⟨wx.heap.size, 1, none⟩ ml).heap[wx.heap.size]? = some (.cells #[lv, ml, mk] 65 (0, 0)) ∧
    Touch [lv] wx (w5.setCell ⟨wx.heap.size, 1, none⟩ ml) ∧ Reads (w5.setCell ⟨wx.heap.size, 1, none⟩ ml) 1 lv n (List.replicate n mk) ∧
    Reads (w5.setCell ⟨wx.heap.size, 1, none⟩ ml) 1 ml (n + 1) (List.replicate (n + 1) mk) ∧ (∀ k, ml.ownBlock = some k → wx.heap.size ≤ k) := by
  have hlx : ∀ kk, lv.ownBlock = some kk → kk < wx.heap.size := fun kk h => (ol.lt kk h).2
  have hs1 : w1.heap.size = wx.heap.size + 1 := by rw [← hw1]; simp
  have hH1 : w1.heap[wx.heap.size]? = some (.cells #[lv, .slice none 0 0, mk] 65 (0, 0)) := by rw [← hw1]; exact heap_alloc_new _ _
  have b1 : Below wx.heap.size wx w1 := by rw [← hw1]; exact (Below.refl _ _).alloc (Nat.le_refl _) _
  have hHv := (ti.block wx.heap.size (by omega) (fun v hv e => by rw [List.mem_singleton.1 hv] at e; have := hlx _ e; omega)).trans hH1
  have hsv := ti.size
  have hH5 := (b5.block wx.heap.size (by omega)).trans hHv
  have hs5 := b5.size
  have one : Touch [.slice (some ⟨wx.heap.size, 0, none⟩) 0 0] w5 (w5.setCell ⟨wx.heap.size, 1, none⟩ ml) :=
    ⟨rfl, rfl, rfl, by simp [World.setCell], fun k _ hf => Below.heap_setCell _ _ _ _ (fun e => hf _ (List.mem_singleton_self _) (by rw [e]; rfl))⟩
  refine ⟨cell_of_row _ _ _ _ _ _ hH5, frozen_of_row _ _ _ _ _ hH5, heap_setCell_same _ _ _ _ _ _ hH5, ?_, ?_, ?_, ?_⟩
  · have t5 : Touch [lv] wx w5 := ((Touch.of_below b1).trans ti).trans (Touch.of_below b5)
    exact ⟨one.os.trans t5.os, one.tape.trans t5.tape, one.output.trans t5.output, Nat.le_trans t5.size one.size, fun k hk hf => (one.block k (Nat.lt_of_lt_of_le hk t5.size) fun v hv e => by rw [List.mem_singleton.1 hv] at e; simp only [Value.ownBlock, Option.some.injEq] at e; omega).trans (t5.block k hk hf)⟩
  · refine (oi.reads.later b5).touch one (far1 fun k h1 h2 => ?_)
    simp only [Value.ownBlock, Option.some.injEq] at h2
    have := hlx k h1; omega
  · rw [← List.replicate_succ'] at hml
    refine (Reads.of_own hml).touch one (far1 fun k h1 h2 => ?_)
    simp only [Value.ownBlock, Option.some.injEq] at h2
    have := (hml.lt k h1).1; omega
  · intro k hk
    have := (hml.lt k hk).1; omega
/-- labels written over one by one -/
def fillL (q : Nat) (ys : List Value) (i : Nat) : List Value := labK i q ++ ys.drop (i * 2)
theorem set_fillL (q : Nat) (ys : List Value) (i : Nat) (h : i * 2 + 1 < ys.length) : ((fillL q ys i).set (i * 2) (.string ⟨#[35]⟩)).set (i * 2 + 1) (.int .i64 (q : Int)) = fillL q ys (i + 1) := by
  unfold fillL
  have hl : (labK i q).length = i * 2 := labK_len i q
  rw [labK_succ, List.set_append_right _ _ (by omega), List.set_append_right _ _ (by omega), hl, List.append_assoc, show (i + 1) * 2 = i * 2 + 2 by omega]
  congr 1
  rw [List.drop_eq_getElem_cons (by omega : i * 2 < ys.length), List.drop_eq_getElem_cons (by omega : i * 2 + 1 < ys.length)]
  rw [Nat.sub_self, show i * 2 + 1 - i * 2 = 1 by omega]
  rfl
theorem get_fillL (q : Nat) (ys : List Value) (i j : Nat) (h : i * 2 + j < ys.length) : ∃ y, (fillL q ys i)[i * 2 + j]? = some y :=
  ⟨_, List.getElem?_eq_getElem (by unfold fillL; rw [List.length_append, labK_len, List.length_drop]; omega)⟩
theorem fillL_all (q : Nat) (ys : List Value) (i : Nat) (h : ys.length = i * 2) : fillL q ys i = labK i q := by
  unfold fillL; rw [List.drop_of_length_le (by omega), List.append_nil]
def lab4 : List Value := lc [pL, qL, rL, sL]
theorem lab4_len : lab4.length = 4 * 2 := rfl
theorem labK_get (m q i : Nat) (h : i < m) : (labK m q)[i * 2]? = some (.string ⟨#[35]⟩) ∧ (labK m q)[i * 2 + 1]? = some (.int .i64 (q : Int)) := by
  have e : labK m q = labK i q ++ ([.string ⟨#[35]⟩, .int .i64 (q : Int)] ++ labK (m - i - 1) q) := by
    have : labK m q = labK (i + 1 + (m - i - 1)) q := by rw [show i + 1 + (m - i - 1) = m by omega]
    rw [this]
    unfold labK
    rw [← List.replicate_append_replicate, lc_append, List.replicate_succ', lc_append, List.append_assoc]
    rfl
  have hl := labK_len i q
  refine ⟨?_, ?_⟩
  · rw [e, List.getElem?_append_right (by omega), hl, Nat.sub_self]; rfl
  · rw [e, List.getElem?_append_right (by omega), hl, show i * 2 + 1 - i * 2 = 1 by omega]; rfl
theorem rowK_len (E : List KEnt) : (rowK E).length = E.length * 3 := by
  unfold rowK
  induction E with
  | nil => rfl
  | cons a l ih => rw [List.flatMap_cons, List.length_append, ih, List.length_cons]; simp; omega
theorem rowK_get (E : List KEnt) (i : Nat) (h : i < E.length) : (rowK E)[i * 3]? = some E[i].l ∧ (rowK E)[i * 3 + 1]? = some E[i].ml ∧ (rowK E)[i * 3 + 2]? = some (mkV E[i].k) := by
  have e : rowK E = rowK (E.take i) ++ ([E[i].l, E[i].ml, mkV E[i].k] ++ rowK (E.drop (i + 1))) := by
    have h2 : E = E.take i ++ E[i] :: E.drop (i + 1) := by rw [← List.drop_eq_getElem_cons h, List.take_append_drop]
    have h3 : rowK E = rowK (E.take i ++ E[i] :: E.drop (i + 1)) := by rw [← h2]
    rw [h3]; unfold rowK; rw [List.flatMap_append, List.flatMap_cons]
  have hl : (rowK (E.take i)).length = i * 3 := by rw [rowK_len, List.length_take]; omega
  refine ⟨?_, ?_, ?_⟩
  · rw [e, List.getElem?_append_right (by omega), hl, Nat.sub_self]; rfl
  · rw [e, List.getElem?_append_right (by omega), hl, show i * 3 + 1 - i * 3 = 1 by omega]; rfl
  · rw [e, List.getElem?_append_right (by omega), hl, show i * 3 + 2 - i * 3 = 2 by omega]; rfl
/-- what stands in the book's three rows at an entry -/
theorem KBook.at_ {base : Nat} {w : World} {gB gN gL cB cN cL n q : Nat} {E : List KEnt} (h : KBook base w (.slice (some ⟨gB, 0, none⟩) q cB) (.slice (some ⟨gN, 0, none⟩) q cN) (.slice (some ⟨gL, 0, none⟩) q cL) n E) (j : Nat) (hj : j < E.length) :
    KRead w n E[j] ∧ E[j].k = j ∧ w.cell? ⟨gB, j * 3, none⟩ = some E[j].l ∧ w.cell? ⟨gB, j * 3 + 1, none⟩ = some E[j].ml ∧ w.cell? ⟨gB, j * 3 + 2, none⟩ = some (mkV j) ∧ w.cell? ⟨gN, j, none⟩ = some E[j].na ∧ w.cell? ⟨gL, j, none⟩ = some E[j].lo := by
  obtain ⟨k1, k2, k3⟩ := rowK_get E j hj
  have hk := (h.told j hj).2
  rw [hk] at k3
  refine ⟨(h.told j hj).1, hk, reads_cell (Reads.of_own h.rB) k1, reads_cell (Reads.of_own h.rB) k2, reads_cell (Reads.of_own h.rB) k3, reads_cell (Reads.of_own h.rN) ?_, reads_cell (Reads.of_own h.rL) ?_⟩
  · rw [List.getElem?_map, List.getElem?_eq_getElem hj]; rfl
  · rw [List.getElem?_map, List.getElem?_eq_getElem hj]; rfl
theorem kcell {w w' : World} {g c m q i : Nat} (h : Reads w 2 (.slice (some ⟨g, 0, none⟩) m c) m (labK m q)) (hb : Below w.heap.size w w') (hi : i < m) : w'.cell? ⟨g, i * 2, none⟩ = some (.string ⟨#[35]⟩) ∧ w'.cell? ⟨g, i * 2 + 1, none⟩ = some (.int .i64 (q : Int)) :=
  ⟨reads_cell (h.later hb) (labK_get m q i hi).1, reads_cell (h.later hb) (labK_get m q i hi).2⟩
end Go.Proofs.YtiknookfnameiaaGreatDoor
