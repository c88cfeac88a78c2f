/- The walk of AttestBack. The contracts of wardenref16's cut, eight, Format, Parse. The contract of the reference's ruled: the rule that three words are. -/
import Derived.Test.YtemanjahkohcpaaGreatDoorJn14
import Derived.Test.YtemanjahkohcpaaGreatDoorJn29
import Derived.Test.YtemanjahkohcpaaGreatDoorRWordJn
import Derived.Test.YtemanjahkohcpaaGreatDoorJn22
import Derived.Deep.RegionHeld3
import Derived.Laws.ResultCell
namespace Go.Proofs.YtemanjahkohcpaaGreatDoor
open Go.RowKit WP
set_option maxRecDepth 100000
theorem place_is (at_ : Int) : ∃ k : Nat, k < 224 ∧ (wrap64 (at_.tmod 224 + 224)).tmod 224 = (k : Int) := by
  have h1 := Int.tmod_lt_of_pos at_ (show (0 : Int) < 224 by decide)
  have h2 : -224 < at_.tmod 224 := Int.lt_tmod_of_pos at_ (by decide)
  have e : wrap64 (at_.tmod 224 + 224) = at_.tmod 224 + 224 := by unfold wrap64; omega
  rw [e, Int.tmod_eq_emod_of_nonneg (by omega)]
  exact ⟨((at_.tmod 224 + 224) % 224).toNat, by omega, by omega⟩
section
variable {P : Program}
theorem wpList_load_mid_g {ops : Array Oper} {rest : List Oper} {op : Oper} {a : Act} {w : World} {Q : Exit → Act → World → Prop} (hw : Region.wanted op (yielded ops a.tmps) = true) (ty : TypeId) (x : Operand) (ho : op.op = .load ty x)
    (b o : Nat) (hx : a.eval x = .pointer (some ⟨b, o, none⟩)) (cs : List Value) (d : TypeDesc) (hc : w.rangeAt b o cs)
    (hu : P.underlying ty = some d) (hd : d.isRow = true) (hi : (P.info? ty).map (·.size) = some cs.length)
    (h : wpList P ops Q rest (a.put op.dst (.agg cs.toArray)) w) : wpList P ops Q (op :: rest) a w :=
  wpList_step fun K hK => by rw [if_pos hw]; exact wp_load_mid ty x ho b o hx cs d hc hu hd hi (hK _ _ h)
end
theorem new_at (w : World) (o1 o2 : Obj) : ((w.alloc o1).alloc o2).heap[w.heap.size + 1]? = some o2 := by
  have := heap_alloc_new (w.alloc o1) o2
  rwa [show (w.alloc o1).heap.size = w.heap.size + 1 by simp] at this
theorem setCell_id {w : World} {b i : Nat} {cs : Array Value} {t : TypeId} {fr : Nat × Nat} {v : Value} (h : w.heap[b]? = some (.cells cs t fr)) (hv : cs[i]? = some v) : w.setCell ⟨b, i, none⟩ v = w := by
  have hh : (w.setCell ⟨b, i, none⟩ v).heap = w.heap := by
    apply Array.ext_getElem?
    intro k
    by_cases hk : k = b
    · subst hk
      have e : cs.setIfInBounds i v = cs := by
        apply Array.ext_getElem?
        intro j
        rw [Array.getElem?_setIfInBounds]
        split
        · rename_i e; subst e
          rw [hv, if_pos (Array.getElem?_eq_some_iff.1 hv).1]
        · rfl
      unfold World.setCell
      simp only [Array.getElem?_modify, if_true, h, Option.map_some]
      simp [e]
    · exact heap_setCell_other w ⟨b, i, none⟩ k _ (by simpa using hk)
  show { w with heap := (w.setCell ⟨b, i, none⟩ v).heap } = w
  rw [hh]
theorem setCells_id {w : World} {b : Nat} {cs : Array Value} {t : TypeId} {fr : Nat × Nat} (h : w.heap[b]? = some (.cells cs t fr)) : ∀ (vs : List Value) (o : Nat), (∀ j v, vs[j]? = some v → cs[o + j]? = some v) → w.setCells b o vs = w
  | [], _, _ => rfl
  | v :: r, o, hv => by
    have h0 := hv 0 v rfl
    rw [Nat.add_zero] at h0
    rw [World.setCells, setCell_id h h0]
    exact setCells_id h r (o + 1) fun j u hu => by
      have := hv (j + 1) u (by simpa using hu)
      rwa [show o + 1 + j = o + (j + 1) by omega]
theorem zst {w : World} {g : Nat} (h : w.heap[g]? = some (.cells zero24.toArray 28)) : (storeCells ⟨g, 0, none⟩ zero24).run Tryz.prog w = .ok () w := by
  have e := setCells_id h zero24 0 (fun j v hv => by rw [Nat.zero_add]; simpa using hv)
  have := storeCells_arr (P := Tryz.prog) (List.replicate 24 0) (w := w) (b := g) (n := 24) (fun j hj => by
    refine ⟨?_, frozen_of_row w g _ _ _ h⟩
    rw [cell_of_row w g _ _ _ _ h]
    have : j < zero24.length := hj
    simp only [Nat.zero_add, List.getElem?_toArray, List.getElem?_eq_getElem this]; rfl) rfl
  have e2 : vw (List.replicate 24 0) = zero24 := rfl
  rw [e2, e] at this
  exact this
theorem vw8lit (l : List UInt32) (h : l.length = 8) : vw l = [.int .u32 (wAt l 0), .int .u32 (wAt l 1), .int .u32 (wAt l 2), .int .u32 (wAt l 3), .int .u32 (wAt l 4), .int .u32 (wAt l 5), .int .u32 (wAt l 6), .int .u32 (wAt l 7)] := by
  match l, h with
  | [_, _, _, _, _, _, _, _], _ => rfl
theorem quote_one (a0 a1 a2 : List UInt32) : ∀ v ∈ vw a0 ++ vw a1 ++ vw a2, v.oneCell' = true := by
  intro v hv
  rcases List.mem_append.1 hv with hv | hv
  · rcases List.mem_append.1 hv with hv | hv
    · exact vw_oneCell _ v hv
    · exact vw_oneCell _ v hv
  · exact vw_oneCell _ v hv
theorem quote_lit (q0 q1 q2 : List UInt32) (l0 : q0.length = 8) (l1 : q1.length = 8) (l2 : q2.length = 8) : (vw q0 ++ vw q1 ++ vw q2).toArray = #[Value.int IntKind.u32 (wAt q0 0), Value.int IntKind.u32 (wAt q0 1), Value.int IntKind.u32 (wAt q0 2), Value.int IntKind.u32 (wAt q0 3), Value.int IntKind.u32 (wAt q0 4), Value.int IntKind.u32 (wAt q0 5), Value.int IntKind.u32 (wAt q0 6), Value.int IntKind.u32 (wAt q0 7), Value.int IntKind.u32 (wAt q1 0), Value.int IntKind.u32 (wAt q1 1), Value.int IntKind.u32 (wAt q1 2), Value.int IntKind.u32 (wAt q1 3), Value.int IntKind.u32 (wAt q1 4), Value.int IntKind.u32 (wAt q1 5), Value.int IntKind.u32 (wAt q1 6), Value.int IntKind.u32 (wAt q1 7), Value.int IntKind.u32 (wAt q2 0), Value.int IntKind.u32 (wAt q2 1), Value.int IntKind.u32 (wAt q2 2), Value.int IntKind.u32 (wAt q2 3), Value.int IntKind.u32 (wAt q2 4), Value.int IntKind.u32 (wAt q2 5), Value.int IntKind.u32 (wAt q2 6), Value.int IntKind.u32 (wAt q2 7)] := by
  rw [vw8lit q0 l0, vw8lit q1 l1, vw8lit q2 l2]; rfl
end Go.Proofs.YtemanjahkohcpaaGreatDoor

namespace Go.Proofs.YtemanjahkohcpaaGreatDoor
open Go.RowKit WP
theorem below_step {w1 w' w2 : World} (b2 : Below w'.heap.size w' w2) (h : Below w1.heap.size w1 w') : Below w1.heap.size w1 w2 := h.trans (b2.mono h.size)
theorem fmt_join (me da tg : List UInt32) : (⟨#[113, 117, 111, 116, 101, 32, 49, 10, 109, 101, 97, 115, 117, 114, 101, 109, 101, 110, 116, 32]⟩ : ByteArray) ++ ⟨(hexAllL me).toArray⟩ ++ ⟨#[10, 100, 97, 116, 97, 32]⟩ ++ ⟨(hexAllL da).toArray⟩ ++ ⟨#[10, 116, 97, 103, 32]⟩ ++ ⟨(hexAllL tg).toArray⟩ ++ ⟨#[10]⟩ = ⟨(fmtL me da tg).toArray⟩ := by
  rw [fmtL_cat]
  apply ByteArray.ext
  simp
/-- a part of a block, as a slice -/
theorem rd_part {w : World} {g o : Nat} {l : List UInt32} (h : w.rangeAt g o (vw l)) (hl : l.length = 8) : Rd w (.slice (some ⟨g, o, none⟩) 8 8) (vw l) :=
  ⟨some ⟨g, o, none⟩, 8, by rw [length_vw, hl], by rw [length_vw, hl]; exact Nat.le_refl _, by simp [maxLen], .inr ⟨g, o, rfl, fun j u hu => h j u hu⟩⟩
set_option maxRecDepth 100000 in
set_option maxHeartbeats 1000000 in
theorem reight_any (s : ByteArray) (w : World) (h8 : s.size % 8 = 0) (hs : s.size ≤ 2097152) :
    Calls Tryz.prog 33 #[.string s] w fun e w' => Below w.heap.size w w' ∧
      ((∃ l : List UInt32, l.length = 8 ∧ hexAllL l = strL s ∧ e = .returned (.tuple #[.agg (vw l).toArray, .bool true])) ∨ (NoWords s ∧ e = .returned (.tuple #[.agg (vw (List.replicate 8 0)).toArray, .bool false]))) := by
  obtain ⟨w1, hw1⟩ : ∃ w1, w.alloc (.cells (vw (List.replicate 8 0)).toArray 26) = w1 := ⟨_, rfl⟩
  have aR : Arr w1 w.heap.size 26 (List.replicate 8 0) := by rw [← hw1]; exact Arr.new _ _ _
  have hb1 : Below w.heap.size w w1 := by rw [← hw1]; exact (Below.refl _ _).alloc (Nat.le_refl _) _
  replace aR := Lib.hid aR; replace hb1 := Lib.hid hb1
  go_enter Tryz.func33, Tryz.ntmps33
  go_upto_region 1 with fail
  try (change Code.wp _ _ _ _ (w.alloc (.cells (vw (List.replicate 8 0)).toArray 26)); rw [hw1])
  clear hw1
  go_wp2_with fail
  refine (rparseall_any s _ hs h8).mono ?_
  rintro e w2 ⟨b2, ⟨v2, rfl, o2, hall⟩ | ⟨rfl, i, hi, hn⟩⟩
  · obtain ⟨ao, cap, rfl, _⟩ := Rd.of_own o2
    have hx := hex_parseAll s h8 hall
    have hR := Rd.of_own o2
    have aR2 := aR.out.below b2
    have hb2 := hb1.out.trans (b2.mono hb1.out.size)
    rw [length_vw] at hR ⊢
    obtain ⟨n, hn⟩ : ∃ n, (parseAllL s).length = n := ⟨_, rfl⟩
    rw [hn] at hR ⊢
    clear o2 hall b2 aR hb1
    by_cases e8 : n = 8
    · rw [e8] at hR hn ⊢
      clear e8
      obtain ⟨ao', cap', hv, c1, c2, c3⟩ := hR
      simp only [Value.slice.injEq] at hv
      obtain ⟨rfl, hv8, rfl⟩ := hv
      clear hv8
      obtain ⟨l, hl⟩ : ∃ l, parseAllL s = l := ⟨_, rfl⟩
      rw [hl] at c1 c3 hn hx
      obtain ⟨b, off, rfl, hcell⟩ := c3.resolve_left (by intro h; have := congrArg List.length h; rw [length_vw, hn] at this; simp at this)
      have hrg : w2.rangeAt b off (vw l) := fun j u hu => hcell j u hu
      have hc8 : 8 ≤ cap := by rw [length_vw] at c1; omega
      have harr := run_arrayAt (P := Tryz.prog) (w := w2) 26 25 8 (some ⟨b, off, none⟩) 8 cap Tryz.underlying26 (Nat.le_refl _)
      clear hcell c3 hl c1
      replace hrg := Lib.hid hrg; replace hx := Lib.hid hx; replace hn := Lib.hid hn; replace aR2 := Lib.hid aR2; replace hb2 := Lib.hid hb2
      go_wp2_with (first
        | (refine wpList_load_mid rfl 26 _ rfl b off rfl (vw l) _ hrg.out Tryz.underlying26 rfl (by rw [length_vw, hn.out]; exact info23) ?_)
        | (refine wpList_store_arr rfl 26 _ _ rfl w.heap.size rfl l (by rfl) aR2.out info23 (by simp) hn.out ?_; intro wa aa ga; have hba := hb2.out.grown ga hb2.out.size (by simp)))
      refine bodyPost_ret (results_two rfl rfl rfl (range_block aa) Tryz.underlying26 rfl (by rw [length_vw, hn.out]; exact info23)) rfl ⟨hba, .inl ⟨l, hn.out, hx.out, rfl⟩⟩
    · have hN : NoWords s := noWords_len s (by have := congrArg List.length hx; rw [length_hexAllL, strL_length] at this; omega)
      have d8 : ((n : Int) != 8) = true := by simp; omega
      replace hN := Lib.hid hN; replace hR := Lib.hid hR; replace hx := Lib.hid hx; replace hn := Lib.hid hn; replace aR2 := Lib.hid aR2; replace hb2 := Lib.hid hb2
      go_wp2_with (refine wpList_store_arr rfl 26 _ _ rfl w.heap.size rfl (List.replicate 8 0) (by rfl) aR2.out info23 (by simp) (by simp) ?_; intro wa aa ga; have hba := hb2.out.grown ga hb2.out.size (by simp))
      refine bodyPost_ret (results_two rfl rfl rfl (range_block aa) Tryz.underlying26 rfl (by rw [length_vw]; exact info23)) rfl ⟨hba, .inr ⟨hN.out, rfl⟩⟩
  · have hN := noWords_chunk s i hi hn
    have aR2 := aR.out.below b2
    have hb2 := hb1.out.trans (b2.mono hb1.out.size)
    clear hn b2 aR hb1
    replace hN := Lib.hid hN; replace aR2 := Lib.hid aR2; replace hb2 := Lib.hid hb2
    go_wp2_with (refine wpList_store_arr rfl 26 _ _ rfl w.heap.size rfl (List.replicate 8 0) (by rfl) aR2.out info23 (by simp) (by simp) ?_; intro wa aa ga; have hba := hb2.out.grown ga hb2.out.size (by simp))
    refine bodyPost_ret (results_two rfl rfl rfl (range_block aa) Tryz.underlying26 rfl (by rw [length_vw]; exact info23)) rfl ⟨hba, .inr ⟨hN.out, rfl⟩⟩
end Go.Proofs.YtemanjahkohcpaaGreatDoor

namespace Go.Proofs.YtemanjahkohcpaaGreatDoor
open Go.RowKit WP
set_option maxRecDepth 100000 in
set_option maxHeartbeats 1000000 in
theorem reight_all (s : ByteArray) (w : World) (hs : s.size ≤ 2097152) :
    Calls Tryz.prog 33 #[.string s] w fun e w' => Below w.heap.size w w' ∧
      ((∃ l : List UInt32, l.length = 8 ∧ hexAllL l = strL s ∧ e = .returned (.tuple #[.agg (vw l).toArray, .bool true])) ∨ (NoWords s ∧ e = .returned (.tuple #[.agg (vw (List.replicate 8 0)).toArray, .bool false]))) := by
  by_cases h8 : s.size % 8 = 0
  · exact reight_any s w h8 hs
  obtain ⟨w1, hw1⟩ : ∃ w1, w.alloc (.cells (vw (List.replicate 8 0)).toArray 26) = w1 := ⟨_, rfl⟩
  have aR : Arr w1 w.heap.size 26 (List.replicate 8 0) := by rw [← hw1]; exact Arr.new _ _ _
  have hb1 : Below w.heap.size w w1 := by rw [← hw1]; exact (Below.refl _ _).alloc (Nat.le_refl _) _
  have hN : NoWords s := noWords_len s (by omega)
  replace aR := Lib.hid aR; replace hb1 := Lib.hid hb1; replace hN := Lib.hid hN
  go_enter Tryz.func33, Tryz.ntmps33
  go_upto_region 1 with fail
  try (change Code.wp _ _ _ _ (w.alloc (.cells (vw (List.replicate 8 0)).toArray 26)); rw [hw1])
  clear hw1
  go_wp2_with fail
  refine (rparseall_part s _ hs h8).mono ?_
  rintro e w2 ⟨rfl, rfl⟩
  clear h8
  go_wp2_with (refine wpList_store_arr rfl 26 _ _ rfl w.heap.size rfl (List.replicate 8 0) (by rfl) aR.out info23 (by simp) (by simp) ?_; intro wa aa ga; have hba := hb1.out.grown ga hb1.out.size (by simp))
  refine bodyPost_ret (results_two rfl rfl rfl (range_block aa) Tryz.underlying26 rfl (by rw [length_vw]; exact info23)) rfl ⟨hba, .inr ⟨hN.out, rfl⟩⟩
/-- the rule that these words are -/
def ruleF (ws : List W) : Option RuleD :=
  match ws with
  | [a, b, c] => if nameF b.1 = true then (saysF a.1).bind fun x => (eightF c.1).map fun m => ⟨x, b.1, m⟩ else none
  | _ => none
def zr : RuleD := ⟨false, ⟨#[]⟩, List.replicate 8 0⟩
theorem ruleC_lit (r : RuleD) (h : r.me.length = 8) : (ruleC r).toArray = #[.bool r.allow, .string r.name, .int .u32 (wAt r.me 0), .int .u32 (wAt r.me 1), .int .u32 (wAt r.me 2), .int .u32 (wAt r.me 3), .int .u32 (wAt r.me 4), .int .u32 (wAt r.me 5), .int .u32 (wAt r.me 6), .int .u32 (wAt r.me 7)] := by
  have := vw_lit8 r.me h
  have h2 : vw r.me = [.int .u32 (wAt r.me 0), .int .u32 (wAt r.me 1), .int .u32 (wAt r.me 2), .int .u32 (wAt r.me 3), .int .u32 (wAt r.me 4), .int .u32 (wAt r.me 5), .int .u32 (wAt r.me 6), .int .u32 (wAt r.me 7)] := congrArg Array.toList this
  unfold ruleC
  rw [h2]
def RuledRes (ws : List W) (e : Ending) : Prop :=
  (∃ r : RuleD, ruleF ws = some r ∧ r.me.length = 8 ∧ e = .returned (.tuple #[.agg (ruleC r).toArray, .bool true])) ∨ (ruleF ws = none ∧ ∃ r : RuleD, r.me.length = 8 ∧ e = .returned (.tuple #[.agg (ruleC r).toArray, .bool false]))
set_option maxRecDepth 100000 in
set_option maxHeartbeats 4000000 in
theorem ruled_any (ws : List W) (v : Value) (w : World) (hv : Rd w v (tx ws)) (hs : ∀ x ∈ ws, x.1.size ≤ 1048576) :
    Calls Tryz.prog 20 #[v] w fun e w' => Below w.heap.size w w' ∧ RuledRes ws e := by
  obtain ⟨ao, cap, rfl, p1, p2, hc⟩ := hv
  have hl : (tx ws).length = ws.length := by simp [tx]
  rw [hl] at p1 ⊢
  by_cases h3 : ws.length = 3
  · match ws, h3 with
    | [a, b, c], _ =>
      obtain ⟨bk, off, rfl, hcell⟩ := hc.resolve_left (by simp [tx])
      have c0 := hcell 0 (.string a.1) rfl
      have c1 := hcell 1 (.string b.1) rfl
      have c2 := hcell 2 (.string c.1) rfl
      rw [Nat.add_zero] at c0
      have hbl : bk < w.heap.size := World.block_lt_of_cell? _ _ c0
      have hsa := hs a (by simp)
      have hsc := hs c (by simp)
      clear hcell hc hl hs
      simp only [List.length_cons, List.length_nil, Nat.zero_add, Nat.reduceAdd] at p1 ⊢
      obtain ⟨w1, hw1⟩ : ∃ w1, w.alloc (Obj.cells #[.bool false, .string ⟨#[]⟩, .int .u32 0, .int .u32 0, .int .u32 0, .int .u32 0, .int .u32 0, .int .u32 0, .int .u32 0, .int .u32 0] 64) = w1 := ⟨_, rfl⟩
      have hb1 : Below w.heap.size w w1 := by rw [← hw1]; exact (Below.refl _ _).alloc (Nat.le_refl _) _
      have hR1 : w1.heap[w.heap.size]? = some (.cells #[.bool false, .string ⟨#[]⟩, .int .u32 0, .int .u32 0, .int .u32 0, .int .u32 0, .int .u32 0, .int .u32 0, .int .u32 0, .int .u32 0] 64 (0, 0)) := by rw [← hw1]; exact heap_alloc_new _ _
      replace c0 := cell_below c0 hb1
      replace c1 := cell_below c1 hb1
      replace c2 := cell_below c2 hb1
      have hnm := rname_any b.1 w1
      replace hR1 := Lib.hid hR1; replace hb1 := Lib.hid hb1; replace hnm := Lib.hid hnm
      by_cases hn : nameF b.1 = true
      · rw [if_pos hn] at hnm
        replace hn := Lib.hid hn
        go_enter Tryz.func20, Tryz.ntmps20
        go_upto_region 1 with fail
        try rw [hw1]
        clear hw1
        go_wp2_with fail
        refine hnm.out.mono ?_
        rintro e w2 ⟨rfl, rfl⟩
        clear hnm
        go_wp2_with fail
        refine (said_any a.1 _).mono ?_
        rintro e w3 ⟨rfl, b3⟩
        replace c1 := cell_below c1 b3
        replace c2 := cell_below c2 b3
        have hb3 := Lib.hid (hb1.out.trans (b3.mono hb1.out.size))
        have hlt : w.heap.size < w2.heap.size := (Array.getElem?_eq_some_iff.1 hR1.out).1
        have hR3 := Lib.hid ((b3.block _ hlt).trans hR1.out)
        clear b3 c0 hR1 hb1
        go_wp2_with fail
        refine (reight_all c.1 _ (by omega)).mono ?_
        rintro e w4 ⟨b4, h4⟩
        replace c1 := cell_below c1 b4
        have hb4 := Lib.hid (hb3.out.trans (b4.mono hb3.out.size))
        have hlt3 : w.heap.size < w3.heap.size := (Array.getElem?_eq_some_iff.1 hR3.out).1
        have hR4 := Lib.hid ((b4.block _ hlt3).trans hR3.out)
        clear b4 c2 hR3 hb3
        have key : ∃ l ok, l.length = 8 ∧ e = .returned (.tuple #[.agg (vw l).toArray, .bool ok]) ∧ eightF c.1 = if ok = true then some l else none := by
          rcases h4 with ⟨l, l8, hx, he⟩ | ⟨hN, he⟩
          · exact ⟨l, true, l8, he, eightF_some c.1 l l8 hx⟩
          · exact ⟨_, false, by simp, he, eightF_none c.1 hN⟩
        obtain ⟨l, ok, l8, rfl, hE⟩ := key
        rw [vw_lit8 l l8]
        replace hE := Lib.hid hE; replace l8 := Lib.hid l8
        clear h4
        go_upto_region 5 with fail
        obtain ⟨w5, hw5⟩ : ∃ w5, w4.alloc (Obj.cells #[.int .u32 (wAt l 0), .int .u32 (wAt l 1), .int .u32 (wAt l 2), .int .u32 (wAt l 3), .int .u32 (wAt l 4), .int .u32 (wAt l 5), .int .u32 (wAt l 6), .int .u32 (wAt l 7)] 26) = w5 := ⟨_, rfl⟩
        have b5 : Below w4.heap.size w4 w5 := by rw [← hw5]; exact (Below.refl _ _).alloc (Nat.le_refl _) _
        have hM5 : w5.heap[w4.heap.size]? = some (.cells #[.int .u32 (wAt l 0), .int .u32 (wAt l 1), .int .u32 (wAt l 2), .int .u32 (wAt l 3), .int .u32 (wAt l 4), .int .u32 (wAt l 5), .int .u32 (wAt l 6), .int .u32 (wAt l 7)] 26 (0, 0)) := by rw [← hw5]; exact heap_alloc_new _ _
        have hlt4 : w.heap.size < w4.heap.size := (Array.getElem?_eq_some_iff.1 hR4.out).1
        have hR5 := (b5.block _ hlt4).trans hR4.out
        have hb5 := hb4.out.trans (b5.mono hb4.out.size)
        have hbk4 : bk < w4.heap.size := World.block_lt_of_cell? _ _ c1
        replace c1 := cell_below c1 b5
        have hSof : ∀ W, Touch [rslR w.heap.size] w5 W → W.cell? ⟨bk, off + 1, none⟩ = some (.string b.1) ∧ W.cell? ⟨w4.heap.size, 0, none⟩ = some (.int .u32 (wAt l 0)) ∧ W.cell? ⟨w4.heap.size, 1, none⟩ = some (.int .u32 (wAt l 1)) ∧ W.cell? ⟨w4.heap.size, 2, none⟩ = some (.int .u32 (wAt l 2)) ∧ W.cell? ⟨w4.heap.size, 3, none⟩ = some (.int .u32 (wAt l 3)) ∧
            W.cell? ⟨w4.heap.size, 4, none⟩ = some (.int .u32 (wAt l 4)) ∧ W.cell? ⟨w4.heap.size, 5, none⟩ = some (.int .u32 (wAt l 5)) ∧ W.cell? ⟨w4.heap.size, 6, none⟩ = some (.int .u32 (wAt l 6)) ∧ W.cell? ⟨w4.heap.size, 7, none⟩ = some (.int .u32 (wAt l 7)) := fun W hW => by
          have k1 : ∀ k, k ≠ w.heap.size → ∀ s ∈ [rslR w.heap.size], s.ownBlock ≠ some k := fun k hk s hs e => by rw [List.mem_singleton.1 hs] at e; simp only [rslR, Value.ownBlock, Option.some.injEq] at e; exact hk e.symm
          have ck : ∀ c u, (#[Value.int .u32 (wAt l 0), .int .u32 (wAt l 1), .int .u32 (wAt l 2), .int .u32 (wAt l 3), .int .u32 (wAt l 4), .int .u32 (wAt l 5), .int .u32 (wAt l 6), .int .u32 (wAt l 7)] : Array Value)[c]? = some u → W.cell? ⟨w4.heap.size, c, none⟩ = some u := fun c u h => hW.cell ((cell_of_row w5 _ c _ _ _ hM5).trans h) (k1 _ (by show w4.heap.size ≠ _; omega))
          exact ⟨hW.cell c1 (k1 _ (by show bk ≠ _; omega)), ck 0 _ rfl, ck 1 _ rfl, ck 2 _ rfl, ck 3 _ rfl, ck 4 _ rfl, ck 5 _ rfl, ck 6 _ rfl, ck 7 _ rfl⟩
        have hEnd : ∀ W, Touch [rslR w.heap.size] w5 W → Below w.heap.size w W := fun W hW => hb5.trans (hW.below hb5.size fun v hv k hk => by rw [List.mem_singleton.1 hv] at hk; simp only [rslR, Value.ownBlock, Option.some.injEq] at hk; omega)
        have q0 : w5.cell? ⟨w.heap.size, 0, none⟩ = some (.bool false) := cell_of_row w5 _ 0 _ _ _ hR5
        have q1 : w5.cell? ⟨w.heap.size, 1, none⟩ = some (.string ⟨#[]⟩) := cell_of_row w5 _ 1 _ _ _ hR5
        have q2 : w5.cell? ⟨w.heap.size, 2, none⟩ = some (.int .u32 0) := cell_of_row w5 _ 2 _ _ _ hR5
        have q3 : w5.cell? ⟨w.heap.size, 3, none⟩ = some (.int .u32 0) := cell_of_row w5 _ 3 _ _ _ hR5
        have q4 : w5.cell? ⟨w.heap.size, 4, none⟩ = some (.int .u32 0) := cell_of_row w5 _ 4 _ _ _ hR5
        have q5 : w5.cell? ⟨w.heap.size, 5, none⟩ = some (.int .u32 0) := cell_of_row w5 _ 5 _ _ _ hR5
        have q6 : w5.cell? ⟨w.heap.size, 6, none⟩ = some (.int .u32 0) := cell_of_row w5 _ 6 _ _ _ hR5
        have q7 : w5.cell? ⟨w.heap.size, 7, none⟩ = some (.int .u32 0) := cell_of_row w5 _ 7 _ _ _ hR5
        have q8 : w5.cell? ⟨w.heap.size, 8, none⟩ = some (.int .u32 0) := cell_of_row w5 _ 8 _ _ _ hR5
        have q9 : w5.cell? ⟨w.heap.size, 9, none⟩ = some (.int .u32 0) := cell_of_row w5 _ 9 _ _ _ hR5
        have fz : ∀ c, w5.frozen? ⟨w.heap.size, c, none⟩ = false := fun c => frozen_of_row w5 _ c _ _ hR5
        have hT : Touch [rslR w.heap.size] w5 w5 := Touch.refl _ _
        have hfin : RuledRes [a, b, c] (.returned (.tuple #[.agg #[.bool (saidA a.1), .string b.1, .int .u32 (wAt l 0), .int .u32 (wAt l 1), .int .u32 (wAt l 2), .int .u32 (wAt l 3), .int .u32 (wAt l 4), .int .u32 (wAt l 5), .int .u32 (wAt l 6), .int .u32 (wAt l 7)], .bool (if saidB a.1 = true then ok else false)])) := by
          have hlit := ruleC_lit ⟨saidA a.1, b.1, l⟩ l8.out
          dsimp only at hlit
          unfold RuledRes
          simp only [ruleF]
          rw [if_pos hn.out, saysF_said, hE.out, ← hlit]
          by_cases h1 : saidB a.1 = true
          · rw [if_pos h1, if_pos h1]
            by_cases h2 : ok = true
            · rw [if_pos h2, h2]; exact .inl ⟨⟨saidA a.1, b.1, l⟩, rfl, l8.out, rfl⟩
            · rw [if_neg h2, show ok = false by simpa using h2]; exact .inr ⟨rfl, ⟨saidA a.1, b.1, l⟩, l8.out, rfl⟩
          · rw [if_neg h1, if_neg h1]; exact .inr ⟨rfl, ⟨saidA a.1, b.1, l⟩, l8.out, rfl⟩
        try rw [hw5]
        clear hw5 b5 hM5 hR5 hb5 c1 hR4 hb4
        replace hSof := Lib.hid hSof; replace hEnd := Lib.hid hEnd; replace hfin := Lib.hid hfin
        obtain ⟨sA, hsA⟩ : ∃ sA, saidA a.1 = sA := ⟨_, rfl⟩
        obtain ⟨sB, hsB⟩ : ∃ sB, saidB a.1 = sB := ⟨_, rfl⟩
        rw [hsA, hsB] at hfin ⊢
        clear hsA hsB
        obtain ⟨d1, m0, m1, m2, m3, m4, m5, m6, m7⟩ := hSof.out _ hT
        clear hSof
        cases sB
        · go_region
          go_wp2_with fail
          refine bodyPost_ret (v := .tuple #[.agg #[.bool sA, .string b.1, .int .u32 (wAt l 0), .int .u32 (wAt l 1), .int .u32 (wAt l 2), .int .u32 (wAt l 3), .int .u32 (wAt l 4), .int .u32 (wAt l 5), .int .u32 (wAt l 6), .int .u32 (wAt l 7)], .bool false]) ?_ rfl ?_
          · rw [results_cell_tmp (by rfl)]
            simp [go_sem, q0, q1, q2, q3, q4, q5, q6, q7, q8, q9]
          · exact ⟨hEnd.out _ (hT.trans (touchR _ _ _ _ _ _ _ _ _ _ _ _)).drewB, by simpa using hfin.out⟩
        · go_region
          go_wp2_with fail
          refine bodyPost_ret (v := .tuple #[.agg #[.bool sA, .string b.1, .int .u32 (wAt l 0), .int .u32 (wAt l 1), .int .u32 (wAt l 2), .int .u32 (wAt l 3), .int .u32 (wAt l 4), .int .u32 (wAt l 5), .int .u32 (wAt l 6), .int .u32 (wAt l 7)], .bool ok]) ?_ rfl ?_
          · rw [results_cell_tmp (by rfl)]
            simp [go_sem, q0, q1, q2, q3, q4, q5, q6, q7, q8, q9]
          · exact ⟨hEnd.out _ (hT.trans (touchR _ _ _ _ _ _ _ _ _ _ _ _)).drewB, by simpa using hfin.out⟩
      · have hnm2 := hnm.out
        rw [if_neg hn] at hnm2
        replace hnm := Lib.hid hnm2
        clear hnm2
        have hno : ruleF [a, b, c] = none := by simp only [ruleF]; rw [if_neg hn]
        replace hn := Lib.hid hn; replace hno := Lib.hid hno
        have q0 : w1.cell? ⟨w.heap.size, 0, none⟩ = some (.bool false) := cell_of_row w1 _ 0 _ _ _ hR1.out
        have q1 : w1.cell? ⟨w.heap.size, 1, none⟩ = some (.string ⟨#[]⟩) := cell_of_row w1 _ 1 _ _ _ hR1.out
        have q2 : w1.cell? ⟨w.heap.size, 2, none⟩ = some (.int .u32 0) := cell_of_row w1 _ 2 _ _ _ hR1.out
        have q3 : w1.cell? ⟨w.heap.size, 3, none⟩ = some (.int .u32 0) := cell_of_row w1 _ 3 _ _ _ hR1.out
        have q4 : w1.cell? ⟨w.heap.size, 4, none⟩ = some (.int .u32 0) := cell_of_row w1 _ 4 _ _ _ hR1.out
        have q5 : w1.cell? ⟨w.heap.size, 5, none⟩ = some (.int .u32 0) := cell_of_row w1 _ 5 _ _ _ hR1.out
        have q6 : w1.cell? ⟨w.heap.size, 6, none⟩ = some (.int .u32 0) := cell_of_row w1 _ 6 _ _ _ hR1.out
        have q7 : w1.cell? ⟨w.heap.size, 7, none⟩ = some (.int .u32 0) := cell_of_row w1 _ 7 _ _ _ hR1.out
        have q8 : w1.cell? ⟨w.heap.size, 8, none⟩ = some (.int .u32 0) := cell_of_row w1 _ 8 _ _ _ hR1.out
        have q9 : w1.cell? ⟨w.heap.size, 9, none⟩ = some (.int .u32 0) := cell_of_row w1 _ 9 _ _ _ hR1.out
        have fz : ∀ c, w1.frozen? ⟨w.heap.size, c, none⟩ = false := fun c => frozen_of_row w1 _ c _ _ hR1.out
        have hEnd : ∀ W, Touch [rslR w.heap.size] w1 W → Below w.heap.size w W := fun W hW => hb1.out.trans (hW.below hb1.out.size fun v hv k hk => by rw [List.mem_singleton.1 hv] at hk; simp only [rslR, Value.ownBlock, Option.some.injEq] at hk; omega)
        replace hEnd := Lib.hid hEnd
        go_enter Tryz.func20, Tryz.ntmps20
        go_upto_region 1 with fail
        try rw [hw1]
        clear hw1
        go_wp2_with fail
        refine hnm.out.mono ?_
        rintro e w2 ⟨rfl, rfl⟩
        clear hnm
        go_wp2_with fail
        refine bodyPost_ret (v := .tuple #[.agg #[.bool false, .string ⟨#[]⟩, .int .u32 0, .int .u32 0, .int .u32 0, .int .u32 0, .int .u32 0, .int .u32 0, .int .u32 0, .int .u32 0], .bool false]) ?_ rfl ?_
        · rw [results_cell_tmp (by rfl)]
          simp [go_sem, q0, q1, q2, q3, q4, q5, q6, q7, q8, q9]
        · exact ⟨hEnd.out _ (touchR _ _ _ _ _ _ _ _ _ _ _ _), .inr ⟨hno.out, zr, rfl, rfl⟩⟩
  · have hno : ruleF ws = none := by
      match ws, h3 with
      | [], _ => rfl
      | [_], _ => rfl
      | [_, _], _ => rfl
      | [_, _, _], h => exact absurd rfl h
      | _ :: _ :: _ :: _ :: _, _ => rfl
    obtain ⟨n, hn⟩ : ∃ n, ws.length = n := ⟨_, rfl⟩
    rw [hn] at p1 h3 ⊢
    obtain ⟨w1, hw1⟩ : ∃ w1, w.alloc (Obj.cells #[.bool false, .string ⟨#[]⟩, .int .u32 0, .int .u32 0, .int .u32 0, .int .u32 0, .int .u32 0, .int .u32 0, .int .u32 0, .int .u32 0] 64) = w1 := ⟨_, rfl⟩
    have hb1 : Below w.heap.size w w1 := by rw [← hw1]; exact (Below.refl _ _).alloc (Nat.le_refl _) _
    have hR1 : w1.heap[w.heap.size]? = some (.cells #[.bool false, .string ⟨#[]⟩, .int .u32 0, .int .u32 0, .int .u32 0, .int .u32 0, .int .u32 0, .int .u32 0, .int .u32 0, .int .u32 0] 64 (0, 0)) := by rw [← hw1]; exact heap_alloc_new _ _
    have h3' : ((n : Int) != 3) = true := by simp; omega
    replace hR1 := Lib.hid hR1; replace hb1 := Lib.hid hb1; replace hno := Lib.hid hno
    clear hc hl hs
    have q0 : w1.cell? ⟨w.heap.size, 0, none⟩ = some (.bool false) := cell_of_row w1 _ 0 _ _ _ hR1.out
    have q1 : w1.cell? ⟨w.heap.size, 1, none⟩ = some (.string ⟨#[]⟩) := cell_of_row w1 _ 1 _ _ _ hR1.out
    have q2 : w1.cell? ⟨w.heap.size, 2, none⟩ = some (.int .u32 0) := cell_of_row w1 _ 2 _ _ _ hR1.out
    have q3 : w1.cell? ⟨w.heap.size, 3, none⟩ = some (.int .u32 0) := cell_of_row w1 _ 3 _ _ _ hR1.out
    have q4 : w1.cell? ⟨w.heap.size, 4, none⟩ = some (.int .u32 0) := cell_of_row w1 _ 4 _ _ _ hR1.out
    have q5 : w1.cell? ⟨w.heap.size, 5, none⟩ = some (.int .u32 0) := cell_of_row w1 _ 5 _ _ _ hR1.out
    have q6 : w1.cell? ⟨w.heap.size, 6, none⟩ = some (.int .u32 0) := cell_of_row w1 _ 6 _ _ _ hR1.out
    have q7 : w1.cell? ⟨w.heap.size, 7, none⟩ = some (.int .u32 0) := cell_of_row w1 _ 7 _ _ _ hR1.out
    have q8 : w1.cell? ⟨w.heap.size, 8, none⟩ = some (.int .u32 0) := cell_of_row w1 _ 8 _ _ _ hR1.out
    have q9 : w1.cell? ⟨w.heap.size, 9, none⟩ = some (.int .u32 0) := cell_of_row w1 _ 9 _ _ _ hR1.out
    have fz : ∀ c, w1.frozen? ⟨w.heap.size, c, none⟩ = false := fun c => frozen_of_row w1 _ c _ _ hR1.out
    have hEnd : ∀ W, Touch [rslR w.heap.size] w1 W → Below w.heap.size w W := fun W hW => hb1.out.trans (hW.below hb1.out.size fun v hv k hk => by rw [List.mem_singleton.1 hv] at hk; simp only [rslR, Value.ownBlock, Option.some.injEq] at hk; omega)
    replace hEnd := Lib.hid hEnd
    go_enter Tryz.func20, Tryz.ntmps20
    go_upto_region 1 with fail
    try rw [hw1]
    clear hw1
    go_wp2_with fail
    refine bodyPost_ret (v := .tuple #[.agg #[.bool false, .string ⟨#[]⟩, .int .u32 0, .int .u32 0, .int .u32 0, .int .u32 0, .int .u32 0, .int .u32 0, .int .u32 0, .int .u32 0], .bool false]) ?_ rfl ?_
    · rw [results_cell_tmp (by rfl)]
      simp [go_sem, q0, q1, q2, q3, q4, q5, q6, q7, q8, q9]
    · exact ⟨hEnd.out _ (touchR _ _ _ _ _ _ _ _ _ _ _ _), .inr ⟨hno.out, zr, rfl, rfl⟩⟩
end Go.Proofs.YtemanjahkohcpaaGreatDoor
