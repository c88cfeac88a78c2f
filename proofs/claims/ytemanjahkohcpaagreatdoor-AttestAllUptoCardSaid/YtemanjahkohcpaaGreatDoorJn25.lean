/- The contracts of the law's lent and pieced. The contracts of the law's pieced and turned. -/
import Derived.Test.YtemanjahkohcpaaGreatDoorJn22
import Derived.Test.YtemanjahkohcpaaGreatDoorJn24
import Derived.Laws.ResultCell
import Derived.Deep.DrawnRows
import Derived.BigQuiet
namespace Go.Proofs.YtemanjahkohcpaaGreatDoor
open Go.RowKit WP
attribute [local go_sem ↓] Go.wp_at_zero Go.wp_at_succ
def spareB : ByteArray := ⟨#[115, 112, 97, 114, 101]⟩
/-- a policy's block of the call's own, its rules in a row of the call's own -/
structure LSt (C pb : Nat) (w0 w : World) (v : Value) (rs : List RuleD) (o : Bool) : Prop where
  blk : w.heap[pb]? = some (.cells #[v, .bool o] 24 (0, 0))
  own : w.ownsRow C 67 10 v rs.length (rulesC rs)
  lt : pb < C
  size : C ≤ w.heap.size
  keep : ∀ k, k < C → k ≠ pb → w.heap[k]? = w0.heap[k]?
  os : w.os = w0.os
  tape : w.tape = w0.tape
  output : w.output = w0.output
theorem LSt.belowB {C pb B : Nat} {w0 w w1 : World} {v : Value} {rs : List RuleD} {o : Bool} (h : LSt C pb w0 w v rs o) (hb : Below B w1 w0) (hB : B ≤ pb) (hs : w1.heap.size ≤ C) : Below B w1 w :=
  ⟨h.os.trans hb.os, h.tape.trans hb.tape, h.output.trans hb.output, Nat.le_trans hs h.size, fun k hk => (h.keep k (by have := h.lt; omega) (by omega)).trans (hb.block k hk)⟩
/-- the row has grown, then the slice is written -/
theorem LSt.more {C pb : Nat} {w0 w wa w3 : World} {v v' : Value} {rs rs' : List RuleD} {o : Bool} (h : LSt C pb w0 w v rs o) (ha : Below w.heap.size w wa) (hO : Onto wa v w3 v') (ho : w3.ownsRow C 67 10 v' rs'.length (rulesC rs')) :
    LSt C pb w0 (w3.setCell ⟨pb, 0, none⟩ v') v' rs' o ∧ w3.cell? ⟨pb, 0, none⟩ = some v ∧ w3.frozen? ⟨pb, 0, none⟩ = false := by
  have hs := h.size
  have hl := h.lt
  have has := ha.size
  have hv : ∀ k, v.ownBlock = some k → C ≤ k := fun k hk => (h.own.lt k hk).1
  have hk : ∀ k, k < C → w3.heap[k]? = w.heap[k]? := fun k hk =>
    (hO.1.block k (by omega) (fun e => by have := hv k e.symm; omega)).trans (ha.block k (by omega))
  have hp := (hk pb hl).trans h.blk
  refine ⟨⟨?_, ownsRow_setCell_below (a := ⟨pb, 0, none⟩) ho hl _, hl, by have := hO.1.size; simp; omega, ?_, hO.1.os.trans (ha.os.trans h.os), hO.1.tape.trans (ha.tape.trans h.tape), hO.1.output.trans (ha.output.trans h.output)⟩, cell_of_row _ _ _ _ _ _ hp, frozen_of_row _ _ _ _ _ hp⟩
  · rw [heap_setCell_same w3 pb 0 _ _ v' hp]; rfl
  · intro k hk' hne
    rw [heap_setCell_other _ _ _ _ (fun e => hne (by simpa using e)), hk k hk']; exact h.keep k hk' hne
theorem LSt.c0 {C pb : Nat} {w0 w : World} {v : Value} {rs : List RuleD} {o : Bool} (h : LSt C pb w0 w v rs o) : w.cell? ⟨pb, 0, none⟩ = some v := cell_of_row _ _ _ _ _ _ h.blk
theorem LSt.c1 {C pb : Nat} {w0 w : World} {v : Value} {rs : List RuleD} {o : Bool} (h : LSt C pb w0 w v rs o) : w.cell? ⟨pb, 1, none⟩ = some (.bool o) := cell_of_row _ _ _ _ _ _ h.blk
theorem LSt.f0 {C pb : Nat} {w0 w : World} {v : Value} {rs : List RuleD} {o : Bool} (h : LSt C pb w0 w v rs o) : w.frozen? ⟨pb, 0, none⟩ = false := frozen_of_row _ _ _ _ _ h.blk
set_option maxRecDepth 100000 in
set_option maxHeartbeats 4000000 in
theorem plent_any (rs : List RuleD) (o : Bool) (v : Value) (w : World) (hr : Rules w v rs) (hn : rs.length ≤ 1048576) :
    Calls Tryz.prog 21 #[.agg #[v, .bool o]] w fun e w' => ∃ v' C, w.heap.size ≤ C ∧ e = .returned (.agg #[v', .bool o]) ∧ w'.ownsRow C 67 10 v' (rs.length + 120) (rulesC (rs ++ List.replicate 120 (mkR spareB))) ∧ Below w.heap.size w w' := by
  obtain ⟨_, _, _, _, _, h8, _⟩ := id hr
  obtain ⟨iR, zR, hiR, hzR0, hzR1, hzR2, hzR3⟩ := infoR_parts
  have hlit := mkR_lit spareB
  obtain ⟨w1, hw1⟩ : ∃ w1, ((w.alloc (.cells #[v, .bool o] 24)).alloc (.cells #[.slice none 0 0, .bool false] 24)).alloc (.cells #[.slice none 0 0, .bool o] 24) = w1 := ⟨_, rfl⟩
  have b1 : Below w.heap.size w w1 := by rw [← hw1]; exact (((Below.refl _ _).alloc (Nat.le_refl _) _).alloc (by simp) _).alloc (by simp; omega) _
  have hA : w1.heap[w.heap.size]? = some (.cells #[v, .bool o] 24 (0, 0)) := by
    rw [← hw1, heap_alloc_old _ _ (by simp; omega), heap_alloc_old _ _ (by simp)]; exact heap_alloc_new w _
  have hR : w1.heap[w.heap.size + 1]? = some (.cells #[.slice none 0 0, .bool false] 24 (0, 0)) := by
    rw [← hw1, heap_alloc_old _ _ (by simp)]
    exact (congrArg (fun k => _[k]?) (by simp)).trans (heap_alloc_new (w.alloc (.cells #[v, .bool o] 24)) _)
  have hP : w1.heap[w.heap.size + 1 + 1]? = some (.cells #[.slice none 0 0, .bool o] 24 (0, 0)) := by
    rw [← hw1]
    exact (congrArg (fun k => _[k]?) (by simp)).trans (heap_alloc_new ((w.alloc (.cells #[v, .bool o] 24)).alloc (.cells #[.slice none 0 0, .bool false] 24)) _)
  have hs1 : w1.heap.size = w.heap.size + 3 := by rw [← hw1]; simp
  have hr1 := hr.below b1
  have L0 : LSt w1.heap.size (w.heap.size + 1 + 1) w1 w1 (.slice none 0 0) [] o := ⟨hP, World.ownsRow_nil _ _ _ _, by omega, Nat.le_refl _, fun _ _ _ => rfl, rfl, rfl, rfl⟩
  obtain ⟨ao, cap, rfl, n1, n2, hsrc⟩ := hr1.range
  have c0 : w1.cell? ⟨w.heap.size, 0, none⟩ = some (.slice ao rs.length cap) := cell_of_row _ _ 0 _ _ _ hA
  have c1 : w1.cell? ⟨w.heap.size, 1, none⟩ = some (.bool o) := cell_of_row _ _ 1 _ _ _ hA
  have p0 := L0.c0
  have pf := L0.f0
  have L0o := L0.own
  obtain ⟨n, hn'⟩ : ∃ n, rs.length = n := ⟨_, rfl⟩
  replace b1 := Lib.hid b1; replace hA := Lib.hid hA; replace hR := Lib.hid hR; replace hP := Lib.hid hP; replace hr1 := Lib.hid hr1; replace L0 := Lib.hid L0; replace hsrc := Lib.hid hsrc; replace h8 := Lib.hid h8; replace hlit := Lib.hid hlit; replace L0o := Lib.hid L0o; replace hn' := Lib.hid hn'; replace hs1 := Lib.hid hs1
  clear hr
  go_enter Tryz.func21, Tryz.ntmps21
  go_upto_region 2 with fail
  try rw [hw1]
  clear hw1
  have hbnd : (0 + rs.length) * 56 ≤ 140737488355328 := by omega
  go_wp2_with (at_builtin; refine wpList_append_rules _ rfl _ _ 22 rfl w1.heap.size 67 iR zR 56 Tryz.underlying22 hiR hzR0 hzR1 hzR2 hzR3 _ 0 [] rfl L0o.out _ rs _ rfl h8.out hsrc.out ?k3 hbnd ?k4 ?_)
  case k3 => simp only [maxLen]; omega
  case k4 => omega
  intro v2 w2 ho2 hO2
  obtain ⟨a2, e2, rfl, _, _⟩ := own_shape ho2
  obtain ⟨L2, q0, qf⟩ := L0.out.more (Below.refl _ _) hO2 (rs' := rs) (by simpa using ho2)
  have ho2' := L2.own
  clear ho2 hO2 p0 pf L0o L0
  replace L2 := Lib.hid L2
  go_wp2_with fail
  go_loopw [4] (fun i wr => ∃ (k : Nat) (vv : Value), k ≤ 120 ∧ i = .int .i64 (k : Int) ∧ LSt w1.heap.size (w.heap.size + 1 + 1) w1 wr vv (rs ++ List.replicate k (mkR spareB)) o) (fun i _ => 120 - (intOf i).toNat)
  case atStart => exact ⟨0, _, by omega, rfl, by simpa using L2.out⟩
  case round =>
    obtain ⟨wo, rfl⟩ : ∃ wo, wo = wr := ⟨wr, rfl⟩
    obtain ⟨k, vv, hk, rfl, hL⟩ := hrel
    by_cases hlt : k < 120
    · have p0 := hL.c0
      have pf := hL.f0
      have hLo := hL.own
      have hLs := hL.size
      obtain ⟨q, hq⟩ : ∃ q, (rs ++ List.replicate k (mkR spareB)).length = q := ⟨_, rfl⟩
      have hq2 : q = rs.length + k := by rw [← hq]; simp
      rw [hq] at hLo
      replace hL := Lib.hid hL; replace hLo := Lib.hid hLo; replace hq := Lib.hid hq
      go_wp2_with (at_builtin; refine wpList_append_onto' _ rfl _ _ 22 rfl w1.heap.size 67 iR zR 10 56 Tryz.underlying22 hiR hzR0 hzR1 hzR2 hzR3 (by decide) _ q _ rfl (hLo.out.alloc _) ⟨wo.heap.size, 0, none⟩ 1 1 [.bool false, .string spareB, .int .u32 0, .int .u32 0, .int .u32 0, .int .u32 0, .int .u32 0, .int .u32 0, .int .u32 0, .int .u32 0] rfl rfl (cells_new _ _ _ _) ?k5 ?k6 ?k7 ?k8 ?_)
      case k5 => simp [Value.oneCell']
      case k6 => simp only [maxLen]; omega
      case k7 => omega
      case k8 => simp; omega
      intro v7 w7 ho7 hO7
      obtain ⟨a7, e7, rfl, _, _⟩ := own_shape ho7
      have hre : rs ++ List.replicate (k + 1) (mkR spareB) = (rs ++ List.replicate k (mkR spareB)) ++ [mkR spareB] := by rw [List.replicate_succ', List.append_assoc]
      obtain ⟨L7, q7, qf7⟩ := hL.out.more ((Below.refl _ _).alloc (Nat.le_refl _) _) hO7 (rs' := rs ++ List.replicate (k + 1) (mkR spareB)) (by
        rw [hre, rulesC_append, show rulesC [mkR spareB] = ruleC (mkR spareB) by simp [rulesC], hlit.out, List.length_append, hq.out, hq2]; exact ho7)
      clear ho7 hO7 p0 pf hLo hL hre
      replace L7 := Lib.hid L7
      go_wp2_with fail
      go_roundw
      case rel => exact ⟨k + 1, _, by omega, by go_num, L7.out⟩
      case measure => simp [intOf]; omega
    · obtain rfl : k = 120 := by omega
      have p0 := hL.c0
      have p1 := hL.c1
      have hbf := hL.belowB b1.out (by omega) (by have := hs1.out; omega)
      have hR2 := (hL.keep (w.heap.size + 1) (by have := hs1.out; omega) (by omega)).trans hR.out
      have r0 : wo.cell? ⟨w.heap.size + 1, 0, none⟩ = some (.slice none 0 0) := cell_of_row _ _ 0 _ _ _ hR2
      have r1 : wo.cell? ⟨w.heap.size + 1, 1, none⟩ = some (.bool false) := cell_of_row _ _ 1 _ _ _ hR2
      have rf0 := frozen_of_row wo (w.heap.size + 1) 0 _ _ hR2
      have rf1 := frozen_of_row wo (w.heap.size + 1) 1 _ _ hR2
      have hown := ownsRow_setCell_below (a := ⟨w.heap.size + 1, 1, none⟩) (ownsRow_setCell_below (a := ⟨w.heap.size + 1, 0, none⟩) hL.own (show w.heap.size + 1 < w1.heap.size by have := hs1.out; omega) vv) (show w.heap.size + 1 < w1.heap.size by have := hs1.out; omega) (.bool o)
      have hbf2 := (hbf.setCell (p := ⟨w.heap.size + 1, 0, none⟩) (by show w.heap.size ≤ w.heap.size + 1; omega) vv).setCell (p := ⟨w.heap.size + 1, 1, none⟩) (by show w.heap.size ≤ w.heap.size + 1; omega) (.bool o)
      rw [List.length_append, List.length_replicate] at hown
      obtain ⟨av, cv, rfl, _, _⟩ := own_shape hown
      clear hbf hR2
      replace hL := Lib.hid hL; replace hown := Lib.hid hown; replace hbf2 := Lib.hid hbf2
      go_wp2_with fail
      refine bodyPost_ret (by simp [results, Tryz.results21, go_sem, r0, r1]; try rfl) rfl ?_
      exact ⟨_, w1.heap.size, by have := b1.out.size; omega, rfl, hown.out, hbf2.out⟩
end Go.Proofs.YtemanjahkohcpaaGreatDoor

namespace Go.Proofs.YtemanjahkohcpaaGreatDoor
open Go.RowKit WP
attribute [local go_sem ↓] Go.wp_at_zero Go.wp_at_succ
set_option maxRecDepth 100000 in
set_option maxHeartbeats 4000000 in
theorem pieced_any (g q n cap : Nat) (o : Bool) (w : World) (hq : q = n + 120) (hc : q ≤ cap) (hm : cap ≤ 9223372036854775807) :
    Calls Tryz.prog 35 #[.agg #[.slice (some ⟨g, 0, none⟩) q cap, .bool o]] w fun e w' => e = .returned (.agg #[.slice (some ⟨g, 0, none⟩) n cap, .bool o]) ∧ Below w.heap.size w w' := by
  obtain ⟨w1, hw1⟩ : ∃ w1, (w.alloc (.cells #[.slice (some ⟨g, 0, none⟩) q cap, .bool o] 24)).alloc (.cells #[.slice none 0 0, .bool false] 24) = w1 := ⟨_, rfl⟩
  have b1 : Below w.heap.size w w1 := by rw [← hw1]; exact ((Below.refl _ _).alloc (Nat.le_refl _) _).alloc (by simp) _
  have hA : w1.heap[w.heap.size]? = some (.cells #[.slice (some ⟨g, 0, none⟩) q cap, .bool o] 24 (0, 0)) := by
    rw [← hw1, heap_alloc_old _ _ (by simp)]; exact heap_alloc_new w _
  have hR : w1.heap[w.heap.size + 1]? = some (.cells #[.slice none 0 0, .bool false] 24 (0, 0)) := by
    rw [← hw1]
    exact (congrArg (fun k => _[k]?) (by simp)).trans (heap_alloc_new (w.alloc (.cells #[.slice (some ⟨g, 0, none⟩) q cap, .bool o] 24)) _)
  have c0 : w1.cell? ⟨w.heap.size, 0, none⟩ = some (.slice (some ⟨g, 0, none⟩) q cap) := cell_of_row _ _ 0 _ _ _ hA
  have c1 : w1.cell? ⟨w.heap.size, 1, none⟩ = some (.bool o) := cell_of_row _ _ 1 _ _ _ hA
  have r0 : w1.cell? ⟨w.heap.size + 1, 0, none⟩ = some (.slice none 0 0) := cell_of_row _ _ 0 _ _ _ hR
  have r1 : w1.cell? ⟨w.heap.size + 1, 1, none⟩ = some (.bool false) := cell_of_row _ _ 1 _ _ _ hR
  have f0 := frozen_of_row w1 (w.heap.size + 1) 0 _ _ hR
  have f1 := frozen_of_row w1 (w.heap.size + 1) 1 _ _ hR
  have bN := (b1.setCell (p := ⟨w.heap.size + 1, 0, none⟩) (by show w.heap.size ≤ w.heap.size + 1; omega) (.slice (some ⟨g, 0, none⟩) n cap)).setCell (p := ⟨w.heap.size + 1, 1, none⟩) (by show w.heap.size ≤ w.heap.size + 1; omega) (.bool o)
  have hw : IntKind.i64.wrap ((q : Int) - 120) = (n : Int) := by rw [IntKind.wrap_i64]; omega
  have i1 : (0 : Int) ≤ (n : Int) := by omega
  have i2 : (n : Int) ≤ (cap : Int) := by omega
  have bD := bN.drew
  replace hA := Lib.hid hA; replace hR := Lib.hid hR; replace b1 := Lib.hid b1; replace bN := Lib.hid bN; replace hq := Lib.hid hq; replace bD := Lib.hid bD
  go_enter Tryz.func35, Tryz.ntmps35
  go_upto_region 1 with fail
  try rw [hw1]
  clear hw1
  go_region
  go_wp2_with fail
  refine bodyPost_ret (by simp [results, Tryz.results35, go_sem, r0, r1]; try rfl) rfl ?_
  exact ⟨rfl, by first | exact bN.out | exact bD.out⟩
def flip7 (me : List UInt32) : List UInt32 := me.set 7 (ofI (bits .xor .u32 (wAt me 7) 1))
def turnR : List RuleD → List RuleD
  | [] => []
  | r :: rs => ⟨!r.allow, r.name, flip7 r.me⟩ :: rs
theorem flip_bd (me : List UInt32) : 0 ≤ bits .xor .u32 (wAt me 7) 1 ∧ bits .xor .u32 (wAt me 7) 1 ≤ 4294967295 := by
  obtain ⟨h1, h2⟩ := wAt_bd me 7
  rw [u32_xor (wAt me 7) 1 h1 (by omega) (by decide) (by decide)]
  have := Nat.xor_lt_two_pow (n := 32) (show (wAt me 7).toNat < 2 ^ 32 by omega) (show (1 : Int).toNat < 2 ^ 32 by decide)
  omega
theorem wAt_set_ne (l : List UInt32) (y : UInt32) (i j : Nat) (h : i ≠ j) : wAt (l.set j y) i = wAt l i := by
  unfold wAt; rw [List.getD_eq_getElem?_getD, List.getD_eq_getElem?_getD, List.getElem?_set_ne (by omega)]
theorem wAt_set_eq (l : List UInt32) (z : Int) (j : Nat) (h : j < l.length) (h1 : 0 ≤ z) (h2 : z ≤ 4294967295) : wAt (l.set j (ofI z)) j = z := by
  unfold wAt; rw [List.getD_eq_getElem?_getD, List.getElem?_set_self h]; exact ofI_val z h1 h2
theorem turn_sets (r : RuleD) (rs : List RuleD) (h8 : r.me.length = 8) : ((rulesC (r :: rs)).set 0 (.bool (!r.allow))).set 9 (.int .u32 (bits .xor .u32 (wAt r.me 7) 1)) = rulesC (turnR (r :: rs)) := by
  have e : ∀ x : RuleD, rulesC (x :: rs) = ruleC x ++ rulesC rs := fun _ => rfl
  obtain ⟨b1, b2⟩ := flip_bd r.me
  have hl : (flip7 r.me).length = 8 := by unfold flip7; rw [List.length_set, h8]
  unfold turnR
  rw [e, e, ruleC_lits r h8, ruleC_lits ⟨!r.allow, r.name, flip7 r.me⟩ hl]
  dsimp only
  unfold flip7
  rw [wAt_set_ne _ _ 0 7 (by decide), wAt_set_ne _ _ 1 7 (by decide), wAt_set_ne _ _ 2 7 (by decide), wAt_set_ne _ _ 3 7 (by decide), wAt_set_ne _ _ 4 7 (by decide), wAt_set_ne _ _ 5 7 (by decide), wAt_set_ne _ _ 6 7 (by decide), wAt_set_eq _ _ 7 (by omega) b1 b2]
  rfl
theorem turn_len (rs : List RuleD) : (turnR rs).length = rs.length := by cases rs <;> rfl
theorem turn_eight (rs : List RuleD) (h : ∀ r ∈ rs, r.me.length = 8) : ∀ r ∈ turnR rs, r.me.length = 8 := by
  cases rs with
  | nil => intro r hr; cases hr
  | cons x rs =>
    intro r hr
    unfold turnR at hr
    rcases List.mem_cons.1 hr with rfl | hr
    · show (flip7 x.me).length = 8; unfold flip7; rw [List.length_set]; exact h x (by simp)
    · exact h r (by simp [hr])
set_option maxRecDepth 100000 in
set_option maxHeartbeats 4000000 in
theorem turned_any (rs : List RuleD) (o : Bool) (v : Value) (w : World) (hr : Rules w v rs) (hn : rs.length ≤ 1048576) :
    Calls Tryz.prog 12 #[.agg #[v, .bool o]] w fun e w' => ∃ v' C, w.heap.size ≤ C ∧ e = .returned (.agg #[v', .bool (!o)]) ∧ w'.ownsRow C 67 10 v' rs.length (rulesC (turnR rs)) ∧ Below w.heap.size w w' := by
  obtain ⟨_, _, _, _, _, h8, _⟩ := id hr
  obtain ⟨iR, zR, hiR, hzR0, hzR1, hzR2, hzR3⟩ := infoR_parts
  obtain ⟨w1, hw1⟩ : ∃ w1, ((w.alloc (.cells #[v, .bool o] 24)).alloc (.cells #[.slice none 0 0, .bool false] 24)).alloc (.cells #[.slice none 0 0, .bool (!o)] 24) = w1 := ⟨_, rfl⟩
  have b1 : Below w.heap.size w w1 := by rw [← hw1]; exact (((Below.refl _ _).alloc (Nat.le_refl _) _).alloc (by simp) _).alloc (by simp; omega) _
  have hA : w1.heap[w.heap.size]? = some (.cells #[v, .bool o] 24 (0, 0)) := by
    rw [← hw1, heap_alloc_old _ _ (by simp; omega), heap_alloc_old _ _ (by simp)]; exact heap_alloc_new w _
  have hR : w1.heap[w.heap.size + 1]? = some (.cells #[.slice none 0 0, .bool false] 24 (0, 0)) := by
    rw [← hw1, heap_alloc_old _ _ (by simp)]
    exact (congrArg (fun k => _[k]?) (by simp)).trans (heap_alloc_new (w.alloc (.cells #[v, .bool o] 24)) _)
  have hP : w1.heap[w.heap.size + 1 + 1]? = some (.cells #[.slice none 0 0, .bool (!o)] 24 (0, 0)) := by
    rw [← hw1]
    exact (congrArg (fun k => _[k]?) (by simp)).trans (heap_alloc_new ((w.alloc (.cells #[v, .bool o] 24)).alloc (.cells #[.slice none 0 0, .bool false] 24)) _)
  have hs1 : w1.heap.size = w.heap.size + 3 := by rw [← hw1]; simp
  have hr1 := hr.below b1
  have L0 : LSt w1.heap.size (w.heap.size + 1 + 1) w1 w1 (.slice none 0 0) [] (!o) := ⟨hP, World.ownsRow_nil _ _ _ _, by omega, Nat.le_refl _, fun _ _ _ => rfl, rfl, rfl, rfl⟩
  obtain ⟨ao, cap, rfl, n1, n2, hsrc⟩ := hr1.range
  have c0 : w1.cell? ⟨w.heap.size, 0, none⟩ = some (.slice ao rs.length cap) := cell_of_row _ _ 0 _ _ _ hA
  have c1 : w1.cell? ⟨w.heap.size, 1, none⟩ = some (.bool o) := cell_of_row _ _ 1 _ _ _ hA
  have p0 := L0.c0
  have pf := L0.f0
  have L0o := L0.own
  replace b1 := Lib.hid b1; replace hA := Lib.hid hA; replace hR := Lib.hid hR; replace hP := Lib.hid hP; replace hr1 := Lib.hid hr1; replace L0 := Lib.hid L0; replace hsrc := Lib.hid hsrc; replace h8 := Lib.hid h8; replace L0o := Lib.hid L0o; replace hs1 := Lib.hid hs1
  clear hr
  go_enter Tryz.func12, Tryz.ntmps12
  go_upto_region 2 with fail
  try rw [hw1]
  clear hw1
  have hbnd : (0 + rs.length) * 56 ≤ 140737488355328 := by omega
  go_wp2_with (at_builtin; refine wpList_append_rules _ rfl _ _ 22 rfl w1.heap.size 67 iR zR 56 Tryz.underlying22 hiR hzR0 hzR1 hzR2 hzR3 _ 0 [] rfl L0o.out _ rs _ rfl h8.out hsrc.out ?k3 hbnd ?k4 ?_)
  case k3 => simp only [maxLen]; omega
  case k4 => omega
  intro v2 w2 ho2 hO2
  obtain ⟨a2, e2, rfl, _, _⟩ := own_shape ho2
  obtain ⟨L2, q0, qf⟩ := L0.out.more (Below.refl _ _) hO2 (rs' := rs) (by simpa using ho2)
  clear ho2 hO2 p0 pf L0o L0
  replace L2 := Lib.hid L2
  go_upto_region 3 with fail
  obtain ⟨w3, hw3⟩ : ∃ w3, w2.setCell ⟨w.heap.size + 1 + 1, 0, none⟩ (.slice a2 rs.length e2) = w3 := ⟨_, rfl⟩
  have L3 := L2.out
  rw [hw3] at L3 ⊢
  clear q0 qf L2 hw3
  have q0 := L3.c0
  have q1 := L3.c1
  have hpb : w.heap.size + 1 + 1 < w1.heap.size := by have := hs1.out; omega
  cases rs with
  | nil =>
    have hRk5 := (L3.keep (w.heap.size + 1) (by omega) (by omega)).trans hR.out
    have r0 : w3.cell? ⟨w.heap.size + 1, 0, none⟩ = some (.slice none 0 0) := cell_of_row _ _ 0 _ _ _ hRk5
    have r1 : w3.cell? ⟨w.heap.size + 1, 1, none⟩ = some (.bool false) := cell_of_row _ _ 1 _ _ _ hRk5
    have rf0 := frozen_of_row w3 (w.heap.size + 1) 0 _ _ hRk5
    have rf1 := frozen_of_row w3 (w.heap.size + 1) 1 _ _ hRk5
    have hbf := L3.belowB b1.out (by omega) (by omega)
    have own5 := L3.own
    have hgt : decide ((0 : Int) < 0) = false := rfl
    simp only [List.length_nil] at q0 own5 ⊢
    clear hRk5
    replace L3 := Lib.hid L3
    have hbf2 := (hbf.setCell (p := ⟨w.heap.size + 1, 0, none⟩) (by show w.heap.size ≤ w.heap.size + 1; omega) (.slice a2 0 e2)).setCell (p := ⟨w.heap.size + 1, 1, none⟩) (by show w.heap.size ≤ w.heap.size + 1; omega) (.bool (!o))
    have hown := ownsRow_setCell_below (a := ⟨w.heap.size + 1, 1, none⟩) (ownsRow_setCell_below (a := ⟨w.heap.size + 1, 0, none⟩) own5 (show w.heap.size + 1 < w1.heap.size by omega) (.slice a2 0 e2)) (show w.heap.size + 1 < w1.heap.size by omega) (.bool (!o))
    clear hbf own5
    replace hbf2 := Lib.hid hbf2; replace hown := Lib.hid hown
    go_wp2_with fail
    refine bodyPost_ret (by simp [results, Tryz.results12, go_sem, r0, r1]; try rfl) rfl ?_
    exact ⟨_, w1.heap.size, by have := hs1.out; omega, rfl, hown.out, hbf2.out⟩
  | cons r rs =>
    obtain ⟨g, _, hv, hg1, hg2⟩ := L3.own.form (by simp)
    simp only [Value.slice.injEq, true_and] at hv
    obtain ⟨rfl, rfl⟩ := hv
    have hrk := (Reads.of_own L3.own).rule h8.out 0 (by simp)
    rw [Nat.zero_mul, List.getElem_cons_zero] at hrk
    obtain ⟨x0, _, _, _, _, _, _, _, _, x9⟩ := cells_rule hrk (h8.out r (by simp))
    rw [Nat.zero_add] at x9
    have fz := fun j => L3.own.frozenAt j
    have hgp : w.heap.size + 1 + 1 ≠ g := by omega
    obtain ⟨n, hn'⟩ : ∃ n, (r :: rs).length = n := ⟨_, rfl⟩
    have hn0 : 0 < n := by rw [← hn']; simp
    have hx9 : (rulesC (r :: rs))[9]? = some (.int .u32 (wAt r.me 7)) := (L3.own.cellAt 9 (by simp; omega)).symm.trans x9
    have hbl := L3.belowB b1.out (by omega) (by omega)
    have hRk := (L3.keep (w.heap.size + 1) (by omega) (by omega)).trans hR.out
    have hts := turn_sets r rs (h8.out r (by simp))
    obtain ⟨w4, hw4⟩ : ∃ w4, (w3.setCell ⟨g, 0, none⟩ (.bool (!r.allow))).drew = w4 := ⟨_, rfl⟩
    have hs4 := L3.own.stored 0 (.bool (!r.allow))
    have own4 : w4.ownsRow w1.heap.size 67 10 (.slice (some ⟨g, 0, none⟩) (r :: rs).length e2) (r :: rs).length ((rulesC (r :: rs)).set 0 (.bool (!r.allow))) := by rw [← hw4]; exact hs4.1
    have z9 : w4.cell? ⟨g, 9, none⟩ = some (.int .u32 (wAt r.me 7)) := (own4.cellAt 9 (by simp; omega)).trans (by rw [List.getElem?_set_ne (by decide)]; exact hx9)
    have fz4 := fun j => own4.frozenAt j
    have z0 : w4.cell? ⟨w.heap.size + 1 + 1, 0, none⟩ = some (.slice (some ⟨g, 0, none⟩) (r :: rs).length e2) := by rw [← hw4]; exact cell_set_far q0 hgp
    have z1 : w4.cell? ⟨w.heap.size + 1 + 1, 1, none⟩ = some (.bool (!o)) := by rw [← hw4]; exact cell_set_far q1 hgp
    have hRk4 : w4.heap[w.heap.size + 1]? = _ := (by rw [← hw4]; exact (Below.heap_setCell _ _ _ _ (by show w.heap.size + 1 ≠ g; omega)) : w4.heap[w.heap.size + 1]? = w3.heap[w.heap.size + 1]?).trans hRk
    have hb4 : Below w.heap.size w w4 := by rw [← hw4]; exact (hbl.setCell (p := ⟨g, 0, none⟩) (by show w.heap.size ≤ g; omega) _).drew
    obtain ⟨w5, hw5⟩ : ∃ w5, (w4.setCell ⟨g, 9, none⟩ (.int .u32 (bits .xor .u32 (wAt r.me 7) 1))).drew = w5 := ⟨_, rfl⟩
    have hs5 := own4.stored 9 (.int .u32 (bits .xor .u32 (wAt r.me 7) 1))
    rw [hts] at hs5
    have own5 : w5.ownsRow w1.heap.size 67 10 (.slice (some ⟨g, 0, none⟩) (r :: rs).length e2) (r :: rs).length (rulesC (turnR (r :: rs))) := by rw [← hw5]; exact hs5.1
    have y0 : w5.cell? ⟨w.heap.size + 1 + 1, 0, none⟩ = some (.slice (some ⟨g, 0, none⟩) (r :: rs).length e2) := by rw [← hw5]; exact cell_set_far z0 hgp
    have y1 : w5.cell? ⟨w.heap.size + 1 + 1, 1, none⟩ = some (.bool (!o)) := by rw [← hw5]; exact cell_set_far z1 hgp
    have hRk5 : w5.heap[w.heap.size + 1]? = _ := (by rw [← hw5]; exact (Below.heap_setCell _ _ _ _ (by show w.heap.size + 1 ≠ g; omega)) : w5.heap[w.heap.size + 1]? = w4.heap[w.heap.size + 1]?).trans hRk4
    have r0 : w5.cell? ⟨w.heap.size + 1, 0, none⟩ = some (.slice none 0 0) := cell_of_row _ _ 0 _ _ _ hRk5
    have r1 : w5.cell? ⟨w.heap.size + 1, 1, none⟩ = some (.bool false) := cell_of_row _ _ 1 _ _ _ hRk5
    have rf0 := frozen_of_row w5 (w.heap.size + 1) 0 _ _ hRk5
    have rf1 := frozen_of_row w5 (w.heap.size + 1) 1 _ _ hRk5
    have hbf : Below w.heap.size w w5 := by rw [← hw5]; exact (hb4.setCell (p := ⟨g, 9, none⟩) (by show w.heap.size ≤ g; omega) _).drew
    have j1 : (0 : Int) < (n : Int) := by omega
    have j2 : (0 : Int) < ((r :: rs).length : Int) := by rw [hn']; omega
    clear hs4 hs5 own4 hts hx9 hbl hRk hRk4 hRk5 hb4
    replace hrk := Lib.hid hrk; replace L3 := Lib.hid L3; replace hn' := Lib.hid hn'; replace own5 := Lib.hid own5; replace hbf := Lib.hid hbf
    go_upto_region 4 with fail
    go_region
    go_upto_region 5 with fail
    try rw [hw4]
    clear hw4 q0 q1 x0 x9 fz
    go_region
    go_upto_region 6 with fail
    try rw [hw5]
    clear hw5 z0 z1 z9 fz4
    replace hbf := hbf.out; replace own5 := own5.out
    have hbf2 := (hbf.setCell (p := ⟨w.heap.size + 1, 0, none⟩) (by show w.heap.size ≤ w.heap.size + 1; omega) (.slice (some ⟨g, 0, none⟩) (r :: rs).length e2)).setCell (p := ⟨w.heap.size + 1, 1, none⟩) (by show w.heap.size ≤ w.heap.size + 1; omega) (.bool (!o))
    have hown := ownsRow_setCell_below (a := ⟨w.heap.size + 1, 1, none⟩) (ownsRow_setCell_below (a := ⟨w.heap.size + 1, 0, none⟩) own5 (show w.heap.size + 1 < w1.heap.size by omega) (.slice (some ⟨g, 0, none⟩) (r :: rs).length e2)) (show w.heap.size + 1 < w1.heap.size by omega) (.bool (!o))
    clear hbf own5
    replace hbf2 := Lib.hid hbf2; replace hown := Lib.hid hown
    go_wp2_with fail
    refine bodyPost_ret (by simp [results, Tryz.results12, go_sem, r0, r1]; try rfl) rfl ?_
    exact ⟨_, w1.heap.size, by have := hs1.out; omega, rfl, hown.out, hbf2.out⟩
end Go.Proofs.YtemanjahkohcpaaGreatDoor
