/- The contracts of the law's kept and samePolicy. The contract of the reference's FormatPolicy. -/
import Derived.Test.YtemanjahkohcpaaGreatDoorJn22
import Derived.Test.YtemanjahkohcpaaGreatDoorLDocJn
import Derived.BigQuiet
import Derived.Test.YtemanjahkohcpaaGreatDoorJn27
namespace Go.Proofs.YtemanjahkohcpaaGreatDoor
open Go.RowKit WP
attribute [local go_sem ↓] Go.wp_at_zero Go.wp_at_succ
set_option maxRecDepth 100000 in
set_option maxHeartbeats 4000000 in
theorem kept_any (rs : List RuleD) (oq op : Bool) (vq vp : Value) (w : World) (hq : Rules w vq (rs ++ List.replicate 120 (mkR spareB))) (hp : Rules w vp rs) (hn : rs.length ≤ 1048576) :
    Calls Tryz.prog 45 #[.agg #[vq, .bool oq], .agg #[vp, .bool op]] w fun e w' => e = .returned (.bool true) ∧ Below w.heap.size w w' := by
  obtain ⟨qo, qc, rfl, n1, n2, h8, hqs⟩ := id hq
  obtain ⟨po, pc, rfl, m1, m2, h8p, hps⟩ := id hp
  obtain ⟨n, hn'⟩ : ∃ n, rs.length = n := ⟨_, rfl⟩
  obtain ⟨q, hq'⟩ : ∃ q, (rs ++ List.replicate 120 (mkR spareB)).length = q := ⟨_, rfl⟩
  have hqn : q = n + 120 := by rw [← hq', ← hn']; simp
  rw [hq'] at n1 ⊢
  rw [hn'] at m1 hn ⊢
  obtain ⟨w1, hw1⟩ : ∃ w1, (w.alloc (.cells #[.slice qo q qc, .bool oq] 24)).alloc (.cells #[.slice po n pc, .bool op] 24) = w1 := ⟨_, rfl⟩
  have b1 : Below w.heap.size w w1 := by rw [← hw1]; exact ((Below.refl _ _).alloc (Nat.le_refl _) _).alloc (by simp) _
  have hA : w1.heap[w.heap.size]? = some (.cells #[.slice qo q qc, .bool oq] 24 (0, 0)) := by
    rw [← hw1, heap_alloc_old _ _ (by simp)]; exact heap_alloc_new w _
  have hB : w1.heap[w.heap.size + 1]? = some (.cells #[.slice po n pc, .bool op] 24 (0, 0)) := by
    rw [← hw1]
    exact (congrArg (fun k => _[k]?) (by simp)).trans (heap_alloc_new (w.alloc (.cells #[.slice qo q qc, .bool oq] 24)) _)
  have q0 : w1.cell? ⟨w.heap.size, 0, none⟩ = some (.slice qo q qc) := cell_of_row _ _ 0 _ _ _ hA
  have p0 : w1.cell? ⟨w.heap.size + 1, 0, none⟩ = some (.slice po n pc) := cell_of_row _ _ 0 _ _ _ hB
  replace hqs := Lib.hid hqs; replace hps := Lib.hid hps; replace h8 := Lib.hid h8; replace h8p := Lib.hid h8p; replace b1 := Lib.hid b1; replace hn' := Lib.hid hn'; replace hq' := Lib.hid hq'; replace hqn := Lib.hid hqn
  clear hA hB hq hp
  go_enter Tryz.func45, Tryz.ntmps45
  go_upto_region 1 with fail
  try rw [hw1]
  clear hw1
  go_wp2_with fail
  go_loopw [5] (fun i wr => ∃ k : Nat, k ≤ n ∧ i = .int .i64 (k : Int) ∧ ∃ dn, wr = w1.drewN dn) (fun i _ => n - (intOf i).toNat)
  case atStart => exact ⟨0, by omega, rfl, 0, rfl⟩
  case round =>
    obtain ⟨k, hk, rfl, dn, rfl⟩ := hrel
    by_cases hlt : k < n
    · have hkr : k < rs.length := by rw [hn'.out]; exact hlt
      obtain ⟨r, hri⟩ : ∃ r, rs[k]? = some r := ⟨_, List.getElem?_eq_getElem hkr⟩
      have lr : r.me.length = 8 := h8p.out r (List.mem_of_getElem? hri)
      obtain ⟨pb, pf, rfl, hpl, hpc⟩ := hps.out.resolve_left (by intro h; rw [h] at hkr; simp at hkr)
      obtain ⟨qb, qf, rfl, hql, hqc⟩ := hqs.out.resolve_left (by simp)
      have hri2 : (rs ++ List.replicate 120 (mkR spareB))[k]? = some r := by rw [List.getElem?_append_left hkr]; exact hri
      have hrp : w1.rangeAt pb (pf + k * 10) (ruleC r) := rangeAt_kept (hpc k r hri) (b1.out.block pb hpl)
      have hrq : w1.rangeAt qb (qf + k * 10) (ruleC r) := rangeAt_kept (hqc k r hri2) (b1.out.block qb hql)
      obtain ⟨x0, x1, x2, x3, x4, x5, x6, x7, x8, x9⟩ := cells_rule hrp lr
      obtain ⟨y0, y1, y2, y3, y4, y5, y6, y7, y8, y9⟩ := cells_rule hrq lr
      have hE := fun w' => eq_rule r lr w'
      rw [ruleC_lit r lr] at hE
      have i1 : (0 : Int) ≤ (k : Int) := by omega
      have i2 : (k : Int) < (n : Int) := by omega
      have i3 : (k : Int) < (q : Int) := by have := hqn.out; omega
      clear hri hri2 hrp hrq hpc hqc hkr
      replace lr := Lib.hid lr
      go_wp2_with fail
      go_quiet (fail)
      go_wp2_with fail
      go_roundw
      case rel => exact ⟨k + 1, by omega, by go_num, dn + nq, rfl⟩
      case measure => simp [intOf]; omega
    · obtain rfl : k = n := by omega
      go_wp2_with fail
      go_loopw [6] (fun i wr => ∃ j : Nat, k ≤ j ∧ j ≤ q ∧ i = .int .i64 (j : Int) ∧ ∃ dn, wr = w1.drewN dn) (fun i _ => q - (intOf i).toNat)
      case atStart => exact ⟨k, by omega, by have := hqn.out; omega, rfl, dn, rfl⟩
      case round =>
        obtain ⟨j, hj1, hj2, rfl, dn, rfl⟩ := hrel
        by_cases hlt : j < q
        · obtain ⟨qb, qf, rfl, hql, hqc⟩ := hqs.out.resolve_left (by simp)
          have hri2 : (rs ++ List.replicate 120 (mkR spareB))[j]? = some (mkR spareB) := by
            have h1 := hn'.out; have h2 := hqn.out
            rw [List.getElem?_append_right (by omega), List.getElem?_replicate, if_pos (by omega)]
          have hrq : w1.rangeAt qb (qf + j * 10) (ruleC (mkR spareB)) := rangeAt_kept (hqc j _ hri2) (b1.out.block qb hql)
          have hE := fun w' => eq_rule (mkR spareB) rfl w'
          have hlit := mkR_lit spareB
          rw [hlit] at hrq hE
          unfold spareB at hrq hE
          have y0 : w1.cell? ⟨qb, qf + j * 10, none⟩ = _ := hrq 0 _ rfl
          have y1 : w1.cell? ⟨qb, qf + j * 10 + 1, none⟩ = _ := hrq 1 _ rfl
          have y2 : w1.cell? ⟨qb, qf + j * 10 + 2, none⟩ = _ := hrq 2 _ rfl
          have y3 : w1.cell? ⟨qb, qf + j * 10 + 3, none⟩ = _ := hrq 3 _ rfl
          have y4 : w1.cell? ⟨qb, qf + j * 10 + 4, none⟩ = _ := hrq 4 _ rfl
          have y5 : w1.cell? ⟨qb, qf + j * 10 + 5, none⟩ = _ := hrq 5 _ rfl
          have y6 : w1.cell? ⟨qb, qf + j * 10 + 6, none⟩ = _ := hrq 6 _ rfl
          have y7 : w1.cell? ⟨qb, qf + j * 10 + 7, none⟩ = _ := hrq 7 _ rfl
          have y8 : w1.cell? ⟨qb, qf + j * 10 + 8, none⟩ = _ := hrq 8 _ rfl
          have y9 : w1.cell? ⟨qb, qf + j * 10 + 9, none⟩ = _ := hrq 9 _ rfl
          have i1 : (0 : Int) ≤ (j : Int) := by omega
          have i3 : (j : Int) < (q : Int) := by omega
          clear hri2 hrq hqc hlit
          go_wp2_with fail
          go_roundw
          case rel => exact ⟨j + 1, by omega, by omega, by go_num, dn, rfl⟩
          case measure => simp [intOf]; omega
        · obtain rfl : j = q := by omega
          go_wp2_with fail
          go_ret
          exact ⟨rfl, below_drewN b1.out _⟩
set_option maxRecDepth 100000 in
set_option maxHeartbeats 4000000 in
theorem samePolicy_any (rs : List RuleD) (o : Bool) (vq vp : Value) (w : World) (hq : Rules w vq rs) (hp : Rules w vp rs) :
    Calls Tryz.prog 6 #[.agg #[vq, .bool o], .agg #[vp, .bool o]] w fun e w' => e = .returned (.bool true) ∧ Below w.heap.size w w' := by
  obtain ⟨qo, qc, rfl, n1, n2, h8, hqs⟩ := id hq
  obtain ⟨po, pc, rfl, m1, m2, h8p, hps⟩ := id hp
  obtain ⟨n, hn'⟩ : ∃ n, rs.length = n := ⟨_, rfl⟩
  rw [hn'] at m1 n1 ⊢
  obtain ⟨w1, hw1⟩ : ∃ w1, (w.alloc (.cells #[.slice qo n qc, .bool o] 24)).alloc (.cells #[.slice po n pc, .bool o] 36) = w1 := ⟨_, rfl⟩
  have b1 : Below w.heap.size w w1 := by rw [← hw1]; exact ((Below.refl _ _).alloc (Nat.le_refl _) _).alloc (by simp) _
  have hA : w1.heap[w.heap.size]? = some (.cells #[.slice qo n qc, .bool o] 24 (0, 0)) := by
    rw [← hw1, heap_alloc_old _ _ (by simp)]; exact heap_alloc_new w _
  have hB : w1.heap[w.heap.size + 1]? = some (.cells #[.slice po n pc, .bool o] 36 (0, 0)) := by
    rw [← hw1]
    exact (congrArg (fun k => _[k]?) (by simp)).trans (heap_alloc_new (w.alloc (.cells #[.slice qo n qc, .bool o] 24)) _)
  have q0 : w1.cell? ⟨w.heap.size, 0, none⟩ = some (.slice qo n qc) := cell_of_row _ _ 0 _ _ _ hA
  have q1 : w1.cell? ⟨w.heap.size, 1, none⟩ = some (.bool o) := cell_of_row _ _ 1 _ _ _ hA
  have p0 : w1.cell? ⟨w.heap.size + 1, 0, none⟩ = some (.slice po n pc) := cell_of_row _ _ 0 _ _ _ hB
  have p1 : w1.cell? ⟨w.heap.size + 1, 1, none⟩ = some (.bool o) := cell_of_row _ _ 1 _ _ _ hB
  have neo : (o != o) = false := by simp
  replace hqs := Lib.hid hqs; replace hps := Lib.hid hps; replace h8 := Lib.hid h8; replace h8p := Lib.hid h8p; replace b1 := Lib.hid b1; replace hn' := Lib.hid hn'
  clear hA hB hq hp
  go_enter Tryz.func6, Tryz.ntmps6
  go_upto_region 1 with fail
  try rw [hw1]
  clear hw1
  go_wp2_with fail
  go_loopw [5] (fun i wr => ∃ k : Nat, k ≤ n ∧ i = .int .i64 (k : Int) ∧ ∃ dn, wr = w1.drewN dn) (fun i _ => n - (intOf i).toNat)
  case atStart => exact ⟨0, by omega, rfl, 0, rfl⟩
  case round =>
    obtain ⟨k, hk, rfl, dn, rfl⟩ := hrel
    by_cases hlt : k < n
    · have hkr : k < rs.length := by rw [hn'.out]; exact hlt
      obtain ⟨r, hri⟩ : ∃ r, rs[k]? = some r := ⟨_, List.getElem?_eq_getElem hkr⟩
      have lr : r.me.length = 8 := h8p.out r (List.mem_of_getElem? hri)
      obtain ⟨pb, pf, rfl, hpl, hpc⟩ := hps.out.resolve_left (by intro h; rw [h] at hkr; simp at hkr)
      obtain ⟨qb, qf, rfl, hql, hqc⟩ := hqs.out.resolve_left (by intro h; rw [h] at hkr; simp at hkr)
      have hrp : w1.rangeAt pb (pf + k * 10) (ruleC r) := rangeAt_kept (hpc k r hri) (b1.out.block pb hpl)
      have hrq : w1.rangeAt qb (qf + k * 10) (ruleC r) := rangeAt_kept (hqc k r hri) (b1.out.block qb hql)
      obtain ⟨x0, x1, x2, x3, x4, x5, x6, x7, x8, x9⟩ := cells_rule hrp lr
      obtain ⟨y0, y1, y2, y3, y4, y5, y6, y7, y8, y9⟩ := cells_rule hrq lr
      have hE : ∀ w' : World, (Op.equalIn 10000 26 (.agg (vw r.me).toArray) (.agg (vw r.me).toArray)).run Tryz.prog w' = .ok true w' := fun w' => by
        rw [eq_words r.me r.me w' lr lr, decide_eq_true rfl]
      rw [vw_lit8 r.me lr] at hE
      have nea : (r.allow != r.allow) = false := by simp
      have nen : (r.name.toList != r.name.toList) = false := by simp
      have i1 : (0 : Int) ≤ (k : Int) := by omega
      have i2 : (k : Int) < (n : Int) := by omega
      clear hri hrp hrq hpc hqc hkr
      replace lr := Lib.hid lr
      go_wp2_with fail
      go_quiet (fail)
      go_wp2_with fail
      go_roundw
      case rel => exact ⟨k + 1, by omega, by go_num, dn + nq, rfl⟩
      case measure => simp [intOf]; omega
    · obtain rfl : k = n := by omega
      go_wp2_with fail
      go_ret
      exact ⟨rfl, below_drewN b1.out _⟩
end Go.Proofs.YtemanjahkohcpaaGreatDoor

namespace Go.Proofs.YtemanjahkohcpaaGreatDoor
open Go.RowKit WP
theorem linesL_app (a b : List ByteArray) : linesL (a ++ b) = linesL a ++ linesL b := by simp [linesL]
theorem rightF_take (rs : List RuleD) (k : Nat) (r : RuleD) (hr : rs[k]? = some r) (h : ((rs.take k).all fun r => nameF r.name) = true) (hn : nameF r.name = true) : ((rs.take (k + 1)).all fun r => nameF r.name) = true := by
  have hk := (List.getElem?_eq_some_iff.1 hr).1
  have he := (List.getElem?_eq_some_iff.1 hr).2
  rw [List.take_succ_eq_append_getElem hk, he, List.all_append, h]; simp [hn]
theorem rightF_no (rs : List RuleD) (k : Nat) (r : RuleD) (hr : rs[k]? = some r) (hn : ¬ nameF r.name = true) : rightF rs = false := by
  unfold rightF
  have : (rs.all fun r => nameF r.name) = false := by
    rw [List.all_eq_false]
    exact ⟨r, List.mem_of_getElem? hr, hn⟩
  rw [this, Bool.and_false]
def fmtS (rs : List RuleD) (o : Bool) : ByteArray := if rightF rs = true then ⟨(linesL (polLines rs o)).toArray⟩ else ⟨#[]⟩
def fmtE (rs : List RuleD) : Int := if rightF rs = true then 0 else 161
set_option maxRecDepth 100000 in
set_option maxHeartbeats 4000000 in
theorem rfmtPol_any (rs : List RuleD) (o : Bool) (v : Value) (w : World) (hr : Rules w v rs) :
    Calls Tryz.prog 36 #[.agg #[v, .bool o]] w fun e w' => Below w.heap.size w w' ∧ e = .returned (.tuple #[.string (fmtS rs o), .int .i64 (fmtE rs)]) := by
  obtain ⟨ao, cap, rfl, n1, n2, h8, hcs⟩ := hr
  obtain ⟨n, hn'⟩ : ∃ n, rs.length = n := ⟨_, rfl⟩
  rw [hn'] at n1 ⊢
  obtain ⟨w1, hw1⟩ : ∃ w1, w.alloc (.cells #[.slice ao n cap, .bool o] 36) = w1 := ⟨_, rfl⟩
  have hp : w1.heap[w.heap.size]? = some (.cells #[.slice ao n cap, .bool o] 36) := by rw [← hw1]; exact heap_alloc_new w _
  have hb1 : Below w.heap.size w w1 := by rw [← hw1]; exact (Below.refl _ _).alloc (Nat.le_refl _) _
  have p0 : w1.cell? ⟨w.heap.size, 0, none⟩ = some (.slice ao n cap) := cell_of_row _ _ 0 _ _ _ hp
  have p1 : w1.cell? ⟨w.heap.size, 1, none⟩ = some (.bool o) := cell_of_row _ _ 1 _ _ _ hp
  have hl1 : w.heap.size < w1.heap.size := (Array.getElem?_eq_some_iff.1 hp).1
  clear hp
  by_cases h256 : n ≤ 256
  · obtain ⟨T, hT⟩ : ∃ T : ByteArray, fmtS rs o = T := ⟨_, rfl⟩
    obtain ⟨ec, hec⟩ : ∃ c : Int, fmtE rs = c := ⟨_, rfl⟩
    rw [hT, hec]
    have d1 : decide ((n : Int) > 256) = false := decide_eq_false (by omega)
    have hw := fun b W => rword_any b W
    replace hn' := Lib.hid hn'; replace h8 := Lib.hid h8; replace hcs := Lib.hid hcs; replace hb1 := Lib.hid hb1; replace hT := Lib.hid hT; replace hec := Lib.hid hec
    go_enter Tryz.func36, Tryz.ntmps36
    go_upto_region 1 with fail
    try rw [hw1]
    clear hw1
    go_wp2_with fail
    clear d1
    go_loopw [4, 5] (fun sv i wr => ∃ k : Nat, k ≤ n ∧ i = .int .i64 (k : Int) ∧ sv = .string ⟨(linesL ((rs.take k).map ruleS)).toArray⟩ ∧ ((rs.take k).all fun r => nameF r.name) = true ∧ Below w1.heap.size w1 wr) (fun _ i _ => n - (intOf i).toNat)
    case atStart => exact ⟨0, by omega, rfl, rfl, rfl, Below.refl _ _⟩
    case round =>
      obtain ⟨wo, rfl⟩ : ∃ wo, wo = wr := ⟨wr, rfl⟩
      obtain ⟨k, hk, rfl, rfl, hall, hb⟩ := hrel
      have hbs := hb.size
      have q0 := cell_below p0 hb
      have q1 := cell_below p1 hb
      by_cases hlt : k < n
      · have hkr : k < rs.length := by rw [hn'.out]; exact hlt
        obtain ⟨r, hri⟩ : ∃ r, rs[k]? = some r := ⟨_, List.getElem?_eq_getElem hkr⟩
        have hre : rs[k] = r := (List.getElem?_eq_some_iff.1 hri).2
        have lr : r.me.length = 8 := h8.out r (List.mem_of_getElem? hri)
        have htk : (rs.take (k + 1)) = rs.take k ++ [r] := by rw [List.take_succ_eq_append_getElem hkr, hre]
        obtain ⟨b, off, rfl, hbl, hcl⟩ := hcs.out.resolve_left (by intro h; rw [h] at hkr; simp at hkr)
        have hb0 := hb1.out.trans (hb.mono hb1.out.size)
        have hrk : wo.rangeAt b (off + k * 10) (ruleC r) := rangeAt_kept (hcl k r hri) (hb0.block b hbl)
        obtain ⟨x0, x1, x2, x3, x4, x5, x6, x7, x8, x9⟩ := cells_rule hrk lr
        have i1 : (0 : Int) ≤ (k : Int) := by omega
        have i2 : (k : Int) < (n : Int) := by omega
        obtain ⟨s, hs⟩ : ∃ s : ByteArray, ⟨(linesL ((rs.take k).map ruleS)).toArray⟩ = s := ⟨_, rfl⟩
        rw [hs]
        obtain ⟨w2, hw2⟩ : ∃ w2, wo.alloc (Obj.cells #[.bool r.allow, .string r.name, .int .u32 (wAt r.me 0), .int .u32 (wAt r.me 1), .int .u32 (wAt r.me 2), .int .u32 (wAt r.me 3), .int .u32 (wAt r.me 4), .int .u32 (wAt r.me 5), .int .u32 (wAt r.me 6), .int .u32 (wAt r.me 7)] 64) = w2 := ⟨_, rfl⟩
        have b2 : Below wo.heap.size wo w2 := by rw [← hw2]; exact (Below.refl _ _).alloc (Nat.le_refl _) _
        have hX : w2.heap[wo.heap.size]? = some (.cells (ruleC r).toArray 64) := by rw [← hw2, ruleC_lit r lr]; exact heap_alloc_new wo _
        have y0 : w2.cell? ⟨wo.heap.size, 0, none⟩ = some (.bool r.allow) := cell_of_row _ _ 0 _ _ _ hX
        have y1 : w2.cell? ⟨wo.heap.size, 1, none⟩ = some (.string r.name) := cell_of_row _ _ 1 _ _ _ hX
        have hme : Rd w2 (.slice (some ⟨wo.heap.size, 2, none⟩) 8 8) (vw r.me) := by
          refine rd_part (fun j u hu => ?_) lr
          have := range_block hX (2 + j) u (by rw [Nat.add_comm 2 j]; simpa [ruleC] using hu)
          rwa [Nat.zero_add] at this
        have hnm := rname_any r.name w2
        have hlt2 : wo.heap.size < w2.heap.size := (Array.getElem?_eq_some_iff.1 hX).1
        clear hcl hre hkr hrk hb0 hX
        replace hri := Lib.hid hri; replace hb := Lib.hid hb; replace htk := Lib.hid htk; replace hall := Lib.hid hall; replace hnm := Lib.hid hnm; replace b2 := Lib.hid b2; replace hme := Lib.hid hme; replace hs := Lib.hid hs; replace lr := Lib.hid lr
        go_upto_region 8 with fail
        try rw [hw2]
        clear hw2 x0 x1 x2 x3 x4 x5 x6 x7 x8 x9
        by_cases hnF : nameF r.name = true
        · have hnm2 := hnm.out
          rw [if_pos hnF] at hnm2
          replace hnm := Lib.hid hnm2
          replace hnF := Lib.hid hnF
          clear hnm2
          go_wp2_with fail
          refine hnm.out.mono ?_
          rintro e w3 ⟨rfl, rfl⟩
          clear hnm
          have hSof : ∀ W, Below w3.heap.size w3 W → W.cell? ⟨wo.heap.size, 0, none⟩ = some (.bool r.allow) ∧ W.cell? ⟨wo.heap.size, 1, none⟩ = some (.string r.name) := fun W hW => ⟨cell_below y0 hW, cell_below y1 hW⟩
          have hB : Below w3.heap.size w3 w3 := Below.refl _ _
          obtain ⟨hx, hhx⟩ : ∃ hx : ByteArray, ⟨(hexAllL r.me).toArray⟩ = hx := ⟨_, rfl⟩
          obtain ⟨vb, hvb⟩ : ∃ vb, verbB r.allow = vb := ⟨_, rfl⟩
          have hall2 := rightF_take rs k r hri.out hall.out hnF.out
          have hjoin : s ++ vb ++ (⟨#[32]⟩ : ByteArray) ++ r.name ++ (⟨#[32]⟩ : ByteArray) ++ hx ++ (⟨#[10]⟩ : ByteArray) = ⟨(linesL ((rs.take (k + 1)).map ruleS)).toArray⟩ := by
            rw [htk.out, List.map_append, linesL_app, ← hs.out, ← hvb, ← hhx]
            unfold linesL ruleS
            apply ByteArray.ext
            simp [strL, hexT]
          have zs : s.size ≤ 24588 := by
            have h1 := polLines_len (rs.take k) o (fun x hx => List.all_eq_true.1 hall.out x hx) (fun x hx => h8.out x (List.mem_of_mem_take hx))
            have h2 : (linesL (polLines (rs.take k) o)).length = (linesL ((rs.take k).map ruleS)).length + (linesL [otherS o]).length := by unfold polLines; rw [linesL_app, List.length_append]
            have h3 : s.size = (linesL ((rs.take k).map ruleS)).length := by rw [← hs.out]; rfl
            have h4 : (rs.take k).length ≤ 256 := by rw [List.length_take]; omega
            omega
          have zv : vb.size ≤ 5 := by rw [← hvb]; exact verbB_size _
          have zr : r.name.size ≤ 24 := nameF_size _ hnF.out
          have zx : hx.size = 64 := by rw [← hhx]; exact hexT_size r.me lr.out
          have e1 : s.size + vb.size ≤ 9223372036854775807 := by omega
          have e2 : s.size + vb.size + 1 ≤ 9223372036854775807 := by omega
          have e3 : s.size + vb.size + 1 + r.name.size ≤ 9223372036854775807 := by omega
          have e4 : s.size + vb.size + 1 + r.name.size + 1 ≤ 9223372036854775807 := by omega
          have e5 : s.size + vb.size + 1 + r.name.size + 1 + 64 ≤ 9223372036854775807 := by omega
          have e6 : s.size + vb.size + 1 + r.name.size + 1 + 64 + 1 ≤ 9223372036854775807 := by omega
          have z32 : (⟨#[32]⟩ : ByteArray).size = 1 := rfl
          have z10 : (⟨#[10]⟩ : ByteArray).size = 1 := rfl
          have a1 : ∀ w', (Op.stringOp .add s vb).run Tryz.prog w' = .ok (.string (s ++ vb)) w' := fun w' => run_string_add_sum w' _ _ (by omega)
          have a2 : ∀ w', (Op.stringOp .add (s ++ vb) (⟨#[32]⟩ : ByteArray)).run Tryz.prog w' = .ok (.string (s ++ vb ++ (⟨#[32]⟩ : ByteArray))) w' := fun w' => run_string_add_sum w' _ _ (by rw [ByteArray.size_append, z32]; omega)
          have a3 : ∀ w', (Op.stringOp .add (s ++ vb ++ (⟨#[32]⟩ : ByteArray)) r.name).run Tryz.prog w' = .ok (.string (s ++ vb ++ (⟨#[32]⟩ : ByteArray) ++ r.name)) w' := fun w' => run_string_add_sum w' _ _ (by simp only [ByteArray.size_append, z32]; omega)
          have a4 : ∀ w', (Op.stringOp .add (s ++ vb ++ (⟨#[32]⟩ : ByteArray) ++ r.name) (⟨#[32]⟩ : ByteArray)).run Tryz.prog w' = .ok (.string (s ++ vb ++ (⟨#[32]⟩ : ByteArray) ++ r.name ++ (⟨#[32]⟩ : ByteArray))) w' := fun w' => run_string_add_sum w' _ _ (by simp only [ByteArray.size_append, z32]; omega)
          have a5 : ∀ w', (Op.stringOp .add (s ++ vb ++ (⟨#[32]⟩ : ByteArray) ++ r.name ++ (⟨#[32]⟩ : ByteArray)) hx).run Tryz.prog w' = .ok (.string (s ++ vb ++ (⟨#[32]⟩ : ByteArray) ++ r.name ++ (⟨#[32]⟩ : ByteArray) ++ hx)) w' := fun w' => run_string_add_sum w' _ _ (by simp only [ByteArray.size_append, z32]; omega)
          have a6 : ∀ w', (Op.stringOp .add (s ++ vb ++ (⟨#[32]⟩ : ByteArray) ++ r.name ++ (⟨#[32]⟩ : ByteArray) ++ hx) (⟨#[10]⟩ : ByteArray)).run Tryz.prog w' = .ok (.string (s ++ vb ++ (⟨#[32]⟩ : ByteArray) ++ r.name ++ (⟨#[32]⟩ : ByteArray) ++ hx ++ (⟨#[10]⟩ : ByteArray))) w' := fun w' => run_string_add_sum w' _ _ (by simp only [ByteArray.size_append, z32, z10]; omega)
          clear e1 e2 e3 e4 e5 e6
          replace hSof := Lib.hid hSof; replace hhx := Lib.hid hhx; replace hvb := Lib.hid hvb; replace hjoin := Lib.hid hjoin; replace hall2 := Lib.hid hall2
          go_upto_region 10 with fail
          go_region_held3 (fun w' => w'.cell? ⟨wo.heap.size, 0, none⟩ = some (.bool r.allow) ∧ w'.cell? ⟨wo.heap.size, 1, none⟩ = some (.string r.name))
            (exact hSof.out _ (by first | with_reducible exact hB | with_reducible exact hB.drew))
            (first
              | (go_at_call 58
                 refine (hw _ _).mono ?_
                 rintro e w4 ⟨rfl, rfl⟩
                 rw [hvb.out])
              | (go_at_call 59
                 refine (rhexall_any _ r.me _ (hme.out.mono (by first | with_reducible exact hB | with_reducible exact hB.drew)) (by rw [lr.out]; decide)).mono ?_
                 rintro e w5 ⟨rfl, b5⟩
                 rw [hhx.out]
                 replace hB : Below w3.heap.size w3 w5 := Below.trans (by first | with_reducible exact hB | with_reducible exact hB.drew) (b5.mono (by exact hB.size))
                 clear b5))
          all_goals
            rw [hjoin.out]
            have hbf := Lib.hid (hb.out.trans ((b2.out.trans (hB.mono b2.out.size)).mono hb.out.size))
            clear hB a1 a2 a3 a4 a5 a6 hSof y0 y1
            go_wp2_with fail
            go_roundw
            case rel => exact ⟨k + 1, by omega, by go_num, rfl, hall2.out, hbf.out⟩
            case measure => simp [intOf]; omega
        · have hrF := rightF_no rs k r hri.out hnF
          have hT2 : T = ⟨#[]⟩ := by rw [← hT.out]; unfold fmtS; rw [hrF]; rfl
          have hec2 : ec = 161 := by rw [← hec.out]; unfold fmtE; rw [hrF]; rfl
          subst hT2
          subst hec2
          have hnm2 := hnm.out
          rw [if_neg hnF] at hnm2
          replace hnm := Lib.hid hnm2
          replace hnF := Lib.hid hnF
          clear hnm2
          replace hT := Lib.hid hT; replace hec := Lib.hid hec; replace hrF := Lib.hid hrF
          go_wp2_with fail
          refine hnm.out.mono ?_
          rintro e w3 ⟨rfl, rfl⟩
          go_wp2_with fail
          go_ret2
          exact ⟨hb1.out.trans ((hb.out.trans (b2.out.mono hb.out.size)).mono hb1.out.size), rfl⟩
      · obtain rfl : k = n := by omega
        have htk : rs.take k = rs := by rw [← hn'.out, List.take_length]
        rw [htk] at hall ⊢
        have hrF : rightF rs = true := by unfold rightF; rw [hall, hn'.out, decide_eq_true h256]; rfl
        obtain ⟨s, hs⟩ : ∃ s : ByteArray, ⟨(linesL (rs.map ruleS)).toArray⟩ = s := ⟨_, rfl⟩
        rw [hs]
        obtain ⟨vb, hvb⟩ : ∃ vb, verbB o = vb := ⟨_, rfl⟩
        have zs : s.size ≤ 24588 := by
          have h1 := polLines_len rs o (fun x hx => List.all_eq_true.1 hall x hx) h8.out
          have h2 : (linesL (polLines rs o)).length = (linesL (rs.map ruleS)).length + (linesL [otherS o]).length := by unfold polLines; rw [linesL_app, List.length_append]
          have h3 : s.size = (linesL (rs.map ruleS)).length := by rw [← hs]; rfl
          have h4 := hn'.out
          omega
        have zv : vb.size ≤ 5 := by rw [← hvb]; exact verbB_size _
        have zo : (⟨#[111, 116, 104, 101, 114, 32]⟩ : ByteArray).size = 6 := rfl
        have z10 : (⟨#[10]⟩ : ByteArray).size = 1 := rfl
        have a1 : ∀ w', (Op.stringOp .add s (⟨#[111, 116, 104, 101, 114, 32]⟩ : ByteArray)).run Tryz.prog w' = .ok (.string (s ++ (⟨#[111, 116, 104, 101, 114, 32]⟩ : ByteArray))) w' := fun w' => run_string_add_sum w' _ _ (by rw [zo]; omega)
        have a2 : ∀ w', (Op.stringOp .add (s ++ (⟨#[111, 116, 104, 101, 114, 32]⟩ : ByteArray)) vb).run Tryz.prog w' = .ok (.string (s ++ (⟨#[111, 116, 104, 101, 114, 32]⟩ : ByteArray) ++ vb)) w' := fun w' => run_string_add_sum w' _ _ (by rw [ByteArray.size_append, zo]; omega)
        have a3 : ∀ w', (Op.stringOp .add (s ++ (⟨#[111, 116, 104, 101, 114, 32]⟩ : ByteArray) ++ vb) (⟨#[10]⟩ : ByteArray)).run Tryz.prog w' = .ok (.string T) w' := fun w' => by
          rw [run_string_add_sum w' _ _ (by simp only [ByteArray.size_append, zo, z10]; omega), ← hT.out]
          unfold fmtS
          rw [if_pos hrF, ← hs, ← hvb]
          unfold polLines
          rw [linesL_app]
          refine congrArg (fun x => Result.ok (Value.string x) w') ?_
          unfold linesL otherS
          apply ByteArray.ext
          simp [strL]
        have hec2 : ec = 0 := by rw [← hec.out]; unfold fmtE; rw [hrF]; rfl
        subst hec2
        replace hs := Lib.hid hs; replace hvb := Lib.hid hvb; replace hb := Lib.hid hb; replace hall := Lib.hid hall; replace hrF := Lib.hid hrF; replace htk := Lib.hid htk
        go_wp2_with fail
        refine (hw _ _).mono ?_
        rintro e w3 ⟨rfl, rfl⟩
        rw [hvb.out]
        go_wp2_with fail
        go_ret2
        exact ⟨hb1.out.trans (hb.out.mono hb1.out.size), rfl⟩
  · have hrF : rightF rs = false := by unfold rightF; rw [hn', decide_eq_false h256]; rfl
    have e1 : fmtS rs o = ⟨#[]⟩ := by unfold fmtS; rw [hrF]; rfl
    have e2 : fmtE rs = 161 := by unfold fmtE; rw [hrF]; rfl
    rw [e1, e2]
    have d1 : decide ((n : Int) > 256) = true := decide_eq_true (by omega)
    replace hb1 := Lib.hid hb1; replace hcs := Lib.hid hcs; replace h8 := Lib.hid h8; replace hn' := Lib.hid hn'
    go_enter Tryz.func36, Tryz.ntmps36
    go_upto_region 1 with fail
    try rw [hw1]
    clear hw1
    go_wp2_with fail
    go_ret2
    exact ⟨hb1.out, rfl⟩
end Go.Proofs.YtemanjahkohcpaaGreatDoor
