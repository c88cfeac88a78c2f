/- The contracts of the law's right and policies. -/
import Derived.Test.YtemanjahkohcpaaDoorEFmtJn
import Derived.Test.YtemanjahkohcpaaDoorBEqQJn
namespace Go.Proofs.YtemanjahkohcpaaDoor
open Go.RowKit WP
theorem plainBo : Tryd.prog.plainKey 4 = true := by kernel_rfl
theorem plainSt : Tryd.prog.plainKey 9 = true := by kernel_rfl
theorem fields42 : (Tryd.prog.fieldsOf 42).toList.map (fun f => (f.name, f.type, f.offset)) = [("Allow", 4, 0), ("Name", 9, 1), ("Measurement", 23, 2)] := by kernel_rfl
theorem struct42 : Tryd.prog.underlying 42 = some (.struct (Tryd.prog.fieldsOf 42)) := by kernel_rfl
theorem stood42 : Tryd.prog.stoodInHeld 42 = false := by kernel_rfl
theorem eq_rule (r : RuleD) (w : World) (l8 : r.me.length = 8) :
    (Op.equalIn 10000 42 (.agg (ruleC r).toArray) (.agg (ruleC r).toArray)).run Tryd.prog w = .ok true w := by
  obtain ⟨f0, f1, f2, hf, h0, h1, h2⟩ := three_of fields42
  simp only [Prod.mk.injEq] at h0 h1 h2
  obtain ⟨n0, t0, o0⟩ := h0
  obtain ⟨n1, t1, o1⟩ := h1
  obtain ⟨n2, t2, o2⟩ := h2
  rw [show (10000 : Nat) = 9999 + 1 from rfl, run_equalIn_struct w 9999 _ _ _ struct42 stood42, hf]
  have y0 := run_part_plain (P := Tryd.prog) w plainBo (xs := (ruleC r).toArray) (off := 0) (v := .bool r.allow) (by simp [ruleC])
  have y1 := run_part_plain (P := Tryd.prog) w plainSt (xs := (ruleC r).toArray) (off := 1) (v := .string r.name) (by simp [ruleC])
  have y2 := part_words (ruleC r) 2 r.me w (by simp [ruleC]; rw [List.take_of_length_le (by simp [l8])])
  have x0 := run_equalIn_bool' (P := Tryd.prog) w 9998 4 r.allow r.allow Tryd.underlying4
  have x1 := run_equalIn_string (P := Tryd.prog) w 9998 9 r.name r.name Tryd.underlying9
  have x2 := eq_wordsD 9997 r.me r.me w l8 l8
  simp only [Op.eqFields, n0, n1, n2, t0, t1, t2, o0, o1, o2]
  rw [if_pos (by decide), if_pos (by decide), if_pos (by decide)]
  simp only [Sem.run_bind, y0, Result.andThen_ok]
  rw [show (9999 : Nat) = 9998 + 1 from rfl, x0]
  simp only [Result.andThen_ok, beq_self_eq_true]
  rw [if_neg (by decide)]
  simp only [Sem.run_bind, y1, Result.andThen_ok]
  rw [x1]
  simp only [Result.andThen_ok, beq_self_eq_true]
  rw [if_neg (by decide)]
  simp only [Sem.run_bind, y2, Result.andThen_ok]
  rw [show (9998 + 1 : Nat) = 9997 + 1 + 1 from rfl, x2]
  simp only [Result.andThen_ok, decide_true]
  rw [if_neg (by decide)]
  rfl
set_option maxRecDepth 100000 in
set_option maxHeartbeats 2000000 in
theorem right_any (rs : List RuleD) (other : Bool) (v : Value) (w : World) (hr : Rules w v rs) :
    Calls Tryd.prog 27 #[.agg #[v, .bool other]] w fun e w' => e = .returned (.bool (rightF rs)) ∧ Below w.heap.size w w' := by
  obtain ⟨ao, cap, rfl, n1, n2, l8, hcs⟩ := hr
  obtain ⟨T, hT⟩ : ∃ T : Bool, rightF rs = T := ⟨_, rfl⟩
  rw [hT]
  obtain ⟨w1, hw1⟩ : ∃ w1, w.alloc (.cells #[.slice ao rs.length cap, .bool other] 36) = w1 := ⟨_, rfl⟩
  have hp : w1.heap[w.heap.size]? = some (.cells #[.slice ao rs.length cap, .bool other] 36) := by
    rw [← hw1]; exact heap_alloc_new w _
  have hb1 : Below w.heap.size w w1 := by rw [← hw1]; exact (Below.refl _ _).alloc (Nat.le_refl _) _
  have hp0 : w1.cell? ⟨w.heap.size, 0, none⟩ = some (.slice ao rs.length cap) := by rw [cell_of_row w1 _ 0 _ _ _ hp]; rfl
  obtain ⟨n, hn⟩ : ∃ n, rs.length = n := ⟨_, rfl⟩
  rw [hn] at n1 hp0 hw1 hp ⊢
  replace hT := Lib.hid hT
  by_cases h256 : n ≤ 256
  · have d1 : decide ((256 : Int) < (n : Int)) = false := decide_eq_false (by omega)
    replace hn := Lib.hid hn; replace l8 := Lib.hid l8; replace hcs := Lib.hid hcs; replace hb1 := Lib.hid hb1; replace hp := Lib.hid hp
    go_enter Tryd.func27, Tryd.ntmps27
    go_upto_region 1 with fail
    try (change Code.wp _ _ _ _ (w.alloc (.cells #[.slice ao n cap, .bool other] 36)); rw [hw1])
    clear hw1
    go_wp2_with fail
    go_loop [3] (fun i => ∃ k : Nat, k ≤ n ∧ i = .int .i64 (k : Int) ∧ ((rs.take k).all fun r => nameF r.name) = true) (fun i => n - (intOf i).toNat)
    case atStart => exact ⟨0, by omega, rfl, rfl⟩
    case round =>
      obtain ⟨k, hk, rfl, hall⟩ := hrel
      clear d1
      by_cases hlt : k < n
      · have hkr : k < rs.length := by rw [hn.out]; exact hlt
        obtain ⟨r, hri⟩ : ∃ r, rs[k]? = some r := ⟨_, List.getElem?_eq_getElem hkr⟩
        have hre : rs[k] = r := (List.getElem?_eq_some_iff.1 hri).2
        have htk : (rs.take (k + 1)) = rs.take k ++ [r] := by rw [List.take_succ_eq_append_getElem hkr, hre]
        obtain ⟨b, off, rfl, hbl, hcl⟩ := hcs.out.resolve_left (by intro h; rw [h] at hkr; simp at hkr)
        have hrk : w1.rangeAt b (off + k * 10) (ruleC r) := rangeAt_kept (hcl k r hri) (hb1.out.block b hbl)
        have x1 : w1.cell? ⟨b, off + k * 10 + 1, none⟩ = some (.string r.name) := hrk 1 _ rfl
        have i1 : (0 : Int) ≤ (k : Int) := by omega
        have i2 : (k : Int) < (n : Int) := by omega
        obtain ⟨nm, hnm⟩ : ∃ x, r.name = x := ⟨_, rfl⟩
        rw [hnm] at x1
        have hnc := name_any nm w1
        clear hcl hrk
        by_cases hok : nameF nm = true
        · rw [if_pos hok] at hnc
          have hal : ((rs.take (k + 1)).all fun r => nameF r.name) = true := by rw [htk, List.all_append, hall]; simp [hnm, hok]
          replace hal := Lib.hid hal; replace hnc := Lib.hid hnc; replace hri := Lib.hid hri; replace htk := Lib.hid htk; replace hok := Lib.hid hok; replace hall := Lib.hid hall; replace hre := Lib.hid hre; replace hnm := Lib.hid hnm
          go_wp2_with fail
          refine hnc.out.mono ?_
          rintro e w2 ⟨rfl, rfl⟩
          go_wp2_with fail
          refine (num_any _ _).mono ?_
          rintro e w3 ⟨rfl, rfl⟩
          go_wp2_with fail
          go_round
          case rel => exact ⟨k + 1, by omega, by go_num, hal.out⟩
          case measure => simp [intOf]; omega
        · rw [if_neg hok] at hnc
          have hF : rightF rs = false := by
            unfold rightF
            rw [Bool.and_eq_false_iff]
            exact .inr (by rw [List.all_eq_false]; exact ⟨_, List.mem_of_getElem? hri, by rw [hnm]; exact hok⟩)
          replace hF := Lib.hid hF; replace hnc := Lib.hid hnc; replace hri := Lib.hid hri; replace htk := Lib.hid htk; replace hok := Lib.hid hok; replace hall := Lib.hid hall; replace hre := Lib.hid hre; replace hnm := Lib.hid hnm
          go_wp2_with fail
          refine hnc.out.mono ?_
          rintro e w2 ⟨rfl, rfl⟩
          go_wp2_with fail
          refine (num_any _ _).mono ?_
          rintro e w3 ⟨rfl, rfl⟩
          go_wp2_with fail
          go_ret
          exact ⟨by rw [← hT.out, hF.out]; rfl, hb1.out⟩
      · obtain rfl : k = n := by omega
        rw [List.take_of_length_le (by rw [hn.out]; exact Nat.le_refl _)] at hall
        have hF : rightF rs = true := by
          unfold rightF; rw [hall, decide_eq_true (by rw [hn.out]; exact h256)]; rfl
        replace hF := Lib.hid hF; replace hall := Lib.hid hall
        go_wp2_with fail
        go_ret
        exact ⟨by rw [← hT.out, hF.out]; rfl, hb1.out⟩
  · have d1 : decide ((256 : Int) < (n : Int)) = true := decide_eq_true (by omega)
    have hF : rightF rs = false := by
      unfold rightF; rw [decide_eq_false (by rw [hn]; exact h256)]; rfl
    replace hF := Lib.hid hF; replace hn := Lib.hid hn; replace hb1 := Lib.hid hb1; replace hp := Lib.hid hp; replace hcs := Lib.hid hcs; replace l8 := Lib.hid l8
    go_enter Tryd.func27, Tryd.ntmps27
    go_upto_region 1 with fail
    try (change Code.wp _ _ _ _ (w.alloc (.cells #[.slice ao n cap, .bool other] 36)); rw [hw1])
    clear hw1
    go_wp2_with fail
    go_ret
    exact ⟨by rw [← hT.out, hF.out]; rfl, hb1.out⟩
theorem ruleCells {w : World} {g o : Nat} {al : Bool} {nm : ByteArray} {me : List UInt32} (h : w.rangeAt g o (ruleC ⟨al, nm, me⟩)) (l8 : me.length = 8) : w.cell? ⟨g, o, none⟩ = some (.bool al) ∧ w.cell? ⟨g, o + 1, none⟩ = some (.string nm) ∧ w.cell? ⟨g, o + 2, none⟩ = some (.int .u32 (wAt me 0)) ∧ w.cell? ⟨g, o + 3, none⟩ = some (.int .u32 (wAt me 1)) ∧ w.cell? ⟨g, o + 4, none⟩ = some (.int .u32 (wAt me 2)) ∧ w.cell? ⟨g, o + 5, none⟩ = some (.int .u32 (wAt me 3)) ∧ w.cell? ⟨g, o + 6, none⟩ = some (.int .u32 (wAt me 4)) ∧ w.cell? ⟨g, o + 7, none⟩ = some (.int .u32 (wAt me 5)) ∧ w.cell? ⟨g, o + 8, none⟩ = some (.int .u32 (wAt me 6)) ∧ w.cell? ⟨g, o + 9, none⟩ = some (.int .u32 (wAt me 7)) := by
  have hv : ∀ j, j < 8 → w.cell? ⟨g, o + (2 + j), none⟩ = some (.int .u32 (wAt me j)) := fun j hj => h (2 + j) _ (by
    have e : (ruleC ⟨al, nm, me⟩)[2 + j]? = (vw me)[j]? := by rw [Nat.add_comm]; rfl
    rw [e]; exact vw_get me j (by omega))
  exact ⟨h 0 _ rfl, h 1 _ rfl, hv 0 (by omega), hv 1 (by omega), hv 2 (by omega), hv 3 (by omega), hv 4 (by omega), hv 5 (by omega), hv 6 (by omega), hv 7 (by omega)⟩
theorem ruleC_lit (al : Bool) (nm : ByteArray) (me : List UInt32) (l8 : me.length = 8) : (ruleC ⟨al, nm, me⟩).toArray = #[.bool al, .string nm, .int .u32 (wAt me 0), .int .u32 (wAt me 1), .int .u32 (wAt me 2), .int .u32 (wAt me 3), .int .u32 (wAt me 4), .int .u32 (wAt me 5), .int .u32 (wAt me 6), .int .u32 (wAt me 7)] := by
  have h := congrArg Array.toList (vw_lit8 me l8)
  simp only at h
  apply Array.ext'
  show .bool al :: .string nm :: vw me = _
  rw [show vw me = _ from h]
set_option maxRecDepth 100000 in
set_option maxHeartbeats 2000000 in
theorem policies_same (rs : List RuleD) (other : Bool) (va vb : Value) (w : World) (ha : Rules w va rs) (hb : Rules w vb rs) :
    Calls Tryd.prog 29 #[.agg #[va, .bool other], .agg #[vb, .bool other]] w fun e w' => e = .returned (.bool true) ∧ Below w.heap.size w w' := by
  obtain ⟨ao, cap, rfl, n1, n2, l8, hcs⟩ := ha
  obtain ⟨bo, cbp, rfl, m1, m2, _, hds⟩ := hb
  obtain ⟨w1, hw1⟩ : ∃ w1, (w.alloc (.cells #[.slice ao rs.length cap, .bool other] 36)).alloc (.cells #[.slice bo rs.length cbp, .bool other] 36) = w1 := ⟨_, rfl⟩
  have hp : w1.heap[w.heap.size]? = some (.cells #[.slice ao rs.length cap, .bool other] 36) := by
    rw [← hw1, heap_alloc_old _ _ (by simp)]; exact heap_alloc_new w _
  have hq : w1.heap[w.heap.size + 1]? = some (.cells #[.slice bo rs.length cbp, .bool other] 36) := by
    rw [← hw1]; have := heap_alloc_new (w.alloc (.cells #[.slice ao rs.length cap, .bool other] 36)) (.cells #[.slice bo rs.length cbp, .bool other] 36); simpa using this
  have hb1 : Below w.heap.size w w1 := by rw [← hw1]; exact ((Below.refl _ _).alloc (Nat.le_refl _) _).alloc (by simp) _
  have p0 : w1.cell? ⟨w.heap.size, 0, none⟩ = some (.slice ao rs.length cap) := cell_of_row w1 _ 0 _ _ _ hp
  have p1 : w1.cell? ⟨w.heap.size, 1, none⟩ = some (.bool other) := cell_of_row w1 _ 1 _ _ _ hp
  have q0 : w1.cell? ⟨w.heap.size + 1, 0, none⟩ = some (.slice bo rs.length cbp) := cell_of_row w1 _ 0 _ _ _ hq
  have q1 : w1.cell? ⟨w.heap.size + 1, 1, none⟩ = some (.bool other) := cell_of_row w1 _ 1 _ _ _ hq
  obtain ⟨n, hn⟩ : ∃ n, rs.length = n := ⟨_, rfl⟩
  rw [hn] at n1 m1 p0 q0 hw1 ⊢
  replace hn := Lib.hid hn; replace l8 := Lib.hid l8; replace hcs := Lib.hid hcs; replace hds := Lib.hid hds; replace hb1 := Lib.hid hb1
  have n63 : (n : Int) ≤ 9223372036854775807 := by omega
  clear hp hq
  go_enter Tryd.func29, Tryd.ntmps29
  go_upto_region 1 with fail
  try (change Code.wp _ _ _ _ ((w.alloc (.cells #[.slice ao n cap, .bool other] 36)).alloc (.cells #[.slice bo n cbp, .bool other] 36)); rw [hw1])
  clear hw1
  go_wp2_with fail
  have hl1 : w.heap.size + 1 < w1.heap.size := World.block_lt_of_cell? w1 _ q0
  go_loopw [5] (fun i wr => ∃ k : Nat, k ≤ n ∧ i = .int .i64 (k : Int) ∧ Below w1.heap.size w1 wr) (fun i _ => n - (intOf i).toNat)
  case atStart => exact ⟨0, by omega, rfl, Below.refl _ _⟩
  case round =>
    obtain ⟨wo, rfl⟩ : ∃ wo, wo = wr := ⟨wr, rfl⟩
    obtain ⟨k, hk, rfl, hb⟩ := hrel
    have p0' := cell_below p0 hb
    have q0' := cell_below q0 hb
    by_cases hlt : k < n
    · have hkr : k < rs.length := by rw [hn.out]; exact hlt
      obtain ⟨r, hri⟩ : ∃ r, rs[k]? = some r := ⟨_, List.getElem?_eq_getElem hkr⟩
      have lr : r.me.length = 8 := l8.out r (List.mem_of_getElem? hri)
      obtain ⟨b, off, rfl, hbl, hcl⟩ := hcs.out.resolve_left (by intro h; rw [h] at hkr; simp at hkr)
      obtain ⟨c, ofg, rfl, hcl', hdl⟩ := hds.out.resolve_left (by intro h; rw [h] at hkr; simp at hkr)
      have hb0 := hb1.out.trans (hb.mono hb1.out.size)
      have r1 : wo.rangeAt b (off + k * 10) (ruleC r) := rangeAt_kept (hcl k r hri) (hb0.block b hbl)
      have r2 : wo.rangeAt c (ofg + k * 10) (ruleC r) := rangeAt_kept (hdl k r hri) (hb0.block c hcl')
      have i1 : (0 : Int) ≤ (k : Int) := by omega
      have i2 : (k : Int) < (n : Int) := by omega
      obtain ⟨al, nm, me⟩ := r
      have hE : ∀ w' : World, (Op.equalIn 10000 42 (.agg #[.bool al, .string nm, .int .u32 (wAt me 0), .int .u32 (wAt me 1), .int .u32 (wAt me 2), .int .u32 (wAt me 3), .int .u32 (wAt me 4), .int .u32 (wAt me 5), .int .u32 (wAt me 6), .int .u32 (wAt me 7)]) (.agg #[.bool al, .string nm, .int .u32 (wAt me 0), .int .u32 (wAt me 1), .int .u32 (wAt me 2), .int .u32 (wAt me 3), .int .u32 (wAt me 4), .int .u32 (wAt me 5), .int .u32 (wAt me 6), .int .u32 (wAt me 7)])).run Tryd.prog w' = .ok true w' := fun w' => by
        have h := eq_rule ⟨al, nm, me⟩ w' lr
        rw [ruleC_lit al nm me lr] at h; exact h
      have hS : ∀ w' : World, Below wo.heap.size wo w' → (w'.cell? ⟨w.heap.size, 0, none⟩ = some (.slice (some ⟨b, off, none⟩) n cap) ∧ w'.cell? ⟨w.heap.size + 1, 0, none⟩ = some (.slice (some ⟨c, ofg, none⟩) n cbp) ∧ w'.cell? ⟨b, off + k * 10, none⟩ = some (.bool al) ∧ w'.cell? ⟨b, off + k * 10 + 1, none⟩ = some (.string nm) ∧ w'.cell? ⟨b, off + k * 10 + 2, none⟩ = some (.int .u32 (wAt me 0)) ∧ w'.cell? ⟨b, off + k * 10 + 3, none⟩ = some (.int .u32 (wAt me 1)) ∧ w'.cell? ⟨b, off + k * 10 + 4, none⟩ = some (.int .u32 (wAt me 2)) ∧ w'.cell? ⟨b, off + k * 10 + 5, none⟩ = some (.int .u32 (wAt me 3)) ∧ w'.cell? ⟨b, off + k * 10 + 6, none⟩ = some (.int .u32 (wAt me 4)) ∧ w'.cell? ⟨b, off + k * 10 + 7, none⟩ = some (.int .u32 (wAt me 5)) ∧ w'.cell? ⟨b, off + k * 10 + 8, none⟩ = some (.int .u32 (wAt me 6)) ∧ w'.cell? ⟨b, off + k * 10 + 9, none⟩ = some (.int .u32 (wAt me 7)) ∧ w'.cell? ⟨c, ofg + k * 10, none⟩ = some (.bool al) ∧ w'.cell? ⟨c, ofg + k * 10 + 1, none⟩ = some (.string nm) ∧ w'.cell? ⟨c, ofg + k * 10 + 2, none⟩ = some (.int .u32 (wAt me 0)) ∧ w'.cell? ⟨c, ofg + k * 10 + 3, none⟩ = some (.int .u32 (wAt me 1)) ∧ w'.cell? ⟨c, ofg + k * 10 + 4, none⟩ = some (.int .u32 (wAt me 2)) ∧ w'.cell? ⟨c, ofg + k * 10 + 5, none⟩ = some (.int .u32 (wAt me 3)) ∧ w'.cell? ⟨c, ofg + k * 10 + 6, none⟩ = some (.int .u32 (wAt me 4)) ∧ w'.cell? ⟨c, ofg + k * 10 + 7, none⟩ = some (.int .u32 (wAt me 5)) ∧ w'.cell? ⟨c, ofg + k * 10 + 8, none⟩ = some (.int .u32 (wAt me 6)) ∧ w'.cell? ⟨c, ofg + k * 10 + 9, none⟩ = some (.int .u32 (wAt me 7))) := fun w' h => by
        obtain ⟨a0, a1, a2, a3, a4, a5, a6, a7, a8, a9⟩ := ruleCells r1 lr
        obtain ⟨b0, b1, b2, b3, b4, b5, b6, b7, b8, b9⟩ := ruleCells r2 lr
        exact ⟨cell_below p0' h, cell_below q0' h, cell_below a0 h, cell_below a1 h, cell_below a2 h, cell_below a3 h, cell_below a4 h, cell_below a5 h, cell_below a6 h, cell_below a7 h, cell_below a8 h, cell_below a9 h, cell_below b0 h, cell_below b1 h, cell_below b2 h, cell_below b3 h, cell_below b4 h, cell_below b5 h, cell_below b6 h, cell_below b7 h, cell_below b8 h, cell_below b9 h⟩
      clear hcl hdl hri r1 r2 lr
      replace hS := Lib.hid hS; replace hb0 := Lib.hid hb0; replace hb := Lib.hid hb
      go_wp2_with fail
      go_region_held3 (fun w' => w'.cell? ⟨w.heap.size, 0, none⟩ = some (.slice (some ⟨b, off, none⟩) n cap) ∧ w'.cell? ⟨w.heap.size + 1, 0, none⟩ = some (.slice (some ⟨c, ofg, none⟩) n cbp) ∧ w'.cell? ⟨b, off + k * 10, none⟩ = some (.bool al) ∧ w'.cell? ⟨b, off + k * 10 + 1, none⟩ = some (.string nm) ∧ w'.cell? ⟨b, off + k * 10 + 2, none⟩ = some (.int .u32 (wAt me 0)) ∧ w'.cell? ⟨b, off + k * 10 + 3, none⟩ = some (.int .u32 (wAt me 1)) ∧ w'.cell? ⟨b, off + k * 10 + 4, none⟩ = some (.int .u32 (wAt me 2)) ∧ w'.cell? ⟨b, off + k * 10 + 5, none⟩ = some (.int .u32 (wAt me 3)) ∧ w'.cell? ⟨b, off + k * 10 + 6, none⟩ = some (.int .u32 (wAt me 4)) ∧ w'.cell? ⟨b, off + k * 10 + 7, none⟩ = some (.int .u32 (wAt me 5)) ∧ w'.cell? ⟨b, off + k * 10 + 8, none⟩ = some (.int .u32 (wAt me 6)) ∧ w'.cell? ⟨b, off + k * 10 + 9, none⟩ = some (.int .u32 (wAt me 7)) ∧ w'.cell? ⟨c, ofg + k * 10, none⟩ = some (.bool al) ∧ w'.cell? ⟨c, ofg + k * 10 + 1, none⟩ = some (.string nm) ∧ w'.cell? ⟨c, ofg + k * 10 + 2, none⟩ = some (.int .u32 (wAt me 0)) ∧ w'.cell? ⟨c, ofg + k * 10 + 3, none⟩ = some (.int .u32 (wAt me 1)) ∧ w'.cell? ⟨c, ofg + k * 10 + 4, none⟩ = some (.int .u32 (wAt me 2)) ∧ w'.cell? ⟨c, ofg + k * 10 + 5, none⟩ = some (.int .u32 (wAt me 3)) ∧ w'.cell? ⟨c, ofg + k * 10 + 6, none⟩ = some (.int .u32 (wAt me 4)) ∧ w'.cell? ⟨c, ofg + k * 10 + 7, none⟩ = some (.int .u32 (wAt me 5)) ∧ w'.cell? ⟨c, ofg + k * 10 + 8, none⟩ = some (.int .u32 (wAt me 6)) ∧ w'.cell? ⟨c, ofg + k * 10 + 9, none⟩ = some (.int .u32 (wAt me 7))) (first | exact hS.out _ (Below.refl _ _) | exact hS.out _ (Below.refl _ _).drew | assumption) (fail)
      all_goals
        go_wp2_with fail
        go_roundw
        case rel => exact ⟨k + 1, by omega, by go_num, hb.out.drew⟩
        case measure => simp [intOf]; omega
    · obtain rfl : k = n := by omega
      replace hb := Lib.hid hb
      go_wp2_with fail
      go_ret
      exact ⟨rfl, hb1.out.trans (hb.out.mono hb1.out.size)⟩
end Go.Proofs.YtemanjahkohcpaaDoor
