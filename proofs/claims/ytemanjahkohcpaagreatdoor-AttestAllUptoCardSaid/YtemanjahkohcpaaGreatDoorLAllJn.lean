/- The walk of AttestAll: it answers true, and what was handed in stays. -/
import Derived.Test.YtemanjahkohcpaaGreatDoorJn45
import Derived.Test.YtemanjahkohcpaaGreatDoorJn35
import Derived.Test.YtemanjahkohcpaaGreatDoorJn25
import Derived.Test.YtemanjahkohcpaaGreatDoorRPpoJn
import Derived.Deep.RegionHeld3
namespace Go.Proofs.YtemanjahkohcpaaGreatDoor
open Go.RowKit WP
set_option linter.unusedSimpArgs false
attribute [local go_sem ↓] Go.wp_at_zero Go.wp_at_succ
/-- what is read out of a text: the rules, what else, the line, the error -/
def polE (s : ByteArray) : List RuleD × Bool × Int × Int :=
  if 65536 < s.size then ([], false, 0, 2) else match parsePolF s with | .inl (rs, o) => (rs, o, 0, 0) | .inr n => ([], false, (n : Int), 161)
theorem own_pol (s : ByteArray) (m : Int) (aW aH aR : Addr) (w : World) (hM : MaxL w m) (hW : Whys w aW aH aR) (h63 : s.size ≤ 9223372036854775807) :
    Calls Tryz.prog 4 #[.string s] w fun e w' => ∃ v C, w.heap.size ≤ C ∧ e = .returned (.tuple #[.agg #[v, .bool (polE s).2.1], .int .i64 (polE s).2.2.1, .int .i64 (polE s).2.2.2]) ∧ w'.ownsRow C 67 10 v (polE s).1.length (rulesC (polE s).1) ∧ (∀ r ∈ (polE s).1, r.me.length = 8) ∧ Below w.heap.size w w' := by
  by_cases hs : 65536 < s.size
  · have e0 : polE s = ([], false, 0, 2) := by unfold polE; rw [if_pos hs]
    rw [e0]
    refine (parsePol_long s w hs h63).mono ?_
    rintro e w' ⟨rfl, b⟩
    exact ⟨_, w.heap.size, Nat.le_refl _, rfl, World.ownsRow_nil _ _ _ _, by simp, b⟩
  · refine (parsePol_any s m aW aH aR w hM hW (by omega)).mono ?_
    rintro e w' ⟨b, hr⟩
    cases hp : parsePolF s with
    | inl p =>
      obtain ⟨rs, o⟩ := p
      have e0 : polE s = (rs, o, 0, 0) := by unfold polE; rw [if_neg hs, hp]
      rw [hp] at hr
      obtain ⟨v, C, hC, rfl, own, h8⟩ := hr
      rw [e0]; exact ⟨v, C, hC, rfl, own, h8, b⟩
    | inr n =>
      have e0 : polE s = ([], false, (n : Int), 161) := by unfold polE; rw [if_neg hs, hp]
      rw [hp] at hr
      obtain rfl : e = _ := hr
      rw [e0]
      exact ⟨_, w.heap.size, Nat.le_refl _, rfl, World.ownsRow_nil _ _ _ _, by simp, b⟩
theorem rown_pol (s : ByteArray) (w : World) (h63 : s.size ≤ 9223372036854775807) :
    Calls Tryz.prog 5 #[.string s] w fun e w' => ∃ v C, w.heap.size ≤ C ∧ e = .returned (.tuple #[.agg #[v, .bool (polE s).2.1], .int .i64 (polE s).2.2.1, .int .i64 (polE s).2.2.2]) ∧ w'.ownsRow C 64 10 v (polE s).1.length (rulesC (polE s).1) ∧ (∀ r ∈ (polE s).1, r.me.length = 8) ∧ Below w.heap.size w w' := by
  by_cases hs : 65536 < s.size
  · have e0 : polE s = ([], false, 0, 2) := by unfold polE; rw [if_pos hs]
    rw [e0]
    refine (rparsePol_long s w hs h63).mono ?_
    rintro e w' ⟨rfl, b⟩
    exact ⟨_, w.heap.size, Nat.le_refl _, rfl, World.ownsRow_nil _ _ _ _, by simp, b⟩
  · refine (rparsePol_any s w (by omega)).mono ?_
    rintro e w' ⟨b, hr⟩
    cases hp : parsePolF s with
    | inl p =>
      obtain ⟨rs, o⟩ := p
      have e0 : polE s = (rs, o, 0, 0) := by unfold polE; rw [if_neg hs, hp]
      rw [hp] at hr
      obtain ⟨v, C, hC, rfl, own, h8⟩ := hr
      rw [e0]; exact ⟨v, C, hC, rfl, own, h8, b⟩
    | inr n =>
      have e0 : polE s = ([], false, (n : Int), 161) := by unfold polE; rw [if_neg hs, hp]
      rw [hp] at hr
      obtain rfl : e = _ := hr
      rw [e0]
      exact ⟨_, w.heap.size, Nat.le_refl _, rfl, World.ownsRow_nil _ _ _ _, by simp, b⟩
theorem polA_len : ∀ (L : List ByteArray) (i : Nat) (l : Bool) (rs : List RuleD) (o : Bool) (rs' : List RuleD) (o' : Bool), rs.length ≤ 256 → polA L i l rs o = .inl (rs', o') → rs'.length ≤ 256
  | [], i, l, rs, o, rs', o', h, e => by
    unfold polA at e
    split at e
    · simp only [Sum.inl.injEq, Prod.mk.injEq] at e; rw [← e.1]; exact h
    · cases e
  | t :: ts, i, l, rs, o, rs', o', h, e => by
    unfold polA at e
    split at e
    · cases e
    · exact polA_len ts _ _ _ _ _ _ h e
    · split at e
      · cases e
      · split at e
        · cases e
        · rename_i hl
          exact polA_len ts _ _ _ _ _ _ (lineF_len _ _ _ _ _ _ hl h) e
theorem polE_len (s : ByteArray) : (polE s).1.length ≤ 1048576 := by
  unfold polE
  split
  · simp
  · split
    · rename_i rs o h
      have := polA_len _ _ _ _ _ _ _ (by simp) h
      show rs.length ≤ _
      omega
    · simp
set_option maxRecDepth 100000 in
set_option maxHeartbeats 8000000 in
theorem attest_walk (s : ByteArray) (m : Int) (aW aH aR : Addr) (KL sd nc me da tg : List UInt32) (right same : Bool) (rs : List RuleD) (o : Bool) (vp : Value) (w : World) (hM : MaxL w m) (hW : Whys w aW aH aR) (h63 : s.size ≤ 9223372036854775807) (hK : Rounds w KL) (hKR : RoundsR w KL)
    (ls : sd.length = 8) (ln : nc.length = 8) (lm : me.length = 8) (ld : da.length = 8) (lt : tg.length = 8) (hp : Rules w vp rs) (hN : rs.length ≤ 1048576) :
    Calls Tryz.prog 3 #[.string s, .agg #[vp, .bool o], .agg (claimC sd nc me da tg right same).toArray] w fun e w' => e = .returned (.bool true) ∧ Below w.heap.size w w' := by
  have hlp := polE_len s
  have hown := fun W h1 h2 => own_pol s m aW aH aR W h1 h2 h63
  have hrown := fun W => rown_pol s W h63
  obtain ⟨pr, po, pl, pc, hpE⟩ : ∃ a b c d, polE s = (a, b, c, d) := ⟨_, _, _, _, rfl⟩
  rw [hpE] at hown hrown hlp
  simp only at hown hrown hlp
  have hjd := fun rs o vp W h1 h2 h3 h4 => judged_any KL sd nc me da tg right same rs o vp W h1 h2 ls ln lm ld lt h3 h4
  obtain ⟨cc, hcc⟩ : ∃ cc, claimC sd nc me da tg right same = cc := ⟨_, rfl⟩
  have lcc : cc.length = 42 := by rw [← hcc]; unfold claimC; simp [ls, ln, lm, ld, lt]
  rw [hcc] at hjd ⊢
  obtain ⟨n, hn⟩ : ∃ n, pr.length = n := ⟨_, rfl⟩
  rw [hn] at hown hrown hlp
  obtain ⟨w1, hw1⟩ : ∃ w1, (w.alloc (.cells #[vp, .bool o] 24)).alloc (.cells cc.toArray 30) = w1 := ⟨_, rfl⟩
  have b1 : Below w.heap.size w w1 := by rw [← hw1]; exact ((Below.refl _ _).alloc (Nat.le_refl _) _).alloc (by simp) _
  have hP1 : w1.heap[w.heap.size]? = some (.cells #[vp, .bool o] 24 (0, 0)) := by
    rw [← hw1, heap_alloc_old _ _ (by simp)]; exact heap_alloc_new w _
  have hC1 : w1.heap[w.heap.size + 1]? = some (.cells cc.toArray 30 (0, 0)) := by
    rw [← hw1]
    exact (congrArg (fun k => _[k]?) (by simp)).trans (heap_alloc_new (w.alloc (.cells #[vp, .bool o] 24)) _)
  have hs1 : w1.heap.size = w.heap.size + 2 := by rw [← hw1]; simp
  have p0 : w1.cell? ⟨w.heap.size, 0, none⟩ = some vp := cell_of_row _ _ 0 _ _ _ hP1
  have p1 : w1.cell? ⟨w.heap.size, 1, none⟩ = some (.bool o) := cell_of_row _ _ 1 _ _ _ hP1
  have hA1 : ∀ W, Below w1.heap.size w1 W → W.cell? ⟨w.heap.size, 0, none⟩ = some vp ∧ W.cell? ⟨w.heap.size, 1, none⟩ = some (.bool o) ∧ W.rangeAt (w.heap.size + 1) 0 cc ∧ Rules W vp rs ∧ Rounds W KL ∧ RoundsR W KL ∧ MaxL W m ∧ Whys W aW aH aR := fun W hB =>
    ⟨cell_below p0 hB, cell_below p1 hB, rangeAt_kept (range_block hC1) (hB.block _ (by omega)), hp.below (b1.trans (hB.mono (by omega))), hK.below (b1.trans (hB.mono (by omega))), hKR.below (b1.trans (hB.mono (by omega))), cell_below hM (b1.trans (hB.mono (by omega))), hW.below (b1.trans (hB.mono (by omega)))⟩
  have h8 : ∀ r ∈ rs, r.me.length = 8 := by obtain ⟨_, _, _, _, _, h, _⟩ := hp; exact h
  have h8t := Lib.hid (turn_eight rs h8)
  have hlt := Lib.hid (turn_len rs)
  have e1 : (pl != pl) = false := by simp
  have e2 : (pc != pc) = false := by simp
  clear hP1 hC1 hp hK hKR hM hW p0 p1
  replace hA1 := Lib.hid hA1; replace hown := Lib.hid hown; replace hrown := Lib.hid hrown; replace hjd := Lib.hid hjd; replace lcc := Lib.hid lcc; replace hcc := Lib.hid hcc; replace b1 := Lib.hid b1; replace hs1 := Lib.hid hs1; replace hn := Lib.hid hn; replace hpE := Lib.hid hpE
  go_enter Tryz.func3, Tryz.ntmps3
  go_upto_region 1 with fail
  try rw [hw1]
  clear hw1
  obtain ⟨_, _, _, _, _, _, hM1, hW1⟩ := hA1.out _ (Below.refl _ _)
  replace hM1 := Lib.hid hM1; replace hW1 := Lib.hid hW1
  go_wp2_with fail
  refine (hown.out _ hM1.out hW1.out).mono ?_
  rintro e w2 ⟨v1, C1, hC1, rfl, own1, h8p, b2⟩
  clear hM1 hW1
  obtain ⟨a1, c1, rfl, c1a, c1b⟩ := own_shape own1
  obtain ⟨w3, hw3⟩ : ∃ w3, w2.alloc (Obj.cells #[.slice a1 n c1, .bool po] 24) = w3 := ⟨_, rfl⟩
  have b3 : Below w2.heap.size w2 w3 := by rw [← hw3]; exact (Below.refl _ _).alloc (Nat.le_refl _) _
  have hA3 : w3.heap[w2.heap.size]? = some (.cells #[.slice a1 n c1, .bool po] 24 (0, 0)) := by rw [← hw3]; exact heap_alloc_new _ _
  have hs2 := b2.size
  have hs3 : w3.heap.size = w2.heap.size + 1 := by rw [← hw3]; simp
  have own3 := own_below own1 b3
  have B3 := b2.trans (b3.mono hs2)
  have lt1 : ∀ k, (Value.slice a1 n c1).ownBlock = some k → C1 ≤ k ∧ k < w2.heap.size := fun k hk => own1.lt k hk
  clear b2 own1 b3
  replace own3 := Lib.hid own3; replace B3 := Lib.hid B3; replace hA3 := Lib.hid hA3; replace lt1 := Lib.hid lt1; replace h8p := Lib.hid h8p
  go_upto_region 2 with fail
  try rw [hw3]
  clear hw3
  go_wp2_with fail
  refine (hrown.out _).mono ?_
  rintro e w4 ⟨vb, Cb, hCb, rfl, ownb, _, b4⟩
  obtain ⟨ab, cb, rfl, cba, cbb⟩ := own_shape ownb
  obtain ⟨w5, hw5⟩ : ∃ w5, w4.alloc (Obj.cells #[.slice ab n cb, .bool po] 36) = w5 := ⟨_, rfl⟩
  have b5 : Below w4.heap.size w4 w5 := by rw [← hw5]; exact (Below.refl _ _).alloc (Nat.le_refl _) _
  have hB5 : w5.heap[w4.heap.size]? = some (.cells #[.slice ab n cb, .bool po] 36 (0, 0)) := by rw [← hw5]; exact heap_alloc_new _ _
  have hs4 := b4.size
  have hs5 : w5.heap.size = w4.heap.size + 1 := by rw [← hw5]; simp
  have ownb5 := own_below ownb b5
  have own5 := own_below (own_below own3.out b4) b5
  have B5 := (B3.out.trans (b4.mono B3.out.size)).trans (b5.mono (by have := B3.out.size; omega))
  have hA5 := ((b5.block _ (by omega)).trans (b4.block _ (by omega))).trans hA3.out
  have ltb : ∀ k, (Value.slice ab n cb).ownBlock = some k → Cb ≤ k ∧ k < w4.heap.size := fun k hk => ownb.lt k hk
  clear b4 ownb b5 own3 B3 hA3
  have q0 : w5.cell? ⟨w2.heap.size, 0, none⟩ = some (.slice a1 n c1) := cell_of_row _ _ 0 _ _ _ hA5
  have q1 : w5.cell? ⟨w2.heap.size, 1, none⟩ = some (.bool po) := cell_of_row _ _ 1 _ _ _ hA5
  have r0 : w5.cell? ⟨w4.heap.size, 0, none⟩ = some (.slice ab n cb) := cell_of_row _ _ 0 _ _ _ hB5
  have r1 : w5.cell? ⟨w4.heap.size, 1, none⟩ = some (.bool po) := cell_of_row _ _ 1 _ _ _ hB5
  have hsm := samePolicy_any pr po _ _ w5 ((Reads.of_own own5).rules h8p.out) ((Reads.of_own ownb5).rules h8p.out)
  replace own5 := Lib.hid own5; replace ownb5 := Lib.hid ownb5; replace B5 := Lib.hid B5; replace hA5 := Lib.hid hA5; replace hB5 := Lib.hid hB5; replace ltb := Lib.hid ltb; replace hsm := Lib.hid hsm
  go_upto_region 3 with fail
  try rw [hw5]
  clear hw5
  go_wp2_with fail
  refine hsm.out.mono ?_
  rintro e w6 ⟨rfl, b6⟩
  have B6 := B5.out.trans (b6.mono B5.out.size)
  have own6 := own_below own5.out b6
  have ownb6 := own_below ownb5.out b6
  have hA6 := (b6.block _ (by omega)).trans hA5.out
  have hB6 := (b6.block _ (by omega)).trans hB5.out
  have hs6 := b6.size
  clear b6 own5 ownb5 B5 hA5 hB5 hsm q0 q1 r0 r1
  obtain ⟨_, _, _, _, _, _, hM1, hW1⟩ := hA1.out _ B6
  replace hM1 := Lib.hid hM1; replace hW1 := Lib.hid hW1; replace own6 := Lib.hid own6; replace ownb6 := Lib.hid ownb6; replace B6 := Lib.hid B6; replace hA6 := Lib.hid hA6; replace hB6 := Lib.hid hB6
  go_wp2_with fail
  refine (num_any _ _).mono ?_
  rintro e wn ⟨rfl, rfl⟩
  go_wp2_with fail
  go_upto_region 5 with fail
  go_wp2_with fail
  refine (hown.out _ hM1.out hW1.out).mono ?_
  rintro e w7 ⟨v3, C3, hC3, rfl, own7, _, b7⟩
  clear hM1 hW1
  obtain ⟨a3, c3, rfl, c3a, c3b⟩ := own_shape own7
  obtain ⟨w8, hw8⟩ : ∃ w8, w7.alloc (Obj.cells #[.slice a3 n c3, .bool po] 24) = w8 := ⟨_, rfl⟩
  have b8 : Below w7.heap.size w7 w8 := by rw [← hw8]; exact (Below.refl _ _).alloc (Nat.le_refl _) _
  have hD8 : w8.heap[w7.heap.size]? = some (.cells #[.slice a3 n c3, .bool po] 24 (0, 0)) := by rw [← hw8]; exact heap_alloc_new _ _
  have hs7 := b7.size
  have hs8 : w8.heap.size = w7.heap.size + 1 := by rw [← hw8]; simp
  have own38 := own_below own7 b8
  have own18 := own_below (own_below own6.out b7) b8
  have ownb8 := own_below (own_below ownb6.out b7) b8
  have B8 := (B6.out.trans (b7.mono B6.out.size)).trans (b8.mono (by have := B6.out.size; omega))
  have hA8 := ((b8.block _ (by omega)).trans (b7.block _ (by omega))).trans hA6.out
  have hB8 := ((b8.block _ (by omega)).trans (b7.block _ (by omega))).trans hB6.out
  have lt3 : ∀ k, (Value.slice a3 n c3).ownBlock = some k → C3 ≤ k ∧ k < w7.heap.size := fun k hk => own7.lt k hk
  clear b7 own7 b8 own6 ownb6 B6 hA6 hB6
  have q0 : w8.cell? ⟨w7.heap.size, 0, none⟩ = some (.slice a3 n c3) := cell_of_row _ _ 0 _ _ _ hD8
  have q1 : w8.cell? ⟨w7.heap.size, 1, none⟩ = some (.bool po) := cell_of_row _ _ 1 _ _ _ hD8
  have r0 : w8.cell? ⟨w4.heap.size, 0, none⟩ = some (.slice ab n cb) := cell_of_row _ _ 0 _ _ _ hB8
  have r1 : w8.cell? ⟨w4.heap.size, 1, none⟩ = some (.bool po) := cell_of_row _ _ 1 _ _ _ hB8
  have hsm := samePolicy_any pr po _ _ w8 ((Reads.of_own own38).rules h8p.out) ((Reads.of_own ownb8).rules h8p.out)
  replace own38 := Lib.hid own38; replace own18 := Lib.hid own18; replace ownb8 := Lib.hid ownb8; replace B8 := Lib.hid B8; replace hA8 := Lib.hid hA8; replace hB8 := Lib.hid hB8; replace hD8 := Lib.hid hD8; replace lt3 := Lib.hid lt3; replace hsm := Lib.hid hsm
  go_upto_region 6 with fail
  try rw [hw8]
  clear hw8
  go_wp2_with fail
  refine hsm.out.mono ?_
  rintro e w9 ⟨rfl, b9⟩
  have B9 := B8.out.trans (b9.mono B8.out.size)
  have own19 := own_below own18.out b9
  have own39 := own_below own38.out b9
  have ownb9 := own_below ownb8.out b9
  have hA9 := (b9.block _ (by omega)).trans hA8.out
  have hB9 := (b9.block _ (by omega)).trans hB8.out
  have hD9 := (b9.block _ (by omega)).trans hD8.out
  have hs9 := b9.size
  clear b9 own18 own38 ownb8 B8 hA8 hB8 hD8 hsm q0 q1 r0 r1
  -- the marks: first (v1), second (v3)
  have F13 : Far (Value.slice a1 n c1) (Value.slice a3 n c3) := fun k h1 h2 => by have := (lt1.out k h1).2; have := (lt3.out k h2).1; omega
  have hmk := marked_any C1 _ pr n ⟨#[35]⟩ w9 own19 hn.out h8p.out
  have q0 : w9.cell? ⟨w2.heap.size, 0, none⟩ = some (.slice a1 n c1) := cell_of_row _ _ 0 _ _ _ hA9
  replace own39 := Lib.hid own39; replace ownb9 := Lib.hid ownb9; replace B9 := Lib.hid B9; replace hA9 := Lib.hid hA9; replace hB9 := Lib.hid hB9; replace hD9 := Lib.hid hD9; replace F13 := Lib.hid F13; replace hmk := Lib.hid hmk
  clear own19
  go_upto_region 8 with fail
  go_wp2_with fail
  refine hmk.out.mono ?_
  rintro e wa ⟨rfl, own1a, Ta⟩
  have nA : ∀ k, (∀ v ∈ [Value.slice a1 n c1], v.ownBlock ≠ some k) ↔ (Value.slice a1 n c1).ownBlock ≠ some k := fun k => by simp
  have ne1 : ∀ k, (k < C1 ∨ w2.heap.size ≤ k) → ∀ v ∈ [Value.slice a1 n c1], v.ownBlock ≠ some k := fun k hk v hv e => by
    rw [List.mem_singleton.1 hv] at e; have := lt1.out k e; omega
  have ne3 : ∀ k, (k < C3 ∨ w7.heap.size ≤ k) → ∀ v ∈ [Value.slice a3 n c3], v.ownBlock ≠ some k := fun k hk v hv e => by
    rw [List.mem_singleton.1 hv] at e; have := lt3.out k e; omega
  have own3a := Ta.own own39.out (fun s hs => by rw [List.mem_singleton.1 hs]; exact F13.out.symm)
  have ownba := Ta.own ownb9.out (fun s hs => by rw [List.mem_singleton.1 hs]; exact fun k h1 h2 => by have := (lt1.out k h2).2; have := (ltb.out k h1).1; omega)
  have hAa := (Ta.block _ (by omega) (ne1 _ (by omega))).trans hA9.out
  have hBa := (Ta.block _ (by omega) (ne1 _ (by omega))).trans hB9.out
  have hDa := (Ta.block _ (by omega) (ne1 _ (by omega))).trans hD9.out
  have Ba := B9.out.trans (Ta.below (B := w1.heap.size) (by have := B9.out.size; omega) (fun v hv k hk => by rw [List.mem_singleton.1 hv] at hk; have := (lt1.out k hk).1; omega))
  have hsa := Ta.size
  have hmk := marked_any C3 _ pr n ⟨#[37]⟩ wa own3a hn.out h8p.out
  clear q0 own39 ownb9 B9 hA9 hB9 hD9 own3a Ta nA
  have q0 : wa.cell? ⟨w7.heap.size, 0, none⟩ = some (.slice a3 n c3) := cell_of_row _ _ 0 _ _ _ hDa
  replace own1a := Lib.hid own1a; replace ownba := Lib.hid ownba; replace Ba := Lib.hid Ba; replace hAa := Lib.hid hAa; replace hBa := Lib.hid hBa; replace hmk := Lib.hid hmk; replace ne1 := Lib.hid ne1; replace ne3 := Lib.hid ne3
  clear hDa
  go_upto_region 9 with fail
  go_wp2_with fail
  refine hmk.out.mono ?_
  rintro e wb ⟨rfl, own3b, Tb⟩
  have own1b := Tb.own own1a.out (fun s hs => by rw [List.mem_singleton.1 hs]; exact F13.out)
  have ownbb := Tb.own ownba.out (fun s hs => by rw [List.mem_singleton.1 hs]; exact fun k h1 h2 => by have := (lt3.out k h2).1; have := (ltb.out k h1).2; omega)
  have hAb := (Tb.block _ (by omega) (ne3.out _ (by omega))).trans hAa.out
  have hBb := (Tb.block _ (by omega) (ne3.out _ (by omega))).trans hBa.out
  have Bb := Ba.out.trans (Tb.below (B := w1.heap.size) (by have := Ba.out.size; omega) (fun v hv k hk => by rw [List.mem_singleton.1 hv] at hk; have := (lt3.out k hk).1; omega))
  have hsb := Tb.size
  have hgr := grown_any _ _ n ⟨#[35]⟩ wb (own_base own1b hC1) (by omega) (by omega)
  clear q0 own1a ownba Ba hAa hBa own1b Tb hmk
  replace own3b := Lib.hid own3b; replace ownbb := Lib.hid ownbb; replace Bb := Lib.hid Bb; replace hAb := Lib.hid hAb; replace hBb := Lib.hid hBb; replace hgr := Lib.hid hgr
  go_upto_region 10 with fail
  go_wp2_with fail
  refine hgr.out.mono ?_
  rintro e wc ⟨v2, rfl, own2c, rd1c, Tc, N12⟩
  have own3c := Tc.own own3b.out (fun s hs => by rw [List.mem_singleton.1 hs]; exact F13.out.symm)
  have ownbc := Tc.own ownbb.out (fun s hs => by rw [List.mem_singleton.1 hs]; exact fun k h1 h2 => by have := (lt1.out k h2).2; have := (ltb.out k h1).1; omega)
  have hAc := (Tc.block _ (by omega) (ne1.out _ (by omega))).trans hAb.out
  have hBc := (Tc.block _ (by omega) (ne1.out _ (by omega))).trans hBb.out
  have Bc := Bb.out.trans (Tc.below (B := w1.heap.size) (by have := Bb.out.size; omega) (fun v hv k hk => by rw [List.mem_singleton.1 hv] at hk; have := (lt1.out k hk).1; omega))
  have hsc := Tc.size
  have F23 : Far v2 (Value.slice a3 n c3) := N12.far F13.out (fun k hk => by have := (lt3.out k hk).2; omega)
  have hgr := grown_any _ _ n ⟨#[37]⟩ wc (own_base own3c hC3) (by omega) (by omega)
  have ne2 : v2.ownBlock ≠ some w2.heap.size ∧ v2.ownBlock ≠ some w4.heap.size := by
    rcases N12 with h | h
    · rw [h]
      refine ⟨fun e => ?_, fun e => ?_⟩
      · have := lt1.out _ e; omega
      · have := lt1.out _ e; omega
    · refine ⟨fun e => ?_, fun e => ?_⟩
      · have := h _ e; omega
      · have := h _ e; omega
  clear own3b ownbb Bb hAb hBb own3c Tc N12
  replace own2c := Lib.hid own2c; replace rd1c := Lib.hid rd1c; replace ownbc := Lib.hid ownbc; replace Bc := Lib.hid Bc; replace hAc := Lib.hid hAc; replace hBc := Lib.hid hBc; replace hgr := Lib.hid hgr; replace F23 := Lib.hid F23; replace ne2 := Lib.hid ne2
  go_upto_region 11 with fail
  go_wp2_with fail
  refine hgr.out.mono ?_
  rintro e wd ⟨v4, rfl, own4d, rd3d, Td, N34⟩
  have rd1d := rd1c.out.touch Td (fun s hs => by rw [List.mem_singleton.1 hs]; exact F13.out)
  have rd2d := (Reads.of_own own2c.out).touch Td (fun s hs => by rw [List.mem_singleton.1 hs]; exact F23.out)
  have rd4d := Reads.of_own own4d
  have ownbd := Td.own ownbc.out (fun s hs => by rw [List.mem_singleton.1 hs]; exact fun k h1 h2 => by have := (lt3.out k h2).1; have := (ltb.out k h1).2; omega)
  have hAd := (Td.block _ (by omega) (ne3.out _ (by omega))).trans hAc.out
  have hBd := (Td.block _ (by omega) (ne3.out _ (by omega))).trans hBc.out
  have Bd := Bc.out.trans (Td.below (B := w1.heap.size) (by have := Bc.out.size; omega) (fun v hv k hk => by rw [List.mem_singleton.1 hv] at hk; have := (lt3.out k hk).1; omega))
  have hsd := Td.size
  have ne4 : v4.ownBlock ≠ some w2.heap.size ∧ v4.ownBlock ≠ some w4.heap.size := by
    rcases N34 with h | h
    · rw [h]
      refine ⟨fun e => ?_, fun e => ?_⟩
      · have := lt3.out _ e; omega
      · have := lt3.out _ e; omega
    · refine ⟨fun e => ?_, fun e => ?_⟩
      · have := h _ e; omega
      · have := h _ e; omega
  obtain ⟨_, _, _, _, _, _, hM1, hW1⟩ := hA1.out _ Bd
  clear own2c rd1c ownbc Bc hAc hBc own4d Td N34
  replace rd1d := Lib.hid rd1d; replace rd2d := Lib.hid rd2d; replace rd3d := Lib.hid rd3d; replace rd4d := Lib.hid rd4d; replace ownbd := Lib.hid ownbd; replace Bd := Lib.hid Bd; replace hAd := Lib.hid hAd; replace hBd := Lib.hid hBd; replace ne4 := Lib.hid ne4; replace hM1 := Lib.hid hM1; replace hW1 := Lib.hid hW1
  go_upto_region 12 with fail
  go_wp2_with fail
  refine (hown.out _ hM1.out hW1.out).mono ?_
  rintro e we ⟨v5, C5, hC5, rfl, own5e, _, be⟩
  clear hM1 hW1
  obtain ⟨a5, c5, rfl, c5a, c5b⟩ := own_shape own5e
  have hse := be.size
  have hAe := (be.block _ (by omega)).trans hAd.out
  have hBe := (be.block _ (by omega)).trans hBd.out
  have Be := Bd.out.trans (be.mono (by have := Bd.out.size; omega))
  have x0 : we.cell? ⟨w2.heap.size, 0, none⟩ = some (.slice a1 n c1) := cell_of_row _ _ 0 _ _ _ hAe
  have x1 : we.cell? ⟨w2.heap.size, 1, none⟩ = some (.bool po) := cell_of_row _ _ 1 _ _ _ hAe
  have xf0 := frozen_of_row we w2.heap.size 0 _ _ hAe
  have xf1 := frozen_of_row we w2.heap.size 1 _ _ hAe
  obtain ⟨wf, hwf⟩ : ∃ wf, (we.setCell ⟨w2.heap.size, 0, none⟩ (.slice a5 n c5)).setCell ⟨w2.heap.size, 1, none⟩ (.bool po) = wf := ⟨_, rfl⟩
  have hsf : wf.heap.size = we.heap.size := by rw [← hwf]; simp
  have hAf : wf.heap[w2.heap.size]? = some (.cells #[.slice a5 n c5, .bool po] 24 (0, 0)) := by
    rw [← hwf, heap_setCell_same _ w2.heap.size 1 _ _ (.bool po) (heap_setCell_same we w2.heap.size 0 _ _ (.slice a5 n c5) hAe)]; rfl
  have hoth : ∀ k, k ≠ w2.heap.size → wf.heap[k]? = we.heap[k]? := fun k hk => by
    rw [← hwf, heap_setCell_other _ _ _ _ (fun e => hk (by simpa using e)), heap_setCell_other _ _ _ _ (fun e => hk (by simpa using e))]
  have hBf := (hoth w4.heap.size (by omega)).trans hBe
  have Bf : Below w1.heap.size w1 wf := by
    rw [← hwf]; exact (Be.setCell (p := ⟨w2.heap.size, 0, none⟩) (by show w1.heap.size ≤ w2.heap.size; omega) _).setCell (p := ⟨w2.heap.size, 1, none⟩) (by show w1.heap.size ≤ w2.heap.size; omega) _
  have Tf : Touch [Value.slice (some ⟨w2.heap.size, 0, none⟩) 0 0] we wf := by
    refine ⟨by rw [← hwf]; rfl, by rw [← hwf]; rfl, by rw [← hwf]; rfl, by omega, fun k hk hf => hoth k (fun e => hf (Value.slice (some ⟨w2.heap.size, 0, none⟩) 0 0) (List.mem_singleton_self _) (by rw [e]; rfl))⟩
  have farA : ∀ v : Value, v.ownBlock ≠ some w2.heap.size → ∀ s ∈ [Value.slice (some ⟨w2.heap.size, 0, none⟩) 0 0], Far v s := fun v hv s hs k h1 h2 => by
    rw [List.mem_singleton.1 hs] at h2; simp only [Value.ownBlock, Option.some.injEq] at h2; subst h2; exact hv h1
  have rd1 := (rd1d.out.later be).touch Tf (farA _ (fun e => by have := lt1.out _ e; omega))
  have rd2 := (rd2d.out.later be).touch Tf (farA _ ne2.out.1)
  have rd3 := (rd3d.out.later be).touch Tf (farA _ (fun e => by have := lt3.out _ e; omega))
  have rd4 := (rd4d.out.later be).touch Tf (farA _ ne4.out.1)
  have own5 := Tf.own own5e (farA _ (fun e => by have := (own5e.lt _ e).1; omega))
  have ownb := Tf.own (own_below ownbd.out be) (farA _ (fun e => by have := (ltb.out _ e).1; omega))
  have q0 : wf.cell? ⟨w2.heap.size, 0, none⟩ = some (.slice a5 n c5) := cell_of_row _ _ 0 _ _ _ hAf
  have q1 : wf.cell? ⟨w2.heap.size, 1, none⟩ = some (.bool po) := cell_of_row _ _ 1 _ _ _ hAf
  have r0 : wf.cell? ⟨w4.heap.size, 0, none⟩ = some (.slice ab n cb) := cell_of_row _ _ 0 _ _ _ hBf
  have r1 : wf.cell? ⟨w4.heap.size, 1, none⟩ = some (.bool po) := cell_of_row _ _ 1 _ _ _ hBf
  have hsm := samePolicy_any pr po _ _ wf ((Reads.of_own own5).rules h8p.out) ((Reads.of_own ownb).rules h8p.out)
  clear rd1d rd2d rd3d rd4d ownbd Bd hAd hBd own5e be hAe hBe Be hoth Tf farA own5 ownb hAf hBf ne2 ne4 F13 F23 ne1 ne3
  replace rd1 := Lib.hid rd1; replace rd2 := Lib.hid rd2; replace rd3 := Lib.hid rd3; replace rd4 := Lib.hid rd4; replace Bf := Lib.hid Bf; replace hsm := Lib.hid hsm
  go_upto_region 13 with fail
  try rw [hwf]
  clear hwf x0 x1 xf0 xf1
  go_wp2_with fail
  refine hsm.out.mono ?_
  rintro e wg ⟨rfl, bg⟩
  have Bg := Bf.out.trans (bg.mono (by have := Bf.out.size; omega))
  have rg1 := rd1.out.later bg
  have rg2 := rd2.out.later bg
  have rg3 := rd3.out.later bg
  have rg4 := rd4.out.later bg
  clear rd1 rd2 rd3 rd4 bg Bf hsm q0 q1 r0 r1
  replace rg1 := Lib.hid rg1; replace rg2 := Lib.hid rg2; replace rg3 := Lib.hid rg3; replace rg4 := Lib.hid rg4; replace Bg := Lib.hid Bg
  go_wp2_with fail
  refine (num_any _ _).mono ?_
  rintro e wn ⟨rfl, rfl⟩
  go_wp2_with fail
  refine (bears_any _ _ _ _ rg1.out).mono ?_
  rintro e wn ⟨rfl, rfl⟩
  go_wp2_with fail
  refine (bears_any _ _ _ _ rg2.out).mono ?_
  rintro e wn ⟨rfl, rfl⟩
  go_wp2_with fail
  refine (bears_any _ _ _ _ rg3.out).mono ?_
  rintro e wn ⟨rfl, rfl⟩
  go_wp2_with fail
  refine (bears_any _ _ _ _ rg4.out).mono ?_
  rintro e wn ⟨rfl, rfl⟩
  have hS : ∀ W : World, Below wn.heap.size wn W → (fun w' : World => w'.cell? ⟨w.heap.size, 0, none⟩ = some vp ∧ w'.cell? ⟨w.heap.size, 1, none⟩ = some (.bool o) ∧ w'.rangeAt (w.heap.size + 1) 0 cc) W := fun W hW => by
    obtain ⟨x0, x1, x2, _⟩ := hA1.out W (Bg.out.trans (hW.mono (by have := Bg.out.size; omega)))
    exact ⟨x0, x1, x2⟩
  have hE : ∀ W : World, Below wn.heap.size wn W → Rounds W KL ∧ RoundsR W KL ∧ Rules W vp rs := fun W hW => by
    obtain ⟨_, _, _, x3, x4, x5, _⟩ := hA1.out W (Bg.out.trans (hW.mono (by have := Bg.out.size; omega)))
    exact ⟨x4, x5, x3⟩
  have hB : Below wn.heap.size wn wn := Below.refl _ _
  clear hA1 hown hrown rg1 rg2 rg3 rg4 lt1 lt3 ltb
  replace hS := Lib.hid hS; replace hE := Lib.hid hE
  go_upto_region 15 with fail
  refine wp_region_held_drew (S := fun w' : World => w'.cell? ⟨w.heap.size, 0, none⟩ = some vp ∧ w'.cell? ⟨w.heap.size, 1, none⟩ = some (.bool o) ∧ w'.rangeAt (w.heap.size + 1) 0 cc) (by kernel_rfl) (hS.out _ (by first | with_reducible exact hB | with_reducible exact hB.drew | with_reducible exact hB.drew.drew)) (fun hHeld => ?_)
  refine wpAnyH_take (i := 0) (v := ?v3) rfl (by kernel_rfl) (by kernel_rfl) (by kernel_rfl) (fun _ _ _ h => h) (Or.inl ⟨by rfl, ?h3⟩) (by assumption) ?r3
  case h3 =>
    intro w' hSw
    try dsimp only at hSw
    go_simp
    try with_reducible rfl
  try simp only [Act.put, List.getElem_toArray, List.getElem_cons_succ, List.getElem_cons_zero, List.setIfInBounds_toArray, List.set_cons_zero, List.set_cons_succ]
  refine wpAnyH_take (i := 1) rfl (by kernel_rfl) (by kernel_rfl) (by kernel_rfl) (fun _ _ _ h => h) (yieldsIf_load_mid (by rfl) 30 _ rfl _ _ rfl cc _ (fun w' h => h.2.2) Tryz.underlying30 rfl (by rw [lcc.out]; exact infoClm)) (by assumption) ?_
  try simp only [Act.put, List.getElem_toArray, List.getElem_cons_succ, List.getElem_cons_zero, List.setIfInBounds_toArray, List.set_cons_zero, List.set_cons_succ]
  refine wpAnyH_ready (rs := [2]) (by kernel_rfl) (by simp) ?_
  refine AllReadyH.cons (o := _) rfl (fun K hK => ?step8) ?more8
  case step8 =>
    go_simp
    refine (hjd.out rs o vp _ (hE.out _ (by first | with_reducible exact hB | with_reducible exact hB.drew | with_reducible exact hB.drew.drew)).1 (hE.out _ (by first | with_reducible exact hB | with_reducible exact hB.drew | with_reducible exact hB.drew.drew)).2.1 (hE.out _ (by first | with_reducible exact hB | with_reducible exact hB.drew | with_reducible exact hB.drew.drew)).2.2 hN).mono ?_
    rintro e wx ⟨rfl, bx⟩
    replace hB := Below.trans (by first | with_reducible exact hB | with_reducible exact hB.drew | with_reducible exact hB.drew.drew) (bx.mono (by exact hB.size))
    clear bx
    try dsimp only
    refine hK.out _ _ (hS.out _ (by first | with_reducible exact hB | with_reducible exact hB.drew | with_reducible exact hB.drew.drew)) (fun hHeld => ?_)
    clear hK K
    try simp only [Act.put, List.getElem_toArray, List.getElem_cons_succ, List.getElem_cons_zero, List.setIfInBounds_toArray, List.set_cons_zero, List.set_cons_succ]
    refine wpAnyH_take (i := 3) (v := ?v4) rfl (by kernel_rfl) (by kernel_rfl) (by kernel_rfl) (fun _ _ _ h => h) (Or.inl ⟨by rfl, ?h4⟩) (by assumption) ?r4
    case h4 =>
      intro w' hSw
      try dsimp only at hSw
      go_simp
      try with_reducible rfl
    try simp only [Act.put, List.getElem_toArray, List.getElem_cons_succ, List.getElem_cons_zero, List.setIfInBounds_toArray, List.set_cons_zero, List.set_cons_succ]
    refine wpAnyH_take (i := 4) (v := ?v5) rfl (by kernel_rfl) (by kernel_rfl) (by kernel_rfl) (fun _ _ _ h => h) (Or.inl ⟨by rfl, ?h5⟩) (by assumption) ?r5
    case h5 =>
      intro w' hSw
      try dsimp only at hSw
      go_simp
      try with_reducible rfl
    try simp only [Act.put, List.getElem_toArray, List.getElem_cons_succ, List.getElem_cons_zero, List.setIfInBounds_toArray, List.set_cons_zero, List.set_cons_succ]
    refine wpAnyH_take (i := 6) rfl (by kernel_rfl) (by kernel_rfl) (by kernel_rfl) (fun _ _ _ h => h) (yieldsIf_load_mid (by rfl) 30 _ rfl _ _ rfl cc _ (fun w' h => h.2.2) Tryz.underlying30 rfl (by rw [lcc.out]; exact infoClm)) (by assumption) ?_
    try simp only [Act.put, List.getElem_toArray, List.getElem_cons_succ, List.getElem_cons_zero, List.setIfInBounds_toArray, List.set_cons_zero, List.set_cons_succ]
    refine wpAnyH_ready (rs := [5]) (by kernel_rfl) (by simp) ?_
    refine AllReadyH.cons (o := _) rfl (fun K hK => ?step7) ?more7
    case step7 =>
      go_simp
      refine (turned_any rs o vp _ (hE.out _ (by first | with_reducible exact hB | with_reducible exact hB.drew | with_reducible exact hB.drew.drew)).2.2 hN).mono ?_
      rintro e wy ⟨vt, Ct, _, rfl, ownt, bt⟩
      have hRt : ∀ W, Below wy.heap.size wy W → Rules W vt (turnR rs) := fun W hW => ((Reads.of_own ownt).rules h8t.out).below hW
      have hBt : Below wy.heap.size wy wy := Below.refl _ _
      replace hRt := Lib.hid hRt
      replace hB := Below.trans (by first | with_reducible exact hB | with_reducible exact hB.drew | with_reducible exact hB.drew.drew) (bt.mono (by exact hB.size))
      clear bt ownt
      try dsimp only
      refine hK.out _ _ (hS.out _ (by first | with_reducible exact hB | with_reducible exact hB.drew | with_reducible exact hB.drew.drew)) (fun hHeld => ?_)
      clear hK K
      try simp only [Act.put, List.getElem_toArray, List.getElem_cons_succ, List.getElem_cons_zero, List.setIfInBounds_toArray, List.set_cons_zero, List.set_cons_succ]
      refine wpAnyH_ready (rs := [7]) (by kernel_rfl) (by simp) ?_
      refine AllReadyH.cons (o := _) rfl (fun K hK => ?step6) ?more6
      case step6 =>
        go_simp
        refine (hjd.out (turnR rs) (!o) vt _ (hE.out _ (by first | with_reducible exact hB | with_reducible exact hB.drew | with_reducible exact hB.drew.drew)).1 (hE.out _ (by first | with_reducible exact hB | with_reducible exact hB.drew | with_reducible exact hB.drew.drew)).2.1 (hRt.out _ (by first | with_reducible exact hBt | with_reducible exact hBt.drew)) (by rw [hlt.out]; exact hN)).mono ?_
        rintro e wx ⟨rfl, bx⟩
        replace hB := Below.trans (by first | with_reducible exact hB | with_reducible exact hB.drew | with_reducible exact hB.drew.drew) (bx.mono (by exact hB.size))
        clear bx
        try dsimp only
        refine hK.out _ _ (hS.out _ (by first | with_reducible exact hB | with_reducible exact hB.drew | with_reducible exact hB.drew.drew)) (fun hHeld => ?_)
        clear hK K
        try simp only [Act.put, List.getElem_toArray, List.getElem_cons_succ, List.getElem_cons_zero, List.setIfInBounds_toArray, List.set_cons_zero, List.set_cons_succ]
        refine wpAnyH_take (i := 8) (v := ?v1) rfl (by kernel_rfl) (by kernel_rfl) (by kernel_rfl) (fun _ _ _ h => h) (Or.inl ⟨by rfl, ?h1⟩) (by assumption) ?r1
        case h1 =>
          intro w' hSw
          try dsimp only at hSw
          go_simp
          try with_reducible rfl
        try simp only [Act.put, List.getElem_toArray, List.getElem_cons_succ, List.getElem_cons_zero, List.setIfInBounds_toArray, List.set_cons_zero, List.set_cons_succ]
        refine wpAnyH_take (i := 9) (v := ?v2) rfl (by kernel_rfl) (by kernel_rfl) (by kernel_rfl) (fun _ _ _ h => h) (Or.inl ⟨by rfl, ?h2⟩) (by assumption) ?r2
        case h2 =>
          intro w' hSw
          try dsimp only at hSw
          go_simp
          try with_reducible rfl
        try simp only [Act.put, List.getElem_toArray, List.getElem_cons_succ, List.getElem_cons_zero, List.setIfInBounds_toArray, List.set_cons_zero, List.set_cons_succ]
        refine wpAnyH_done (by kernel_rfl) ?_ _
        have hfin := b1.out.trans (((Bg.out.trans (hB.mono (by have := Bg.out.size; omega)))).mono (by have := hs1.out; omega))
        replace hfin := Lib.hid hfin
        clear hB hE hS hRt hBt hjd
        go_wp2_with fail
        go_ret
        exact ⟨rfl, hfin.out⟩
      exact AllReadyH.nil
    exact AllReadyH.nil
  exact AllReadyH.nil
end Go.Proofs.YtemanjahkohcpaaGreatDoor
