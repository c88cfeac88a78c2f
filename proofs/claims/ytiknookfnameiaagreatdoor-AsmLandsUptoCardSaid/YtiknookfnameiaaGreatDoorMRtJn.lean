/- The contract of AsmLands' right (printed by genMRt.py). -/
import Derived.Test.YtiknookfnameiaaGreatDoorMLn2Jn
import Derived.Test.YtiknookfnameiaaGreatDoorVLcJn
import Derived.Test.YtiknookfnameiaaGreatDoorJn29
import Derived.Test.YtiknookfnameiaaGreatDoorJn25
import Derived.BigQuiet
namespace Go.Proofs.YtiknookfnameiaaGreatDoor
open Go.RowKit WP
set_option linter.unusedSimpArgs false
set_option linter.unusedVariables false
def wj (l : List Int) : List Value := l.map fun x => .int .i64 x
theorem rd_j {w : World} {v : Value} {l : List Int} (h : Rd w v (wj l)) : ∃ ao ca, v = .slice ao l.length ca ∧ l.length ≤ ca ∧ ca ≤ 9223372036854775807 ∧ ∀ i, i < l.length → ∃ b off, ao = some ⟨b, off, none⟩ ∧ b < w.heap.size ∧ w.cell? ⟨b, off + i, none⟩ = some (.int .i64 (l.getD i 0)) := by
  obtain ⟨ao, ca, hV, a1, a2, a3⟩ := h
  have hl : (wj l).length = l.length := by simp [wj]
  rw [hl] at hV a1
  refine ⟨ao, ca, hV, a1, by simpa [maxLen] using a2, fun i hi => ?_⟩
  have hg : (wj l)[i]? = some (.int .i64 (l.getD i 0)) := by
    unfold wj; rw [List.getElem?_map, List.getElem?_eq_getElem hi, List.getD_eq_getElem?_getD, List.getElem?_eq_getElem hi]; rfl
  rcases a3 with a3 | ⟨b, off, rfl, a3⟩
  · rw [a3] at hg; simp at hg
  · have := a3 i _ hg
    exact ⟨b, off, rfl, World.block_lt_of_cell? w _ this, this⟩
theorem rd_i2 {w : World} {v : Value} {l : List Int} (h : Rd w v (wi l)) : ∃ ao ca, v = .slice ao l.length ca ∧ l.length ≤ ca ∧ ca ≤ 9223372036854775807 ∧ ∀ i, i < l.length → ∃ b off, ao = some ⟨b, off, none⟩ ∧ b < w.heap.size ∧ w.cell? ⟨b, off + i, none⟩ = some (.int .u32 (l.getD i 0)) := by
  obtain ⟨ao, ca, h1, h2, h3, h4⟩ := rd_ints h
  refine ⟨ao, ca, h1, h2, h3, fun i hi => ?_⟩
  obtain ⟨b, off, e, hc⟩ := h4 i hi
  exact ⟨b, off, e, World.block_lt_of_cell? w _ hc, hc⟩
theorem below_dn {w w' : World} {B : Nat} (h : Below B w w') : ∀ n, Below B w (w'.drewN n)
  | 0 => h
  | n + 1 => (below_dn h n).drew
set_option maxRecDepth 100000 in
set_option maxHeartbeats 4000000 in
theorem right_any (p : Piece) (n : Nat) (v u : Value) (ws pl : List Int) (place to' : Nat) (base : Int) (w : World) (hp : PieceOk p) (hn : n ≤ 300) (hT : Tabs w) (hv : Rd w v (wi ws)) (hu : Rd w u (wj pl)) (hpn : pl.length = n + 1)
    (hpl : pl.getD (toP n p) 0 = (to' : Int)) (ht4 : to' ≤ 4096) (hp4 : place ≤ 4096) (hws : place + szP p ≤ ws.length) (hW : ∀ j, j < szP p → ws.getD (place + j) 0 = (wordsX base to' place p).getD j 0) (nb : base < 4294967296 ∧ 0 ≤ base) :
    Calls Tryz.prog 18 #[pcV p, .int .i64 (n : Int), v, .int .i64 (place : Int), u, .int .u32 base] w fun e w' => e = .returned (.bool true) ∧ Below w.heap.size w w' := by
  have hto : toP n p ≤ n := by have := md_lt p.tgt (n + 1) (by omega); unfold toP; omega
  have ha15 := md_lt p.a 15 (by decide)
  have hc7 := md_lt p.cond 7 (by decide)
  have hk5 := md_lt p.kind 5 (by decide)
  obtain ⟨uo, uca, rfl, hu1, hu2, hu3⟩ := rd_j hu
  obtain ⟨ub, uf, rfl, hub, huc⟩ := hu3 (toP n p) (by omega)
  obtain ⟨ao, ca, rfl, hv1, hv2, hv3⟩ := rd_i2 hv
  rw [hpl] at huc
  have hWX : ∀ j, j < szP p → ∃ b off, ao = some ⟨b, off, none⟩ ∧ b < w.heap.size ∧ w.cell? ⟨b, off + (place + j), none⟩ = some (.int .u32 ((wordsX base to' place p).getD j 0)) := fun j hj => by
    obtain ⟨b, off, h1, h2, h3⟩ := hv3 (place + j) (by omega)
    exact ⟨b, off, h1, h2, by rw [h3, hW j hj]⟩
  obtain ⟨m, hm⟩ : ∃ m, ws.length = m := ⟨_, rfl⟩
  rw [hm] at hv1 hws ⊢
  rw [hpn] at hu1 ⊢
  obtain ⟨w1, hw1⟩ : ∃ w1, w.alloc (.cells (pcC p) 52) = w1 := ⟨_, rfl⟩
  have b1 : Below w.heap.size w w1 := by rw [← hw1]; exact (Below.refl _ _).alloc (Nat.le_refl _) _
  have hB : w1.heap[w.heap.size]? = some (.cells (pcC p) 52 (0, 0)) := by rw [← hw1]; exact heap_alloc_new w _
  have hT1 := hT.later b1
  have hwt := fun W => lwithin_any p.tgt n W hp.t (by omega)
  have hwa := fun W => lwithin_any p.a 14 W hp.a (by decide)
  have hwk := fun W => lwithin_any p.kind 4 W hp.k (by decide)
  have hwc := fun W => lwithin_any p.cond 6 W hp.c (by decide)
  have hodd : (odd p = true → ¬ p.a.tmod 2 = 0) ∧ (odd p = false → p.a.tmod 2 = 0) := by
    unfold odd
    constructor
    · intro h; rw [decide_eq_true_eq] at h; rw [Int.tmod_eq_emod]; split <;> omega
    · intro h; rw [decide_eq_false_iff_not] at h; rw [Int.tmod_eq_emod]; split <;> omega
  unfold wordsX at hWX
  unfold szP at hWX hws
  have hins : insP p = if odd p = true then { ins0 with op := 22 } else { ins0 with op := 21, k := (md p.cond 7 : Nat) } := rfl
  obtain ⟨o, ho⟩ : ∃ o, odd p = o := ⟨_, rfl⟩
  rw [ho] at hodd hins
  clear ho hW hv3 hu3 hpl hv hu hT hm
  obtain ⟨I, hI⟩ : ∃ I, insP p = I := ⟨_, rfl⟩
  rw [hI] at hins hWX
  clear hI
  obtain ⟨pk, pa, pc, pt, pv⟩ := p
  have hpv := hp.v
  simp only [pcC, pcV, toP] at *
  obtain ⟨tt, htt⟩ : ∃ tt, md pt (n + 1) = tt := ⟨_, rfl⟩
  obtain ⟨a, ha'⟩ : ∃ a, md pa 15 = a := ⟨_, rfl⟩
  obtain ⟨c, hc'⟩ : ∃ c, md pc 7 = c := ⟨_, rfl⟩
  obtain ⟨q, hq'⟩ : ∃ q, md pk 5 = q := ⟨_, rfl⟩
  rw [show md pa (14 + 1) = md pa 15 from rfl] at hwa
  rw [show md pk (4 + 1) = md pk 5 from rfl] at hwk
  rw [show md pc (6 + 1) = md pc 7 from rfl] at hwc
  rw [ha'] at hwa hWX ha15
  rw [htt] at hwt huc hto
  rw [hq'] at hwk hk5 hWX hws
  rw [hc'] at hwc hins hc7
  clear ha' htt hq' hc'
  have k1 : w1.cell? ⟨w.heap.size, 0, none⟩ = some (.int .i64 pk) := cell_of_row _ _ _ _ _ _ hB
  have k2 : w1.cell? ⟨w.heap.size, 1, none⟩ = some (.int .i64 pa) := cell_of_row _ _ _ _ _ _ hB
  have k3 : w1.cell? ⟨w.heap.size, 2, none⟩ = some (.int .i64 pc) := cell_of_row _ _ _ _ _ _ hB
  have k4 : w1.cell? ⟨w.heap.size, 3, none⟩ = some (.int .i64 pt) := cell_of_row _ _ _ _ _ _ hB
  have k5 : w1.cell? ⟨w.heap.size, 4, none⟩ = some (.int .u32 (pv : Int)) := cell_of_row _ _ _ _ _ _ hB
  have huc1 : w1.cell? ⟨ub, uf + tt, none⟩ = some (.int .i64 (to' : Int)) := by rw [b1.cell (p := ⟨ub, uf + tt, none⟩) hub]; exact huc
  have hlt := (Array.getElem?_eq_some_iff.1 hB).1
  have i1 : (0 : Int) ≤ (tt : Int) := by omega
  have i2 : (tt : Int) < ((n + 1 : Nat) : Int) := by omega
  have i3 : (tt : Int) < (n : Int) + 1 := by omega
  replace hB := Lib.hid hB; replace b1 := Lib.hid b1; replace hwt := Lib.hid hwt; replace hwa := Lib.hid hwa; replace hwk := Lib.hid hwk; replace hwc := Lib.hid hwc; replace hp := Lib.hid hp; replace hT1 := Lib.hid hT1; replace hWX := Lib.hid hWX; replace hws := Lib.hid hws; replace hodd := Lib.hid hodd; replace hins := Lib.hid hins
  clear huc
  go_enter Tryz.func18, Tryz.ntmps18
  go_upto_region 1 with fail
  try (change Code.wp _ _ _ _ (w.alloc (.cells #[.int .i64 pk, .int .i64 pa, .int .i64 pc, .int .i64 pt, .int .u32 (pv : Int)] 52)); rw [hw1])
  clear hw1
  go_wp2_with fail
  refine (hwt.out _).mono ?_
  rintro e wz ⟨rfl, hwz⟩
  rw [hwz]; clear hwz wz
  go_wp2_with fail
  refine (hwk.out _).mono ?_
  rintro e wz ⟨rfl, hwz⟩
  rw [hwz]; clear hwz wz
  clear i1 i2 i3 huc1
  match q, hk5 with
  | 0, _ =>
    replace hWX := hWX.out
    replace hws := hws.out
    simp only at hWX hws
    obtain ⟨lb, lf, rfl, hlb, hc0⟩ := hWX 0 (by omega)
    replace hc0 : w.cell? ⟨lb, lf + place, none⟩ = some (.int .u32 (pv : Int)) := hc0
    have hd0 : w1.cell? ⟨lb, lf + place, none⟩ = some (.int .u32 (pv : Int)) := by rw [b1.out.cell (p := ⟨lb, lf + place, none⟩) hlb]; exact hc0
    have i1 : (0 : Int) ≤ (place : Int) := by omega
    have i2 : (place : Int) < (m : Int) := by omega
    have BF := fun nq => below_dn b1.out nq
    replace hWX := Lib.hid hWX; replace BF := Lib.hid BF
    clear hc0
    go_upto_region 4 with fail
    go_quiet (fail)
    go_wp2_with fail
    go_ret
    exact ⟨rfl, BF.out _⟩
  | 1, _ =>
    replace hWX := hWX.out
    replace hws := hws.out
    simp only at hWX hws
    obtain ⟨lo, hlo⟩ : ∃ lo, pv % 65536 = lo := ⟨_, rfl⟩
    obtain ⟨hi, hhi⟩ : ∃ hi, pv / 65536 = hi := ⟨_, rfl⟩
    have elo : (pv : Int) % 65536 = (lo : Int) := by omega
    have ehi : (pv : Int) / 65536 = (hi : Int) := by omega
    have hck1 := mov_ok 1 a lo (.inl rfl) ha15 (by omega)
    have hck2 := mov_ok 2 a hi (.inr rfl) ha15 (by omega)
    have hen1 := fun W hW => encode_any (movI 1 a lo) W hW (by show -2147483648 ≤ (lo : Int); omega) (by show (lo : Int) ≤ 2147483647; omega)
    have hen2 := fun W hW => encode_any (movI 2 a hi) W hW (by show -2147483648 ≤ (hi : Int); omega) (by show (hi : Int) ≤ 2147483647; omega)
    rw [hck1, if_pos rfl] at hen1
    rw [hck2, if_pos rfl] at hen2
    have f1 : encF (movI 1 a lo) = wordI (movI 1 a lo) := by unfold encF; rw [if_pos hck1]
    have f2 : encF (movI 2 a hi) = wordI (movI 2 a hi) := by unfold encF; rw [if_pos hck2]
    have e1 : insC (movI 1 a lo) = #[.int .i64 1, .int .i64 0, .int .i64 (a : Int), .int .i64 0, .int .i64 0, .int .i32 (lo : Int)] := rfl
    have e2 : insC (movI 2 a hi) = #[.int .i64 2, .int .i64 0, .int .i64 (a : Int), .int .i64 0, .int .i64 0, .int .i32 (hi : Int)] := rfl
    rw [e1, ← f1] at hen1
    rw [e2, ← f2] at hen2
    obtain ⟨lb, lf, rfl, hlb, hc0⟩ := hWX 0 (by omega)
    obtain ⟨lb', lf', he', hlb', hc1⟩ := hWX 1 (by omega)
    simp only [Option.some.injEq, Addr.mk.injEq, and_true] at he'
    obtain ⟨rfl, rfl⟩ := he'
    replace hc0 : w.cell? ⟨lb, lf + place, none⟩ = some (.int .u32 (encF (movI 1 a ((pv : Int) % 65536)))) := hc0
    replace hc1 : w.cell? ⟨lb, lf + (place + 1), none⟩ = some (.int .u32 (encF (movI 2 a ((pv : Int) / 65536)))) := hc1
    rw [elo] at hc0
    rw [ehi] at hc1
    obtain ⟨X1, hX1⟩ : ∃ X, encF (movI 1 a lo) = X := ⟨_, rfl⟩
    obtain ⟨X2, hX2⟩ : ∃ X, encF (movI 2 a hi) = X := ⟨_, rfl⟩
    rw [hX1] at hen1 hc0
    rw [hX2] at hen2 hc1
    clear hX1 hX2 f1 f2 e1 e2 hck1 hck2
    have hmk := mask16 (pv : Int) (by omega) (by omega)
    rw [elo] at hmk
    have sh : (pv : Int) / 2 ^ 16 = (hi : Int) := by rw [← ehi]; rfl
    have i1 : (0 : Int) ≤ (place : Int) := by omega
    have i2 : (place : Int) < (m : Int) := by omega
    have i3 : (place : Int) + 1 < (m : Int) := by omega
    have l0 : (lo : Int) < 2147483648 := by omega
    have l1 : (hi : Int) < 2147483648 := by omega
    replace hWX := Lib.hid hWX; replace hen1 := Lib.hid hen1; replace hen2 := Lib.hid hen2; replace hc0 := Lib.hid hc0; replace hc1 := Lib.hid hc1; replace hlo := Lib.hid hlo; replace hhi := Lib.hid hhi; replace elo := Lib.hid elo
    go_wp2_with fail
    refine (hwa.out _).mono ?_
    rintro e wz ⟨rfl, hwz⟩
    rw [hwz]; clear hwz wz
    go_wp2_with fail
    refine (hen1.out _ hT1.out).mono ?_
    rintro e w2 ⟨b2, rfl⟩
    have hB2 := (b2.block _ hlt).trans hB.out
    have hT2 := hT1.out.later b2
    clear k1 k2 k3 k4 k5
    have k5 : w2.cell? ⟨w.heap.size, 4, none⟩ = some (.int .u32 (pv : Int)) := cell_of_row _ _ _ _ _ _ hB2
    have B2 := b1.out.trans (b2.mono b1.out.size)
    replace b2 := Lib.hid b2; replace hB2 := Lib.hid hB2; replace hT2 := Lib.hid hT2; replace B2 := Lib.hid B2
    go_wp2_with fail
    refine (hen2.out _ hT2.out).mono ?_
    rintro e w3 ⟨b3, rfl⟩
    have B3 := B2.out.trans (b3.mono B2.out.size)
    have hd0 : w3.cell? ⟨lb, lf + place, none⟩ = some (.int .u32 X1) := by rw [B3.cell (p := ⟨lb, lf + place, none⟩) hlb]; exact hc0.out
    have hd1 : w3.cell? ⟨lb, lf + (place + 1), none⟩ = some (.int .u32 X2) := by rw [B3.cell (p := ⟨lb, lf + (place + 1), none⟩) hlb]; exact hc1.out
    have hd2 : w3.cell? ⟨lb, lf + ((place : Int) + 1).toNat, none⟩ = some (.int .u32 X2) := by rw [show ((place : Int) + 1).toNat = place + 1 by omega]; exact hd1
    replace B3 := Lib.hid B3; replace b3 := Lib.hid b3
    go_wp2_with fail
    go_ret
    exact ⟨rfl, B3.out⟩
  | 2, _ =>
    replace hWX := hWX.out
    replace hws := hws.out
    simp only at hWX hws
    obtain ⟨lb, lf, rfl, hlb, hc0⟩ := hWX 0 (by omega)
    obtain ⟨d, hd⟩ : ∃ d : Int, (to' : Int) - place - 1 = d := ⟨_, rfl⟩
    have hIc : I = { ins0 with op := 22 } ∨ ∃ c : Nat, c < 7 ∧ I = { ins0 with op := 21, k := (c : Int) } := by
      rw [hins.out]
      split
      · exact .inl rfl
      · exact .inr ⟨c, hc7, rfl⟩
    obtain ⟨⟨D0, D1⟩, D2, D3⟩ := jmp_ok I d hIc (by omega) (by omega)
    replace hc0 : w.cell? ⟨lb, lf + place, none⟩ = some (.int .u32 (encF { I with imm := (to' : Int) - place - 1 })) := hc0
    rw [hd] at hc0
    obtain ⟨D, hD⟩ : ∃ D, encF { I with imm := d } = D := ⟨_, rfl⟩
    rw [hD] at D0 D1 D2 D3 hc0
    have hde := fun W hW => decode_any D W hW D0 (by omega)
    rw [D3] at hde
    simp only [D2, if_true] at hde
    clear hD D2 D3 hIc
    have hd0 : w1.cell? ⟨lb, lf + place, none⟩ = some (.int .u32 D) := by rw [b1.out.cell (p := ⟨lb, lf + place, none⟩) hlb]; exact hc0
    have i1 : (0 : Int) ≤ (place : Int) := by omega
    have i2 : (place : Int) < (m : Int) := by omega
    have hds : (place : Int) + 1 + d = (to' : Int) := by omega
    have d1 : -32768 ≤ d := by omega
    have d2 : d ≤ 32767 := by omega
    replace hWX := Lib.hid hWX; replace hde := Lib.hid hde; replace hd := Lib.hid hd; replace hc0 := Lib.hid hc0
    cases o with
    | true =>
      have t1 := hodd.out.1 rfl
      have hI := hins.out
      rw [if_pos rfl] at hI
      subst hI
      have e1 : insC { { ins0 with op := 22 } with imm := d } = #[.int .i64 22, .int .i64 0, .int .i64 0, .int .i64 0, .int .i64 0, .int .i32 d] := rfl
      replace hde := hde.out
      rw [e1] at hde
      replace hde := Lib.hid hde
      clear hins hodd e1
      go_wp2_with fail
      refine (hde.out _ hT1.out).mono ?_
      rintro e w2 ⟨b2, rfl⟩
      obtain ⟨w3, hw3⟩ : ∃ w3, w2.alloc (.cells #[.int .i64 22, .int .i64 0, .int .i64 0, .int .i64 0, .int .i64 0, .int .i32 d] 92) = w3 := ⟨_, rfl⟩
      have b3 : Below w2.heap.size w2 w3 := by rw [← hw3]; exact (Below.refl _ _).alloc (Nat.le_refl _) _
      have hI3 : w3.heap[w2.heap.size]? = some (.cells #[.int .i64 22, .int .i64 0, .int .i64 0, .int .i64 0, .int .i64 0, .int .i32 d] 92 (0, 0)) := by rw [← hw3]; exact heap_alloc_new w2 _
      have b13 := b2.trans (b3.mono b2.size)
      have hB3 := (b13.block _ hlt).trans hB.out
      have BF := b1.out.trans (b13.mono b1.out.size)
      clear k1 k2 k3 k4 k5 hd0
      have k2 : w3.cell? ⟨w.heap.size, 1, none⟩ = some (.int .i64 pa) := cell_of_row _ _ _ _ _ _ hB3
      have k3 : w3.cell? ⟨w.heap.size, 2, none⟩ = some (.int .i64 pc) := cell_of_row _ _ _ _ _ _ hB3
      have j0 : w3.cell? ⟨w2.heap.size, 0, none⟩ = some (.int .i64 22) := cell_of_row _ _ _ _ _ _ hI3
      have j1 : w3.cell? ⟨w2.heap.size, 1, none⟩ = some (.int .i64 0) := cell_of_row _ _ _ _ _ _ hI3
      have j5 : w3.cell? ⟨w2.heap.size, 5, none⟩ = some (.int .i32 d) := cell_of_row _ _ _ _ _ _ hI3
      replace b2 := Lib.hid b2; replace b3 := Lib.hid b3; replace hI3 := Lib.hid hI3; replace b13 := Lib.hid b13; replace hB3 := Lib.hid hB3; replace BF := Lib.hid BF; replace hw3 := Lib.hid hw3
      go_upto_region 12 with fail
      rw [hw3.out]
      clear hw3
      go_wp2_with fail
      refine (hwc.out _).mono ?_
      rintro e wz ⟨rfl, hwz⟩
      rw [hwz]; clear hwz wz
      go_wp2_with fail
      go_ret
      exact ⟨rfl, BF.out⟩
    | false =>
      have t1 := hodd.out.2 rfl
      have hI := hins.out
      rw [if_neg (by simp)] at hI
      subst hI
      have e1 : insC { { ins0 with op := 21, k := (c : Int) } with imm := d } = #[.int .i64 21, .int .i64 (c : Int), .int .i64 0, .int .i64 0, .int .i64 0, .int .i32 d] := rfl
      replace hde := hde.out
      rw [e1] at hde
      replace hde := Lib.hid hde
      clear hins hodd e1
      go_wp2_with fail
      refine (hde.out _ hT1.out).mono ?_
      rintro e w2 ⟨b2, rfl⟩
      obtain ⟨w3, hw3⟩ : ∃ w3, w2.alloc (.cells #[.int .i64 21, .int .i64 (c : Int), .int .i64 0, .int .i64 0, .int .i64 0, .int .i32 d] 92) = w3 := ⟨_, rfl⟩
      have b3 : Below w2.heap.size w2 w3 := by rw [← hw3]; exact (Below.refl _ _).alloc (Nat.le_refl _) _
      have hI3 : w3.heap[w2.heap.size]? = some (.cells #[.int .i64 21, .int .i64 (c : Int), .int .i64 0, .int .i64 0, .int .i64 0, .int .i32 d] 92 (0, 0)) := by rw [← hw3]; exact heap_alloc_new w2 _
      have b13 := b2.trans (b3.mono b2.size)
      have hB3 := (b13.block _ hlt).trans hB.out
      have BF := b1.out.trans (b13.mono b1.out.size)
      clear k1 k2 k3 k4 k5 hd0
      have k2 : w3.cell? ⟨w.heap.size, 1, none⟩ = some (.int .i64 pa) := cell_of_row _ _ _ _ _ _ hB3
      have k3 : w3.cell? ⟨w.heap.size, 2, none⟩ = some (.int .i64 pc) := cell_of_row _ _ _ _ _ _ hB3
      have j0 : w3.cell? ⟨w2.heap.size, 0, none⟩ = some (.int .i64 21) := cell_of_row _ _ _ _ _ _ hI3
      have j1 : w3.cell? ⟨w2.heap.size, 1, none⟩ = some (.int .i64 (c : Int)) := cell_of_row _ _ _ _ _ _ hI3
      have j5 : w3.cell? ⟨w2.heap.size, 5, none⟩ = some (.int .i32 d) := cell_of_row _ _ _ _ _ _ hI3
      replace b2 := Lib.hid b2; replace b3 := Lib.hid b3; replace hI3 := Lib.hid hI3; replace b13 := Lib.hid b13; replace hB3 := Lib.hid hB3; replace BF := Lib.hid BF; replace hw3 := Lib.hid hw3
      go_upto_region 12 with fail
      rw [hw3.out]
      clear hw3
      go_wp2_with fail
      refine (hwc.out _).mono ?_
      rintro e wz ⟨rfl, hwz⟩
      rw [hwz]; clear hwz wz
      go_wp2_with fail
      go_ret
      exact ⟨rfl, BF.out⟩
  | 3, _ =>
    replace hWX := hWX.out
    replace hws := hws.out
    simp only at hWX hws
    obtain ⟨lb, lf, rfl, hlb, hc0⟩ := hWX 0 (by omega)
    replace hc0 : w.cell? ⟨lb, lf + place, none⟩ = some (.int .u32 ((base + 4 * (to' : Int)) % 4294967296)) := hc0
    have hd0 : w1.cell? ⟨lb, lf + place, none⟩ = some (.int .u32 ((base + 4 * (to' : Int)) % 4294967296)) := by rw [b1.out.cell (p := ⟨lb, lf + place, none⟩) hlb]; exact hc0
    have i1 : (0 : Int) ≤ (place : Int) := by omega
    have i2 : (place : Int) < (m : Int) := by omega
    have x1 : IntKind.u32.wrap (to' : Int) = (to' : Int) := by rw [IntKind.wrap_u32]; omega
    have x2 : IntKind.u32.wrap (4 * (to' : Int)) = 4 * (to' : Int) := by rw [IntKind.wrap_u32]; omega
    have x3 : IntKind.u32.wrap (base + 4 * (to' : Int)) = (base + 4 * (to' : Int)) % 4294967296 := by rw [IntKind.wrap_u32]
    replace hWX := Lib.hid hWX
    clear hc0
    go_wp2_with fail
    go_ret
    exact ⟨by first | rfl | simp, b1.out⟩
  | 4, _ =>
    replace hWX := hWX.out
    replace hws := hws.out
    simp only at hWX hws
    obtain ⟨zz, hzz⟩ : ∃ zz, pv % 4 = zz := ⟨_, rfl⟩
    rw [hzz] at hWX hws
    have hz4 : zz < 4 := by omega
    have m1 : (pv : Int).tmod 4 = (zz : Int) := by rw [Int.tmod_eq_emod_of_nonneg (by omega)]; omega
    replace hzz := Lib.hid hzz; replace hWX := Lib.hid hWX
    go_wp2_with fail
    go_loopw [23] (fun i wr => ∃ k : Nat, k ≤ zz ∧ i = .int .i64 k ∧ w1 = wr) (fun i _ => zz - (intOf i).toNat)
    case atStart => exact ⟨0, by omega, rfl, rfl⟩
    case round =>
      obtain ⟨k, hk, rfl, rfl⟩ := hrel
      by_cases hlt2 : k < zz
      · obtain ⟨lb, lf, rfl, hlb, hc0⟩ := hWX.out k hlt2
        have hg0 : (List.replicate zz (0 : Int)).getD k 0 = 0 := by rw [List.getD_eq_getElem?_getD, List.getElem?_replicate]; split <;> rfl
        rw [hg0] at hc0
        have hd0 : w1.cell? ⟨lb, lf + (place + k), none⟩ = some (.int .u32 0) := by rw [b1.out.cell (p := ⟨lb, lf + (place + k), none⟩) hlb]; exact hc0
        have hd2 : w1.cell? ⟨lb, lf + ((place : Int) + (k : Int)).toNat, none⟩ = some (.int .u32 0) := by rw [show ((place : Int) + (k : Int)).toNat = place + k by omega]; exact hd0
        have i1 : (0 : Int) ≤ (place : Int) + k := by omega
        have i2 : (place : Int) + k < (m : Int) := by omega
        have q1 : decide ((k : Int) < (zz : Int)) = true := decide_eq_true (by omega)
        replace hc0 := Lib.hid hc0
        go_wp2_with fail
        go_roundw
        case rel => exact ⟨k + 1, by omega, by go_num, by first | rfl | trivial⟩
        case measure => simp [intOf]; omega
      · have q1 : decide ((k : Int) < (zz : Int)) = false := decide_eq_false (by omega)
        go_wp2_with fail
        go_ret
        exact ⟨rfl, b1.out⟩
end Go.Proofs.YtiknookfnameiaaGreatDoor
