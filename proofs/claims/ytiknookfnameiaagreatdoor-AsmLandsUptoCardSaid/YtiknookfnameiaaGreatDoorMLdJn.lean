/- AsmLands' walk (printed by genMLd.py). -/
import Derived.Test.YtiknookfnameiaaGreatDoorJn38
import Derived.Test.YtiknookfnameiaaGreatDoorMRtJn
import Derived.Deep.CutRange
import Derived.Deep.RegionHeld3
namespace Go.Proofs.YtiknookfnameiaaGreatDoor
open Go.RowKit WP
set_option linter.unusedSimpArgs false
set_option linter.unusedVariables false
theorem infoI8 : (Tryz.prog.info? 3).map (fun i => (i.zero, i.size, i.bytes)) = some (some (.int .i64 0), 1, 8) := by kernel_rfl
/-- the places so far -/
def plL (ps : Nat → Piece) (n k : Nat) : List Int := (List.range (n + 1)).map fun i => if i < k then (plc ps i : Int) else 0
theorem plL_len (ps : Nat → Piece) (n k : Nat) : (plL ps n k).length = n + 1 := by simp [plL]
theorem plL_get (ps : Nat → Piece) (n k i : Nat) (h : i ≤ n) : (plL ps n k).getD i 0 = if i < k then (plc ps i : Int) else 0 := by
  unfold plL
  rw [List.getD_eq_getElem?_getD, List.getElem?_map, List.getElem?_range (by omega)]; rfl
theorem plL_set (ps : Nat → Piece) (n k : Nat) : (wj (plL ps n k)).set k (.int .i64 (plc ps k : Int)) = wj (plL ps n (k + 1)) := by
  refine List.ext_getElem? fun j => ?_
  unfold wj
  by_cases hj : j < n + 1
  · rw [List.getElem?_map, List.getElem?_set]
    have h2 : (plL ps n (k + 1))[j]? = some (if j < k + 1 then (plc ps j : Int) else 0) := by unfold plL; rw [List.getElem?_map, List.getElem?_range hj]; rfl
    have h1 : (plL ps n k)[j]? = some (if j < k then (plc ps j : Int) else 0) := by unfold plL; rw [List.getElem?_map, List.getElem?_range hj]; rfl
    rw [h2]
    by_cases e : k = j
    · subst e
      rw [if_pos rfl, if_pos (by simp [plL]; omega), if_pos (by omega)]; rfl
    · rw [if_neg e, List.getElem?_map, h1]
      by_cases h3 : j < k
      · rw [if_pos h3, if_pos (by omega)]
      · rw [if_neg h3, if_neg (by omega)]
  · rw [List.getElem?_eq_none (by simp [plL]; omega), List.getElem?_eq_none (by simp [plL]; omega)]
theorem plL_zero (ps : Nat → Piece) (n : Nat) : wj (plL ps n 0) = List.replicate (n + 1) (.int .i64 0) := by
  unfold wj plL
  rw [List.eq_replicate_iff]
  refine ⟨by simp, ?_⟩
  intro b hb
  simp only [List.map_map, List.mem_map] at hb
  obtain ⟨j, _, rfl⟩ := hb
  simp
/-- pieces as they came in -/
def PcsAt (w : World) (ao : Option Addr) (N : Nat) (ps : Nat → Piece) : Prop :=
  ∀ i, i < N → ∃ b off, ao = some ⟨b, off, none⟩ ∧ b < w.heap.size ∧ ∀ j u, (pcC (ps i))[j]? = some u → w.cell? ⟨b, off + i * 5 + j, none⟩ = some u
theorem own_cell {w : World} {B : Nat} {e : TypeId} {g n m : Nat} {xs : List Value} (h : w.ownsRow B e 1 (.slice (some ⟨g, 0, none⟩) n m) n xs) (k : Nat) (hk : k < n) : (∃ u, xs[k]? = some u ∧ w.cell? ⟨g, k, none⟩ = some u) ∧ w.frozen? ⟨g, k, none⟩ = false := by
  have h0 := h.1
  rcases h.2 with ⟨hv, _⟩ | ⟨g', cap, cur, hv, _, hg, h1, h2, hcs, ht⟩
  · cases hv
  · simp only [Value.slice.injEq, Option.some.injEq, Addr.mk.injEq, true_and, and_true] at hv
    obtain ⟨rfl, rfl⟩ := hv
    refine ⟨⟨xs[k]'(by omega), List.getElem?_eq_getElem _, ?_⟩, frozen_of_row _ _ _ _ _ hg⟩
    rw [cell_of_row _ _ _ _ _ _ hg]
    have h3 : xs[k]? = some (xs[k]'(by omega)) := List.getElem?_eq_getElem _
    rw [← h3, ← ht, List.getElem?_take_of_lt (by omega), Array.getElem?_toList]
theorem lc_get : ∀ (L : List (ByteArray × Nat)) (i : Nat) (x : ByteArray × Nat), L[i]? = some x → (lc L)[i * 2]? = some (.string x.1) ∧ (lc L)[i * 2 + 1]? = some (.int .i64 (x.2 : Int))
  | [], i, x, h => by simp at h
  | y :: L, 0, x, h => by simp only [List.getElem?_cons_zero, Option.some.injEq] at h; subst h; exact ⟨rfl, rfl⟩
  | y :: L, i + 1, x, h => by
    simp only [List.getElem?_cons_succ] at h
    obtain ⟨a, b⟩ := lc_get L i x h
    have e : lc (y :: L) = [.string y.1, .int .i64 (y.2 : Int)] ++ lc L := rfl
    rw [e]
    refine ⟨?_, ?_⟩
    · rw [List.getElem?_append_right (by simp; omega), ← a]; congr 1; simp; omega
    · rw [List.getElem?_append_right (by simp; omega), ← b]; congr 1; simp; omega
theorem lc_at (ps : Nat → Piece) (k i : Nat) (h : i < k) : (lc (labsP ps k))[i * 2]? = some (.string (strS (nmP i))) ∧ (lc (labsP ps k))[i * 2 + 1]? = some (.int .i64 (plc ps i : Int)) := by
  have := lc_get (labsP ps k) i (⟨(nmP i).toArray⟩, plc ps i) (by unfold labsP; rw [List.getElem?_map, List.getElem?_range h]; rfl)
  exact this
set_option maxRecDepth 100000 in
set_option maxHeartbeats 8000000 in
theorem lands_any (ao : Option Addr) (N cap : Nat) (ps : Nat → Piece) (base m : Int) (w : World) (hE : AEnv w) (hM : MaxL w m) (hT : ErrT w) (hv : PcsAt w ao N ps) (hok : ∀ i, i < N → PieceOk (ps i)) (hN : N ≤ cap) (hcap : cap ≤ 9223372036854775807) (nb : base < 4294967296 ∧ 0 ≤ base) :
    Calls Tryz.prog 5 #[.slice ao N cap, .int .u32 base] w fun e w' => e = .returned (.bool true) ∧ Below w.heap.size w w' := by
  obtain ⟨ib, hib, hzb0, hzb1, hzb2⟩ := info_parts infoI8
  have hfi := first_any m w hE hM hT
  obtain ⟨n, hn⟩ : ∃ n, min N 300 = n := ⟨_, rfl⟩
  have hn3 : n ≤ 300 := by omega
  have hnN : n ≤ N := by omega
  have hfs := full_short ps n hn3 (fun i hi => (hok i (by omega)).v)
  have hrd := fun b => read_land b ps n hn3 (fun i hi => (hok i (by omega)).v) hfs
  have hss := src_short ps n hn3 (fun i hi => (hok i (by omega)).v)
  have hpn := plc_le ps n
  obtain ⟨C0, hC0⟩ : ∃ C, w.heap.size = C := ⟨_, rfl⟩
  replace hrd := Lib.hid hrd; replace hfi := Lib.hid hfi; replace hv := Lib.hid hv; replace hok := Lib.hid hok; replace hE := Lib.hid hE; replace hM := Lib.hid hM; replace hT := Lib.hid hT; replace hss := Lib.hid hss; replace hfs := Lib.hid hfs; replace hpn := Lib.hid hpn; replace hC0 := Lib.hid hC0
  go_enter Tryz.func5, Tryz.ntmps5
  go_wp2_with fail
  refine hfi.out.mono ?_
  rintro e w1 ⟨rfl, b1⟩
  replace b1 := Lib.hid b1
  clear hfi
  by_cases hb : 300 < N
  · have d1 : decide (300 < (N : Int)) = true := decide_eq_true (by omega)
    have d2 : decide ((N : Int) > 300) = true := decide_eq_true (by omega)
    have e1 : 300 = n := by omega
    have i1 : (300 : Int) ≤ (cap : Int) := by omega
    have hv2 : ∃ b off, ao = some ⟨b, off, none⟩ := by obtain ⟨b, off, h, _⟩ := hv.out 0 (by omega); exact ⟨b, off, h⟩
    obtain ⟨pb, po, rfl⟩ := hv2
    have e2 : Value.slice (some ⟨pb, po, none⟩) 300 cap = Value.slice (some ⟨pb, po, none⟩) n cap := by rw [e1]
    replace e2 := Lib.hid e2
    replace e1 := Lib.hid e1
    go_upto_region 5 with fail
    rw [e2.out]
    have hnc : n ≤ cap := by omega
    clear d1 d2 e1 e2 i1 hb
    go_wp2_with (at_make; go_loud (refine wpList_make_full _ rfl _ _ 48 rfl w1.heap.size 3 ib (.int .i64 0) 1 Tryz.underlying48 hib hzb0 hzb1 .i64 .i64 _ _ (n + 1) rfl rfl ?m0 ?m4 ?m1 ?m2 ?m3 ?_))
    case m0 => omega
    case m4 => omega
    case m1 => rw [hzb2]; omega
    case m2 => simp only [maxLen]; omega
    case m3 => exact Nat.le_refl _
    intro w2 ho2 hg2
    have b2 : Below w1.heap.size w1 w2 := (Below.refl _ _).grown hg2 (Nat.le_refl _) (by simp)
    obtain ⟨C, hC⟩ : ∃ C, w1.heap.size = C := ⟨_, rfl⟩
    rw [hC] at ho2 b2 ⊢
    have hr2 : w2.ownsRow C 3 1 (.slice (some ⟨C, 0, none⟩) (n + 1) (n + 1)) (n + 1) (wj (plL ps n 0)) := by
      rw [plL_zero, ← toList_madeCells_one]
      exact ho2
    have hwC : w.heap.size ≤ C := by rw [← hC]; exact b1.out.size
    have B2 : Below w.heap.size w w2 := b1.out.trans (b2.mono (by rw [← hC] ; exact b1.out.size))
    clear ho2 hg2 b2
    replace hr2 := Lib.hid hr2; replace B2 := Lib.hid B2; replace hC := Lib.hid hC
    go_wp2_with fail
    go_loopw [6, 8, 9] (fun sv av iv wl => ∃ k : Nat, k ≤ n ∧ iv = .int .i64 k ∧ sv = .string (strS (srcP ps n k)) ∧ av = .int .i64 (plc ps k : Int) ∧ wl.ownsRow C 3 1 (.slice (some ⟨C, 0, none⟩) (n + 1) (n + 1)) (n + 1) (wj (plL ps n k)) ∧ Below w.heap.size w wl) (fun _ _ iv _ => n - (intOf iv).toNat)
    case atStart => exact ⟨0, by omega, rfl, rfl, rfl, hr2.out, B2.out⟩
    case round =>
      obtain ⟨wo, rfl⟩ : ∃ wo, wo = wr := ⟨wr, rfl⟩
      obtain ⟨k, hk, rfl, rfl, rfl, hro, bo⟩ := hrel
      clear hr2 B2
      have hplk := plc_le ps k
      by_cases hlt : k < n
      · obtain ⟨pb, po, hpo, hpl, hpc⟩ := hv.out k (by omega)
        first | subst hpo | (simp only [Option.some.injEq, Addr.mk.injEq, and_true] at hpo; obtain ⟨rfl, rfl⟩ := hpo)
        have hokk := hok.out k (by omega)
        have hsuc : plc ps (k + 1) = plc ps k + szP (ps k) := rfl
        have hln := lline_any (ps k) n wo hokk hn3 (hE.out.later bo).pk.p (hE.out.later bo).tabs
        have hszk := szP_le (ps k)
        have hlns := st_short n (ps k) hn3 hokk.v
        have hsrc := hss.out k hk
        have hnxt : srcP ps n (k + 1) = srcP ps n k ++ (lnP ps n k ++ [10]) := by unfold srcP; rw [List.range_succ, List.flatMap_append]; simp
        have hlnP : lnP ps n k = nmP k ++ [58] ++ ([32] ++ joinW (stTx n (ps k))) ++ ([32, 35, 32] ++ nmP k) := by
          obtain ⟨s1, _⟩ := stTx_ok n (ps k) (by omega)
          unfold lnP
          cases hs : stTx n (ps k) with
          | nil => exact absurd hs s1
          | cons x y => rw [joinW]; simp
        have hnm := fun W (hb : Below wo.heap.size wo W) => lname_any k W (by omega) (pow10_later (hE.out.later bo).pk.p hb)
        have hnms := (nmP_ok k (by omega)).2.2
        obtain ⟨S0, hS0⟩ : ∃ S, strS (srcP ps n k) = S := ⟨_, rfl⟩
        obtain ⟨LN, hLN⟩ : ∃ S, strS (joinW (stTx n (ps k))) = S := ⟨_, rfl⟩
        obtain ⟨NM, hNM⟩ : ∃ S, strS (nmP k) = S := ⟨_, rfl⟩
        have he : S0 ++ NM ++ (⟨#[58, 32]⟩ : ByteArray) ++ LN ++ (⟨#[32, 35, 32]⟩ : ByteArray) ++ NM ++ (⟨#[10]⟩ : ByteArray) = strS (srcP ps n (k + 1)) := by
          rw [hnxt, hlnP, ← hS0, ← hLN, ← hNM]
          simp only [strS_lit, strS_app]
          congr 1
          simp
        have z0 : S0.size ≤ 16000 := by rw [← hS0, strS_size]; omega
        have z1 : LN.size ≤ 30 := by rw [← hLN, strS_size]; exact hlns
        have z2 : NM.size ≤ 5 := by rw [← hNM, strS_size]; exact hnms
        rw [hLN] at hln
        simp only [hNM] at hnm
        rw [hS0]
        clear hS0 hLN hNM hlnP hnxt hsrc hlns hnms
        have y1 : ¬ (9223372036854775807 < S0.size + NM.size) := by omega
        have y2 : ¬ (9223372036854775807 < S0.size + NM.size + 2) := by omega
        have y3 : ¬ (9223372036854775807 < S0.size + NM.size + 2 + LN.size) := by omega
        have y4 : ¬ (9223372036854775807 < S0.size + NM.size + 2 + LN.size + 3) := by omega
        have y5 : ¬ (9223372036854775807 < S0.size + NM.size + 2 + LN.size + 3 + NM.size) := by omega
        have y6 : ¬ (9223372036854775807 < S0.size + NM.size + 2 + LN.size + 3 + NM.size + 1) := by omega
        obtain ⟨p, hp⟩ : ∃ p, ps k = p := ⟨_, rfl⟩
        rw [hp] at hln hpc hokk hszk
        obtain ⟨pk, pa, pc, pt, pv⟩ := p
        have q0 : wo.cell? ⟨pb, po + k * 5, none⟩ = some (.int .i64 pk) := by rw [bo.cell (p := ⟨pb, po + k * 5, none⟩) hpl]; exact hpc 0 _ rfl
        have q1 : wo.cell? ⟨pb, po + k * 5 + 1, none⟩ = some (.int .i64 pa) := by rw [bo.cell (p := ⟨pb, po + k * 5 + 1, none⟩) hpl]; exact hpc 1 _ rfl
        have q2 : wo.cell? ⟨pb, po + k * 5 + 2, none⟩ = some (.int .i64 pc) := by rw [bo.cell (p := ⟨pb, po + k * 5 + 2, none⟩) hpl]; exact hpc 2 _ rfl
        have q3 : wo.cell? ⟨pb, po + k * 5 + 3, none⟩ = some (.int .i64 pt) := by rw [bo.cell (p := ⟨pb, po + k * 5 + 3, none⟩) hpl]; exact hpc 3 _ rfl
        have q4 : wo.cell? ⟨pb, po + k * 5 + 4, none⟩ = some (.int .u32 (pv : Int)) := by rw [bo.cell (p := ⟨pb, po + k * 5 + 4, none⟩) hpl]; exact hpc 4 _ rfl
        unfold pcV pcC at hln
        simp only at hln
        obtain ⟨SZ, hSZ⟩ : ∃ z, szP ⟨pk, pa, pc, pt, pv⟩ = z := ⟨_, rfl⟩
        obtain ⟨PL, hPL⟩ : ∃ z, plc ps k = z := ⟨_, rfl⟩
        rw [hSZ] at hln hszk
        rw [hp, hSZ, hPL] at hsuc
        rw [hPL] at hplk ⊢
        have i1 : (0 : Int) ≤ (k : Int) := by omega
        have i2 : (k : Int) < (n : Int) := by omega
        have i3 : (k : Int) < (n : Int) + 1 := by omega
        have g1 : decide ((k : Int) < (n : Int)) = true := decide_eq_true i2
        replace hln := Lib.hid hln; replace hnm := Lib.hid hnm; replace hp := Lib.hid hp; replace hSZ := Lib.hid hSZ; replace hPL := Lib.hid hPL; replace hsuc := Lib.hid hsuc; replace hro := Lib.hid hro; replace bo := Lib.hid bo; replace hokk := Lib.hid hokk; replace hpc := Lib.hid hpc
        go_wp2_with fail
        refine hln.out.mono ?_
        rintro e w5 ⟨rfl, b5⟩
        replace b5 := Lib.hid b5
        clear q0 q1 q2 q3 q4 hln
        go_wp2_with fail
        refine (hnm.out _ b5.out).mono ?_
        rintro e w6 ⟨rfl, b6⟩
        have b56 := b5.out.trans (b6.mono b5.out.size)
        replace b56 := Lib.hid b56; replace b6 := Lib.hid b6
        go_wp2_with fail
        refine (hnm.out _ b56.out).mono ?_
        rintro e w7 ⟨rfl, b7⟩
        have b57 := b56.out.trans (b7.mono b56.out.size)
        have ho7 := own_below hro.out b57
        obtain ⟨⟨u7, _, hc7⟩, hf7⟩ := own_cell ho7 k (by omega)
        have ho8 := (ho7.stored k (.int .i64 (PL : Int))).1
        rw [← hPL.out, plL_set, hPL.out] at ho8
        have B7 := bo.out.trans (b57.mono bo.out.size)
        have B8 := B7.setCell (p := ⟨C, k, none⟩) hwC (.int .i64 (PL : Int))
        replace ho7 := Lib.hid ho7; replace ho8 := Lib.hid ho8; replace B7 := Lib.hid B7; replace B8 := Lib.hid B8; replace b57 := Lib.hid b57; replace b7 := Lib.hid b7; replace he := Lib.hid he
        clear hnm
        go_wp2_with fail
        go_roundw
        case rel => exact ⟨k + 1, by omega, by go_num, by first | rw [← he.out] | rw [he.out], by rw [hsuc.out]; first | rfl | simp, ho8.out, B8.out⟩
        case measure => simp [intOf]; omega
      · obtain rfl : k = n := by omega
        have hnm := fun (i : Nat) (hi : i ≤ k) W (hb : Below wo.heap.size wo W) => lname_any i W (by omega) (pow10_later (hE.out.later bo).pk.p hb)
        have hnms := (nmP_ok k (by omega)).2.2
        have hsrc := hss.out k (Nat.le_refl _)
        have hfull : fullP ps k = srcP ps k k ++ ([9] ++ nmP k ++ [58, 10]) := by unfold fullP endP; simp
        obtain ⟨S0, hS0⟩ : ∃ S, strS (srcP ps k k) = S := ⟨_, rfl⟩
        obtain ⟨NM, hNM⟩ : ∃ S, strS (nmP k) = S := ⟨_, rfl⟩
        obtain ⟨FU, hFU⟩ : ∃ S, strS (fullP ps k) = S := ⟨_, rfl⟩
        have he : S0 ++ (⟨#[9]⟩ : ByteArray) ++ NM ++ (⟨#[58, 10]⟩ : ByteArray) = FU := by
          rw [← hFU, hfull, ← hS0, ← hNM]
          simp only [strS_lit, strS_app]
          congr 1
          simp
        have z0 : S0.size ≤ 16000 := by rw [← hS0, strS_size]; omega
        have z2 : NM.size ≤ 5 := by rw [← hNM, strS_size]; exact hnms
        have z3 : FU.size ≤ 65536 := by rw [← hFU, strS_size]; exact hfs.out
        have hra := hrd.out base
        have hr0 := hrd.out 0
        rw [show (⟨(fullP ps k).toArray⟩ : ByteArray) = FU from hFU] at hra hr0
        have hWl := words_len base ps k k
        have hWat := fun i j (hi : i < k) (hj : j < szP (ps i)) => words_at base ps k i j hi hj
        obtain ⟨WS, hWS⟩ : ∃ l, (List.range k).flatMap (wordsP base ps k) = l := ⟨_, rfl⟩
        obtain ⟨W0, hW0⟩ : ∃ l, (List.range k).flatMap (wordsP 0 ps k) = l := ⟨_, rfl⟩
        rw [hWS] at hra hWl
        simp only [hWS] at hWat
        rw [hW0] at hr0
        have hLl : (labsP ps (k + 1)).length = k + 1 := by simp [labsP]
        have ew : wordsR (.inl (WS, labsP ps (k + 1))) = .inl (plc ps k, wi WS) := by unfold wordsR; simp only [hWl]
        have el : labsR (.inl (W0, labsP ps (k + 1))) = .inl (k + 1, lc (labsP ps (k + 1))) := by unfold labsR; simp only [hLl]
        have hnm1 := hnm k (Nat.le_refl _) 
        rw [hNM] at hnm1
        rw [hS0]
        clear hS0 hfull hsrc hnms hWS hW0 hFU
        have y1 : ¬ (9223372036854775807 < S0.size + 1) := by omega
        have y2 : ¬ (9223372036854775807 < S0.size + 1 + NM.size) := by omega
        have y3 : ¬ (9223372036854775807 < S0.size + 1 + NM.size + 2) := by omega
        obtain ⟨⟨u7, _, hc7⟩, hf7⟩ := own_cell hro k (by omega)
        obtain ⟨PL, hPL⟩ : ∃ z, plc ps k = z := ⟨_, rfl⟩
        have ho8 := (hro.stored k (.int .i64 (plc ps k : Int))).1
        rw [plL_set] at ho8
        rw [hPL] at ho8 hplk ew ⊢
        have B8 := bo.setCell (p := ⟨C, k, none⟩) hwC (.int .i64 (PL : Int))
        obtain ⟨w8, hw8⟩ : ∃ w8, wo.setCell ⟨C, k, none⟩ (.int .i64 (PL : Int)) = w8 := ⟨_, rfl⟩
        rw [hw8] at ho8 B8
        have hE8 := hE.out.later B8
        have hM8 := maxl_later hM.out B8
        have hT8 := hT.out.later B8
        have hnm8 := lname_any k w8 (by omega) hE8.pk.p
        rw [hNM] at hnm8
        clear hNM
        have hnmi := fun (i : Nat) (hi : i ≤ k) W (hb : Below w8.heap.size w8 W) => lname_any i W (by omega) (pow10_later hE8.pk.p hb)
        have g1 : decide ((k : Int) < (k : Int)) = false := decide_eq_false (by omega)
        have i1 : (0 : Int) ≤ (k : Int) := by omega
        have i3 : (k : Int) < (k : Int) + 1 := by omega
        have hRdP : Rd w8 (.slice (some ⟨C, 0, none⟩) (k + 1) (k + 1)) (wj (plL ps k (k + 1))) := Rd.of_own ho8
        replace hnm := Lib.hid hnm; replace hro := Lib.hid hro; replace bo := Lib.hid bo; replace hra := Lib.hid hra; replace hr0 := Lib.hid hr0; replace hWl := Lib.hid hWl; replace hWat := Lib.hid hWat; replace hLl := Lib.hid hLl; replace ew := Lib.hid ew; replace el := Lib.hid el; replace hnm1 := Lib.hid hnm1; replace hPL := Lib.hid hPL; replace ho8 := Lib.hid ho8; replace B8 := Lib.hid B8; replace hw8 := Lib.hid hw8; replace hE8 := Lib.hid hE8; replace hM8 := Lib.hid hM8; replace hT8 := Lib.hid hT8; replace hnm8 := Lib.hid hnm8; replace hnmi := Lib.hid hnmi; replace hRdP := Lib.hid hRdP; replace hplk := Lib.hid hplk; replace hss := Lib.hid hss
        go_upto_region 17 with fail
        rw [hw8.out]
        clear hw8 hc7 hf7
        go_wp2_with fail
        refine hnm8.out.mono ?_
        rintro e w9 ⟨rfl, b9⟩
        have B9 := B8.out.trans (b9.mono B8.out.size)
        have has := assemble_any FU base m w9 (hE.out.later B9) (maxl_later hM.out B9) (hT.out.later B9) (by omega) nb
        rw [hra.out, ew.out] at has
        replace has := Lib.hid has; replace b9 := Lib.hid b9; replace B9 := Lib.hid B9
        go_wp2_with fail
        refine has.out.mono ?_
        rintro e w10 ⟨b10, v1, rfl, ho10⟩
        unfold fltV
        obtain ⟨w11, hw11, hR11, b11⟩ := flt_new w10 (.int .i64 0) (.int .i64 0) (.int .i64 0)
        have b911 := b10.trans (b11.mono b10.size)
        have B11 := B9.out.trans (b911.mono B9.out.size)
        have hla := labels_any FU m w11 (hE.out.later B11) (maxl_later hM.out B11) (hT.out.later B11) (by omega)
        rw [hr0.out, el.out] at hla
        replace ho10 : OutW w10 w9.heap.size 22 1 v1 PL (wi WS) := ho10
        have ho11 := ho10.later b11
        obtain ⟨ao1, ca1, rfl⟩ := ho11.form
        replace hla := Lib.hid hla; replace b911 := Lib.hid b911; replace B11 := Lib.hid B11; replace hR11 := Lib.hid hR11; replace ho11 := Lib.hid ho11; replace hw11 := Lib.hid hw11; replace b10 := Lib.hid b10; replace b11 := Lib.hid b11
        clear ho10 has
        go_upto_region 19 with fail
        rw [hw11.out]
        clear hw11
        go_wp2_with fail
        refine hla.out.mono ?_
        rintro e w12 ⟨b12, v2, rfl, ho12⟩
        unfold fltV
        obtain ⟨w13, hw13, hR13, b13⟩ := flt_new w12 (.int .i64 0) (.int .i64 0) (.int .i64 0)
        have b1113 := b12.trans (b13.mono b12.size)
        have B13 := B11.out.trans (b1113.mono B11.out.size)
        replace ho12 : OutW w12 w11.heap.size 44 2 v2 (k + 1) (lc (labsP ps (k + 1))) := ho12
        have hL13 := ho12.later b13
        have hW13 := (ho11.out.later b1113).rd
        have hP13 := ((hRdP.out.mono b9.out).mono b911.out).mono b1113
        have hR1 := (b1113.block _ (Array.getElem?_eq_some_iff.1 hR11.out).1).trans hR11.out
        have c0 : w13.cell? ⟨w10.heap.size, 0, none⟩ = some (.int .i64 0) := cell_of_row _ _ _ _ _ _ hR1
        have c1 : w13.cell? ⟨w12.heap.size, 0, none⟩ = some (.int .i64 0) := cell_of_row _ _ _ _ _ _ hR13
        obtain ⟨g2, cur2, rfl, hg2, hg3, hg4, hg5, hg6⟩ := hL13.2.resolve_left (by intro h; have := h.2; omega)
        have hE13 := hE.out.later B13
        have hnmj := fun (i : Nat) (hi : i ≤ k) W (hb : Below w13.heap.size w13 W) => lname_any i W (by omega) (pow10_later hE13.pk.p hb)
        replace hw13 := Lib.hid hw13; replace b1113 := Lib.hid b1113; replace B13 := Lib.hid B13; replace hL13 := Lib.hid hL13; replace hW13 := Lib.hid hW13; replace hP13 := Lib.hid hP13; replace hR1 := Lib.hid hR1; replace hR13 := Lib.hid hR13; replace b12 := Lib.hid b12; replace b13 := Lib.hid b13; replace hE13 := Lib.hid hE13; replace hnmj := Lib.hid hnmj; replace hg4 := Lib.hid hg4; replace hg6 := Lib.hid hg6; replace hg5 := Lib.hid hg5
        clear ho12 hla
        go_upto_region 20 with fail
        rw [hw13.out]
        clear hw13 he y1 y2 y3
        go_wp2_with fail
        clear c0 c1 g1 i1 i3
        go_loopw [16] (fun iv wl => ∃ i : Nat, i ≤ k + 1 ∧ iv = .int .i64 i ∧ Below w13.heap.size w13 wl) (fun iv _ => k + 1 - (intOf iv).toNat)
        case atStart => exact ⟨0, by omega, rfl, Below.refl _ _⟩
        case round =>
          obtain ⟨wp, rfl⟩ : ∃ wp, wp = wr := ⟨wr, rfl⟩
          obtain ⟨i, hi, rfl, bp⟩ := hrel
          by_cases hik : i ≤ k
          · have hpli := plc_le ps i
            obtain ⟨l0, l1⟩ := lc_at ps (k + 1) i (by omega)
            have hgl := (Array.getElem?_eq_some_iff.1 hg4.out).1
            have hgp := (bp.block g2 hgl).trans hg4.out
            have hLc : ∀ j u, (lc (labsP ps (k + 1)))[j]? = some u → wp.cell? ⟨g2, j, none⟩ = some u := fun j u hj => by
              have h0 := (List.getElem?_eq_some_iff.1 hj).1
              have h1 : (lc (labsP ps (k + 1))).length = (k + 1) * 2 := hL13.out.1
              rw [cell_of_row _ _ _ _ _ _ hgp]
              rw [← hg6.out, List.getElem?_take_of_lt (by omega)] at hj
              rw [← hj, Array.getElem?_toList]
            have x0 := hLc _ _ l0
            have x1 := hLc _ _ l1
            have hPp := hP13.out.mono bp
            obtain ⟨uo, uca, hue, hu1, hu2, hu3⟩ := rd_j hPp
            obtain ⟨ub, uf, hue2, hub, x2⟩ := hu3 i (by rw [plL_len]; omega)
            subst hue2
            simp only [Value.slice.injEq, Option.some.injEq, Addr.mk.injEq, and_true] at hue
            obtain ⟨⟨rfl, rfl⟩, hue9, rfl⟩ := hue
            clear hue9
            rw [plL_get ps k (k + 1) i hik, if_pos (by omega), Nat.zero_add] at x2
            have hnc := hnmj.out i hik
            obtain ⟨NM, hNM⟩ : ∃ S, strS (nmP i) = S := ⟨_, rfl⟩
            obtain ⟨PI, hPI⟩ : ∃ z, plc ps i = z := ⟨_, rfl⟩
            rw [hNM] at hnc x0
            rw [hPI] at x1 x2 hpli
            have hCl : C < wp.heap.size := hub
            have hg2l : g2 < wp.heap.size := (Array.getElem?_eq_some_iff.1 hgp).1
            have hS : ∀ w' : World, Below wp.heap.size wp w' → (Below wp.heap.size wp w' ∧ w'.cell? ⟨g2, i * 2, none⟩ = some (.string NM) ∧ w'.cell? ⟨g2, i * 2 + 1, none⟩ = some (.int .i64 (PI : Int)) ∧ w'.cell? ⟨C, i, none⟩ = some (.int .i64 (PI : Int))) := fun w' h =>
              ⟨h, by rw [h.cell (p := ⟨g2, i * 2, none⟩) hg2l]; exact x0, by rw [h.cell (p := ⟨g2, i * 2 + 1, none⟩) hg2l]; exact x1, by rw [h.cell (p := ⟨C, i, none⟩) hCl]; exact x2⟩
            have i1 : (0 : Int) ≤ (i : Int) := by omega
            have i2 : (i : Int) < ((k + 1 : Nat) : Int) := by omega
            have i3 : (i : Int) < (k : Int) + 1 := by omega
            have q1 : decide ((i : Int) ≤ (k : Int)) = true := decide_eq_true (by omega)
            replace hS := Lib.hid hS; replace hnc := Lib.hid hnc; replace hNM := Lib.hid hNM; replace hPI := Lib.hid hPI; replace hPp := Lib.hid hPp; replace bp := Lib.hid bp; replace hgp := Lib.hid hgp; replace l0 := Lib.hid l0; replace l1 := Lib.hid l1; replace hLc := Lib.hid hLc
            clear x0 x1 x2 hu3 hu1 hu2 hub
            go_upto_region 25 with fail
            refine wp_region_held_drew (S := (fun w' : World => Below wp.heap.size wp w' ∧ w'.cell? ⟨g2, i * 2, none⟩ = some (.string NM) ∧ w'.cell? ⟨g2, i * 2 + 1, none⟩ = some (.int .i64 (PI : Int)) ∧ w'.cell? ⟨C, i, none⟩ = some (.int .i64 (PI : Int)))) (by kernel_rfl) (hS.out _ (Below.drew (Below.refl _ _))) (fun hHeld => ?_)
            refine wpAnyH_take (i := 0) (v := ?v1) rfl (by kernel_rfl) (by kernel_rfl) (by kernel_rfl) (fun _ _ _ h => h) (Or.inl ⟨by rfl, ?h1⟩) (by assumption) ?r1
            case h1 =>
              intro w' hSw
              obtain ⟨hSb, hS0, hS1, hS2⟩ := hSw
              go_simp
              try with_reducible rfl
            try simp only [Act.put, List.getElem_toArray, List.getElem_cons_succ, List.getElem_cons_zero, List.setIfInBounds_toArray, List.set_cons_zero, List.set_cons_succ]
            refine wpAnyH_take (i := 1) (v := ?v2) rfl (by kernel_rfl) (by kernel_rfl) (by kernel_rfl) (fun _ _ _ h => h) (Or.inl ⟨by rfl, ?h2⟩) (by assumption) ?r2
            case h2 =>
              intro w' hSw
              obtain ⟨hSb, hS0, hS1, hS2⟩ := hSw
              go_simp
              try with_reducible rfl
            try simp only [Act.put, List.getElem_toArray, List.getElem_cons_succ, List.getElem_cons_zero, List.setIfInBounds_toArray, List.set_cons_zero, List.set_cons_succ]
            refine wpAnyH_take (i := 2) (v := ?v3) rfl (by kernel_rfl) (by kernel_rfl) (by kernel_rfl) (fun _ _ _ h => h) (Or.inl ⟨by rfl, ?h3⟩) (by assumption) ?r3
            case h3 =>
              intro w' hSw
              obtain ⟨hSb, hS0, hS1, hS2⟩ := hSw
              go_simp
              try with_reducible rfl
            try simp only [Act.put, List.getElem_toArray, List.getElem_cons_succ, List.getElem_cons_zero, List.setIfInBounds_toArray, List.set_cons_zero, List.set_cons_succ]
            refine wpAnyH_take (i := 3) (v := ?v4) rfl (by kernel_rfl) (by kernel_rfl) (by kernel_rfl) (fun _ _ _ h => h) (Or.inl ⟨by rfl, ?h4⟩) (by assumption) ?r4
            case h4 =>
              intro w' hSw
              obtain ⟨hSb, hS0, hS1, hS2⟩ := hSw
              go_simp
              try with_reducible rfl
            try simp only [Act.put, List.getElem_toArray, List.getElem_cons_succ, List.getElem_cons_zero, List.setIfInBounds_toArray, List.set_cons_zero, List.set_cons_succ]
            refine wpAnyH_take (i := 4) (v := ?v5) rfl (by kernel_rfl) (by kernel_rfl) (by kernel_rfl) (fun _ _ _ h => h) (Or.inl ⟨by rfl, ?h5⟩) (by assumption) ?r5
            case h5 =>
              intro w' hSw
              obtain ⟨hSb, hS0, hS1, hS2⟩ := hSw
              go_simp
              try with_reducible rfl
            try simp only [Act.put, List.getElem_toArray, List.getElem_cons_succ, List.getElem_cons_zero, List.setIfInBounds_toArray, List.set_cons_zero, List.set_cons_succ]
            refine wpAnyH_take (i := 5) (v := ?v6) rfl (by kernel_rfl) (by kernel_rfl) (by kernel_rfl) (fun _ _ _ h => h) (Or.inl ⟨by rfl, ?h6⟩) (by assumption) ?r6
            case h6 =>
              intro w' hSw
              obtain ⟨hSb, hS0, hS1, hS2⟩ := hSw
              go_simp
              try with_reducible rfl
            try simp only [Act.put, List.getElem_toArray, List.getElem_cons_succ, List.getElem_cons_zero, List.setIfInBounds_toArray, List.set_cons_zero, List.set_cons_succ]
            refine wpAnyH_ready (rs := [6]) (by kernel_rfl) (by simp) ?_
            refine AllReadyH.cons (o := _) rfl (fun K hK => ?step39) ?more39
            case step39 =>
              go_simp
              refine (hnc.out _ (bp.out.trans ((Below.drew (Below.refl _ _)).mono bp.out.size))).mono ?_
              rintro e w2 ⟨rfl, b2⟩
              have b22 := (Below.drew (Below.refl wp.heap.size wp)).trans (b2.mono (Nat.le_refl _))
              try dsimp only
              refine hK.out _ _ (hS.out _ b22) (fun hHeld => ?_)
              clear hK K
              try simp only [Act.put, List.getElem_toArray, List.getElem_cons_succ, List.getElem_cons_zero, List.setIfInBounds_toArray, List.set_cons_zero, List.set_cons_succ]
              refine wpAnyH_take (i := 7) (v := ?v7) rfl (by kernel_rfl) (by kernel_rfl) (by kernel_rfl) (fun _ _ _ h => h) (Or.inl ⟨by rfl, ?h7⟩) (by assumption) ?r7
              case h7 =>
                intro w' hSw
                obtain ⟨hSb, hS0, hS1, hS2⟩ := hSw
                go_simp
                try with_reducible rfl
              try simp only [Act.put, List.getElem_toArray, List.getElem_cons_succ, List.getElem_cons_zero, List.setIfInBounds_toArray, List.set_cons_zero, List.set_cons_succ]
              refine wpAnyH_take (i := 8) (v := ?v8) rfl (by kernel_rfl) (by kernel_rfl) (by kernel_rfl) (fun _ _ _ h => h) (Or.inl ⟨by rfl, ?h8⟩) (by assumption) ?r8
              case h8 =>
                intro w' hSw
                obtain ⟨hSb, hS0, hS1, hS2⟩ := hSw
                go_simp
                try with_reducible rfl
              try simp only [Act.put, List.getElem_toArray, List.getElem_cons_succ, List.getElem_cons_zero, List.setIfInBounds_toArray, List.set_cons_zero, List.set_cons_succ]
              refine wpAnyH_take (i := 9) (v := ?v9) rfl (by kernel_rfl) (by kernel_rfl) (by kernel_rfl) (fun _ _ _ h => h) (Or.inl ⟨by rfl, ?h9⟩) (by assumption) ?r9
              case h9 =>
                intro w' hSw
                obtain ⟨hSb, hS0, hS1, hS2⟩ := hSw
                go_simp
                try with_reducible rfl
              try simp only [Act.put, List.getElem_toArray, List.getElem_cons_succ, List.getElem_cons_zero, List.setIfInBounds_toArray, List.set_cons_zero, List.set_cons_succ]
              refine wpAnyH_take (i := 10) (v := ?v10) rfl (by kernel_rfl) (by kernel_rfl) (by kernel_rfl) (fun _ _ _ h => h) (Or.inl ⟨by rfl, ?h10⟩) (by assumption) ?r10
              case h10 =>
                intro w' hSw
                obtain ⟨hSb, hS0, hS1, hS2⟩ := hSw
                go_simp
                try with_reducible rfl
              try simp only [Act.put, List.getElem_toArray, List.getElem_cons_succ, List.getElem_cons_zero, List.setIfInBounds_toArray, List.set_cons_zero, List.set_cons_succ]
              refine wpAnyH_take (i := 11) (v := ?v11) rfl (by kernel_rfl) (by kernel_rfl) (by kernel_rfl) (fun _ _ _ h => h) (Or.inl ⟨by rfl, ?h11⟩) (by assumption) ?r11
              case h11 =>
                intro w' hSw
                obtain ⟨hSb, hS0, hS1, hS2⟩ := hSw
                go_simp
                try with_reducible rfl
              try simp only [Act.put, List.getElem_toArray, List.getElem_cons_succ, List.getElem_cons_zero, List.setIfInBounds_toArray, List.set_cons_zero, List.set_cons_succ]
              refine wpAnyH_take (i := 12) (v := ?v12) rfl (by kernel_rfl) (by kernel_rfl) (by kernel_rfl) (fun _ _ _ h => h) (Or.inl ⟨by rfl, ?h12⟩) (by assumption) ?r12
              case h12 =>
                intro w' hSw
                obtain ⟨hSb, hS0, hS1, hS2⟩ := hSw
                go_simp
                try with_reducible rfl
              try simp only [Act.put, List.getElem_toArray, List.getElem_cons_succ, List.getElem_cons_zero, List.setIfInBounds_toArray, List.set_cons_zero, List.set_cons_succ]
              refine wpAnyH_take (i := 13) (v := ?v13) rfl (by kernel_rfl) (by kernel_rfl) (by kernel_rfl) (fun _ _ _ h => h) (Or.inl ⟨by rfl, ?h13⟩) (by assumption) ?r13
              case h13 =>
                intro w' hSw
                obtain ⟨hSb, hS0, hS1, hS2⟩ := hSw
                go_simp
                try with_reducible rfl
              try simp only [Act.put, List.getElem_toArray, List.getElem_cons_succ, List.getElem_cons_zero, List.setIfInBounds_toArray, List.set_cons_zero, List.set_cons_succ]
              refine wpAnyH_take (i := 14) (v := ?v14) rfl (by kernel_rfl) (by kernel_rfl) (by kernel_rfl) (fun _ _ _ h => h) (Or.inl ⟨by rfl, ?h14⟩) (by assumption) ?r14
              case h14 =>
                intro w' hSw
                obtain ⟨hSb, hS0, hS1, hS2⟩ := hSw
                go_simp
                try with_reducible rfl
              try simp only [Act.put, List.getElem_toArray, List.getElem_cons_succ, List.getElem_cons_zero, List.setIfInBounds_toArray, List.set_cons_zero, List.set_cons_succ]
              refine wpAnyH_take (i := 15) (v := ?v15) rfl (by kernel_rfl) (by kernel_rfl) (by kernel_rfl) (fun _ _ _ h => h) (Or.inl ⟨by rfl, ?h15⟩) (by assumption) ?r15
              case h15 =>
                intro w' hSw
                obtain ⟨hSb, hS0, hS1, hS2⟩ := hSw
                go_simp
                try with_reducible rfl
              try simp only [Act.put, List.getElem_toArray, List.getElem_cons_succ, List.getElem_cons_zero, List.setIfInBounds_toArray, List.set_cons_zero, List.set_cons_succ]
              refine wpAnyH_take (i := 16) (v := ?v16) rfl (by kernel_rfl) (by kernel_rfl) (by kernel_rfl) (fun _ _ _ h => h) (Or.inl ⟨by rfl, ?h16⟩) (by assumption) ?r16
              case h16 =>
                intro w' hSw
                obtain ⟨hSb, hS0, hS1, hS2⟩ := hSw
                go_simp
                try with_reducible rfl
              try simp only [Act.put, List.getElem_toArray, List.getElem_cons_succ, List.getElem_cons_zero, List.setIfInBounds_toArray, List.set_cons_zero, List.set_cons_succ]
              refine wpAnyH_take (i := 17) (v := ?v17) rfl (by kernel_rfl) (by kernel_rfl) (by kernel_rfl) (fun _ _ _ h => h) (Or.inl ⟨by rfl, ?h17⟩) (by assumption) ?r17
              case h17 =>
                intro w' hSw
                obtain ⟨hSb, hS0, hS1, hS2⟩ := hSw
                go_simp
                try with_reducible rfl
              try simp only [Act.put, List.getElem_toArray, List.getElem_cons_succ, List.getElem_cons_zero, List.setIfInBounds_toArray, List.set_cons_zero, List.set_cons_succ]
              refine wpAnyH_take (i := 18) (v := ?v18) rfl (by kernel_rfl) (by kernel_rfl) (by kernel_rfl) (fun _ _ _ h => h) (Or.inl ⟨by rfl, ?h18⟩) (by assumption) ?r18
              case h18 =>
                intro w' hSw
                obtain ⟨hSb, hS0, hS1, hS2⟩ := hSw
                go_simp
                try with_reducible rfl
              try simp only [Act.put, List.getElem_toArray, List.getElem_cons_succ, List.getElem_cons_zero, List.setIfInBounds_toArray, List.set_cons_zero, List.set_cons_succ]
              refine wpAnyH_take (i := 19) (v := ?v19) rfl (by kernel_rfl) (by kernel_rfl) (by kernel_rfl) (fun _ _ _ h => h) (Or.inl ⟨by rfl, ?h19⟩) (by assumption) ?r19
              case h19 =>
                intro w' hSw
                obtain ⟨hSb, hS0, hS1, hS2⟩ := hSw
                go_simp
                try with_reducible rfl
              try simp only [Act.put, List.getElem_toArray, List.getElem_cons_succ, List.getElem_cons_zero, List.setIfInBounds_toArray, List.set_cons_zero, List.set_cons_succ]
              refine wpAnyH_done (by kernel_rfl) ?_ _
              have bq := bp.out.trans (b22.mono bp.out.size)
              have x2 := (hS.out _ b22).2.2.2
              replace bq := Lib.hid bq; replace b22 := Lib.hid b22; replace b2 := Lib.hid b2
              clear hHeld
              go_upto_region 27 with fail
              by_cases hik2 : i < k
              · obtain ⟨pb, po, hpo, hpl, hpc⟩ := hv.out i (by omega)
                first | subst hpo | (simp only [Option.some.injEq, Addr.mk.injEq, and_true] at hpo; obtain ⟨rfl, rfl⟩ := hpo)
                have htoi : toP k (ps i) ≤ k := by have := md_lt (ps i).tgt (k + 1) (by omega); unfold toP; omega
                have hrt := fun W (hb : Below w2.heap.size w2 W) => right_any (ps i) k (.slice ao1 PL ca1) (.slice (some ⟨C, 0, none⟩) (k + 1) (k + 1)) WS (plL ps k (k + 1)) (plc ps i) (plc ps (toP k (ps i))) base W (hok.out i (by omega)) hn3 (hE13.out.later (bq.out.trans (hb.mono bq.out.size))).tabs (hW13.out.mono (bq.out.trans (hb.mono bq.out.size))) (hP13.out.mono (bq.out.trans (hb.mono bq.out.size))) (plL_len ps k (k + 1)) (by rw [plL_get ps k (k + 1) _ htoi, if_pos (by omega)]) (by have := plc_le ps (toP k (ps i)); omega) (by have := plc_le ps i; omega) (by rw [hWl.out]; exact plc_end ps hik2) (fun j hj => hWat.out i j hik2 hj) nb
                have BW : Below w.heap.size w w2 := B13.out.trans (bq.out.mono B13.out.size)
                obtain ⟨p, hp⟩ : ∃ p, ps i = p := ⟨_, rfl⟩
                rw [hp] at hpc
                rw [hPI.out] at hrt
                simp only [hp] at hrt
                obtain ⟨pk, pa, pc, pt, pv⟩ := p
                unfold pcV pcC at hrt
                simp only at hrt
                have hS27 : ∀ w' : World, Below w2.heap.size w2 w' → (Below w2.heap.size w2 w' ∧ w'.cell? ⟨pb, po + i * 5, none⟩ = some (.int .i64 pk) ∧ w'.cell? ⟨pb, po + i * 5 + 1, none⟩ = some (.int .i64 pa) ∧ w'.cell? ⟨pb, po + i * 5 + 2, none⟩ = some (.int .i64 pc) ∧ w'.cell? ⟨pb, po + i * 5 + 3, none⟩ = some (.int .i64 pt) ∧ w'.cell? ⟨pb, po + i * 5 + 4, none⟩ = some (.int .u32 (pv : Int)) ∧ w'.cell? ⟨C, i, none⟩ = some (.int .i64 (PI : Int))) := fun w' h => by
                  have hbw : Below w.heap.size w w' := BW.trans (h.mono BW.size)
                  exact ⟨h, by rw [hbw.cell (p := ⟨pb, po + i * 5, none⟩) hpl]; exact hpc 0 _ rfl, by rw [hbw.cell (p := ⟨pb, po + i * 5 + 1, none⟩) hpl]; exact hpc 1 _ rfl, by rw [hbw.cell (p := ⟨pb, po + i * 5 + 2, none⟩) hpl]; exact hpc 2 _ rfl, by rw [hbw.cell (p := ⟨pb, po + i * 5 + 3, none⟩) hpl]; exact hpc 3 _ rfl, by rw [hbw.cell (p := ⟨pb, po + i * 5 + 4, none⟩) hpl]; exact hpc 4 _ rfl, by rw [h.cell (p := ⟨C, i, none⟩) (Nat.lt_of_lt_of_le hCl b22.out.size)]; exact x2⟩
                have q2 : decide ((i : Int) < (k : Int)) = true := decide_eq_true (by omega)
                have i4 : (i : Int) < (k : Int) := by omega
                replace hrt := Lib.hid hrt; replace hS27 := Lib.hid hS27; replace hp := Lib.hid hp; replace hpc := Lib.hid hpc; replace BW := Lib.hid BW
                clear x2
                refine wp_region_held_drew (S := (fun w' : World => Below w2.heap.size w2 w' ∧ w'.cell? ⟨pb, po + i * 5, none⟩ = some (.int .i64 pk) ∧ w'.cell? ⟨pb, po + i * 5 + 1, none⟩ = some (.int .i64 pa) ∧ w'.cell? ⟨pb, po + i * 5 + 2, none⟩ = some (.int .i64 pc) ∧ w'.cell? ⟨pb, po + i * 5 + 3, none⟩ = some (.int .i64 pt) ∧ w'.cell? ⟨pb, po + i * 5 + 4, none⟩ = some (.int .u32 (pv : Int)) ∧ w'.cell? ⟨C, i, none⟩ = some (.int .i64 (PI : Int)))) (by kernel_rfl) (hS27.out _ (Below.drew (Below.refl _ _))) (fun hHeld => ?_)
                refine wpAnyH_take (i := 0) (v := ?v20) rfl (by kernel_rfl) (by kernel_rfl) (by kernel_rfl) (fun _ _ _ h => h) (Or.inl ⟨by rfl, ?h20⟩) (by assumption) ?r20
                case h20 =>
                  intro w' hSw
                  obtain ⟨hSb, hS0, hS1, hS2, hS3, hS4, hS5⟩ := hSw
                  go_simp
                  try with_reducible rfl
                try simp only [Act.put, List.getElem_toArray, List.getElem_cons_succ, List.getElem_cons_zero, List.setIfInBounds_toArray, List.set_cons_zero, List.set_cons_succ]
                refine wpAnyH_take (i := 1) (v := ?v21) rfl (by kernel_rfl) (by kernel_rfl) (by kernel_rfl) (fun _ _ _ h => h) (Or.inl ⟨by rfl, ?h21⟩) (by assumption) ?r21
                case h21 =>
                  intro w' hSw
                  obtain ⟨hSb, hS0, hS1, hS2, hS3, hS4, hS5⟩ := hSw
                  go_simp
                  try with_reducible rfl
                try simp only [Act.put, List.getElem_toArray, List.getElem_cons_succ, List.getElem_cons_zero, List.setIfInBounds_toArray, List.set_cons_zero, List.set_cons_succ]
                refine wpAnyH_take (i := 2) (v := ?v22) rfl (by kernel_rfl) (by kernel_rfl) (by kernel_rfl) (fun _ _ _ h => h) (Or.inl ⟨by rfl, ?h22⟩) (by assumption) ?r22
                case h22 =>
                  intro w' hSw
                  obtain ⟨hSb, hS0, hS1, hS2, hS3, hS4, hS5⟩ := hSw
                  go_simp
                  try with_reducible rfl
                try simp only [Act.put, List.getElem_toArray, List.getElem_cons_succ, List.getElem_cons_zero, List.setIfInBounds_toArray, List.set_cons_zero, List.set_cons_succ]
                refine wpAnyH_take (i := 3) (v := ?v23) rfl (by kernel_rfl) (by kernel_rfl) (by kernel_rfl) (fun _ _ _ h => h) (Or.inl ⟨by rfl, ?h23⟩) (by assumption) ?r23
                case h23 =>
                  intro w' hSw
                  obtain ⟨hSb, hS0, hS1, hS2, hS3, hS4, hS5⟩ := hSw
                  go_simp
                  try with_reducible rfl
                try simp only [Act.put, List.getElem_toArray, List.getElem_cons_succ, List.getElem_cons_zero, List.setIfInBounds_toArray, List.set_cons_zero, List.set_cons_succ]
                refine wpAnyH_take (i := 4) (v := ?v24) rfl (by kernel_rfl) (by kernel_rfl) (by kernel_rfl) (fun _ _ _ h => h) (Or.inl ⟨by rfl, ?h24⟩) (by assumption) ?r24
                case h24 =>
                  intro w' hSw
                  obtain ⟨hSb, hS0, hS1, hS2, hS3, hS4, hS5⟩ := hSw
                  go_simp
                  try with_reducible rfl
                try simp only [Act.put, List.getElem_toArray, List.getElem_cons_succ, List.getElem_cons_zero, List.setIfInBounds_toArray, List.set_cons_zero, List.set_cons_succ]
                refine wpAnyH_take (i := 5) (v := ?v25) rfl (by kernel_rfl) (by kernel_rfl) (by kernel_rfl) (fun _ _ _ h => h) (Or.inl ⟨by rfl, ?h25⟩) (by assumption) ?r25
                case h25 =>
                  intro w' hSw
                  obtain ⟨hSb, hS0, hS1, hS2, hS3, hS4, hS5⟩ := hSw
                  go_simp
                  try with_reducible rfl
                try simp only [Act.put, List.getElem_toArray, List.getElem_cons_succ, List.getElem_cons_zero, List.setIfInBounds_toArray, List.set_cons_zero, List.set_cons_succ]
                refine wpAnyH_take (i := 6) (v := ?v26) rfl (by kernel_rfl) (by kernel_rfl) (by kernel_rfl) (fun _ _ _ h => h) (Or.inl ⟨by rfl, ?h26⟩) (by assumption) ?r26
                case h26 =>
                  intro w' hSw
                  obtain ⟨hSb, hS0, hS1, hS2, hS3, hS4, hS5⟩ := hSw
                  go_simp
                  try with_reducible rfl
                try simp only [Act.put, List.getElem_toArray, List.getElem_cons_succ, List.getElem_cons_zero, List.setIfInBounds_toArray, List.set_cons_zero, List.set_cons_succ]
                refine wpAnyH_take (i := 7) (v := ?v27) rfl (by kernel_rfl) (by kernel_rfl) (by kernel_rfl) (fun _ _ _ h => h) (Or.inl ⟨by rfl, ?h27⟩) (by assumption) ?r27
                case h27 =>
                  intro w' hSw
                  obtain ⟨hSb, hS0, hS1, hS2, hS3, hS4, hS5⟩ := hSw
                  go_simp
                  try with_reducible rfl
                try simp only [Act.put, List.getElem_toArray, List.getElem_cons_succ, List.getElem_cons_zero, List.setIfInBounds_toArray, List.set_cons_zero, List.set_cons_succ]
                refine wpAnyH_take (i := 8) (v := ?v28) rfl (by kernel_rfl) (by kernel_rfl) (by kernel_rfl) (fun _ _ _ h => h) (Or.inl ⟨by rfl, ?h28⟩) (by assumption) ?r28
                case h28 =>
                  intro w' hSw
                  obtain ⟨hSb, hS0, hS1, hS2, hS3, hS4, hS5⟩ := hSw
                  go_simp
                  try with_reducible rfl
                try simp only [Act.put, List.getElem_toArray, List.getElem_cons_succ, List.getElem_cons_zero, List.setIfInBounds_toArray, List.set_cons_zero, List.set_cons_succ]
                refine wpAnyH_take (i := 9) (v := ?v29) rfl (by kernel_rfl) (by kernel_rfl) (by kernel_rfl) (fun _ _ _ h => h) (Or.inl ⟨by rfl, ?h29⟩) (by assumption) ?r29
                case h29 =>
                  intro w' hSw
                  obtain ⟨hSb, hS0, hS1, hS2, hS3, hS4, hS5⟩ := hSw
                  go_simp
                  try with_reducible rfl
                try simp only [Act.put, List.getElem_toArray, List.getElem_cons_succ, List.getElem_cons_zero, List.setIfInBounds_toArray, List.set_cons_zero, List.set_cons_succ]
                refine wpAnyH_take (i := 10) (v := ?v30) rfl (by kernel_rfl) (by kernel_rfl) (by kernel_rfl) (fun _ _ _ h => h) (Or.inl ⟨by rfl, ?h30⟩) (by assumption) ?r30
                case h30 =>
                  intro w' hSw
                  obtain ⟨hSb, hS0, hS1, hS2, hS3, hS4, hS5⟩ := hSw
                  go_simp
                  try with_reducible rfl
                try simp only [Act.put, List.getElem_toArray, List.getElem_cons_succ, List.getElem_cons_zero, List.setIfInBounds_toArray, List.set_cons_zero, List.set_cons_succ]
                refine wpAnyH_take (i := 11) (v := ?v31) rfl (by kernel_rfl) (by kernel_rfl) (by kernel_rfl) (fun _ _ _ h => h) (Or.inl ⟨by rfl, ?h31⟩) (by assumption) ?r31
                case h31 =>
                  intro w' hSw
                  obtain ⟨hSb, hS0, hS1, hS2, hS3, hS4, hS5⟩ := hSw
                  go_simp
                  try with_reducible rfl
                try simp only [Act.put, List.getElem_toArray, List.getElem_cons_succ, List.getElem_cons_zero, List.setIfInBounds_toArray, List.set_cons_zero, List.set_cons_succ]
                refine wpAnyH_take (i := 12) (v := ?v32) rfl (by kernel_rfl) (by kernel_rfl) (by kernel_rfl) (fun _ _ _ h => h) (Or.inl ⟨by rfl, ?h32⟩) (by assumption) ?r32
                case h32 =>
                  intro w' hSw
                  obtain ⟨hSb, hS0, hS1, hS2, hS3, hS4, hS5⟩ := hSw
                  go_simp
                  try with_reducible rfl
                try simp only [Act.put, List.getElem_toArray, List.getElem_cons_succ, List.getElem_cons_zero, List.setIfInBounds_toArray, List.set_cons_zero, List.set_cons_succ]
                refine wpAnyH_take (i := 13) (v := ?v33) rfl (by kernel_rfl) (by kernel_rfl) (by kernel_rfl) (fun _ _ _ h => h) (Or.inl ⟨by rfl, ?h33⟩) (by assumption) ?r33
                case h33 =>
                  intro w' hSw
                  obtain ⟨hSb, hS0, hS1, hS2, hS3, hS4, hS5⟩ := hSw
                  go_simp
                  try with_reducible rfl
                try simp only [Act.put, List.getElem_toArray, List.getElem_cons_succ, List.getElem_cons_zero, List.setIfInBounds_toArray, List.set_cons_zero, List.set_cons_succ]
                refine wpAnyH_take (i := 14) (v := ?v34) rfl (by kernel_rfl) (by kernel_rfl) (by kernel_rfl) (fun _ _ _ h => h) (Or.inl ⟨by rfl, ?h34⟩) (by assumption) ?r34
                case h34 =>
                  intro w' hSw
                  obtain ⟨hSb, hS0, hS1, hS2, hS3, hS4, hS5⟩ := hSw
                  go_simp
                  try with_reducible rfl
                try simp only [Act.put, List.getElem_toArray, List.getElem_cons_succ, List.getElem_cons_zero, List.setIfInBounds_toArray, List.set_cons_zero, List.set_cons_succ]
                refine wpAnyH_take (i := 15) (v := ?v35) rfl (by kernel_rfl) (by kernel_rfl) (by kernel_rfl) (fun _ _ _ h => h) (Or.inl ⟨by rfl, ?h35⟩) (by assumption) ?r35
                case h35 =>
                  intro w' hSw
                  obtain ⟨hSb, hS0, hS1, hS2, hS3, hS4, hS5⟩ := hSw
                  go_simp
                  try with_reducible rfl
                try simp only [Act.put, List.getElem_toArray, List.getElem_cons_succ, List.getElem_cons_zero, List.setIfInBounds_toArray, List.set_cons_zero, List.set_cons_succ]
                refine wpAnyH_ready (rs := [16]) (by kernel_rfl) (by simp) ?_
                refine AllReadyH.cons (o := _) rfl (fun K hK => ?step38) ?more38
                case step38 =>
                  go_simp
                  refine (hrt.out _ (Below.drew (Below.refl _ _))).mono ?_
                  rintro e w3 ⟨rfl, b3⟩
                  have b33 := (Below.drew (Below.refl w2.heap.size w2)).trans (b3.mono (Nat.le_refl _))
                  try dsimp only
                  refine hK.out _ _ (hS27.out _ b33) (fun hHeld => ?_)
                  clear hK K
                  try simp only [Act.put, List.getElem_toArray, List.getElem_cons_succ, List.getElem_cons_zero, List.setIfInBounds_toArray, List.set_cons_zero, List.set_cons_succ]
                  refine wpAnyH_take (i := 17) (v := ?v36) rfl (by kernel_rfl) (by kernel_rfl) (by kernel_rfl) (fun _ _ _ h => h) (Or.inl ⟨by rfl, ?h36⟩) (by assumption) ?r36
                  case h36 =>
                    intro w' hSw
                    obtain ⟨hSb, hS0, hS1, hS2, hS3, hS4, hS5⟩ := hSw
                    go_simp
                    try with_reducible rfl
                  try simp only [Act.put, List.getElem_toArray, List.getElem_cons_succ, List.getElem_cons_zero, List.setIfInBounds_toArray, List.set_cons_zero, List.set_cons_succ]
                  refine wpAnyH_take (i := 18) (v := ?v37) rfl (by kernel_rfl) (by kernel_rfl) (by kernel_rfl) (fun _ _ _ h => h) (Or.inl ⟨by rfl, ?h37⟩) (by assumption) ?r37
                  case h37 =>
                    intro w' hSw
                    obtain ⟨hSb, hS0, hS1, hS2, hS3, hS4, hS5⟩ := hSw
                    go_simp
                    try with_reducible rfl
                  try simp only [Act.put, List.getElem_toArray, List.getElem_cons_succ, List.getElem_cons_zero, List.setIfInBounds_toArray, List.set_cons_zero, List.set_cons_succ]
                  refine wpAnyH_done (by kernel_rfl) ?_ _
                  have bE := bq.out.trans (b33.mono bq.out.size)
                  clear hS hS27 hrt
                  replace bE := Lib.hid bE
                  go_wp2_with fail
                  go_roundw
                  case rel => exact ⟨i + 1, by omega, by go_num, bE.out⟩
                  case measure => simp [intOf]; omega
                exact AllReadyH.nil
              · have q2 : decide ((i : Int) < (k : Int)) = false := decide_eq_false (by omega)
                clear x2
                go_quiet (fail)
                have bE := below_dn bq.out nq
                replace bE := Lib.hid bE
                go_wp2_with fail
                go_roundw
                case rel => exact ⟨i + 1, by omega, by go_num, bE.out⟩
                case measure => simp [intOf]; omega
            exact AllReadyH.nil
          · have q1 : decide ((i : Int) ≤ (k : Int)) = false := decide_eq_false (by omega)
            have BF := B13.out.trans (bp.mono B13.out.size)
            replace BF := Lib.hid BF; replace bp := Lib.hid bp
            go_wp2_with fail
            go_ret
            exact ⟨rfl, BF.out⟩
  · have d1 : decide (300 < (N : Int)) = false := decide_eq_false (by omega)
    have d2 : decide ((N : Int) > 300) = false := decide_eq_false (by omega)
    have e1 : N = n := by omega
    have e2 : Value.slice ao N cap = Value.slice ao n cap := by rw [e1]
    replace e2 := Lib.hid e2
    replace e1 := Lib.hid e1
    go_upto_region 5 with fail
    rw [e2.out]
    have hnc : n ≤ cap := by omega
    clear d1 d2 e1 e2 hb
    go_wp2_with (at_make; go_loud (refine wpList_make_full _ rfl _ _ 48 rfl w1.heap.size 3 ib (.int .i64 0) 1 Tryz.underlying48 hib hzb0 hzb1 .i64 .i64 _ _ (n + 1) rfl rfl ?m0 ?m4 ?m1 ?m2 ?m3 ?_))
    case m0 => omega
    case m4 => omega
    case m1 => rw [hzb2]; omega
    case m2 => simp only [maxLen]; omega
    case m3 => exact Nat.le_refl _
    intro w2 ho2 hg2
    have b2 : Below w1.heap.size w1 w2 := (Below.refl _ _).grown hg2 (Nat.le_refl _) (by simp)
    obtain ⟨C, hC⟩ : ∃ C, w1.heap.size = C := ⟨_, rfl⟩
    rw [hC] at ho2 b2 ⊢
    have hr2 : w2.ownsRow C 3 1 (.slice (some ⟨C, 0, none⟩) (n + 1) (n + 1)) (n + 1) (wj (plL ps n 0)) := by
      rw [plL_zero, ← toList_madeCells_one]
      exact ho2
    have hwC : w.heap.size ≤ C := by rw [← hC]; exact b1.out.size
    have B2 : Below w.heap.size w w2 := b1.out.trans (b2.mono (by rw [← hC] ; exact b1.out.size))
    clear ho2 hg2 b2
    replace hr2 := Lib.hid hr2; replace B2 := Lib.hid B2; replace hC := Lib.hid hC
    go_wp2_with fail
    go_loopw [6, 8, 9] (fun sv av iv wl => ∃ k : Nat, k ≤ n ∧ iv = .int .i64 k ∧ sv = .string (strS (srcP ps n k)) ∧ av = .int .i64 (plc ps k : Int) ∧ wl.ownsRow C 3 1 (.slice (some ⟨C, 0, none⟩) (n + 1) (n + 1)) (n + 1) (wj (plL ps n k)) ∧ Below w.heap.size w wl) (fun _ _ iv _ => n - (intOf iv).toNat)
    case atStart => exact ⟨0, by omega, rfl, rfl, rfl, hr2.out, B2.out⟩
    case round =>
      obtain ⟨wo, rfl⟩ : ∃ wo, wo = wr := ⟨wr, rfl⟩
      obtain ⟨k, hk, rfl, rfl, rfl, hro, bo⟩ := hrel
      clear hr2 B2
      have hplk := plc_le ps k
      by_cases hlt : k < n
      · obtain ⟨pb, po, hpo, hpl, hpc⟩ := hv.out k (by omega)
        first | subst hpo | (simp only [Option.some.injEq, Addr.mk.injEq, and_true] at hpo; obtain ⟨rfl, rfl⟩ := hpo)
        have hokk := hok.out k (by omega)
        have hsuc : plc ps (k + 1) = plc ps k + szP (ps k) := rfl
        have hln := lline_any (ps k) n wo hokk hn3 (hE.out.later bo).pk.p (hE.out.later bo).tabs
        have hszk := szP_le (ps k)
        have hlns := st_short n (ps k) hn3 hokk.v
        have hsrc := hss.out k hk
        have hnxt : srcP ps n (k + 1) = srcP ps n k ++ (lnP ps n k ++ [10]) := by unfold srcP; rw [List.range_succ, List.flatMap_append]; simp
        have hlnP : lnP ps n k = nmP k ++ [58] ++ ([32] ++ joinW (stTx n (ps k))) ++ ([32, 35, 32] ++ nmP k) := by
          obtain ⟨s1, _⟩ := stTx_ok n (ps k) (by omega)
          unfold lnP
          cases hs : stTx n (ps k) with
          | nil => exact absurd hs s1
          | cons x y => rw [joinW]; simp
        have hnm := fun W (hb : Below wo.heap.size wo W) => lname_any k W (by omega) (pow10_later (hE.out.later bo).pk.p hb)
        have hnms := (nmP_ok k (by omega)).2.2
        obtain ⟨S0, hS0⟩ : ∃ S, strS (srcP ps n k) = S := ⟨_, rfl⟩
        obtain ⟨LN, hLN⟩ : ∃ S, strS (joinW (stTx n (ps k))) = S := ⟨_, rfl⟩
        obtain ⟨NM, hNM⟩ : ∃ S, strS (nmP k) = S := ⟨_, rfl⟩
        have he : S0 ++ NM ++ (⟨#[58, 32]⟩ : ByteArray) ++ LN ++ (⟨#[32, 35, 32]⟩ : ByteArray) ++ NM ++ (⟨#[10]⟩ : ByteArray) = strS (srcP ps n (k + 1)) := by
          rw [hnxt, hlnP, ← hS0, ← hLN, ← hNM]
          simp only [strS_lit, strS_app]
          congr 1
          simp
        have z0 : S0.size ≤ 16000 := by rw [← hS0, strS_size]; omega
        have z1 : LN.size ≤ 30 := by rw [← hLN, strS_size]; exact hlns
        have z2 : NM.size ≤ 5 := by rw [← hNM, strS_size]; exact hnms
        rw [hLN] at hln
        simp only [hNM] at hnm
        rw [hS0]
        clear hS0 hLN hNM hlnP hnxt hsrc hlns hnms
        have y1 : ¬ (9223372036854775807 < S0.size + NM.size) := by omega
        have y2 : ¬ (9223372036854775807 < S0.size + NM.size + 2) := by omega
        have y3 : ¬ (9223372036854775807 < S0.size + NM.size + 2 + LN.size) := by omega
        have y4 : ¬ (9223372036854775807 < S0.size + NM.size + 2 + LN.size + 3) := by omega
        have y5 : ¬ (9223372036854775807 < S0.size + NM.size + 2 + LN.size + 3 + NM.size) := by omega
        have y6 : ¬ (9223372036854775807 < S0.size + NM.size + 2 + LN.size + 3 + NM.size + 1) := by omega
        obtain ⟨p, hp⟩ : ∃ p, ps k = p := ⟨_, rfl⟩
        rw [hp] at hln hpc hokk hszk
        obtain ⟨pk, pa, pc, pt, pv⟩ := p
        have q0 : wo.cell? ⟨pb, po + k * 5, none⟩ = some (.int .i64 pk) := by rw [bo.cell (p := ⟨pb, po + k * 5, none⟩) hpl]; exact hpc 0 _ rfl
        have q1 : wo.cell? ⟨pb, po + k * 5 + 1, none⟩ = some (.int .i64 pa) := by rw [bo.cell (p := ⟨pb, po + k * 5 + 1, none⟩) hpl]; exact hpc 1 _ rfl
        have q2 : wo.cell? ⟨pb, po + k * 5 + 2, none⟩ = some (.int .i64 pc) := by rw [bo.cell (p := ⟨pb, po + k * 5 + 2, none⟩) hpl]; exact hpc 2 _ rfl
        have q3 : wo.cell? ⟨pb, po + k * 5 + 3, none⟩ = some (.int .i64 pt) := by rw [bo.cell (p := ⟨pb, po + k * 5 + 3, none⟩) hpl]; exact hpc 3 _ rfl
        have q4 : wo.cell? ⟨pb, po + k * 5 + 4, none⟩ = some (.int .u32 (pv : Int)) := by rw [bo.cell (p := ⟨pb, po + k * 5 + 4, none⟩) hpl]; exact hpc 4 _ rfl
        unfold pcV pcC at hln
        simp only at hln
        obtain ⟨SZ, hSZ⟩ : ∃ z, szP ⟨pk, pa, pc, pt, pv⟩ = z := ⟨_, rfl⟩
        obtain ⟨PL, hPL⟩ : ∃ z, plc ps k = z := ⟨_, rfl⟩
        rw [hSZ] at hln hszk
        rw [hp, hSZ, hPL] at hsuc
        rw [hPL] at hplk ⊢
        have i1 : (0 : Int) ≤ (k : Int) := by omega
        have i2 : (k : Int) < (n : Int) := by omega
        have i3 : (k : Int) < (n : Int) + 1 := by omega
        have g1 : decide ((k : Int) < (n : Int)) = true := decide_eq_true i2
        replace hln := Lib.hid hln; replace hnm := Lib.hid hnm; replace hp := Lib.hid hp; replace hSZ := Lib.hid hSZ; replace hPL := Lib.hid hPL; replace hsuc := Lib.hid hsuc; replace hro := Lib.hid hro; replace bo := Lib.hid bo; replace hokk := Lib.hid hokk; replace hpc := Lib.hid hpc
        go_wp2_with fail
        refine hln.out.mono ?_
        rintro e w5 ⟨rfl, b5⟩
        replace b5 := Lib.hid b5
        clear q0 q1 q2 q3 q4 hln
        go_wp2_with fail
        refine (hnm.out _ b5.out).mono ?_
        rintro e w6 ⟨rfl, b6⟩
        have b56 := b5.out.trans (b6.mono b5.out.size)
        replace b56 := Lib.hid b56; replace b6 := Lib.hid b6
        go_wp2_with fail
        refine (hnm.out _ b56.out).mono ?_
        rintro e w7 ⟨rfl, b7⟩
        have b57 := b56.out.trans (b7.mono b56.out.size)
        have ho7 := own_below hro.out b57
        obtain ⟨⟨u7, _, hc7⟩, hf7⟩ := own_cell ho7 k (by omega)
        have ho8 := (ho7.stored k (.int .i64 (PL : Int))).1
        rw [← hPL.out, plL_set, hPL.out] at ho8
        have B7 := bo.out.trans (b57.mono bo.out.size)
        have B8 := B7.setCell (p := ⟨C, k, none⟩) hwC (.int .i64 (PL : Int))
        replace ho7 := Lib.hid ho7; replace ho8 := Lib.hid ho8; replace B7 := Lib.hid B7; replace B8 := Lib.hid B8; replace b57 := Lib.hid b57; replace b7 := Lib.hid b7; replace he := Lib.hid he
        clear hnm
        go_wp2_with fail
        go_roundw
        case rel => exact ⟨k + 1, by omega, by go_num, by first | rw [← he.out] | rw [he.out], by rw [hsuc.out]; first | rfl | simp, ho8.out, B8.out⟩
        case measure => simp [intOf]; omega
      · obtain rfl : k = n := by omega
        have hnm := fun (i : Nat) (hi : i ≤ k) W (hb : Below wo.heap.size wo W) => lname_any i W (by omega) (pow10_later (hE.out.later bo).pk.p hb)
        have hnms := (nmP_ok k (by omega)).2.2
        have hsrc := hss.out k (Nat.le_refl _)
        have hfull : fullP ps k = srcP ps k k ++ ([9] ++ nmP k ++ [58, 10]) := by unfold fullP endP; simp
        obtain ⟨S0, hS0⟩ : ∃ S, strS (srcP ps k k) = S := ⟨_, rfl⟩
        obtain ⟨NM, hNM⟩ : ∃ S, strS (nmP k) = S := ⟨_, rfl⟩
        obtain ⟨FU, hFU⟩ : ∃ S, strS (fullP ps k) = S := ⟨_, rfl⟩
        have he : S0 ++ (⟨#[9]⟩ : ByteArray) ++ NM ++ (⟨#[58, 10]⟩ : ByteArray) = FU := by
          rw [← hFU, hfull, ← hS0, ← hNM]
          simp only [strS_lit, strS_app]
          congr 1
          simp
        have z0 : S0.size ≤ 16000 := by rw [← hS0, strS_size]; omega
        have z2 : NM.size ≤ 5 := by rw [← hNM, strS_size]; exact hnms
        have z3 : FU.size ≤ 65536 := by rw [← hFU, strS_size]; exact hfs.out
        have hra := hrd.out base
        have hr0 := hrd.out 0
        rw [show (⟨(fullP ps k).toArray⟩ : ByteArray) = FU from hFU] at hra hr0
        have hWl := words_len base ps k k
        have hWat := fun i j (hi : i < k) (hj : j < szP (ps i)) => words_at base ps k i j hi hj
        obtain ⟨WS, hWS⟩ : ∃ l, (List.range k).flatMap (wordsP base ps k) = l := ⟨_, rfl⟩
        obtain ⟨W0, hW0⟩ : ∃ l, (List.range k).flatMap (wordsP 0 ps k) = l := ⟨_, rfl⟩
        rw [hWS] at hra hWl
        simp only [hWS] at hWat
        rw [hW0] at hr0
        have hLl : (labsP ps (k + 1)).length = k + 1 := by simp [labsP]
        have ew : wordsR (.inl (WS, labsP ps (k + 1))) = .inl (plc ps k, wi WS) := by unfold wordsR; simp only [hWl]
        have el : labsR (.inl (W0, labsP ps (k + 1))) = .inl (k + 1, lc (labsP ps (k + 1))) := by unfold labsR; simp only [hLl]
        have hnm1 := hnm k (Nat.le_refl _) 
        rw [hNM] at hnm1
        rw [hS0]
        clear hS0 hfull hsrc hnms hWS hW0 hFU
        have y1 : ¬ (9223372036854775807 < S0.size + 1) := by omega
        have y2 : ¬ (9223372036854775807 < S0.size + 1 + NM.size) := by omega
        have y3 : ¬ (9223372036854775807 < S0.size + 1 + NM.size + 2) := by omega
        obtain ⟨⟨u7, _, hc7⟩, hf7⟩ := own_cell hro k (by omega)
        obtain ⟨PL, hPL⟩ : ∃ z, plc ps k = z := ⟨_, rfl⟩
        have ho8 := (hro.stored k (.int .i64 (plc ps k : Int))).1
        rw [plL_set] at ho8
        rw [hPL] at ho8 hplk ew ⊢
        have B8 := bo.setCell (p := ⟨C, k, none⟩) hwC (.int .i64 (PL : Int))
        obtain ⟨w8, hw8⟩ : ∃ w8, wo.setCell ⟨C, k, none⟩ (.int .i64 (PL : Int)) = w8 := ⟨_, rfl⟩
        rw [hw8] at ho8 B8
        have hE8 := hE.out.later B8
        have hM8 := maxl_later hM.out B8
        have hT8 := hT.out.later B8
        have hnm8 := lname_any k w8 (by omega) hE8.pk.p
        rw [hNM] at hnm8
        clear hNM
        have hnmi := fun (i : Nat) (hi : i ≤ k) W (hb : Below w8.heap.size w8 W) => lname_any i W (by omega) (pow10_later hE8.pk.p hb)
        have g1 : decide ((k : Int) < (k : Int)) = false := decide_eq_false (by omega)
        have i1 : (0 : Int) ≤ (k : Int) := by omega
        have i3 : (k : Int) < (k : Int) + 1 := by omega
        have hRdP : Rd w8 (.slice (some ⟨C, 0, none⟩) (k + 1) (k + 1)) (wj (plL ps k (k + 1))) := Rd.of_own ho8
        replace hnm := Lib.hid hnm; replace hro := Lib.hid hro; replace bo := Lib.hid bo; replace hra := Lib.hid hra; replace hr0 := Lib.hid hr0; replace hWl := Lib.hid hWl; replace hWat := Lib.hid hWat; replace hLl := Lib.hid hLl; replace ew := Lib.hid ew; replace el := Lib.hid el; replace hnm1 := Lib.hid hnm1; replace hPL := Lib.hid hPL; replace ho8 := Lib.hid ho8; replace B8 := Lib.hid B8; replace hw8 := Lib.hid hw8; replace hE8 := Lib.hid hE8; replace hM8 := Lib.hid hM8; replace hT8 := Lib.hid hT8; replace hnm8 := Lib.hid hnm8; replace hnmi := Lib.hid hnmi; replace hRdP := Lib.hid hRdP; replace hplk := Lib.hid hplk; replace hss := Lib.hid hss
        go_upto_region 17 with fail
        rw [hw8.out]
        clear hw8 hc7 hf7
        go_wp2_with fail
        refine hnm8.out.mono ?_
        rintro e w9 ⟨rfl, b9⟩
        have B9 := B8.out.trans (b9.mono B8.out.size)
        have has := assemble_any FU base m w9 (hE.out.later B9) (maxl_later hM.out B9) (hT.out.later B9) (by omega) nb
        rw [hra.out, ew.out] at has
        replace has := Lib.hid has; replace b9 := Lib.hid b9; replace B9 := Lib.hid B9
        go_wp2_with fail
        refine has.out.mono ?_
        rintro e w10 ⟨b10, v1, rfl, ho10⟩
        unfold fltV
        obtain ⟨w11, hw11, hR11, b11⟩ := flt_new w10 (.int .i64 0) (.int .i64 0) (.int .i64 0)
        have b911 := b10.trans (b11.mono b10.size)
        have B11 := B9.out.trans (b911.mono B9.out.size)
        have hla := labels_any FU m w11 (hE.out.later B11) (maxl_later hM.out B11) (hT.out.later B11) (by omega)
        rw [hr0.out, el.out] at hla
        replace ho10 : OutW w10 w9.heap.size 22 1 v1 PL (wi WS) := ho10
        have ho11 := ho10.later b11
        obtain ⟨ao1, ca1, rfl⟩ := ho11.form
        replace hla := Lib.hid hla; replace b911 := Lib.hid b911; replace B11 := Lib.hid B11; replace hR11 := Lib.hid hR11; replace ho11 := Lib.hid ho11; replace hw11 := Lib.hid hw11; replace b10 := Lib.hid b10; replace b11 := Lib.hid b11
        clear ho10 has
        go_upto_region 19 with fail
        rw [hw11.out]
        clear hw11
        go_wp2_with fail
        refine hla.out.mono ?_
        rintro e w12 ⟨b12, v2, rfl, ho12⟩
        unfold fltV
        obtain ⟨w13, hw13, hR13, b13⟩ := flt_new w12 (.int .i64 0) (.int .i64 0) (.int .i64 0)
        have b1113 := b12.trans (b13.mono b12.size)
        have B13 := B11.out.trans (b1113.mono B11.out.size)
        replace ho12 : OutW w12 w11.heap.size 44 2 v2 (k + 1) (lc (labsP ps (k + 1))) := ho12
        have hL13 := ho12.later b13
        have hW13 := (ho11.out.later b1113).rd
        have hP13 := ((hRdP.out.mono b9.out).mono b911.out).mono b1113
        have hR1 := (b1113.block _ (Array.getElem?_eq_some_iff.1 hR11.out).1).trans hR11.out
        have c0 : w13.cell? ⟨w10.heap.size, 0, none⟩ = some (.int .i64 0) := cell_of_row _ _ _ _ _ _ hR1
        have c1 : w13.cell? ⟨w12.heap.size, 0, none⟩ = some (.int .i64 0) := cell_of_row _ _ _ _ _ _ hR13
        obtain ⟨g2, cur2, rfl, hg2, hg3, hg4, hg5, hg6⟩ := hL13.2.resolve_left (by intro h; have := h.2; omega)
        have hE13 := hE.out.later B13
        have hnmj := fun (i : Nat) (hi : i ≤ k) W (hb : Below w13.heap.size w13 W) => lname_any i W (by omega) (pow10_later hE13.pk.p hb)
        replace hw13 := Lib.hid hw13; replace b1113 := Lib.hid b1113; replace B13 := Lib.hid B13; replace hL13 := Lib.hid hL13; replace hW13 := Lib.hid hW13; replace hP13 := Lib.hid hP13; replace hR1 := Lib.hid hR1; replace hR13 := Lib.hid hR13; replace b12 := Lib.hid b12; replace b13 := Lib.hid b13; replace hE13 := Lib.hid hE13; replace hnmj := Lib.hid hnmj; replace hg4 := Lib.hid hg4; replace hg6 := Lib.hid hg6; replace hg5 := Lib.hid hg5
        clear ho12 hla
        go_upto_region 20 with fail
        rw [hw13.out]
        clear hw13 he y1 y2 y3
        go_wp2_with fail
        clear c0 c1 g1 i1 i3
        go_loopw [16] (fun iv wl => ∃ i : Nat, i ≤ k + 1 ∧ iv = .int .i64 i ∧ Below w13.heap.size w13 wl) (fun iv _ => k + 1 - (intOf iv).toNat)
        case atStart => exact ⟨0, by omega, rfl, Below.refl _ _⟩
        case round =>
          obtain ⟨wp, rfl⟩ : ∃ wp, wp = wr := ⟨wr, rfl⟩
          obtain ⟨i, hi, rfl, bp⟩ := hrel
          by_cases hik : i ≤ k
          · have hpli := plc_le ps i
            obtain ⟨l0, l1⟩ := lc_at ps (k + 1) i (by omega)
            have hgl := (Array.getElem?_eq_some_iff.1 hg4.out).1
            have hgp := (bp.block g2 hgl).trans hg4.out
            have hLc : ∀ j u, (lc (labsP ps (k + 1)))[j]? = some u → wp.cell? ⟨g2, j, none⟩ = some u := fun j u hj => by
              have h0 := (List.getElem?_eq_some_iff.1 hj).1
              have h1 : (lc (labsP ps (k + 1))).length = (k + 1) * 2 := hL13.out.1
              rw [cell_of_row _ _ _ _ _ _ hgp]
              rw [← hg6.out, List.getElem?_take_of_lt (by omega)] at hj
              rw [← hj, Array.getElem?_toList]
            have x0 := hLc _ _ l0
            have x1 := hLc _ _ l1
            have hPp := hP13.out.mono bp
            obtain ⟨uo, uca, hue, hu1, hu2, hu3⟩ := rd_j hPp
            obtain ⟨ub, uf, hue2, hub, x2⟩ := hu3 i (by rw [plL_len]; omega)
            subst hue2
            simp only [Value.slice.injEq, Option.some.injEq, Addr.mk.injEq, and_true] at hue
            obtain ⟨⟨rfl, rfl⟩, hue9, rfl⟩ := hue
            clear hue9
            rw [plL_get ps k (k + 1) i hik, if_pos (by omega), Nat.zero_add] at x2
            have hnc := hnmj.out i hik
            obtain ⟨NM, hNM⟩ : ∃ S, strS (nmP i) = S := ⟨_, rfl⟩
            obtain ⟨PI, hPI⟩ : ∃ z, plc ps i = z := ⟨_, rfl⟩
            rw [hNM] at hnc x0
            rw [hPI] at x1 x2 hpli
            have hCl : C < wp.heap.size := hub
            have hg2l : g2 < wp.heap.size := (Array.getElem?_eq_some_iff.1 hgp).1
            have hS : ∀ w' : World, Below wp.heap.size wp w' → (Below wp.heap.size wp w' ∧ w'.cell? ⟨g2, i * 2, none⟩ = some (.string NM) ∧ w'.cell? ⟨g2, i * 2 + 1, none⟩ = some (.int .i64 (PI : Int)) ∧ w'.cell? ⟨C, i, none⟩ = some (.int .i64 (PI : Int))) := fun w' h =>
              ⟨h, by rw [h.cell (p := ⟨g2, i * 2, none⟩) hg2l]; exact x0, by rw [h.cell (p := ⟨g2, i * 2 + 1, none⟩) hg2l]; exact x1, by rw [h.cell (p := ⟨C, i, none⟩) hCl]; exact x2⟩
            have i1 : (0 : Int) ≤ (i : Int) := by omega
            have i2 : (i : Int) < ((k + 1 : Nat) : Int) := by omega
            have i3 : (i : Int) < (k : Int) + 1 := by omega
            have q1 : decide ((i : Int) ≤ (k : Int)) = true := decide_eq_true (by omega)
            replace hS := Lib.hid hS; replace hnc := Lib.hid hnc; replace hNM := Lib.hid hNM; replace hPI := Lib.hid hPI; replace hPp := Lib.hid hPp; replace bp := Lib.hid bp; replace hgp := Lib.hid hgp; replace l0 := Lib.hid l0; replace l1 := Lib.hid l1; replace hLc := Lib.hid hLc
            clear x0 x1 x2 hu3 hu1 hu2 hub
            go_upto_region 25 with fail
            refine wp_region_held_drew (S := (fun w' : World => Below wp.heap.size wp w' ∧ w'.cell? ⟨g2, i * 2, none⟩ = some (.string NM) ∧ w'.cell? ⟨g2, i * 2 + 1, none⟩ = some (.int .i64 (PI : Int)) ∧ w'.cell? ⟨C, i, none⟩ = some (.int .i64 (PI : Int)))) (by kernel_rfl) (hS.out _ (Below.drew (Below.refl _ _))) (fun hHeld => ?_)
            refine wpAnyH_take (i := 0) (v := ?v40) rfl (by kernel_rfl) (by kernel_rfl) (by kernel_rfl) (fun _ _ _ h => h) (Or.inl ⟨by rfl, ?h40⟩) (by assumption) ?r40
            case h40 =>
              intro w' hSw
              obtain ⟨hSb, hS0, hS1, hS2⟩ := hSw
              go_simp
              try with_reducible rfl
            try simp only [Act.put, List.getElem_toArray, List.getElem_cons_succ, List.getElem_cons_zero, List.setIfInBounds_toArray, List.set_cons_zero, List.set_cons_succ]
            refine wpAnyH_take (i := 1) (v := ?v41) rfl (by kernel_rfl) (by kernel_rfl) (by kernel_rfl) (fun _ _ _ h => h) (Or.inl ⟨by rfl, ?h41⟩) (by assumption) ?r41
            case h41 =>
              intro w' hSw
              obtain ⟨hSb, hS0, hS1, hS2⟩ := hSw
              go_simp
              try with_reducible rfl
            try simp only [Act.put, List.getElem_toArray, List.getElem_cons_succ, List.getElem_cons_zero, List.setIfInBounds_toArray, List.set_cons_zero, List.set_cons_succ]
            refine wpAnyH_take (i := 2) (v := ?v42) rfl (by kernel_rfl) (by kernel_rfl) (by kernel_rfl) (fun _ _ _ h => h) (Or.inl ⟨by rfl, ?h42⟩) (by assumption) ?r42
            case h42 =>
              intro w' hSw
              obtain ⟨hSb, hS0, hS1, hS2⟩ := hSw
              go_simp
              try with_reducible rfl
            try simp only [Act.put, List.getElem_toArray, List.getElem_cons_succ, List.getElem_cons_zero, List.setIfInBounds_toArray, List.set_cons_zero, List.set_cons_succ]
            refine wpAnyH_take (i := 3) (v := ?v43) rfl (by kernel_rfl) (by kernel_rfl) (by kernel_rfl) (fun _ _ _ h => h) (Or.inl ⟨by rfl, ?h43⟩) (by assumption) ?r43
            case h43 =>
              intro w' hSw
              obtain ⟨hSb, hS0, hS1, hS2⟩ := hSw
              go_simp
              try with_reducible rfl
            try simp only [Act.put, List.getElem_toArray, List.getElem_cons_succ, List.getElem_cons_zero, List.setIfInBounds_toArray, List.set_cons_zero, List.set_cons_succ]
            refine wpAnyH_take (i := 4) (v := ?v44) rfl (by kernel_rfl) (by kernel_rfl) (by kernel_rfl) (fun _ _ _ h => h) (Or.inl ⟨by rfl, ?h44⟩) (by assumption) ?r44
            case h44 =>
              intro w' hSw
              obtain ⟨hSb, hS0, hS1, hS2⟩ := hSw
              go_simp
              try with_reducible rfl
            try simp only [Act.put, List.getElem_toArray, List.getElem_cons_succ, List.getElem_cons_zero, List.setIfInBounds_toArray, List.set_cons_zero, List.set_cons_succ]
            refine wpAnyH_take (i := 5) (v := ?v45) rfl (by kernel_rfl) (by kernel_rfl) (by kernel_rfl) (fun _ _ _ h => h) (Or.inl ⟨by rfl, ?h45⟩) (by assumption) ?r45
            case h45 =>
              intro w' hSw
              obtain ⟨hSb, hS0, hS1, hS2⟩ := hSw
              go_simp
              try with_reducible rfl
            try simp only [Act.put, List.getElem_toArray, List.getElem_cons_succ, List.getElem_cons_zero, List.setIfInBounds_toArray, List.set_cons_zero, List.set_cons_succ]
            refine wpAnyH_ready (rs := [6]) (by kernel_rfl) (by simp) ?_
            refine AllReadyH.cons (o := _) rfl (fun K hK => ?step78) ?more78
            case step78 =>
              go_simp
              refine (hnc.out _ (bp.out.trans ((Below.drew (Below.refl _ _)).mono bp.out.size))).mono ?_
              rintro e w2 ⟨rfl, b2⟩
              have b22 := (Below.drew (Below.refl wp.heap.size wp)).trans (b2.mono (Nat.le_refl _))
              try dsimp only
              refine hK.out _ _ (hS.out _ b22) (fun hHeld => ?_)
              clear hK K
              try simp only [Act.put, List.getElem_toArray, List.getElem_cons_succ, List.getElem_cons_zero, List.setIfInBounds_toArray, List.set_cons_zero, List.set_cons_succ]
              refine wpAnyH_take (i := 7) (v := ?v46) rfl (by kernel_rfl) (by kernel_rfl) (by kernel_rfl) (fun _ _ _ h => h) (Or.inl ⟨by rfl, ?h46⟩) (by assumption) ?r46
              case h46 =>
                intro w' hSw
                obtain ⟨hSb, hS0, hS1, hS2⟩ := hSw
                go_simp
                try with_reducible rfl
              try simp only [Act.put, List.getElem_toArray, List.getElem_cons_succ, List.getElem_cons_zero, List.setIfInBounds_toArray, List.set_cons_zero, List.set_cons_succ]
              refine wpAnyH_take (i := 8) (v := ?v47) rfl (by kernel_rfl) (by kernel_rfl) (by kernel_rfl) (fun _ _ _ h => h) (Or.inl ⟨by rfl, ?h47⟩) (by assumption) ?r47
              case h47 =>
                intro w' hSw
                obtain ⟨hSb, hS0, hS1, hS2⟩ := hSw
                go_simp
                try with_reducible rfl
              try simp only [Act.put, List.getElem_toArray, List.getElem_cons_succ, List.getElem_cons_zero, List.setIfInBounds_toArray, List.set_cons_zero, List.set_cons_succ]
              refine wpAnyH_take (i := 9) (v := ?v48) rfl (by kernel_rfl) (by kernel_rfl) (by kernel_rfl) (fun _ _ _ h => h) (Or.inl ⟨by rfl, ?h48⟩) (by assumption) ?r48
              case h48 =>
                intro w' hSw
                obtain ⟨hSb, hS0, hS1, hS2⟩ := hSw
                go_simp
                try with_reducible rfl
              try simp only [Act.put, List.getElem_toArray, List.getElem_cons_succ, List.getElem_cons_zero, List.setIfInBounds_toArray, List.set_cons_zero, List.set_cons_succ]
              refine wpAnyH_take (i := 10) (v := ?v49) rfl (by kernel_rfl) (by kernel_rfl) (by kernel_rfl) (fun _ _ _ h => h) (Or.inl ⟨by rfl, ?h49⟩) (by assumption) ?r49
              case h49 =>
                intro w' hSw
                obtain ⟨hSb, hS0, hS1, hS2⟩ := hSw
                go_simp
                try with_reducible rfl
              try simp only [Act.put, List.getElem_toArray, List.getElem_cons_succ, List.getElem_cons_zero, List.setIfInBounds_toArray, List.set_cons_zero, List.set_cons_succ]
              refine wpAnyH_take (i := 11) (v := ?v50) rfl (by kernel_rfl) (by kernel_rfl) (by kernel_rfl) (fun _ _ _ h => h) (Or.inl ⟨by rfl, ?h50⟩) (by assumption) ?r50
              case h50 =>
                intro w' hSw
                obtain ⟨hSb, hS0, hS1, hS2⟩ := hSw
                go_simp
                try with_reducible rfl
              try simp only [Act.put, List.getElem_toArray, List.getElem_cons_succ, List.getElem_cons_zero, List.setIfInBounds_toArray, List.set_cons_zero, List.set_cons_succ]
              refine wpAnyH_take (i := 12) (v := ?v51) rfl (by kernel_rfl) (by kernel_rfl) (by kernel_rfl) (fun _ _ _ h => h) (Or.inl ⟨by rfl, ?h51⟩) (by assumption) ?r51
              case h51 =>
                intro w' hSw
                obtain ⟨hSb, hS0, hS1, hS2⟩ := hSw
                go_simp
                try with_reducible rfl
              try simp only [Act.put, List.getElem_toArray, List.getElem_cons_succ, List.getElem_cons_zero, List.setIfInBounds_toArray, List.set_cons_zero, List.set_cons_succ]
              refine wpAnyH_take (i := 13) (v := ?v52) rfl (by kernel_rfl) (by kernel_rfl) (by kernel_rfl) (fun _ _ _ h => h) (Or.inl ⟨by rfl, ?h52⟩) (by assumption) ?r52
              case h52 =>
                intro w' hSw
                obtain ⟨hSb, hS0, hS1, hS2⟩ := hSw
                go_simp
                try with_reducible rfl
              try simp only [Act.put, List.getElem_toArray, List.getElem_cons_succ, List.getElem_cons_zero, List.setIfInBounds_toArray, List.set_cons_zero, List.set_cons_succ]
              refine wpAnyH_take (i := 14) (v := ?v53) rfl (by kernel_rfl) (by kernel_rfl) (by kernel_rfl) (fun _ _ _ h => h) (Or.inl ⟨by rfl, ?h53⟩) (by assumption) ?r53
              case h53 =>
                intro w' hSw
                obtain ⟨hSb, hS0, hS1, hS2⟩ := hSw
                go_simp
                try with_reducible rfl
              try simp only [Act.put, List.getElem_toArray, List.getElem_cons_succ, List.getElem_cons_zero, List.setIfInBounds_toArray, List.set_cons_zero, List.set_cons_succ]
              refine wpAnyH_take (i := 15) (v := ?v54) rfl (by kernel_rfl) (by kernel_rfl) (by kernel_rfl) (fun _ _ _ h => h) (Or.inl ⟨by rfl, ?h54⟩) (by assumption) ?r54
              case h54 =>
                intro w' hSw
                obtain ⟨hSb, hS0, hS1, hS2⟩ := hSw
                go_simp
                try with_reducible rfl
              try simp only [Act.put, List.getElem_toArray, List.getElem_cons_succ, List.getElem_cons_zero, List.setIfInBounds_toArray, List.set_cons_zero, List.set_cons_succ]
              refine wpAnyH_take (i := 16) (v := ?v55) rfl (by kernel_rfl) (by kernel_rfl) (by kernel_rfl) (fun _ _ _ h => h) (Or.inl ⟨by rfl, ?h55⟩) (by assumption) ?r55
              case h55 =>
                intro w' hSw
                obtain ⟨hSb, hS0, hS1, hS2⟩ := hSw
                go_simp
                try with_reducible rfl
              try simp only [Act.put, List.getElem_toArray, List.getElem_cons_succ, List.getElem_cons_zero, List.setIfInBounds_toArray, List.set_cons_zero, List.set_cons_succ]
              refine wpAnyH_take (i := 17) (v := ?v56) rfl (by kernel_rfl) (by kernel_rfl) (by kernel_rfl) (fun _ _ _ h => h) (Or.inl ⟨by rfl, ?h56⟩) (by assumption) ?r56
              case h56 =>
                intro w' hSw
                obtain ⟨hSb, hS0, hS1, hS2⟩ := hSw
                go_simp
                try with_reducible rfl
              try simp only [Act.put, List.getElem_toArray, List.getElem_cons_succ, List.getElem_cons_zero, List.setIfInBounds_toArray, List.set_cons_zero, List.set_cons_succ]
              refine wpAnyH_take (i := 18) (v := ?v57) rfl (by kernel_rfl) (by kernel_rfl) (by kernel_rfl) (fun _ _ _ h => h) (Or.inl ⟨by rfl, ?h57⟩) (by assumption) ?r57
              case h57 =>
                intro w' hSw
                obtain ⟨hSb, hS0, hS1, hS2⟩ := hSw
                go_simp
                try with_reducible rfl
              try simp only [Act.put, List.getElem_toArray, List.getElem_cons_succ, List.getElem_cons_zero, List.setIfInBounds_toArray, List.set_cons_zero, List.set_cons_succ]
              refine wpAnyH_take (i := 19) (v := ?v58) rfl (by kernel_rfl) (by kernel_rfl) (by kernel_rfl) (fun _ _ _ h => h) (Or.inl ⟨by rfl, ?h58⟩) (by assumption) ?r58
              case h58 =>
                intro w' hSw
                obtain ⟨hSb, hS0, hS1, hS2⟩ := hSw
                go_simp
                try with_reducible rfl
              try simp only [Act.put, List.getElem_toArray, List.getElem_cons_succ, List.getElem_cons_zero, List.setIfInBounds_toArray, List.set_cons_zero, List.set_cons_succ]
              refine wpAnyH_done (by kernel_rfl) ?_ _
              have bq := bp.out.trans (b22.mono bp.out.size)
              have x2 := (hS.out _ b22).2.2.2
              replace bq := Lib.hid bq; replace b22 := Lib.hid b22; replace b2 := Lib.hid b2
              clear hHeld
              go_upto_region 27 with fail
              by_cases hik2 : i < k
              · obtain ⟨pb, po, hpo, hpl, hpc⟩ := hv.out i (by omega)
                first | subst hpo | (simp only [Option.some.injEq, Addr.mk.injEq, and_true] at hpo; obtain ⟨rfl, rfl⟩ := hpo)
                have htoi : toP k (ps i) ≤ k := by have := md_lt (ps i).tgt (k + 1) (by omega); unfold toP; omega
                have hrt := fun W (hb : Below w2.heap.size w2 W) => right_any (ps i) k (.slice ao1 PL ca1) (.slice (some ⟨C, 0, none⟩) (k + 1) (k + 1)) WS (plL ps k (k + 1)) (plc ps i) (plc ps (toP k (ps i))) base W (hok.out i (by omega)) hn3 (hE13.out.later (bq.out.trans (hb.mono bq.out.size))).tabs (hW13.out.mono (bq.out.trans (hb.mono bq.out.size))) (hP13.out.mono (bq.out.trans (hb.mono bq.out.size))) (plL_len ps k (k + 1)) (by rw [plL_get ps k (k + 1) _ htoi, if_pos (by omega)]) (by have := plc_le ps (toP k (ps i)); omega) (by have := plc_le ps i; omega) (by rw [hWl.out]; exact plc_end ps hik2) (fun j hj => hWat.out i j hik2 hj) nb
                have BW : Below w.heap.size w w2 := B13.out.trans (bq.out.mono B13.out.size)
                obtain ⟨p, hp⟩ : ∃ p, ps i = p := ⟨_, rfl⟩
                rw [hp] at hpc
                rw [hPI.out] at hrt
                simp only [hp] at hrt
                obtain ⟨pk, pa, pc, pt, pv⟩ := p
                unfold pcV pcC at hrt
                simp only at hrt
                have hS27 : ∀ w' : World, Below w2.heap.size w2 w' → (Below w2.heap.size w2 w' ∧ w'.cell? ⟨pb, po + i * 5, none⟩ = some (.int .i64 pk) ∧ w'.cell? ⟨pb, po + i * 5 + 1, none⟩ = some (.int .i64 pa) ∧ w'.cell? ⟨pb, po + i * 5 + 2, none⟩ = some (.int .i64 pc) ∧ w'.cell? ⟨pb, po + i * 5 + 3, none⟩ = some (.int .i64 pt) ∧ w'.cell? ⟨pb, po + i * 5 + 4, none⟩ = some (.int .u32 (pv : Int)) ∧ w'.cell? ⟨C, i, none⟩ = some (.int .i64 (PI : Int))) := fun w' h => by
                  have hbw : Below w.heap.size w w' := BW.trans (h.mono BW.size)
                  exact ⟨h, by rw [hbw.cell (p := ⟨pb, po + i * 5, none⟩) hpl]; exact hpc 0 _ rfl, by rw [hbw.cell (p := ⟨pb, po + i * 5 + 1, none⟩) hpl]; exact hpc 1 _ rfl, by rw [hbw.cell (p := ⟨pb, po + i * 5 + 2, none⟩) hpl]; exact hpc 2 _ rfl, by rw [hbw.cell (p := ⟨pb, po + i * 5 + 3, none⟩) hpl]; exact hpc 3 _ rfl, by rw [hbw.cell (p := ⟨pb, po + i * 5 + 4, none⟩) hpl]; exact hpc 4 _ rfl, by rw [h.cell (p := ⟨C, i, none⟩) (Nat.lt_of_lt_of_le hCl b22.out.size)]; exact x2⟩
                have q2 : decide ((i : Int) < (k : Int)) = true := decide_eq_true (by omega)
                have i4 : (i : Int) < (k : Int) := by omega
                replace hrt := Lib.hid hrt; replace hS27 := Lib.hid hS27; replace hp := Lib.hid hp; replace hpc := Lib.hid hpc; replace BW := Lib.hid BW
                clear x2
                refine wp_region_held_drew (S := (fun w' : World => Below w2.heap.size w2 w' ∧ w'.cell? ⟨pb, po + i * 5, none⟩ = some (.int .i64 pk) ∧ w'.cell? ⟨pb, po + i * 5 + 1, none⟩ = some (.int .i64 pa) ∧ w'.cell? ⟨pb, po + i * 5 + 2, none⟩ = some (.int .i64 pc) ∧ w'.cell? ⟨pb, po + i * 5 + 3, none⟩ = some (.int .i64 pt) ∧ w'.cell? ⟨pb, po + i * 5 + 4, none⟩ = some (.int .u32 (pv : Int)) ∧ w'.cell? ⟨C, i, none⟩ = some (.int .i64 (PI : Int)))) (by kernel_rfl) (hS27.out _ (Below.drew (Below.refl _ _))) (fun hHeld => ?_)
                refine wpAnyH_take (i := 0) (v := ?v59) rfl (by kernel_rfl) (by kernel_rfl) (by kernel_rfl) (fun _ _ _ h => h) (Or.inl ⟨by rfl, ?h59⟩) (by assumption) ?r59
                case h59 =>
                  intro w' hSw
                  obtain ⟨hSb, hS0, hS1, hS2, hS3, hS4, hS5⟩ := hSw
                  go_simp
                  try with_reducible rfl
                try simp only [Act.put, List.getElem_toArray, List.getElem_cons_succ, List.getElem_cons_zero, List.setIfInBounds_toArray, List.set_cons_zero, List.set_cons_succ]
                refine wpAnyH_take (i := 1) (v := ?v60) rfl (by kernel_rfl) (by kernel_rfl) (by kernel_rfl) (fun _ _ _ h => h) (Or.inl ⟨by rfl, ?h60⟩) (by assumption) ?r60
                case h60 =>
                  intro w' hSw
                  obtain ⟨hSb, hS0, hS1, hS2, hS3, hS4, hS5⟩ := hSw
                  go_simp
                  try with_reducible rfl
                try simp only [Act.put, List.getElem_toArray, List.getElem_cons_succ, List.getElem_cons_zero, List.setIfInBounds_toArray, List.set_cons_zero, List.set_cons_succ]
                refine wpAnyH_take (i := 2) (v := ?v61) rfl (by kernel_rfl) (by kernel_rfl) (by kernel_rfl) (fun _ _ _ h => h) (Or.inl ⟨by rfl, ?h61⟩) (by assumption) ?r61
                case h61 =>
                  intro w' hSw
                  obtain ⟨hSb, hS0, hS1, hS2, hS3, hS4, hS5⟩ := hSw
                  go_simp
                  try with_reducible rfl
                try simp only [Act.put, List.getElem_toArray, List.getElem_cons_succ, List.getElem_cons_zero, List.setIfInBounds_toArray, List.set_cons_zero, List.set_cons_succ]
                refine wpAnyH_take (i := 3) (v := ?v62) rfl (by kernel_rfl) (by kernel_rfl) (by kernel_rfl) (fun _ _ _ h => h) (Or.inl ⟨by rfl, ?h62⟩) (by assumption) ?r62
                case h62 =>
                  intro w' hSw
                  obtain ⟨hSb, hS0, hS1, hS2, hS3, hS4, hS5⟩ := hSw
                  go_simp
                  try with_reducible rfl
                try simp only [Act.put, List.getElem_toArray, List.getElem_cons_succ, List.getElem_cons_zero, List.setIfInBounds_toArray, List.set_cons_zero, List.set_cons_succ]
                refine wpAnyH_take (i := 4) (v := ?v63) rfl (by kernel_rfl) (by kernel_rfl) (by kernel_rfl) (fun _ _ _ h => h) (Or.inl ⟨by rfl, ?h63⟩) (by assumption) ?r63
                case h63 =>
                  intro w' hSw
                  obtain ⟨hSb, hS0, hS1, hS2, hS3, hS4, hS5⟩ := hSw
                  go_simp
                  try with_reducible rfl
                try simp only [Act.put, List.getElem_toArray, List.getElem_cons_succ, List.getElem_cons_zero, List.setIfInBounds_toArray, List.set_cons_zero, List.set_cons_succ]
                refine wpAnyH_take (i := 5) (v := ?v64) rfl (by kernel_rfl) (by kernel_rfl) (by kernel_rfl) (fun _ _ _ h => h) (Or.inl ⟨by rfl, ?h64⟩) (by assumption) ?r64
                case h64 =>
                  intro w' hSw
                  obtain ⟨hSb, hS0, hS1, hS2, hS3, hS4, hS5⟩ := hSw
                  go_simp
                  try with_reducible rfl
                try simp only [Act.put, List.getElem_toArray, List.getElem_cons_succ, List.getElem_cons_zero, List.setIfInBounds_toArray, List.set_cons_zero, List.set_cons_succ]
                refine wpAnyH_take (i := 6) (v := ?v65) rfl (by kernel_rfl) (by kernel_rfl) (by kernel_rfl) (fun _ _ _ h => h) (Or.inl ⟨by rfl, ?h65⟩) (by assumption) ?r65
                case h65 =>
                  intro w' hSw
                  obtain ⟨hSb, hS0, hS1, hS2, hS3, hS4, hS5⟩ := hSw
                  go_simp
                  try with_reducible rfl
                try simp only [Act.put, List.getElem_toArray, List.getElem_cons_succ, List.getElem_cons_zero, List.setIfInBounds_toArray, List.set_cons_zero, List.set_cons_succ]
                refine wpAnyH_take (i := 7) (v := ?v66) rfl (by kernel_rfl) (by kernel_rfl) (by kernel_rfl) (fun _ _ _ h => h) (Or.inl ⟨by rfl, ?h66⟩) (by assumption) ?r66
                case h66 =>
                  intro w' hSw
                  obtain ⟨hSb, hS0, hS1, hS2, hS3, hS4, hS5⟩ := hSw
                  go_simp
                  try with_reducible rfl
                try simp only [Act.put, List.getElem_toArray, List.getElem_cons_succ, List.getElem_cons_zero, List.setIfInBounds_toArray, List.set_cons_zero, List.set_cons_succ]
                refine wpAnyH_take (i := 8) (v := ?v67) rfl (by kernel_rfl) (by kernel_rfl) (by kernel_rfl) (fun _ _ _ h => h) (Or.inl ⟨by rfl, ?h67⟩) (by assumption) ?r67
                case h67 =>
                  intro w' hSw
                  obtain ⟨hSb, hS0, hS1, hS2, hS3, hS4, hS5⟩ := hSw
                  go_simp
                  try with_reducible rfl
                try simp only [Act.put, List.getElem_toArray, List.getElem_cons_succ, List.getElem_cons_zero, List.setIfInBounds_toArray, List.set_cons_zero, List.set_cons_succ]
                refine wpAnyH_take (i := 9) (v := ?v68) rfl (by kernel_rfl) (by kernel_rfl) (by kernel_rfl) (fun _ _ _ h => h) (Or.inl ⟨by rfl, ?h68⟩) (by assumption) ?r68
                case h68 =>
                  intro w' hSw
                  obtain ⟨hSb, hS0, hS1, hS2, hS3, hS4, hS5⟩ := hSw
                  go_simp
                  try with_reducible rfl
                try simp only [Act.put, List.getElem_toArray, List.getElem_cons_succ, List.getElem_cons_zero, List.setIfInBounds_toArray, List.set_cons_zero, List.set_cons_succ]
                refine wpAnyH_take (i := 10) (v := ?v69) rfl (by kernel_rfl) (by kernel_rfl) (by kernel_rfl) (fun _ _ _ h => h) (Or.inl ⟨by rfl, ?h69⟩) (by assumption) ?r69
                case h69 =>
                  intro w' hSw
                  obtain ⟨hSb, hS0, hS1, hS2, hS3, hS4, hS5⟩ := hSw
                  go_simp
                  try with_reducible rfl
                try simp only [Act.put, List.getElem_toArray, List.getElem_cons_succ, List.getElem_cons_zero, List.setIfInBounds_toArray, List.set_cons_zero, List.set_cons_succ]
                refine wpAnyH_take (i := 11) (v := ?v70) rfl (by kernel_rfl) (by kernel_rfl) (by kernel_rfl) (fun _ _ _ h => h) (Or.inl ⟨by rfl, ?h70⟩) (by assumption) ?r70
                case h70 =>
                  intro w' hSw
                  obtain ⟨hSb, hS0, hS1, hS2, hS3, hS4, hS5⟩ := hSw
                  go_simp
                  try with_reducible rfl
                try simp only [Act.put, List.getElem_toArray, List.getElem_cons_succ, List.getElem_cons_zero, List.setIfInBounds_toArray, List.set_cons_zero, List.set_cons_succ]
                refine wpAnyH_take (i := 12) (v := ?v71) rfl (by kernel_rfl) (by kernel_rfl) (by kernel_rfl) (fun _ _ _ h => h) (Or.inl ⟨by rfl, ?h71⟩) (by assumption) ?r71
                case h71 =>
                  intro w' hSw
                  obtain ⟨hSb, hS0, hS1, hS2, hS3, hS4, hS5⟩ := hSw
                  go_simp
                  try with_reducible rfl
                try simp only [Act.put, List.getElem_toArray, List.getElem_cons_succ, List.getElem_cons_zero, List.setIfInBounds_toArray, List.set_cons_zero, List.set_cons_succ]
                refine wpAnyH_take (i := 13) (v := ?v72) rfl (by kernel_rfl) (by kernel_rfl) (by kernel_rfl) (fun _ _ _ h => h) (Or.inl ⟨by rfl, ?h72⟩) (by assumption) ?r72
                case h72 =>
                  intro w' hSw
                  obtain ⟨hSb, hS0, hS1, hS2, hS3, hS4, hS5⟩ := hSw
                  go_simp
                  try with_reducible rfl
                try simp only [Act.put, List.getElem_toArray, List.getElem_cons_succ, List.getElem_cons_zero, List.setIfInBounds_toArray, List.set_cons_zero, List.set_cons_succ]
                refine wpAnyH_take (i := 14) (v := ?v73) rfl (by kernel_rfl) (by kernel_rfl) (by kernel_rfl) (fun _ _ _ h => h) (Or.inl ⟨by rfl, ?h73⟩) (by assumption) ?r73
                case h73 =>
                  intro w' hSw
                  obtain ⟨hSb, hS0, hS1, hS2, hS3, hS4, hS5⟩ := hSw
                  go_simp
                  try with_reducible rfl
                try simp only [Act.put, List.getElem_toArray, List.getElem_cons_succ, List.getElem_cons_zero, List.setIfInBounds_toArray, List.set_cons_zero, List.set_cons_succ]
                refine wpAnyH_take (i := 15) (v := ?v74) rfl (by kernel_rfl) (by kernel_rfl) (by kernel_rfl) (fun _ _ _ h => h) (Or.inl ⟨by rfl, ?h74⟩) (by assumption) ?r74
                case h74 =>
                  intro w' hSw
                  obtain ⟨hSb, hS0, hS1, hS2, hS3, hS4, hS5⟩ := hSw
                  go_simp
                  try with_reducible rfl
                try simp only [Act.put, List.getElem_toArray, List.getElem_cons_succ, List.getElem_cons_zero, List.setIfInBounds_toArray, List.set_cons_zero, List.set_cons_succ]
                refine wpAnyH_ready (rs := [16]) (by kernel_rfl) (by simp) ?_
                refine AllReadyH.cons (o := _) rfl (fun K hK => ?step77) ?more77
                case step77 =>
                  go_simp
                  refine (hrt.out _ (Below.drew (Below.refl _ _))).mono ?_
                  rintro e w3 ⟨rfl, b3⟩
                  have b33 := (Below.drew (Below.refl w2.heap.size w2)).trans (b3.mono (Nat.le_refl _))
                  try dsimp only
                  refine hK.out _ _ (hS27.out _ b33) (fun hHeld => ?_)
                  clear hK K
                  try simp only [Act.put, List.getElem_toArray, List.getElem_cons_succ, List.getElem_cons_zero, List.setIfInBounds_toArray, List.set_cons_zero, List.set_cons_succ]
                  refine wpAnyH_take (i := 17) (v := ?v75) rfl (by kernel_rfl) (by kernel_rfl) (by kernel_rfl) (fun _ _ _ h => h) (Or.inl ⟨by rfl, ?h75⟩) (by assumption) ?r75
                  case h75 =>
                    intro w' hSw
                    obtain ⟨hSb, hS0, hS1, hS2, hS3, hS4, hS5⟩ := hSw
                    go_simp
                    try with_reducible rfl
                  try simp only [Act.put, List.getElem_toArray, List.getElem_cons_succ, List.getElem_cons_zero, List.setIfInBounds_toArray, List.set_cons_zero, List.set_cons_succ]
                  refine wpAnyH_take (i := 18) (v := ?v76) rfl (by kernel_rfl) (by kernel_rfl) (by kernel_rfl) (fun _ _ _ h => h) (Or.inl ⟨by rfl, ?h76⟩) (by assumption) ?r76
                  case h76 =>
                    intro w' hSw
                    obtain ⟨hSb, hS0, hS1, hS2, hS3, hS4, hS5⟩ := hSw
                    go_simp
                    try with_reducible rfl
                  try simp only [Act.put, List.getElem_toArray, List.getElem_cons_succ, List.getElem_cons_zero, List.setIfInBounds_toArray, List.set_cons_zero, List.set_cons_succ]
                  refine wpAnyH_done (by kernel_rfl) ?_ _
                  have bE := bq.out.trans (b33.mono bq.out.size)
                  clear hS hS27 hrt
                  replace bE := Lib.hid bE
                  go_wp2_with fail
                  go_roundw
                  case rel => exact ⟨i + 1, by omega, by go_num, bE.out⟩
                  case measure => simp [intOf]; omega
                exact AllReadyH.nil
              · have q2 : decide ((i : Int) < (k : Int)) = false := decide_eq_false (by omega)
                clear x2
                go_quiet (fail)
                have bE := below_dn bq.out nq
                replace bE := Lib.hid bE
                go_wp2_with fail
                go_roundw
                case rel => exact ⟨i + 1, by omega, by go_num, bE.out⟩
                case measure => simp [intOf]; omega
            exact AllReadyH.nil
          · have q1 : decide ((i : Int) ≤ (k : Int)) = false := decide_eq_false (by omega)
            have BF := B13.out.trans (bp.mono B13.out.size)
            replace BF := Lib.hid BF; replace bp := Lib.hid bp
            go_wp2_with fail
            go_ret
            exact ⟨rfl, BF.out⟩
end Go.Proofs.YtiknookfnameiaaGreatDoor
