/- The contract of AsmLands' line (printed by genMLn.py). -/
import Derived.Test.YtiknookfnameiaaGreatDoorJn43
import Derived.Deep.CutRange
import Derived.Deep.RegionHeld3
namespace Go.Proofs.YtiknookfnameiaaGreatDoor
open Go.RowKit WP
set_option linter.unusedSimpArgs false
set_option linter.unusedVariables false
theorem stTx_size (n : Nat) (p : Piece) (q : Nat) (h : md p.kind 5 = q) : q < 5 := by rw [← h]; exact md_lt _ _ (by decide)
set_option maxRecDepth 100000 in
set_option maxHeartbeats 4000000 in
theorem lline_any (p : Piece) (n : Nat) (w : World) (hp : PieceOk p) (hn : n ≤ 300) (hP : Pow10 w) (hT : Tabs w) :
    Calls Tryz.prog 16 #[pcV p, .int .i64 (n : Int)] w fun e w' => e = .returned (.tuple #[.string (strS (joinW (stTx n p))), .int .i64 (szP p : Int)]) ∧ Below w.heap.size w w' := by
  have hto : toP n p ≤ 300 := by have := md_lt p.tgt (n + 1) (by omega); unfold toP; omega
  have ha15 := md_lt p.a 15 (by decide)
  have hc7 := md_lt p.cond 7 (by decide)
  have hk5 := md_lt p.kind 5 (by decide)
  obtain ⟨w1, hw1⟩ : ∃ w1, w.alloc (.cells (pcC p) 52) = w1 := ⟨_, rfl⟩
  have b1 : Below w.heap.size w w1 := by rw [← hw1]; exact (Below.refl _ _).alloc (Nat.le_refl _) _
  have hB : w1.heap[w.heap.size]? = some (.cells (pcC p) 52 (0, 0)) := by rw [← hw1]; exact heap_alloc_new w _
  have hP1 := pow10_later hP b1
  have hT1 := hT.later b1
  have hwt := fun W => lwithin_any p.tgt n W hp.t (by omega)
  have hwa := fun W => lwithin_any p.a 14 W hp.a (by decide)
  have hwk := fun W => lwithin_any p.kind 4 W hp.k (by decide)
  have hwc := fun W => lwithin_any p.cond 6 W hp.c (by decide)
  have hnm := fun W (hb : Below w1.heap.size w1 W) => lname_any (toP n p) W (by omega) (pow10_later hP1 hb)
  have hta := fun W (hb : Below w1.heap.size w1 W) => tens_any (md p.a 15) (by omega) W (pow10_later hP1 hb)
  have htv := fun W (hb : Below w1.heap.size w1 W) => tens_any p.v hp.v W (pow10_later hP1 hb)
  have htz := fun W (hb : Below w1.heap.size w1 W) => tens_any (p.v % 4) (by omega) W (pow10_later hP1 hb)
  have hhx := fun W => hexedP_any (p.v : Int) W (by omega) (by have := hp.v; omega)
  have hcn := fun W (hb : Below w1.heap.size w1 W) => cond_any (md p.cond 7) W (hT1.later hb)
  have z1 : ByteArray.size ⟨(Lib.decDigits (md p.a 15)).toArray⟩ ≤ 10 := by rw [ByteArray.size]; have := (decP_len (md p.a 15) (by omega)).2; simpa using this
  have z2 : ByteArray.size ⟨(Lib.decDigits p.v).toArray⟩ ≤ 10 := by rw [ByteArray.size]; have := (decP_len p.v hp.v).2; simpa using this
  have z3 : ByteArray.size ⟨(Lib.decDigits (p.v % 4)).toArray⟩ ≤ 10 := by rw [ByteArray.size]; have := (decP_len (p.v % 4) (by omega)).2; simpa using this
  have z4 : (strS (nmP (toP n p))).size ≤ 5 := by rw [strS_size]; exact (nmP_ok _ (by omega)).2.2
  have z5 : (hexTP (p.v : Int)).size = 10 := by unfold hexTP; rw [strS_size]; simp [hx8P_len]
  have z6 : (strS (condI (md p.cond 7 : Nat))).size ≤ 6 := by
    rw [strS_size]
    have : ∀ m : Fin 7, (condI (m.val : Nat)).length ≤ 6 := by decide
    exact this ⟨md p.cond 7, hc7⟩
  obtain ⟨S, hS⟩ : ∃ S, strS (joinW (stTx n p)) = S := ⟨_, rfl⟩
  have hSz : szP p ≤ 3 := szP_le p
  obtain ⟨Z, hZ⟩ : ∃ Z, szP p = Z := ⟨_, rfl⟩
  have eS := hS
  have eZ := hZ
  unfold stTx at eS
  unfold szP at eZ
  rw [hS, hZ]
  clear hS hZ
  have hodd : (odd p = true → ¬ p.a.tmod 2 = 0) ∧ (odd p = false → p.a.tmod 2 = 0) := by
    unfold odd
    constructor
    · intro h; rw [decide_eq_true_eq] at h; rw [Int.tmod_eq_emod]; split <;> omega
    · intro h; rw [decide_eq_false_iff_not] at h; rw [Int.tmod_eq_emod]; split <;> omega
  obtain ⟨o, ho⟩ : ∃ o, odd p = o := ⟨_, rfl⟩
  rw [ho] at eS hodd
  clear ho
  obtain ⟨pk, pa, pc, pt, pv⟩ := p
  have hv := hp.v
  obtain ⟨hpa1, hpa2⟩ := hp.a
  simp only [pcC, pcV, toP] at *
  obtain ⟨tt, hto'⟩ : ∃ tt, md pt (n + 1) = tt := ⟨_, rfl⟩
  obtain ⟨a, ha'⟩ : ∃ a, md pa 15 = a := ⟨_, rfl⟩
  obtain ⟨c, hc'⟩ : ∃ c, md pc 7 = c := ⟨_, rfl⟩
  obtain ⟨q, hq'⟩ : ∃ q, md pk 5 = q := ⟨_, rfl⟩
  rw [show md pa (14 + 1) = md pa 15 from rfl] at hwa
  rw [show md pk (4 + 1) = md pk 5 from rfl] at hwk
  rw [show md pc (6 + 1) = md pc 7 from rfl] at hwc
  rw [ha'] at hwa hta z1 eS ha15
  rw [hto'] at hwt hnm z4 eS hto
  rw [hq'] at hwk eS eZ hk5
  rw [hc'] at hwc hcn z6 eS hc7
  clear hto' ha' hq' hc'
  have u1 : IntKind.u32.wrap (a : Int) = (a : Int) := by rw [IntKind.wrap_u32]; omega
  obtain ⟨zz, hzz⟩ : ∃ zz, pv % 4 = zz := ⟨_, rfl⟩
  rw [hzz] at eS eZ htz z3
  have hz4 : zz < 4 := by omega
  have m1 : (pv : Int).tmod 4 = (zz : Int) := by rw [Int.tmod_eq_emod_of_nonneg (by omega)]; omega
  replace hzz := Lib.hid hzz
  obtain ⟨DA, hDA⟩ : ∃ D : ByteArray, (⟨(Lib.decDigits a).toArray⟩ : ByteArray) = D := ⟨_, rfl⟩
  obtain ⟨DV, hDV⟩ : ∃ D : ByteArray, (⟨(Lib.decDigits pv).toArray⟩ : ByteArray) = D := ⟨_, rfl⟩
  obtain ⟨DZ, hDZ⟩ : ∃ D : ByteArray, (⟨(Lib.decDigits zz).toArray⟩ : ByteArray) = D := ⟨_, rfl⟩
  obtain ⟨TO, hTO⟩ : ∃ D : ByteArray, strS (nmP tt) = D := ⟨_, rfl⟩
  obtain ⟨HX, hHX⟩ : ∃ D : ByteArray, hexTP (pv : Int) = D := ⟨_, rfl⟩
  obtain ⟨CN, hCN⟩ : ∃ D : ByteArray, strS (condI (c : Int)) = D := ⟨_, rfl⟩
  simp only [hDA, hDV, hDZ, hTO, hHX, hCN] at hta htv htz hnm hhx hcn z1 z2 z3 z4 z5 z6
  have y1 : ¬ (9223372036854775807 < 1 + DA.size) := by omega
  have k1 : w1.cell? ⟨w.heap.size, 0, none⟩ = some (.int .i64 pk) := cell_of_row _ _ _ _ _ _ hB
  have k2 : w1.cell? ⟨w.heap.size, 1, none⟩ = some (.int .i64 pa) := cell_of_row _ _ _ _ _ _ hB
  have k3 : w1.cell? ⟨w.heap.size, 2, none⟩ = some (.int .i64 pc) := cell_of_row _ _ _ _ _ _ hB
  have k4 : w1.cell? ⟨w.heap.size, 3, none⟩ = some (.int .i64 pt) := cell_of_row _ _ _ _ _ _ hB
  have hlt := (Array.getElem?_eq_some_iff.1 hB).1
  replace hB := Lib.hid hB; replace b1 := Lib.hid b1; replace hwt := Lib.hid hwt; replace hwa := Lib.hid hwa; replace hwk := Lib.hid hwk; replace hwc := Lib.hid hwc; replace hnm := Lib.hid hnm; replace hta := Lib.hid hta; replace htv := Lib.hid htv; replace htz := Lib.hid htz; replace hhx := Lib.hid hhx; replace hcn := Lib.hid hcn; replace hp := Lib.hid hp; replace eS := Lib.hid eS; replace eZ := Lib.hid eZ
  replace hDA := Lib.hid hDA; replace hDV := Lib.hid hDV; replace hDZ := Lib.hid hDZ; replace hTO := Lib.hid hTO; replace hHX := Lib.hid hHX; replace hCN := Lib.hid hCN; replace hP1 := Lib.hid hP1; replace hT1 := Lib.hid hT1
  clear hP hT
  go_enter Tryz.func16, Tryz.ntmps16
  go_upto_region 1 with fail
  try (change Code.wp _ _ _ _ (w.alloc (.cells #[.int .i64 pk, .int .i64 pa, .int .i64 pc, .int .i64 pt, .int .u32 (pv : Int)] 52)); rw [hw1])
  clear hw1
  go_wp2_with fail
  refine (hwt.out _).mono ?_
  rintro e wz ⟨rfl, hwz⟩
  rw [hwz]; clear hwz wz
  go_wp2_with fail
  refine (hnm.out _ (Below.refl _ _)).mono ?_
  rintro e w2 ⟨rfl, b2⟩
  have hB2 := (b2.block _ hlt).trans hB.out
  clear k1 k2 k3 k4
  have k1 : w2.cell? ⟨w.heap.size, 0, none⟩ = some (.int .i64 pk) := cell_of_row _ _ _ _ _ _ hB2
  have k2 : w2.cell? ⟨w.heap.size, 1, none⟩ = some (.int .i64 pa) := cell_of_row _ _ _ _ _ _ hB2
  replace b2 := Lib.hid b2; replace hB2 := Lib.hid hB2
  go_wp2_with fail
  refine (hwa.out _).mono ?_
  rintro e wz ⟨rfl, hwz⟩
  rw [hwz]; clear hwz wz
  go_wp2_with fail
  refine (hta.out _ b2.out).mono ?_
  rintro e w3 ⟨rfl, b3⟩
  have b13 := b2.out.trans (b3.mono b2.out.size)
  have hB3 := (b13.block _ hlt).trans hB.out
  have B3 := b1.out.trans (b13.mono b1.out.size)
  clear k1 k2
  have k1 : w3.cell? ⟨w.heap.size, 0, none⟩ = some (.int .i64 pk) := cell_of_row _ _ _ _ _ _ hB3
  have k2 : w3.cell? ⟨w.heap.size, 1, none⟩ = some (.int .i64 pa) := cell_of_row _ _ _ _ _ _ hB3
  have k3 : w3.cell? ⟨w.heap.size, 2, none⟩ = some (.int .i64 pc) := cell_of_row _ _ _ _ _ _ hB3
  have k4 : w3.cell? ⟨w.heap.size, 3, none⟩ = some (.int .i64 pt) := cell_of_row _ _ _ _ _ _ hB3
  have k5 : w3.cell? ⟨w.heap.size, 4, none⟩ = some (.int .u32 (pv : Int)) := cell_of_row _ _ _ _ _ _ hB3
  replace b3 := Lib.hid b3; replace hB3 := Lib.hid hB3; replace b13 := Lib.hid b13; replace B3 := Lib.hid B3
  go_wp2_with fail
  refine (hwk.out _).mono ?_
  rintro e wz ⟨rfl, hwz⟩
  rw [hwz]; clear hwz wz
  match q, hk5 with
  | 0, _ =>
    replace eS := eS.out
    replace eZ := eZ.out
    simp only at eS eZ
    have y2 : ¬ (9223372036854775807 < 5 + HX.size) := by omega
    have he : (⟨#[119, 111, 114, 100, 32]⟩ : ByteArray) ++ HX = S := by
      rw [← eS]
      simp only [← hDA.out, ← hDV.out, ← hDZ.out, ← hTO.out, ← hHX.out, ← hCN.out, hexTP, strS_lit, strS_app]
      first | rfl | (congr 1; done) | (congr 1; simp [joinW])
    replace eS := Lib.hid eS
    subst eZ
    go_wp2_with fail
    refine (hhx.out _).mono ?_
    rintro e w4 ⟨rfl, b4⟩
    have BF := B3.out.trans (b4.mono B3.out.size)
    replace BF := Lib.hid BF; replace b4 := Lib.hid b4
    go_wp2_with fail
    go_ret2
    exact ⟨by first | rfl | rw [he], BF.out⟩
  | 1, _ =>
    replace eS := eS.out
    replace eZ := eZ.out
    simp only at eS eZ
    have y2 : ¬ (9223372036854775807 < 3 + (1 + DA.size)) := by omega
    have y3 : ¬ (9223372036854775807 < 3 + (1 + DA.size) + 1) := by omega
    have y4 : ¬ (9223372036854775807 < 3 + (1 + DA.size) + 1 + DV.size) := by omega
    have he : (⟨#[108, 105, 32]⟩ : ByteArray) ++ ((⟨#[114]⟩ : ByteArray) ++ DA) ++ (⟨#[32]⟩ : ByteArray) ++ DV = S := by
      rw [← eS]
      simp only [← hDA.out, ← hDV.out, ← hDZ.out, ← hTO.out, ← hHX.out, ← hCN.out, hexTP, strS_lit, strS_app]
      first | rfl | (congr 1; done) | (congr 1; simp [joinW])
    replace eS := Lib.hid eS
    subst eZ
    go_wp2_with fail
    refine (htv.out _ b13.out).mono ?_
    rintro e w4 ⟨rfl, b4⟩
    have BF := B3.out.trans (b4.mono B3.out.size)
    replace BF := Lib.hid BF; replace b4 := Lib.hid b4
    go_wp2_with fail
    go_ret2
    exact ⟨by first | rfl | rw [he], BF.out⟩
  | 2, _ =>
    replace eS := eS.out
    replace eZ := eZ.out
    simp only at eS eZ
    subst eZ
    have BF := B3
    cases o with
    | true =>
      rw [if_pos rfl] at eS
      have t1 := hodd.1 rfl
      clear hodd
      have y2 : ¬ (9223372036854775807 < 3 + TO.size) := by omega
      have he : (⟨#[98, 108, 32]⟩ : ByteArray) ++ TO = S := by
        rw [← eS]
        simp only [← hTO.out, strS_lit, strS_app]
        first | rfl | (congr 1; done) | (congr 1; simp [joinW])
      replace eS := Lib.hid eS
      go_wp2_with fail
      go_ret2
      exact ⟨by first | rfl | rw [he], BF.out⟩
    | false =>
      rw [if_neg (by simp)] at eS
      have t1 := hodd.2 rfl
      clear hodd
      have y2 : ¬ (9223372036854775807 < 2 + CN.size) := by omega
      have y3 : ¬ (9223372036854775807 < 2 + CN.size + 1) := by omega
      have y4 : ¬ (9223372036854775807 < 2 + CN.size + 1 + TO.size) := by omega
      have he : (⟨#[98, 32]⟩ : ByteArray) ++ CN ++ (⟨#[32]⟩ : ByteArray) ++ TO = S := by
        rw [← eS]
        simp only [← hTO.out, ← hCN.out, strS_lit, strS_app]
        first | rfl | (congr 1; done) | (congr 1; simp [joinW])
      replace eS := Lib.hid eS
      go_wp2_with fail
      refine (hwc.out _).mono ?_
      rintro e wz ⟨rfl, hwz⟩
      rw [hwz]; clear hwz wz
      go_wp2_with fail
      refine (hcn.out _ b13.out).mono ?_
      rintro e wz ⟨rfl, hwz⟩
      rw [hwz]; clear hwz wz
      go_wp2_with fail
      go_ret2
      exact ⟨by first | rfl | rw [he], BF.out⟩
  | 3, _ =>
    replace eS := eS.out
    replace eZ := eZ.out
    simp only at eS eZ
    have y2 : ¬ (9223372036854775807 < 5 + TO.size) := by omega
    have he : (⟨#[119, 111, 114, 100, 32]⟩ : ByteArray) ++ TO = S := by
      rw [← eS]
      simp only [← hDA.out, ← hDV.out, ← hDZ.out, ← hTO.out, ← hHX.out, ← hCN.out, hexTP, strS_lit, strS_app]
      first | rfl | (congr 1; done) | (congr 1; simp [joinW])
    replace eS := Lib.hid eS
    subst eZ
    have BF := B3
    go_wp2_with fail
    go_ret2
    exact ⟨by first | rfl | rw [he], BF.out⟩
  | 4, _ =>
    replace eS := eS.out
    replace eZ := eZ.out
    simp only at eS eZ
    have y2 : ¬ (9223372036854775807 < 5 + DZ.size) := by omega
    have he : (⟨#[122, 101, 114, 111, 32]⟩ : ByteArray) ++ DZ = S := by
      rw [← eS]
      simp only [← hDA.out, ← hDV.out, ← hDZ.out, ← hTO.out, ← hHX.out, ← hCN.out, hexTP, strS_lit, strS_app]
      first | rfl | (congr 1; done) | (congr 1; simp [joinW])
    replace eS := Lib.hid eS
    subst eZ
    have m3 : IntKind.u32.wrap (zz : Int) = (zz : Int) := by rw [IntKind.wrap_u32]; omega
    have m4 : IntKind.u32.wrap ((pv : Int).tmod 4) = (zz : Int) := by rw [m1]; exact m3
    have m5 : IntKind.i64.wrap (zz : Int) = (zz : Int) := by rw [IntKind.wrap_i64]; omega
    have hS4 : ∀ w' : World, Below w3.heap.size w3 w' → (Below w3.heap.size w3 w' ∧ w'.cell? ⟨w.heap.size, 4, none⟩ = some (.int .u32 (pv : Int))) := fun w' h => ⟨h, cell_of_row _ _ _ _ _ _ ((h.block _ (Array.getElem?_eq_some_iff.1 hB3.out).1).trans hB3.out)⟩
    replace hS4 := Lib.hid hS4
    go_upto_region 14 with fail
    refine wp_region_held_drew (S := fun w' : World => Below w3.heap.size w3 w' ∧ w'.cell? ⟨w.heap.size, 4, none⟩ = some (.int .u32 (pv : Int))) (by kernel_rfl) (hS4.out _ (Below.drew (Below.refl _ _))) (fun hHeld => ?_)
    refine wpAnyH_take (i := 0) (v := ?v1) rfl (by kernel_rfl) (by kernel_rfl) (by kernel_rfl) (fun _ _ _ h => h) (Or.inl ⟨by rfl, ?h1⟩) (by assumption) ?r1
    case h1 =>
      intro w' hSw
      obtain ⟨hSb, hSc⟩ := hSw
      go_simp
      try with_reducible rfl
    try simp only [Act.put, List.getElem_toArray, List.getElem_cons_succ, List.getElem_cons_zero, List.setIfInBounds_toArray, List.set_cons_zero, List.set_cons_succ]
    refine wpAnyH_take (i := 1) (v := ?v2) rfl (by kernel_rfl) (by kernel_rfl) (by kernel_rfl) (fun _ _ _ h => h) (Or.inl ⟨by rfl, ?h2⟩) (by assumption) ?r2
    case h2 =>
      intro w' hSw
      obtain ⟨hSb, hSc⟩ := hSw
      go_simp
      try with_reducible rfl
    try simp only [Act.put, List.getElem_toArray, List.getElem_cons_succ, List.getElem_cons_zero, List.setIfInBounds_toArray, List.set_cons_zero, List.set_cons_succ]
    refine wpAnyH_take (i := 2) (v := ?v3) rfl (by kernel_rfl) (by kernel_rfl) (by kernel_rfl) (fun _ _ _ h => h) (Or.inl ⟨by rfl, ?h3⟩) (by assumption) ?r3
    case h3 =>
      intro w' hSw
      obtain ⟨hSb, hSc⟩ := hSw
      go_simp
      try with_reducible rfl
    try simp only [Act.put, List.getElem_toArray, List.getElem_cons_succ, List.getElem_cons_zero, List.setIfInBounds_toArray, List.set_cons_zero, List.set_cons_succ]
    refine wpAnyH_take (i := 5) (v := ?v4) rfl (by kernel_rfl) (by kernel_rfl) (by kernel_rfl) (fun _ _ _ h => h) (Or.inl ⟨by rfl, ?h4⟩) (by assumption) ?r4
    case h4 =>
      intro w' hSw
      obtain ⟨hSb, hSc⟩ := hSw
      go_simp
      try with_reducible rfl
    try simp only [Act.put, List.getElem_toArray, List.getElem_cons_succ, List.getElem_cons_zero, List.setIfInBounds_toArray, List.set_cons_zero, List.set_cons_succ]
    refine wpAnyH_take (i := 6) (v := ?v5) rfl (by kernel_rfl) (by kernel_rfl) (by kernel_rfl) (fun _ _ _ h => h) (Or.inl ⟨by rfl, ?h5⟩) (by assumption) ?r5
    case h5 =>
      intro w' hSw
      obtain ⟨hSb, hSc⟩ := hSw
      go_simp
      try with_reducible rfl
    try simp only [Act.put, List.getElem_toArray, List.getElem_cons_succ, List.getElem_cons_zero, List.setIfInBounds_toArray, List.set_cons_zero, List.set_cons_succ]
    refine wpAnyH_take (i := 7) (v := ?v6) rfl (by kernel_rfl) (by kernel_rfl) (by kernel_rfl) (fun _ _ _ h => h) (Or.inl ⟨by rfl, ?h6⟩) (by assumption) ?r6
    case h6 =>
      intro w' hSw
      obtain ⟨hSb, hSc⟩ := hSw
      go_simp
      try with_reducible rfl
    try simp only [Act.put, List.getElem_toArray, List.getElem_cons_succ, List.getElem_cons_zero, List.setIfInBounds_toArray, List.set_cons_zero, List.set_cons_succ]
    refine wpAnyH_take (i := 8) (v := ?v7) rfl (by kernel_rfl) (by kernel_rfl) (by kernel_rfl) (fun _ _ _ h => h) (Or.inl ⟨by rfl, ?h7⟩) (by assumption) ?r7
    case h7 =>
      intro w' hSw
      obtain ⟨hSb, hSc⟩ := hSw
      go_simp
      try with_reducible rfl
    try simp only [Act.put, List.getElem_toArray, List.getElem_cons_succ, List.getElem_cons_zero, List.setIfInBounds_toArray, List.set_cons_zero, List.set_cons_succ]
    refine wpAnyH_ready (rs := [3]) (by kernel_rfl) (by simp) ?_
    refine AllReadyH.cons (o := _) rfl (fun K hK => ?step11) ?more11
    case step11 =>
      go_simp
      refine (htz.out _ (b13.out.trans ((Below.drew (Below.refl _ _)).mono b13.out.size))).mono ?_
      rintro e w4 ⟨rfl, b4⟩
      have b34 := (Below.drew (Below.refl w3.heap.size w3)).trans (b4.mono (Nat.le_refl _))
      try dsimp only
      refine hK.out _ _ (hS4.out _ b34) (fun hHeld => ?_)
      clear hK K
      try simp only [Act.put, List.getElem_toArray, List.getElem_cons_succ, List.getElem_cons_zero, List.setIfInBounds_toArray, List.set_cons_zero, List.set_cons_succ]
      refine wpAnyH_take (i := 4) (v := ?v8) rfl (by kernel_rfl) (by kernel_rfl) (by kernel_rfl) (fun _ _ _ h => h) (Or.inl ⟨by rfl, ?h8⟩) (by assumption) ?r8
      case h8 =>
        intro w' hSw
        obtain ⟨hSb, hSc⟩ := hSw
        go_simp
        try with_reducible rfl
      try simp only [Act.put, List.getElem_toArray, List.getElem_cons_succ, List.getElem_cons_zero, List.setIfInBounds_toArray, List.set_cons_zero, List.set_cons_succ]
      refine wpAnyH_take (i := 9) (v := ?v9) rfl (by kernel_rfl) (by kernel_rfl) (by kernel_rfl) (fun _ _ _ h => h) (Or.inl ⟨by rfl, ?h9⟩) (by assumption) ?r9
      case h9 =>
        intro w' hSw
        obtain ⟨hSb, hSc⟩ := hSw
        go_simp
        try with_reducible rfl
      try simp only [Act.put, List.getElem_toArray, List.getElem_cons_succ, List.getElem_cons_zero, List.setIfInBounds_toArray, List.set_cons_zero, List.set_cons_succ]
      refine wpAnyH_take (i := 10) (v := ?v10) rfl (by kernel_rfl) (by kernel_rfl) (by kernel_rfl) (fun _ _ _ h => h) (Or.inl ⟨by rfl, ?h10⟩) (by assumption) ?r10
      case h10 =>
        intro w' hSw
        obtain ⟨hSb, hSc⟩ := hSw
        go_simp
        try with_reducible rfl
      try simp only [Act.put, List.getElem_toArray, List.getElem_cons_succ, List.getElem_cons_zero, List.setIfInBounds_toArray, List.set_cons_zero, List.set_cons_succ]
      refine wpAnyH_done (by kernel_rfl) ?_ _
      have BF := B3.out.trans (b34.mono B3.out.size)
      go_wp2_with fail
      go_ret2
      exact ⟨by first | rfl | rw [he], BF⟩
    exact AllReadyH.nil
end Go.Proofs.YtiknookfnameiaaGreatDoor
