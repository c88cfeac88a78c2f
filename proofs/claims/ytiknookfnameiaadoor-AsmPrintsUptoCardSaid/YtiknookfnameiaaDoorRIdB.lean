/- The reference's Decode, some shapes (printed by genRId.py). -/
import Derived.Test.YtiknookfnameiaaDoorRId
namespace Go.Proofs
namespace YtiknookfnameiaaDoor
open Go.RowKit WP
set_option maxRecDepth 100000 in
set_option maxHeartbeats 4000000 in
theorem rdec_absN (x : Int) (w : World) (hT : RTabs w) (h0 : 0 ≤ x) (h1 : x ≤ 4294967295) (hs : shapeI (x / 67108864) = [97, 98, 115]) (hsg : 32768 ≤ x % 65536) :
    Calls Tryd.prog 25 #[.int .u32 x] w fun e w' => Below w.heap.size w w' ∧ e = .returned (.tuple #[.agg (rinsC (rdecI x)), .int .i64 (if rgoodI x then 0 else 50)]) := by
  have hr : rreadI x = ⟨x / 67108864, 0, x / 4194304 % 16, x / 262144 % 16, 0, x % 65536 - 65536⟩ := by
    unfold rreadI; rw [hs]; simp [hasL, hsg]
  have bd := rread_bd x h0 h1
  have hen := fun W hW => rencode_any (rreadI x) W hW bd.1 bd.2.1 bd.2.2.1 bd.2.2.2.1 bd.2.2.2.2.1 bd.2.2.2.2.2
  have hsh := fun W hW => rshape_any (x / 67108864) W hW
  rw [hs] at hsh
  clear bd hs
  obtain ⟨PI, hPI⟩ : ∃ PI, rinsC (rdecI x) = PI := ⟨_, rfl⟩
  obtain ⟨PC, hPC⟩ : ∃ PC : Int, (if rgoodI x then 0 else 50) = PC := ⟨_, rfl⟩
  rw [hPI, hPC]
  have hgd : rgoodI x = (decide (rcheckI (rreadI x) = 0) && decide (rwordI (rreadI x) = x)) := rfl
  have hdc : rdecI x = if rgoodI x then rreadI x else ins0 := rfl
  rw [hdc] at hPI
  clear hdc
  obtain ⟨KK, hK⟩ : ∃ K, rcheckI (rreadI x) = K := ⟨_, rfl⟩
  obtain ⟨V, hV⟩ : ∃ V, (if KK = 0 then rwordI (rreadI x) else 0) = V := ⟨_, rfl⟩
  simp only [hK, hV] at hen
  rw [hK] at hgd
  rw [hr] at hPI
  simp only [hr, rinsC] at hen
  clear hK
  have haA : ∀ W, Calls Tryd.prog 39 #[.string (strS [97, 98, 115]), .int .u8 97] W fun e w' => e = .returned (.bool true) ∧ w' = W := fun W => has_any [97, 98, 115] 97 W (by decide)
  have haB : ∀ W, Calls Tryd.prog 39 #[.string (strS [97, 98, 115]), .int .u8 98] W fun e w' => e = .returned (.bool true) ∧ w' = W := fun W => has_any [97, 98, 115] 98 W (by decide)
  have haC : ∀ W, Calls Tryd.prog 39 #[.string (strS [97, 98, 115]), .int .u8 99] W fun e w' => e = .returned (.bool false) ∧ w' = W := fun W => has_any [97, 98, 115] 99 W (by decide)
  have haK : ∀ W, Calls Tryd.prog 39 #[.string (strS [97, 98, 115]), .int .u8 107] W fun e w' => e = .returned (.bool false) ∧ w' = W := fun W => has_any [97, 98, 115] 107 W (by decide)
  have haU : ∀ W, Calls Tryd.prog 39 #[.string (strS [97, 98, 115]), .int .u8 117] W fun e w' => e = .returned (.bool false) ∧ w' = W := fun W => has_any [97, 98, 115] 117 W (by decide)
  have haS : ∀ W, Calls Tryd.prog 39 #[.string (strS [97, 98, 115]), .int .u8 115] W fun e w' => e = .returned (.bool true) ∧ w' = W := fun W => has_any [97, 98, 115] 115 W (by decide)
  have haO : ∀ W, Calls Tryd.prog 39 #[.string (strS [97, 98, 115]), .int .u8 111] W fun e w' => e = .returned (.bool false) ∧ w' = W := fun W => has_any [97, 98, 115] 111 W (by decide)
  obtain ⟨S, hS⟩ : ∃ S, strS [97, 98, 115] = S := ⟨_, rfl⟩
  rw [hS] at hsh haA haB haC haK haU haS haO
  clear hS
  have dsg : decide (x % 65536 ≥ 32768) = true := decide_eq_true hsg
  replace haA := Lib.hid haA; replace haB := Lib.hid haB; replace haC := Lib.hid haC; replace haK := Lib.hid haK; replace haU := Lib.hid haU; replace haS := Lib.hid haS; replace haO := Lib.hid haO
  replace hPI := Lib.hid hPI; replace hPC := Lib.hid hPC; replace hV := Lib.hid hV; replace hr := Lib.hid hr; replace hgd := Lib.hid hgd; replace hsh := Lib.hid hsh; replace hen := Lib.hid hen
  go_enter Tryd.func25, Tryd.ntmps25
  go_upto_region 18 with (first
    | (go_at_call 29; refine (hsh.out _ (hT.later (((Below.refl _ _).alloc (Nat.le_refl _) _).alloc (by simp) _))).mono ?_; rintro e w2 ⟨rfl, rfl⟩)
    | (go_at_call_of 39 (Value.int .u8 97); refine (haA.out _).mono ?_; rintro e w2 ⟨rfl, rfl⟩)
    | (go_at_call_of 39 (Value.int .u8 98); refine (haB.out _).mono ?_; rintro e w2 ⟨rfl, rfl⟩)
    | (go_at_call_of 39 (Value.int .u8 99); refine (haC.out _).mono ?_; rintro e w2 ⟨rfl, rfl⟩)
    | (go_at_call_of 39 (Value.int .u8 107); refine (haK.out _).mono ?_; rintro e w2 ⟨rfl, rfl⟩)
    | (go_at_call_of 39 (Value.int .u8 117); refine (haU.out _).mono ?_; rintro e w2 ⟨rfl, rfl⟩)
    | (go_at_call_of 39 (Value.int .u8 115); refine (haS.out _).mono ?_; rintro e w2 ⟨rfl, rfl⟩)
    | (go_at_call_of 39 (Value.int .u8 111); refine (haO.out _).mono ?_; rintro e w2 ⟨rfl, rfl⟩))
  obtain ⟨w1, hw1⟩ : ∃ w1, (w.alloc (.cells #[.int .i64 0, .int .i64 0, .int .i64 0, .int .i64 0, .int .i64 0, .int .i64 0] 59)).alloc (.cells #[.int .i64 (x / 67108864), .int .i64 0, .int .i64 (x / 4194304 % 16), .int .i64 (x / 262144 % 16), .int .i64 0, .int .i64 (x % 65536 - 65536)] 59) = w1 := ⟨_, rfl⟩
  have hb1 : Below w.heap.size w w1 := by rw [← hw1]; exact ((Below.refl _ _).alloc (Nat.le_refl _) _).alloc (by simp) _
  have hsz : w1.heap.size = w.heap.size + 2 := by rw [← hw1]; simp
  have q0 : w1.heap[w.heap.size]? = some (.cells #[.int .i64 0, .int .i64 0, .int .i64 0, .int .i64 0, .int .i64 0, .int .i64 0] 59 (0, 0)) := by
    rw [← hw1, heap_alloc_old _ _ (by simp)]; exact heap_alloc_new w _
  have q1 : w1.heap[w.heap.size + 1]? = some (.cells #[.int .i64 (x / 67108864), .int .i64 0, .int .i64 (x / 4194304 % 16), .int .i64 (x / 262144 % 16), .int .i64 0, .int .i64 (x % 65536 - 65536)] 59 (0, 0)) := by
    rw [← hw1]
    have := heap_alloc_new (w.alloc (.cells #[.int .i64 0, .int .i64 0, .int .i64 0, .int .i64 0, .int .i64 0, .int .i64 0] 59)) (.cells #[.int .i64 (x / 67108864), .int .i64 0, .int .i64 (x / 4194304 % 16), .int .i64 (x / 262144 % 16), .int .i64 0, .int .i64 (x % 65536 - 65536)] 59)
    rwa [show (w.alloc (.cells #[.int .i64 0, .int .i64 0, .int .i64 0, .int .i64 0, .int .i64 0, .int .i64 0] 59)).heap.size = w.heap.size + 1 by simp] at this
  rw [hw1]
  clear hw1 haA haB haC haK haU haS haO hsh
  have hT2 := hT.later hb1
  have e0 : w1.cell? ⟨w.heap.size + 1, 0, none⟩ = some (.int .i64 (x / 67108864)) := cell_of_row _ _ _ _ _ _ q1
  have e1 : w1.cell? ⟨w.heap.size + 1, 1, none⟩ = some (.int .i64 (0)) := cell_of_row _ _ _ _ _ _ q1
  have e2 : w1.cell? ⟨w.heap.size + 1, 2, none⟩ = some (.int .i64 (x / 4194304 % 16)) := cell_of_row _ _ _ _ _ _ q1
  have e3 : w1.cell? ⟨w.heap.size + 1, 3, none⟩ = some (.int .i64 (x / 262144 % 16)) := cell_of_row _ _ _ _ _ _ q1
  have e4 : w1.cell? ⟨w.heap.size + 1, 4, none⟩ = some (.int .i64 (0)) := cell_of_row _ _ _ _ _ _ q1
  have e5 : w1.cell? ⟨w.heap.size + 1, 5, none⟩ = some (.int .i64 (x % 65536 - 65536)) := cell_of_row _ _ _ _ _ _ q1
  replace hb1 := Lib.hid hb1; replace q0 := Lib.hid q0; replace q1 := Lib.hid q1; replace hsz := Lib.hid hsz; replace hT2 := Lib.hid hT2
  go_upto_region 19 with (go_at_call 40; refine (hen.out _ hT2.out).mono ?_; rintro e w3 ⟨hb3, rfl⟩)
  have hbA : Below w.heap.size w w3 := hb1.out.trans (hb3.mono (by rw [hsz.out]; omega))
  have hs3 := hbA.size
  have hq0 := (hb3.block _ (by rw [hsz.out]; omega)).trans q0.out
  have hq1 := (hb3.block _ (by rw [hsz.out]; omega)).trans q1.out
  clear e0 e1 e2 e3 e4 e5 hb3 hen hb1 q0 q1 hsz hT2 hT
  have e0 : w3.cell? ⟨w.heap.size + 1, 0, none⟩ = some (.int .i64 (x / 67108864)) := cell_of_row _ _ _ _ _ _ hq1
  have e1 : w3.cell? ⟨w.heap.size + 1, 1, none⟩ = some (.int .i64 (0)) := cell_of_row _ _ _ _ _ _ hq1
  have e2 : w3.cell? ⟨w.heap.size + 1, 2, none⟩ = some (.int .i64 (x / 4194304 % 16)) := cell_of_row _ _ _ _ _ _ hq1
  have e3 : w3.cell? ⟨w.heap.size + 1, 3, none⟩ = some (.int .i64 (x / 262144 % 16)) := cell_of_row _ _ _ _ _ _ hq1
  have e4 : w3.cell? ⟨w.heap.size + 1, 4, none⟩ = some (.int .i64 (0)) := cell_of_row _ _ _ _ _ _ hq1
  have e5 : w3.cell? ⟨w.heap.size + 1, 5, none⟩ = some (.int .i64 (x % 65536 - 65536)) := cell_of_row _ _ _ _ _ _ hq1
  have gz : ∀ j, w3.frozen? ⟨w.heap.size, j, none⟩ = false := fun j => frozen_of_row _ _ j _ _ hq0
  by_cases hK0 : KK = 0
  · by_cases hVx : V = x
    · have hg : rgoodI x = true := by
        have hv := hV.out
        rw [if_pos hK0] at hv; rw [hgd.out, hv, hK0, hVx]; simp
      have hc0 := hPC.out
      have hi0 := hPI.out
      rw [hg, if_pos rfl] at hc0 hi0
      subst hc0; subst hi0; subst hK0; have hVy := hVx.symm; clear hVx; subst hVy
      have dV : (x != x) = false := by simp
      have hOne : (#[.int .i64 (x / 67108864), .int .i64 0, .int .i64 (x / 4194304 % 16), .int .i64 (x / 262144 % 16), .int .i64 0, .int .i64 (x % 65536 - 65536)] : Array Value).all (·.oneCell') = true := by simp [Value.oneCell']
      clear gz hg hPI hPC hV hgd hr
      replace hOne := Lib.hid hOne; replace hbA := Lib.hid hbA; replace hq1 := Lib.hid hq1; replace hq0 := Lib.hid hq0
      go_wp2_with (first | (refine wpList_store_whole rfl 59 _ _ rfl w.heap.size #[.int .i64 (x / 67108864), .int .i64 0, .int .i64 (x / 4194304 % 16), .int .i64 (x / 262144 % 16), .int .i64 0, .int .i64 (x % 65536 - 65536)] rfl rfl 59 _ hq0.out infoRIns rfl hOne.out ?_; intro w5 hB5 g5; have hbf := Lib.hid (hbA.out.grown g5 (by omega) (by intro k hk; simp only [Option.some.injEq] at hk; omega)); clear g5; replace hB5 := Lib.hid hB5))
      exact bodyPost_ret (v := .tuple #[.agg #[.int .i64 (x / 67108864), .int .i64 0, .int .i64 (x / 4194304 % 16), .int .i64 (x / 262144 % 16), .int .i64 0, .int .i64 (x % 65536 - 65536)], .int .i64 0]) (results_fst rfl rfl rfl hB5.out Tryd.underlying59 rfl infoRIns) rfl ⟨hbf.out, rfl⟩
    · have dV : (V == x) = false := by simpa using hVx
      have hg : rgoodI x = false := by
        have hv := hV.out
        rw [if_pos hK0] at hv; rw [hgd.out, hv]; simp [hVx]
      have hc0 := hPC.out
      have hi0 := hPI.out
      rw [hg, if_neg (by simp)] at hc0 hi0
      have s0 : w3.setCell ⟨w.heap.size, 0, none⟩ (.int .i64 0) = w3 := setCell_idI hq0 rfl
      have s1 : w3.setCell ⟨w.heap.size, 1, none⟩ (.int .i64 0) = w3 := setCell_idI hq0 rfl
      have s2 : w3.setCell ⟨w.heap.size, 2, none⟩ (.int .i64 0) = w3 := setCell_idI hq0 rfl
      have s3 : w3.setCell ⟨w.heap.size, 3, none⟩ (.int .i64 0) = w3 := setCell_idI hq0 rfl
      have s4 : w3.setCell ⟨w.heap.size, 4, none⟩ (.int .i64 0) = w3 := setCell_idI hq0 rfl
      have s5 : w3.setCell ⟨w.heap.size, 5, none⟩ (.int .i64 0) = w3 := setCell_idI hq0 rfl
      have g0 : w3.cell? ⟨w.heap.size, 0, none⟩ = some (.int .i64 0) := cell_of_row _ _ _ _ _ _ hq0
      have g1 : w3.cell? ⟨w.heap.size, 1, none⟩ = some (.int .i64 0) := cell_of_row _ _ _ _ _ _ hq0
      have g2 : w3.cell? ⟨w.heap.size, 2, none⟩ = some (.int .i64 0) := cell_of_row _ _ _ _ _ _ hq0
      have g3 : w3.cell? ⟨w.heap.size, 3, none⟩ = some (.int .i64 0) := cell_of_row _ _ _ _ _ _ hq0
      have g4 : w3.cell? ⟨w.heap.size, 4, none⟩ = some (.int .i64 0) := cell_of_row _ _ _ _ _ _ hq0
      have g5 : w3.cell? ⟨w.heap.size, 5, none⟩ = some (.int .i64 0) := cell_of_row _ _ _ _ _ _ hq0
      subst hc0; subst hi0; subst hK0
      clear hg hPI hPC hV hgd hr
      replace hbA := Lib.hid hbA; replace hq1 := Lib.hid hq1; replace hq0 := Lib.hid hq0
      go_wp2_with fail
      exact bodyPost_ret (v := .tuple #[.agg (rinsC ins0), .int .i64 50]) (results_fst rfl rfl rfl hq0.out Tryd.underlying59 rfl infoRIns) rfl ⟨hbA.out, rfl⟩
  · have dK : (KK == 0) = false := by simpa using hK0
    have hg : rgoodI x = false := by rw [hgd.out]; simp [hK0]
    have hc0 := hPC.out
    have hi0 := hPI.out
    rw [hg, if_neg (by simp)] at hc0 hi0
    have s0 : w3.setCell ⟨w.heap.size, 0, none⟩ (.int .i64 0) = w3 := setCell_idI hq0 rfl
    have s1 : w3.setCell ⟨w.heap.size, 1, none⟩ (.int .i64 0) = w3 := setCell_idI hq0 rfl
    have s2 : w3.setCell ⟨w.heap.size, 2, none⟩ (.int .i64 0) = w3 := setCell_idI hq0 rfl
    have s3 : w3.setCell ⟨w.heap.size, 3, none⟩ (.int .i64 0) = w3 := setCell_idI hq0 rfl
    have s4 : w3.setCell ⟨w.heap.size, 4, none⟩ (.int .i64 0) = w3 := setCell_idI hq0 rfl
    have s5 : w3.setCell ⟨w.heap.size, 5, none⟩ (.int .i64 0) = w3 := setCell_idI hq0 rfl
    have g0 : w3.cell? ⟨w.heap.size, 0, none⟩ = some (.int .i64 0) := cell_of_row _ _ _ _ _ _ hq0
    have g1 : w3.cell? ⟨w.heap.size, 1, none⟩ = some (.int .i64 0) := cell_of_row _ _ _ _ _ _ hq0
    have g2 : w3.cell? ⟨w.heap.size, 2, none⟩ = some (.int .i64 0) := cell_of_row _ _ _ _ _ _ hq0
    have g3 : w3.cell? ⟨w.heap.size, 3, none⟩ = some (.int .i64 0) := cell_of_row _ _ _ _ _ _ hq0
    have g4 : w3.cell? ⟨w.heap.size, 4, none⟩ = some (.int .i64 0) := cell_of_row _ _ _ _ _ _ hq0
    have g5 : w3.cell? ⟨w.heap.size, 5, none⟩ = some (.int .i64 0) := cell_of_row _ _ _ _ _ _ hq0
    subst hc0; subst hi0
    clear hg hPI hPC hV hgd hr
    replace hbA := Lib.hid hbA; replace hq1 := Lib.hid hq1; replace hq0 := Lib.hid hq0
    go_wp2_with fail
    exact bodyPost_ret (v := .tuple #[.agg (rinsC ins0), .int .i64 50]) (results_fst rfl rfl rfl hq0.out Tryd.underlying59 rfl infoRIns) rfl ⟨hbA.out, rfl⟩
set_option maxRecDepth 100000 in
set_option maxHeartbeats 4000000 in
theorem rdec_absP (x : Int) (w : World) (hT : RTabs w) (h0 : 0 ≤ x) (h1 : x ≤ 4294967295) (hs : shapeI (x / 67108864) = [97, 98, 115]) (hsg : ¬ 32768 ≤ x % 65536) :
    Calls Tryd.prog 25 #[.int .u32 x] w fun e w' => Below w.heap.size w w' ∧ e = .returned (.tuple #[.agg (rinsC (rdecI x)), .int .i64 (if rgoodI x then 0 else 50)]) := by
  have hr : rreadI x = ⟨x / 67108864, 0, x / 4194304 % 16, x / 262144 % 16, 0, x % 65536⟩ := by
    unfold rreadI; rw [hs]; simp [hasL, hsg]
  have bd := rread_bd x h0 h1
  have hen := fun W hW => rencode_any (rreadI x) W hW bd.1 bd.2.1 bd.2.2.1 bd.2.2.2.1 bd.2.2.2.2.1 bd.2.2.2.2.2
  have hsh := fun W hW => rshape_any (x / 67108864) W hW
  rw [hs] at hsh
  clear bd hs
  obtain ⟨PI, hPI⟩ : ∃ PI, rinsC (rdecI x) = PI := ⟨_, rfl⟩
  obtain ⟨PC, hPC⟩ : ∃ PC : Int, (if rgoodI x then 0 else 50) = PC := ⟨_, rfl⟩
  rw [hPI, hPC]
  have hgd : rgoodI x = (decide (rcheckI (rreadI x) = 0) && decide (rwordI (rreadI x) = x)) := rfl
  have hdc : rdecI x = if rgoodI x then rreadI x else ins0 := rfl
  rw [hdc] at hPI
  clear hdc
  obtain ⟨KK, hK⟩ : ∃ K, rcheckI (rreadI x) = K := ⟨_, rfl⟩
  obtain ⟨V, hV⟩ : ∃ V, (if KK = 0 then rwordI (rreadI x) else 0) = V := ⟨_, rfl⟩
  simp only [hK, hV] at hen
  rw [hK] at hgd
  rw [hr] at hPI
  simp only [hr, rinsC] at hen
  clear hK
  have haA : ∀ W, Calls Tryd.prog 39 #[.string (strS [97, 98, 115]), .int .u8 97] W fun e w' => e = .returned (.bool true) ∧ w' = W := fun W => has_any [97, 98, 115] 97 W (by decide)
  have haB : ∀ W, Calls Tryd.prog 39 #[.string (strS [97, 98, 115]), .int .u8 98] W fun e w' => e = .returned (.bool true) ∧ w' = W := fun W => has_any [97, 98, 115] 98 W (by decide)
  have haC : ∀ W, Calls Tryd.prog 39 #[.string (strS [97, 98, 115]), .int .u8 99] W fun e w' => e = .returned (.bool false) ∧ w' = W := fun W => has_any [97, 98, 115] 99 W (by decide)
  have haK : ∀ W, Calls Tryd.prog 39 #[.string (strS [97, 98, 115]), .int .u8 107] W fun e w' => e = .returned (.bool false) ∧ w' = W := fun W => has_any [97, 98, 115] 107 W (by decide)
  have haU : ∀ W, Calls Tryd.prog 39 #[.string (strS [97, 98, 115]), .int .u8 117] W fun e w' => e = .returned (.bool false) ∧ w' = W := fun W => has_any [97, 98, 115] 117 W (by decide)
  have haS : ∀ W, Calls Tryd.prog 39 #[.string (strS [97, 98, 115]), .int .u8 115] W fun e w' => e = .returned (.bool true) ∧ w' = W := fun W => has_any [97, 98, 115] 115 W (by decide)
  have haO : ∀ W, Calls Tryd.prog 39 #[.string (strS [97, 98, 115]), .int .u8 111] W fun e w' => e = .returned (.bool false) ∧ w' = W := fun W => has_any [97, 98, 115] 111 W (by decide)
  obtain ⟨S, hS⟩ : ∃ S, strS [97, 98, 115] = S := ⟨_, rfl⟩
  rw [hS] at hsh haA haB haC haK haU haS haO
  clear hS
  have dsg : decide (x % 65536 ≥ 32768) = false := decide_eq_false hsg
  replace haA := Lib.hid haA; replace haB := Lib.hid haB; replace haC := Lib.hid haC; replace haK := Lib.hid haK; replace haU := Lib.hid haU; replace haS := Lib.hid haS; replace haO := Lib.hid haO
  replace hPI := Lib.hid hPI; replace hPC := Lib.hid hPC; replace hV := Lib.hid hV; replace hr := Lib.hid hr; replace hgd := Lib.hid hgd; replace hsh := Lib.hid hsh; replace hen := Lib.hid hen
  go_enter Tryd.func25, Tryd.ntmps25
  go_upto_region 18 with (first
    | (go_at_call 29; refine (hsh.out _ (hT.later (((Below.refl _ _).alloc (Nat.le_refl _) _).alloc (by simp) _))).mono ?_; rintro e w2 ⟨rfl, rfl⟩)
    | (go_at_call_of 39 (Value.int .u8 97); refine (haA.out _).mono ?_; rintro e w2 ⟨rfl, rfl⟩)
    | (go_at_call_of 39 (Value.int .u8 98); refine (haB.out _).mono ?_; rintro e w2 ⟨rfl, rfl⟩)
    | (go_at_call_of 39 (Value.int .u8 99); refine (haC.out _).mono ?_; rintro e w2 ⟨rfl, rfl⟩)
    | (go_at_call_of 39 (Value.int .u8 107); refine (haK.out _).mono ?_; rintro e w2 ⟨rfl, rfl⟩)
    | (go_at_call_of 39 (Value.int .u8 117); refine (haU.out _).mono ?_; rintro e w2 ⟨rfl, rfl⟩)
    | (go_at_call_of 39 (Value.int .u8 115); refine (haS.out _).mono ?_; rintro e w2 ⟨rfl, rfl⟩)
    | (go_at_call_of 39 (Value.int .u8 111); refine (haO.out _).mono ?_; rintro e w2 ⟨rfl, rfl⟩))
  obtain ⟨w1, hw1⟩ : ∃ w1, (w.alloc (.cells #[.int .i64 0, .int .i64 0, .int .i64 0, .int .i64 0, .int .i64 0, .int .i64 0] 59)).alloc (.cells #[.int .i64 (x / 67108864), .int .i64 0, .int .i64 (x / 4194304 % 16), .int .i64 (x / 262144 % 16), .int .i64 0, .int .i64 (x % 65536)] 59) = w1 := ⟨_, rfl⟩
  have hb1 : Below w.heap.size w w1 := by rw [← hw1]; exact ((Below.refl _ _).alloc (Nat.le_refl _) _).alloc (by simp) _
  have hsz : w1.heap.size = w.heap.size + 2 := by rw [← hw1]; simp
  have q0 : w1.heap[w.heap.size]? = some (.cells #[.int .i64 0, .int .i64 0, .int .i64 0, .int .i64 0, .int .i64 0, .int .i64 0] 59 (0, 0)) := by
    rw [← hw1, heap_alloc_old _ _ (by simp)]; exact heap_alloc_new w _
  have q1 : w1.heap[w.heap.size + 1]? = some (.cells #[.int .i64 (x / 67108864), .int .i64 0, .int .i64 (x / 4194304 % 16), .int .i64 (x / 262144 % 16), .int .i64 0, .int .i64 (x % 65536)] 59 (0, 0)) := by
    rw [← hw1]
    have := heap_alloc_new (w.alloc (.cells #[.int .i64 0, .int .i64 0, .int .i64 0, .int .i64 0, .int .i64 0, .int .i64 0] 59)) (.cells #[.int .i64 (x / 67108864), .int .i64 0, .int .i64 (x / 4194304 % 16), .int .i64 (x / 262144 % 16), .int .i64 0, .int .i64 (x % 65536)] 59)
    rwa [show (w.alloc (.cells #[.int .i64 0, .int .i64 0, .int .i64 0, .int .i64 0, .int .i64 0, .int .i64 0] 59)).heap.size = w.heap.size + 1 by simp] at this
  rw [hw1]
  clear hw1 haA haB haC haK haU haS haO hsh
  have hT2 := hT.later hb1
  have e0 : w1.cell? ⟨w.heap.size + 1, 0, none⟩ = some (.int .i64 (x / 67108864)) := cell_of_row _ _ _ _ _ _ q1
  have e1 : w1.cell? ⟨w.heap.size + 1, 1, none⟩ = some (.int .i64 (0)) := cell_of_row _ _ _ _ _ _ q1
  have e2 : w1.cell? ⟨w.heap.size + 1, 2, none⟩ = some (.int .i64 (x / 4194304 % 16)) := cell_of_row _ _ _ _ _ _ q1
  have e3 : w1.cell? ⟨w.heap.size + 1, 3, none⟩ = some (.int .i64 (x / 262144 % 16)) := cell_of_row _ _ _ _ _ _ q1
  have e4 : w1.cell? ⟨w.heap.size + 1, 4, none⟩ = some (.int .i64 (0)) := cell_of_row _ _ _ _ _ _ q1
  have e5 : w1.cell? ⟨w.heap.size + 1, 5, none⟩ = some (.int .i64 (x % 65536)) := cell_of_row _ _ _ _ _ _ q1
  replace hb1 := Lib.hid hb1; replace q0 := Lib.hid q0; replace q1 := Lib.hid q1; replace hsz := Lib.hid hsz; replace hT2 := Lib.hid hT2
  go_upto_region 19 with (go_at_call 40; refine (hen.out _ hT2.out).mono ?_; rintro e w3 ⟨hb3, rfl⟩)
  have hbA : Below w.heap.size w w3 := hb1.out.trans (hb3.mono (by rw [hsz.out]; omega))
  have hs3 := hbA.size
  have hq0 := (hb3.block _ (by rw [hsz.out]; omega)).trans q0.out
  have hq1 := (hb3.block _ (by rw [hsz.out]; omega)).trans q1.out
  clear e0 e1 e2 e3 e4 e5 hb3 hen hb1 q0 q1 hsz hT2 hT
  have e0 : w3.cell? ⟨w.heap.size + 1, 0, none⟩ = some (.int .i64 (x / 67108864)) := cell_of_row _ _ _ _ _ _ hq1
  have e1 : w3.cell? ⟨w.heap.size + 1, 1, none⟩ = some (.int .i64 (0)) := cell_of_row _ _ _ _ _ _ hq1
  have e2 : w3.cell? ⟨w.heap.size + 1, 2, none⟩ = some (.int .i64 (x / 4194304 % 16)) := cell_of_row _ _ _ _ _ _ hq1
  have e3 : w3.cell? ⟨w.heap.size + 1, 3, none⟩ = some (.int .i64 (x / 262144 % 16)) := cell_of_row _ _ _ _ _ _ hq1
  have e4 : w3.cell? ⟨w.heap.size + 1, 4, none⟩ = some (.int .i64 (0)) := cell_of_row _ _ _ _ _ _ hq1
  have e5 : w3.cell? ⟨w.heap.size + 1, 5, none⟩ = some (.int .i64 (x % 65536)) := cell_of_row _ _ _ _ _ _ hq1
  have gz : ∀ j, w3.frozen? ⟨w.heap.size, j, none⟩ = false := fun j => frozen_of_row _ _ j _ _ hq0
  by_cases hK0 : KK = 0
  · by_cases hVx : V = x
    · have hg : rgoodI x = true := by
        have hv := hV.out
        rw [if_pos hK0] at hv; rw [hgd.out, hv, hK0, hVx]; simp
      have hc0 := hPC.out
      have hi0 := hPI.out
      rw [hg, if_pos rfl] at hc0 hi0
      subst hc0; subst hi0; subst hK0; have hVy := hVx.symm; clear hVx; subst hVy
      have dV : (x != x) = false := by simp
      have hOne : (#[.int .i64 (x / 67108864), .int .i64 0, .int .i64 (x / 4194304 % 16), .int .i64 (x / 262144 % 16), .int .i64 0, .int .i64 (x % 65536)] : Array Value).all (·.oneCell') = true := by simp [Value.oneCell']
      clear gz hg hPI hPC hV hgd hr
      replace hOne := Lib.hid hOne; replace hbA := Lib.hid hbA; replace hq1 := Lib.hid hq1; replace hq0 := Lib.hid hq0
      go_wp2_with (first | (refine wpList_store_whole rfl 59 _ _ rfl w.heap.size #[.int .i64 (x / 67108864), .int .i64 0, .int .i64 (x / 4194304 % 16), .int .i64 (x / 262144 % 16), .int .i64 0, .int .i64 (x % 65536)] rfl rfl 59 _ hq0.out infoRIns rfl hOne.out ?_; intro w5 hB5 g5; have hbf := Lib.hid (hbA.out.grown g5 (by omega) (by intro k hk; simp only [Option.some.injEq] at hk; omega)); clear g5; replace hB5 := Lib.hid hB5))
      exact bodyPost_ret (v := .tuple #[.agg #[.int .i64 (x / 67108864), .int .i64 0, .int .i64 (x / 4194304 % 16), .int .i64 (x / 262144 % 16), .int .i64 0, .int .i64 (x % 65536)], .int .i64 0]) (results_fst rfl rfl rfl hB5.out Tryd.underlying59 rfl infoRIns) rfl ⟨hbf.out, rfl⟩
    · have dV : (V == x) = false := by simpa using hVx
      have hg : rgoodI x = false := by
        have hv := hV.out
        rw [if_pos hK0] at hv; rw [hgd.out, hv]; simp [hVx]
      have hc0 := hPC.out
      have hi0 := hPI.out
      rw [hg, if_neg (by simp)] at hc0 hi0
      have s0 : w3.setCell ⟨w.heap.size, 0, none⟩ (.int .i64 0) = w3 := setCell_idI hq0 rfl
      have s1 : w3.setCell ⟨w.heap.size, 1, none⟩ (.int .i64 0) = w3 := setCell_idI hq0 rfl
      have s2 : w3.setCell ⟨w.heap.size, 2, none⟩ (.int .i64 0) = w3 := setCell_idI hq0 rfl
      have s3 : w3.setCell ⟨w.heap.size, 3, none⟩ (.int .i64 0) = w3 := setCell_idI hq0 rfl
      have s4 : w3.setCell ⟨w.heap.size, 4, none⟩ (.int .i64 0) = w3 := setCell_idI hq0 rfl
      have s5 : w3.setCell ⟨w.heap.size, 5, none⟩ (.int .i64 0) = w3 := setCell_idI hq0 rfl
      have g0 : w3.cell? ⟨w.heap.size, 0, none⟩ = some (.int .i64 0) := cell_of_row _ _ _ _ _ _ hq0
      have g1 : w3.cell? ⟨w.heap.size, 1, none⟩ = some (.int .i64 0) := cell_of_row _ _ _ _ _ _ hq0
      have g2 : w3.cell? ⟨w.heap.size, 2, none⟩ = some (.int .i64 0) := cell_of_row _ _ _ _ _ _ hq0
      have g3 : w3.cell? ⟨w.heap.size, 3, none⟩ = some (.int .i64 0) := cell_of_row _ _ _ _ _ _ hq0
      have g4 : w3.cell? ⟨w.heap.size, 4, none⟩ = some (.int .i64 0) := cell_of_row _ _ _ _ _ _ hq0
      have g5 : w3.cell? ⟨w.heap.size, 5, none⟩ = some (.int .i64 0) := cell_of_row _ _ _ _ _ _ hq0
      subst hc0; subst hi0; subst hK0
      clear hg hPI hPC hV hgd hr
      replace hbA := Lib.hid hbA; replace hq1 := Lib.hid hq1; replace hq0 := Lib.hid hq0
      go_wp2_with fail
      exact bodyPost_ret (v := .tuple #[.agg (rinsC ins0), .int .i64 50]) (results_fst rfl rfl rfl hq0.out Tryd.underlying59 rfl infoRIns) rfl ⟨hbA.out, rfl⟩
  · have dK : (KK == 0) = false := by simpa using hK0
    have hg : rgoodI x = false := by rw [hgd.out]; simp [hK0]
    have hc0 := hPC.out
    have hi0 := hPI.out
    rw [hg, if_neg (by simp)] at hc0 hi0
    have s0 : w3.setCell ⟨w.heap.size, 0, none⟩ (.int .i64 0) = w3 := setCell_idI hq0 rfl
    have s1 : w3.setCell ⟨w.heap.size, 1, none⟩ (.int .i64 0) = w3 := setCell_idI hq0 rfl
    have s2 : w3.setCell ⟨w.heap.size, 2, none⟩ (.int .i64 0) = w3 := setCell_idI hq0 rfl
    have s3 : w3.setCell ⟨w.heap.size, 3, none⟩ (.int .i64 0) = w3 := setCell_idI hq0 rfl
    have s4 : w3.setCell ⟨w.heap.size, 4, none⟩ (.int .i64 0) = w3 := setCell_idI hq0 rfl
    have s5 : w3.setCell ⟨w.heap.size, 5, none⟩ (.int .i64 0) = w3 := setCell_idI hq0 rfl
    have g0 : w3.cell? ⟨w.heap.size, 0, none⟩ = some (.int .i64 0) := cell_of_row _ _ _ _ _ _ hq0
    have g1 : w3.cell? ⟨w.heap.size, 1, none⟩ = some (.int .i64 0) := cell_of_row _ _ _ _ _ _ hq0
    have g2 : w3.cell? ⟨w.heap.size, 2, none⟩ = some (.int .i64 0) := cell_of_row _ _ _ _ _ _ hq0
    have g3 : w3.cell? ⟨w.heap.size, 3, none⟩ = some (.int .i64 0) := cell_of_row _ _ _ _ _ _ hq0
    have g4 : w3.cell? ⟨w.heap.size, 4, none⟩ = some (.int .i64 0) := cell_of_row _ _ _ _ _ _ hq0
    have g5 : w3.cell? ⟨w.heap.size, 5, none⟩ = some (.int .i64 0) := cell_of_row _ _ _ _ _ _ hq0
    subst hc0; subst hi0
    clear hg hPI hPC hV hgd hr
    replace hbA := Lib.hid hbA; replace hq1 := Lib.hid hq1; replace hq0 := Lib.hid hq0
    go_wp2_with fail
    exact bodyPost_ret (v := .tuple #[.agg (rinsC ins0), .int .i64 50]) (results_fst rfl rfl rfl hq0.out Tryd.underlying59 rfl infoRIns) rfl ⟨hbA.out, rfl⟩
set_option maxRecDepth 100000 in
set_option maxHeartbeats 4000000 in
theorem rdec_asN (x : Int) (w : World) (hT : RTabs w) (h0 : 0 ≤ x) (h1 : x ≤ 4294967295) (hs : shapeI (x / 67108864) = [97, 115]) (hsg : 32768 ≤ x % 65536) :
    Calls Tryd.prog 25 #[.int .u32 x] w fun e w' => Below w.heap.size w w' ∧ e = .returned (.tuple #[.agg (rinsC (rdecI x)), .int .i64 (if rgoodI x then 0 else 50)]) := by
  have hr : rreadI x = ⟨x / 67108864, 0, x / 4194304 % 16, 0, 0, x % 65536 - 65536⟩ := by
    unfold rreadI; rw [hs]; simp [hasL, hsg]
  have bd := rread_bd x h0 h1
  have hen := fun W hW => rencode_any (rreadI x) W hW bd.1 bd.2.1 bd.2.2.1 bd.2.2.2.1 bd.2.2.2.2.1 bd.2.2.2.2.2
  have hsh := fun W hW => rshape_any (x / 67108864) W hW
  rw [hs] at hsh
  clear bd hs
  obtain ⟨PI, hPI⟩ : ∃ PI, rinsC (rdecI x) = PI := ⟨_, rfl⟩
  obtain ⟨PC, hPC⟩ : ∃ PC : Int, (if rgoodI x then 0 else 50) = PC := ⟨_, rfl⟩
  rw [hPI, hPC]
  have hgd : rgoodI x = (decide (rcheckI (rreadI x) = 0) && decide (rwordI (rreadI x) = x)) := rfl
  have hdc : rdecI x = if rgoodI x then rreadI x else ins0 := rfl
  rw [hdc] at hPI
  clear hdc
  obtain ⟨KK, hK⟩ : ∃ K, rcheckI (rreadI x) = K := ⟨_, rfl⟩
  obtain ⟨V, hV⟩ : ∃ V, (if KK = 0 then rwordI (rreadI x) else 0) = V := ⟨_, rfl⟩
  simp only [hK, hV] at hen
  rw [hK] at hgd
  rw [hr] at hPI
  simp only [hr, rinsC] at hen
  clear hK
  have haA : ∀ W, Calls Tryd.prog 39 #[.string (strS [97, 115]), .int .u8 97] W fun e w' => e = .returned (.bool true) ∧ w' = W := fun W => has_any [97, 115] 97 W (by decide)
  have haB : ∀ W, Calls Tryd.prog 39 #[.string (strS [97, 115]), .int .u8 98] W fun e w' => e = .returned (.bool false) ∧ w' = W := fun W => has_any [97, 115] 98 W (by decide)
  have haC : ∀ W, Calls Tryd.prog 39 #[.string (strS [97, 115]), .int .u8 99] W fun e w' => e = .returned (.bool false) ∧ w' = W := fun W => has_any [97, 115] 99 W (by decide)
  have haK : ∀ W, Calls Tryd.prog 39 #[.string (strS [97, 115]), .int .u8 107] W fun e w' => e = .returned (.bool false) ∧ w' = W := fun W => has_any [97, 115] 107 W (by decide)
  have haU : ∀ W, Calls Tryd.prog 39 #[.string (strS [97, 115]), .int .u8 117] W fun e w' => e = .returned (.bool false) ∧ w' = W := fun W => has_any [97, 115] 117 W (by decide)
  have haS : ∀ W, Calls Tryd.prog 39 #[.string (strS [97, 115]), .int .u8 115] W fun e w' => e = .returned (.bool true) ∧ w' = W := fun W => has_any [97, 115] 115 W (by decide)
  have haO : ∀ W, Calls Tryd.prog 39 #[.string (strS [97, 115]), .int .u8 111] W fun e w' => e = .returned (.bool false) ∧ w' = W := fun W => has_any [97, 115] 111 W (by decide)
  obtain ⟨S, hS⟩ : ∃ S, strS [97, 115] = S := ⟨_, rfl⟩
  rw [hS] at hsh haA haB haC haK haU haS haO
  clear hS
  have dsg : decide (x % 65536 ≥ 32768) = true := decide_eq_true hsg
  replace haA := Lib.hid haA; replace haB := Lib.hid haB; replace haC := Lib.hid haC; replace haK := Lib.hid haK; replace haU := Lib.hid haU; replace haS := Lib.hid haS; replace haO := Lib.hid haO
  replace hPI := Lib.hid hPI; replace hPC := Lib.hid hPC; replace hV := Lib.hid hV; replace hr := Lib.hid hr; replace hgd := Lib.hid hgd; replace hsh := Lib.hid hsh; replace hen := Lib.hid hen
  go_enter Tryd.func25, Tryd.ntmps25
  go_upto_region 18 with (first
    | (go_at_call 29; refine (hsh.out _ (hT.later (((Below.refl _ _).alloc (Nat.le_refl _) _).alloc (by simp) _))).mono ?_; rintro e w2 ⟨rfl, rfl⟩)
    | (go_at_call_of 39 (Value.int .u8 97); refine (haA.out _).mono ?_; rintro e w2 ⟨rfl, rfl⟩)
    | (go_at_call_of 39 (Value.int .u8 98); refine (haB.out _).mono ?_; rintro e w2 ⟨rfl, rfl⟩)
    | (go_at_call_of 39 (Value.int .u8 99); refine (haC.out _).mono ?_; rintro e w2 ⟨rfl, rfl⟩)
    | (go_at_call_of 39 (Value.int .u8 107); refine (haK.out _).mono ?_; rintro e w2 ⟨rfl, rfl⟩)
    | (go_at_call_of 39 (Value.int .u8 117); refine (haU.out _).mono ?_; rintro e w2 ⟨rfl, rfl⟩)
    | (go_at_call_of 39 (Value.int .u8 115); refine (haS.out _).mono ?_; rintro e w2 ⟨rfl, rfl⟩)
    | (go_at_call_of 39 (Value.int .u8 111); refine (haO.out _).mono ?_; rintro e w2 ⟨rfl, rfl⟩))
  obtain ⟨w1, hw1⟩ : ∃ w1, (w.alloc (.cells #[.int .i64 0, .int .i64 0, .int .i64 0, .int .i64 0, .int .i64 0, .int .i64 0] 59)).alloc (.cells #[.int .i64 (x / 67108864), .int .i64 0, .int .i64 (x / 4194304 % 16), .int .i64 0, .int .i64 0, .int .i64 (x % 65536 - 65536)] 59) = w1 := ⟨_, rfl⟩
  have hb1 : Below w.heap.size w w1 := by rw [← hw1]; exact ((Below.refl _ _).alloc (Nat.le_refl _) _).alloc (by simp) _
  have hsz : w1.heap.size = w.heap.size + 2 := by rw [← hw1]; simp
  have q0 : w1.heap[w.heap.size]? = some (.cells #[.int .i64 0, .int .i64 0, .int .i64 0, .int .i64 0, .int .i64 0, .int .i64 0] 59 (0, 0)) := by
    rw [← hw1, heap_alloc_old _ _ (by simp)]; exact heap_alloc_new w _
  have q1 : w1.heap[w.heap.size + 1]? = some (.cells #[.int .i64 (x / 67108864), .int .i64 0, .int .i64 (x / 4194304 % 16), .int .i64 0, .int .i64 0, .int .i64 (x % 65536 - 65536)] 59 (0, 0)) := by
    rw [← hw1]
    have := heap_alloc_new (w.alloc (.cells #[.int .i64 0, .int .i64 0, .int .i64 0, .int .i64 0, .int .i64 0, .int .i64 0] 59)) (.cells #[.int .i64 (x / 67108864), .int .i64 0, .int .i64 (x / 4194304 % 16), .int .i64 0, .int .i64 0, .int .i64 (x % 65536 - 65536)] 59)
    rwa [show (w.alloc (.cells #[.int .i64 0, .int .i64 0, .int .i64 0, .int .i64 0, .int .i64 0, .int .i64 0] 59)).heap.size = w.heap.size + 1 by simp] at this
  rw [hw1]
  clear hw1 haA haB haC haK haU haS haO hsh
  have hT2 := hT.later hb1
  have e0 : w1.cell? ⟨w.heap.size + 1, 0, none⟩ = some (.int .i64 (x / 67108864)) := cell_of_row _ _ _ _ _ _ q1
  have e1 : w1.cell? ⟨w.heap.size + 1, 1, none⟩ = some (.int .i64 (0)) := cell_of_row _ _ _ _ _ _ q1
  have e2 : w1.cell? ⟨w.heap.size + 1, 2, none⟩ = some (.int .i64 (x / 4194304 % 16)) := cell_of_row _ _ _ _ _ _ q1
  have e3 : w1.cell? ⟨w.heap.size + 1, 3, none⟩ = some (.int .i64 (0)) := cell_of_row _ _ _ _ _ _ q1
  have e4 : w1.cell? ⟨w.heap.size + 1, 4, none⟩ = some (.int .i64 (0)) := cell_of_row _ _ _ _ _ _ q1
  have e5 : w1.cell? ⟨w.heap.size + 1, 5, none⟩ = some (.int .i64 (x % 65536 - 65536)) := cell_of_row _ _ _ _ _ _ q1
  replace hb1 := Lib.hid hb1; replace q0 := Lib.hid q0; replace q1 := Lib.hid q1; replace hsz := Lib.hid hsz; replace hT2 := Lib.hid hT2
  go_upto_region 19 with (go_at_call 40; refine (hen.out _ hT2.out).mono ?_; rintro e w3 ⟨hb3, rfl⟩)
  have hbA : Below w.heap.size w w3 := hb1.out.trans (hb3.mono (by rw [hsz.out]; omega))
  have hs3 := hbA.size
  have hq0 := (hb3.block _ (by rw [hsz.out]; omega)).trans q0.out
  have hq1 := (hb3.block _ (by rw [hsz.out]; omega)).trans q1.out
  clear e0 e1 e2 e3 e4 e5 hb3 hen hb1 q0 q1 hsz hT2 hT
  have e0 : w3.cell? ⟨w.heap.size + 1, 0, none⟩ = some (.int .i64 (x / 67108864)) := cell_of_row _ _ _ _ _ _ hq1
  have e1 : w3.cell? ⟨w.heap.size + 1, 1, none⟩ = some (.int .i64 (0)) := cell_of_row _ _ _ _ _ _ hq1
  have e2 : w3.cell? ⟨w.heap.size + 1, 2, none⟩ = some (.int .i64 (x / 4194304 % 16)) := cell_of_row _ _ _ _ _ _ hq1
  have e3 : w3.cell? ⟨w.heap.size + 1, 3, none⟩ = some (.int .i64 (0)) := cell_of_row _ _ _ _ _ _ hq1
  have e4 : w3.cell? ⟨w.heap.size + 1, 4, none⟩ = some (.int .i64 (0)) := cell_of_row _ _ _ _ _ _ hq1
  have e5 : w3.cell? ⟨w.heap.size + 1, 5, none⟩ = some (.int .i64 (x % 65536 - 65536)) := cell_of_row _ _ _ _ _ _ hq1
  have gz : ∀ j, w3.frozen? ⟨w.heap.size, j, none⟩ = false := fun j => frozen_of_row _ _ j _ _ hq0
  by_cases hK0 : KK = 0
  · by_cases hVx : V = x
    · have hg : rgoodI x = true := by
        have hv := hV.out
        rw [if_pos hK0] at hv; rw [hgd.out, hv, hK0, hVx]; simp
      have hc0 := hPC.out
      have hi0 := hPI.out
      rw [hg, if_pos rfl] at hc0 hi0
      subst hc0; subst hi0; subst hK0; have hVy := hVx.symm; clear hVx; subst hVy
      have dV : (x != x) = false := by simp
      have hOne : (#[.int .i64 (x / 67108864), .int .i64 0, .int .i64 (x / 4194304 % 16), .int .i64 0, .int .i64 0, .int .i64 (x % 65536 - 65536)] : Array Value).all (·.oneCell') = true := by simp [Value.oneCell']
      clear gz hg hPI hPC hV hgd hr
      replace hOne := Lib.hid hOne; replace hbA := Lib.hid hbA; replace hq1 := Lib.hid hq1; replace hq0 := Lib.hid hq0
      go_wp2_with (first | (refine wpList_store_whole rfl 59 _ _ rfl w.heap.size #[.int .i64 (x / 67108864), .int .i64 0, .int .i64 (x / 4194304 % 16), .int .i64 0, .int .i64 0, .int .i64 (x % 65536 - 65536)] rfl rfl 59 _ hq0.out infoRIns rfl hOne.out ?_; intro w5 hB5 g5; have hbf := Lib.hid (hbA.out.grown g5 (by omega) (by intro k hk; simp only [Option.some.injEq] at hk; omega)); clear g5; replace hB5 := Lib.hid hB5))
      exact bodyPost_ret (v := .tuple #[.agg #[.int .i64 (x / 67108864), .int .i64 0, .int .i64 (x / 4194304 % 16), .int .i64 0, .int .i64 0, .int .i64 (x % 65536 - 65536)], .int .i64 0]) (results_fst rfl rfl rfl hB5.out Tryd.underlying59 rfl infoRIns) rfl ⟨hbf.out, rfl⟩
    · have dV : (V == x) = false := by simpa using hVx
      have hg : rgoodI x = false := by
        have hv := hV.out
        rw [if_pos hK0] at hv; rw [hgd.out, hv]; simp [hVx]
      have hc0 := hPC.out
      have hi0 := hPI.out
      rw [hg, if_neg (by simp)] at hc0 hi0
      have s0 : w3.setCell ⟨w.heap.size, 0, none⟩ (.int .i64 0) = w3 := setCell_idI hq0 rfl
      have s1 : w3.setCell ⟨w.heap.size, 1, none⟩ (.int .i64 0) = w3 := setCell_idI hq0 rfl
      have s2 : w3.setCell ⟨w.heap.size, 2, none⟩ (.int .i64 0) = w3 := setCell_idI hq0 rfl
      have s3 : w3.setCell ⟨w.heap.size, 3, none⟩ (.int .i64 0) = w3 := setCell_idI hq0 rfl
      have s4 : w3.setCell ⟨w.heap.size, 4, none⟩ (.int .i64 0) = w3 := setCell_idI hq0 rfl
      have s5 : w3.setCell ⟨w.heap.size, 5, none⟩ (.int .i64 0) = w3 := setCell_idI hq0 rfl
      have g0 : w3.cell? ⟨w.heap.size, 0, none⟩ = some (.int .i64 0) := cell_of_row _ _ _ _ _ _ hq0
      have g1 : w3.cell? ⟨w.heap.size, 1, none⟩ = some (.int .i64 0) := cell_of_row _ _ _ _ _ _ hq0
      have g2 : w3.cell? ⟨w.heap.size, 2, none⟩ = some (.int .i64 0) := cell_of_row _ _ _ _ _ _ hq0
      have g3 : w3.cell? ⟨w.heap.size, 3, none⟩ = some (.int .i64 0) := cell_of_row _ _ _ _ _ _ hq0
      have g4 : w3.cell? ⟨w.heap.size, 4, none⟩ = some (.int .i64 0) := cell_of_row _ _ _ _ _ _ hq0
      have g5 : w3.cell? ⟨w.heap.size, 5, none⟩ = some (.int .i64 0) := cell_of_row _ _ _ _ _ _ hq0
      subst hc0; subst hi0; subst hK0
      clear hg hPI hPC hV hgd hr
      replace hbA := Lib.hid hbA; replace hq1 := Lib.hid hq1; replace hq0 := Lib.hid hq0
      go_wp2_with fail
      exact bodyPost_ret (v := .tuple #[.agg (rinsC ins0), .int .i64 50]) (results_fst rfl rfl rfl hq0.out Tryd.underlying59 rfl infoRIns) rfl ⟨hbA.out, rfl⟩
  · have dK : (KK == 0) = false := by simpa using hK0
    have hg : rgoodI x = false := by rw [hgd.out]; simp [hK0]
    have hc0 := hPC.out
    have hi0 := hPI.out
    rw [hg, if_neg (by simp)] at hc0 hi0
    have s0 : w3.setCell ⟨w.heap.size, 0, none⟩ (.int .i64 0) = w3 := setCell_idI hq0 rfl
    have s1 : w3.setCell ⟨w.heap.size, 1, none⟩ (.int .i64 0) = w3 := setCell_idI hq0 rfl
    have s2 : w3.setCell ⟨w.heap.size, 2, none⟩ (.int .i64 0) = w3 := setCell_idI hq0 rfl
    have s3 : w3.setCell ⟨w.heap.size, 3, none⟩ (.int .i64 0) = w3 := setCell_idI hq0 rfl
    have s4 : w3.setCell ⟨w.heap.size, 4, none⟩ (.int .i64 0) = w3 := setCell_idI hq0 rfl
    have s5 : w3.setCell ⟨w.heap.size, 5, none⟩ (.int .i64 0) = w3 := setCell_idI hq0 rfl
    have g0 : w3.cell? ⟨w.heap.size, 0, none⟩ = some (.int .i64 0) := cell_of_row _ _ _ _ _ _ hq0
    have g1 : w3.cell? ⟨w.heap.size, 1, none⟩ = some (.int .i64 0) := cell_of_row _ _ _ _ _ _ hq0
    have g2 : w3.cell? ⟨w.heap.size, 2, none⟩ = some (.int .i64 0) := cell_of_row _ _ _ _ _ _ hq0
    have g3 : w3.cell? ⟨w.heap.size, 3, none⟩ = some (.int .i64 0) := cell_of_row _ _ _ _ _ _ hq0
    have g4 : w3.cell? ⟨w.heap.size, 4, none⟩ = some (.int .i64 0) := cell_of_row _ _ _ _ _ _ hq0
    have g5 : w3.cell? ⟨w.heap.size, 5, none⟩ = some (.int .i64 0) := cell_of_row _ _ _ _ _ _ hq0
    subst hc0; subst hi0
    clear hg hPI hPC hV hgd hr
    replace hbA := Lib.hid hbA; replace hq1 := Lib.hid hq1; replace hq0 := Lib.hid hq0
    go_wp2_with fail
    exact bodyPost_ret (v := .tuple #[.agg (rinsC ins0), .int .i64 50]) (results_fst rfl rfl rfl hq0.out Tryd.underlying59 rfl infoRIns) rfl ⟨hbA.out, rfl⟩
set_option maxRecDepth 100000 in
set_option maxHeartbeats 4000000 in
theorem rdec_asP (x : Int) (w : World) (hT : RTabs w) (h0 : 0 ≤ x) (h1 : x ≤ 4294967295) (hs : shapeI (x / 67108864) = [97, 115]) (hsg : ¬ 32768 ≤ x % 65536) :
    Calls Tryd.prog 25 #[.int .u32 x] w fun e w' => Below w.heap.size w w' ∧ e = .returned (.tuple #[.agg (rinsC (rdecI x)), .int .i64 (if rgoodI x then 0 else 50)]) := by
  have hr : rreadI x = ⟨x / 67108864, 0, x / 4194304 % 16, 0, 0, x % 65536⟩ := by
    unfold rreadI; rw [hs]; simp [hasL, hsg]
  have bd := rread_bd x h0 h1
  have hen := fun W hW => rencode_any (rreadI x) W hW bd.1 bd.2.1 bd.2.2.1 bd.2.2.2.1 bd.2.2.2.2.1 bd.2.2.2.2.2
  have hsh := fun W hW => rshape_any (x / 67108864) W hW
  rw [hs] at hsh
  clear bd hs
  obtain ⟨PI, hPI⟩ : ∃ PI, rinsC (rdecI x) = PI := ⟨_, rfl⟩
  obtain ⟨PC, hPC⟩ : ∃ PC : Int, (if rgoodI x then 0 else 50) = PC := ⟨_, rfl⟩
  rw [hPI, hPC]
  have hgd : rgoodI x = (decide (rcheckI (rreadI x) = 0) && decide (rwordI (rreadI x) = x)) := rfl
  have hdc : rdecI x = if rgoodI x then rreadI x else ins0 := rfl
  rw [hdc] at hPI
  clear hdc
  obtain ⟨KK, hK⟩ : ∃ K, rcheckI (rreadI x) = K := ⟨_, rfl⟩
  obtain ⟨V, hV⟩ : ∃ V, (if KK = 0 then rwordI (rreadI x) else 0) = V := ⟨_, rfl⟩
  simp only [hK, hV] at hen
  rw [hK] at hgd
  rw [hr] at hPI
  simp only [hr, rinsC] at hen
  clear hK
  have haA : ∀ W, Calls Tryd.prog 39 #[.string (strS [97, 115]), .int .u8 97] W fun e w' => e = .returned (.bool true) ∧ w' = W := fun W => has_any [97, 115] 97 W (by decide)
  have haB : ∀ W, Calls Tryd.prog 39 #[.string (strS [97, 115]), .int .u8 98] W fun e w' => e = .returned (.bool false) ∧ w' = W := fun W => has_any [97, 115] 98 W (by decide)
  have haC : ∀ W, Calls Tryd.prog 39 #[.string (strS [97, 115]), .int .u8 99] W fun e w' => e = .returned (.bool false) ∧ w' = W := fun W => has_any [97, 115] 99 W (by decide)
  have haK : ∀ W, Calls Tryd.prog 39 #[.string (strS [97, 115]), .int .u8 107] W fun e w' => e = .returned (.bool false) ∧ w' = W := fun W => has_any [97, 115] 107 W (by decide)
  have haU : ∀ W, Calls Tryd.prog 39 #[.string (strS [97, 115]), .int .u8 117] W fun e w' => e = .returned (.bool false) ∧ w' = W := fun W => has_any [97, 115] 117 W (by decide)
  have haS : ∀ W, Calls Tryd.prog 39 #[.string (strS [97, 115]), .int .u8 115] W fun e w' => e = .returned (.bool true) ∧ w' = W := fun W => has_any [97, 115] 115 W (by decide)
  have haO : ∀ W, Calls Tryd.prog 39 #[.string (strS [97, 115]), .int .u8 111] W fun e w' => e = .returned (.bool false) ∧ w' = W := fun W => has_any [97, 115] 111 W (by decide)
  obtain ⟨S, hS⟩ : ∃ S, strS [97, 115] = S := ⟨_, rfl⟩
  rw [hS] at hsh haA haB haC haK haU haS haO
  clear hS
  have dsg : decide (x % 65536 ≥ 32768) = false := decide_eq_false hsg
  replace haA := Lib.hid haA; replace haB := Lib.hid haB; replace haC := Lib.hid haC; replace haK := Lib.hid haK; replace haU := Lib.hid haU; replace haS := Lib.hid haS; replace haO := Lib.hid haO
  replace hPI := Lib.hid hPI; replace hPC := Lib.hid hPC; replace hV := Lib.hid hV; replace hr := Lib.hid hr; replace hgd := Lib.hid hgd; replace hsh := Lib.hid hsh; replace hen := Lib.hid hen
  go_enter Tryd.func25, Tryd.ntmps25
  go_upto_region 18 with (first
    | (go_at_call 29; refine (hsh.out _ (hT.later (((Below.refl _ _).alloc (Nat.le_refl _) _).alloc (by simp) _))).mono ?_; rintro e w2 ⟨rfl, rfl⟩)
    | (go_at_call_of 39 (Value.int .u8 97); refine (haA.out _).mono ?_; rintro e w2 ⟨rfl, rfl⟩)
    | (go_at_call_of 39 (Value.int .u8 98); refine (haB.out _).mono ?_; rintro e w2 ⟨rfl, rfl⟩)
    | (go_at_call_of 39 (Value.int .u8 99); refine (haC.out _).mono ?_; rintro e w2 ⟨rfl, rfl⟩)
    | (go_at_call_of 39 (Value.int .u8 107); refine (haK.out _).mono ?_; rintro e w2 ⟨rfl, rfl⟩)
    | (go_at_call_of 39 (Value.int .u8 117); refine (haU.out _).mono ?_; rintro e w2 ⟨rfl, rfl⟩)
    | (go_at_call_of 39 (Value.int .u8 115); refine (haS.out _).mono ?_; rintro e w2 ⟨rfl, rfl⟩)
    | (go_at_call_of 39 (Value.int .u8 111); refine (haO.out _).mono ?_; rintro e w2 ⟨rfl, rfl⟩))
  obtain ⟨w1, hw1⟩ : ∃ w1, (w.alloc (.cells #[.int .i64 0, .int .i64 0, .int .i64 0, .int .i64 0, .int .i64 0, .int .i64 0] 59)).alloc (.cells #[.int .i64 (x / 67108864), .int .i64 0, .int .i64 (x / 4194304 % 16), .int .i64 0, .int .i64 0, .int .i64 (x % 65536)] 59) = w1 := ⟨_, rfl⟩
  have hb1 : Below w.heap.size w w1 := by rw [← hw1]; exact ((Below.refl _ _).alloc (Nat.le_refl _) _).alloc (by simp) _
  have hsz : w1.heap.size = w.heap.size + 2 := by rw [← hw1]; simp
  have q0 : w1.heap[w.heap.size]? = some (.cells #[.int .i64 0, .int .i64 0, .int .i64 0, .int .i64 0, .int .i64 0, .int .i64 0] 59 (0, 0)) := by
    rw [← hw1, heap_alloc_old _ _ (by simp)]; exact heap_alloc_new w _
  have q1 : w1.heap[w.heap.size + 1]? = some (.cells #[.int .i64 (x / 67108864), .int .i64 0, .int .i64 (x / 4194304 % 16), .int .i64 0, .int .i64 0, .int .i64 (x % 65536)] 59 (0, 0)) := by
    rw [← hw1]
    have := heap_alloc_new (w.alloc (.cells #[.int .i64 0, .int .i64 0, .int .i64 0, .int .i64 0, .int .i64 0, .int .i64 0] 59)) (.cells #[.int .i64 (x / 67108864), .int .i64 0, .int .i64 (x / 4194304 % 16), .int .i64 0, .int .i64 0, .int .i64 (x % 65536)] 59)
    rwa [show (w.alloc (.cells #[.int .i64 0, .int .i64 0, .int .i64 0, .int .i64 0, .int .i64 0, .int .i64 0] 59)).heap.size = w.heap.size + 1 by simp] at this
  rw [hw1]
  clear hw1 haA haB haC haK haU haS haO hsh
  have hT2 := hT.later hb1
  have e0 : w1.cell? ⟨w.heap.size + 1, 0, none⟩ = some (.int .i64 (x / 67108864)) := cell_of_row _ _ _ _ _ _ q1
  have e1 : w1.cell? ⟨w.heap.size + 1, 1, none⟩ = some (.int .i64 (0)) := cell_of_row _ _ _ _ _ _ q1
  have e2 : w1.cell? ⟨w.heap.size + 1, 2, none⟩ = some (.int .i64 (x / 4194304 % 16)) := cell_of_row _ _ _ _ _ _ q1
  have e3 : w1.cell? ⟨w.heap.size + 1, 3, none⟩ = some (.int .i64 (0)) := cell_of_row _ _ _ _ _ _ q1
  have e4 : w1.cell? ⟨w.heap.size + 1, 4, none⟩ = some (.int .i64 (0)) := cell_of_row _ _ _ _ _ _ q1
  have e5 : w1.cell? ⟨w.heap.size + 1, 5, none⟩ = some (.int .i64 (x % 65536)) := cell_of_row _ _ _ _ _ _ q1
  replace hb1 := Lib.hid hb1; replace q0 := Lib.hid q0; replace q1 := Lib.hid q1; replace hsz := Lib.hid hsz; replace hT2 := Lib.hid hT2
  go_upto_region 19 with (go_at_call 40; refine (hen.out _ hT2.out).mono ?_; rintro e w3 ⟨hb3, rfl⟩)
  have hbA : Below w.heap.size w w3 := hb1.out.trans (hb3.mono (by rw [hsz.out]; omega))
  have hs3 := hbA.size
  have hq0 := (hb3.block _ (by rw [hsz.out]; omega)).trans q0.out
  have hq1 := (hb3.block _ (by rw [hsz.out]; omega)).trans q1.out
  clear e0 e1 e2 e3 e4 e5 hb3 hen hb1 q0 q1 hsz hT2 hT
  have e0 : w3.cell? ⟨w.heap.size + 1, 0, none⟩ = some (.int .i64 (x / 67108864)) := cell_of_row _ _ _ _ _ _ hq1
  have e1 : w3.cell? ⟨w.heap.size + 1, 1, none⟩ = some (.int .i64 (0)) := cell_of_row _ _ _ _ _ _ hq1
  have e2 : w3.cell? ⟨w.heap.size + 1, 2, none⟩ = some (.int .i64 (x / 4194304 % 16)) := cell_of_row _ _ _ _ _ _ hq1
  have e3 : w3.cell? ⟨w.heap.size + 1, 3, none⟩ = some (.int .i64 (0)) := cell_of_row _ _ _ _ _ _ hq1
  have e4 : w3.cell? ⟨w.heap.size + 1, 4, none⟩ = some (.int .i64 (0)) := cell_of_row _ _ _ _ _ _ hq1
  have e5 : w3.cell? ⟨w.heap.size + 1, 5, none⟩ = some (.int .i64 (x % 65536)) := cell_of_row _ _ _ _ _ _ hq1
  have gz : ∀ j, w3.frozen? ⟨w.heap.size, j, none⟩ = false := fun j => frozen_of_row _ _ j _ _ hq0
  by_cases hK0 : KK = 0
  · by_cases hVx : V = x
    · have hg : rgoodI x = true := by
        have hv := hV.out
        rw [if_pos hK0] at hv; rw [hgd.out, hv, hK0, hVx]; simp
      have hc0 := hPC.out
      have hi0 := hPI.out
      rw [hg, if_pos rfl] at hc0 hi0
      subst hc0; subst hi0; subst hK0; have hVy := hVx.symm; clear hVx; subst hVy
      have dV : (x != x) = false := by simp
      have hOne : (#[.int .i64 (x / 67108864), .int .i64 0, .int .i64 (x / 4194304 % 16), .int .i64 0, .int .i64 0, .int .i64 (x % 65536)] : Array Value).all (·.oneCell') = true := by simp [Value.oneCell']
      clear gz hg hPI hPC hV hgd hr
      replace hOne := Lib.hid hOne; replace hbA := Lib.hid hbA; replace hq1 := Lib.hid hq1; replace hq0 := Lib.hid hq0
      go_wp2_with (first | (refine wpList_store_whole rfl 59 _ _ rfl w.heap.size #[.int .i64 (x / 67108864), .int .i64 0, .int .i64 (x / 4194304 % 16), .int .i64 0, .int .i64 0, .int .i64 (x % 65536)] rfl rfl 59 _ hq0.out infoRIns rfl hOne.out ?_; intro w5 hB5 g5; have hbf := Lib.hid (hbA.out.grown g5 (by omega) (by intro k hk; simp only [Option.some.injEq] at hk; omega)); clear g5; replace hB5 := Lib.hid hB5))
      exact bodyPost_ret (v := .tuple #[.agg #[.int .i64 (x / 67108864), .int .i64 0, .int .i64 (x / 4194304 % 16), .int .i64 0, .int .i64 0, .int .i64 (x % 65536)], .int .i64 0]) (results_fst rfl rfl rfl hB5.out Tryd.underlying59 rfl infoRIns) rfl ⟨hbf.out, rfl⟩
    · have dV : (V == x) = false := by simpa using hVx
      have hg : rgoodI x = false := by
        have hv := hV.out
        rw [if_pos hK0] at hv; rw [hgd.out, hv]; simp [hVx]
      have hc0 := hPC.out
      have hi0 := hPI.out
      rw [hg, if_neg (by simp)] at hc0 hi0
      have s0 : w3.setCell ⟨w.heap.size, 0, none⟩ (.int .i64 0) = w3 := setCell_idI hq0 rfl
      have s1 : w3.setCell ⟨w.heap.size, 1, none⟩ (.int .i64 0) = w3 := setCell_idI hq0 rfl
      have s2 : w3.setCell ⟨w.heap.size, 2, none⟩ (.int .i64 0) = w3 := setCell_idI hq0 rfl
      have s3 : w3.setCell ⟨w.heap.size, 3, none⟩ (.int .i64 0) = w3 := setCell_idI hq0 rfl
      have s4 : w3.setCell ⟨w.heap.size, 4, none⟩ (.int .i64 0) = w3 := setCell_idI hq0 rfl
      have s5 : w3.setCell ⟨w.heap.size, 5, none⟩ (.int .i64 0) = w3 := setCell_idI hq0 rfl
      have g0 : w3.cell? ⟨w.heap.size, 0, none⟩ = some (.int .i64 0) := cell_of_row _ _ _ _ _ _ hq0
      have g1 : w3.cell? ⟨w.heap.size, 1, none⟩ = some (.int .i64 0) := cell_of_row _ _ _ _ _ _ hq0
      have g2 : w3.cell? ⟨w.heap.size, 2, none⟩ = some (.int .i64 0) := cell_of_row _ _ _ _ _ _ hq0
      have g3 : w3.cell? ⟨w.heap.size, 3, none⟩ = some (.int .i64 0) := cell_of_row _ _ _ _ _ _ hq0
      have g4 : w3.cell? ⟨w.heap.size, 4, none⟩ = some (.int .i64 0) := cell_of_row _ _ _ _ _ _ hq0
      have g5 : w3.cell? ⟨w.heap.size, 5, none⟩ = some (.int .i64 0) := cell_of_row _ _ _ _ _ _ hq0
      subst hc0; subst hi0; subst hK0
      clear hg hPI hPC hV hgd hr
      replace hbA := Lib.hid hbA; replace hq1 := Lib.hid hq1; replace hq0 := Lib.hid hq0
      go_wp2_with fail
      exact bodyPost_ret (v := .tuple #[.agg (rinsC ins0), .int .i64 50]) (results_fst rfl rfl rfl hq0.out Tryd.underlying59 rfl infoRIns) rfl ⟨hbA.out, rfl⟩
  · have dK : (KK == 0) = false := by simpa using hK0
    have hg : rgoodI x = false := by rw [hgd.out]; simp [hK0]
    have hc0 := hPC.out
    have hi0 := hPI.out
    rw [hg, if_neg (by simp)] at hc0 hi0
    have s0 : w3.setCell ⟨w.heap.size, 0, none⟩ (.int .i64 0) = w3 := setCell_idI hq0 rfl
    have s1 : w3.setCell ⟨w.heap.size, 1, none⟩ (.int .i64 0) = w3 := setCell_idI hq0 rfl
    have s2 : w3.setCell ⟨w.heap.size, 2, none⟩ (.int .i64 0) = w3 := setCell_idI hq0 rfl
    have s3 : w3.setCell ⟨w.heap.size, 3, none⟩ (.int .i64 0) = w3 := setCell_idI hq0 rfl
    have s4 : w3.setCell ⟨w.heap.size, 4, none⟩ (.int .i64 0) = w3 := setCell_idI hq0 rfl
    have s5 : w3.setCell ⟨w.heap.size, 5, none⟩ (.int .i64 0) = w3 := setCell_idI hq0 rfl
    have g0 : w3.cell? ⟨w.heap.size, 0, none⟩ = some (.int .i64 0) := cell_of_row _ _ _ _ _ _ hq0
    have g1 : w3.cell? ⟨w.heap.size, 1, none⟩ = some (.int .i64 0) := cell_of_row _ _ _ _ _ _ hq0
    have g2 : w3.cell? ⟨w.heap.size, 2, none⟩ = some (.int .i64 0) := cell_of_row _ _ _ _ _ _ hq0
    have g3 : w3.cell? ⟨w.heap.size, 3, none⟩ = some (.int .i64 0) := cell_of_row _ _ _ _ _ _ hq0
    have g4 : w3.cell? ⟨w.heap.size, 4, none⟩ = some (.int .i64 0) := cell_of_row _ _ _ _ _ _ hq0
    have g5 : w3.cell? ⟨w.heap.size, 5, none⟩ = some (.int .i64 0) := cell_of_row _ _ _ _ _ _ hq0
    subst hc0; subst hi0
    clear hg hPI hPC hV hgd hr
    replace hbA := Lib.hid hbA; replace hq1 := Lib.hid hq1; replace hq0 := Lib.hid hq0
    go_wp2_with fail
    exact bodyPost_ret (v := .tuple #[.agg (rinsC ins0), .int .i64 50]) (results_fst rfl rfl rfl hq0.out Tryd.underlying59 rfl infoRIns) rfl ⟨hbA.out, rfl⟩
end YtiknookfnameiaaDoor
end Go.Proofs
