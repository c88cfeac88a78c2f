/- The contract of the law's texts. -/
import Derived.Test.YtedhinekkmoheaaLawD
namespace Go.Proofs.Ytedhinekkmoheaa
open Go.RowKit WP
set_option linter.unusedSectionVars false
section
variable (A B C D N M : Int) (vL vP vB : Value) (s : ByteArray) (w : World)
set_option maxRecDepth 100000 in
set_option maxHeartbeats 1000000 in
theorem ltexts_2 (l : List UInt8) (hl : Rd w vB (vb l)) :
    Calls Try.prog 44 #[.agg #[.int .i64 2, .int .u32 A, .int .u32 B, .int .u32 C, .int .u32 D, .int .i64 N, .int .i64 M, vL, vP, vB, .string s]] w fun e w' => e = .returned (.bool true) ∧ Below w.heap.size w w' := by
  have hl := Lib.hid hl
  go_enter Try.func44, Try.ntmps44
  go_wp2_with fail
  obtain ⟨wb, hwb⟩ : ∃ wb, w.alloc (.cells #[.int .i64 2, .int .u32 A, .int .u32 B, .int .u32 C, .int .u32 D, .int .i64 N, .int .i64 M, vL, vP, vB, .string s] 67) = wb := ⟨_, rfl⟩
  have c0 : wb.cell? ⟨w.heap.size, 9, none⟩ = some (vB) := by rw [← hwb]; simp [go_sem]
  have hB0 : Below w.heap.size w wb := by rw [← hwb]; exact (Below.refl _ _).alloc (Nat.le_refl _) _
  have hz : w.heap.size < wb.heap.size := by rw [← hwb]; simp
  have r0 : Rd wb vB (vb l) := by rw [← hwb]; exact hl.out.alloc _
  rw [hwb]
  clear hwb
  refine (rwords_all _ l _ r0).mono ?_
  rintro e w1 ⟨v1, rfl, ho1, hb1⟩
  have r1 := r0.mono hb1
  have c1 := (hb1.cell (p := ⟨w.heap.size, 9, none⟩) hz).trans c0
  have hB1 := hB0.trans (hb1.mono hB0.size)
  clear r0 c0 hb1 hB0 hz
  go_wp2_with fail
  refine (words_all _ l _ r1).mono ?_
  rintro e w2 ⟨v2, rfl, ho2, hb2⟩
  have ho1 := ho1.mono hb2
  have hB2 := hB1.trans (hb2.mono hB1.size)
  clear r1 c1 hb2 hB1
  go_wp2_with fail
  refine (lsame_any _ _ (wordsR l) (wordsR l) _ ho2 ho1).mono ?_
  rintro e w3 ⟨rfl, n3, rfl⟩
  have ar := alike_refl (wordsR l)
  clear ho1 ho2
  go_wp2_with fail
  go_ret
  exact ⟨ret_bool (by simp), below_drewN hB2 _⟩
set_option maxRecDepth 100000 in
set_option maxHeartbeats 1000000 in
theorem ltexts_else (K : Int) (hs : s.size ≤ 9223372036854775807) (k1 : (K == 1) = false) (k2 : (K == 2) = false) (k3 : (K == 3) = false) (k4 : (K == 4) = false) (k5 : (K == 5) = false) :
    Calls Try.prog 44 #[.agg #[.int .i64 K, .int .u32 A, .int .u32 B, .int .u32 C, .int .u32 D, .int .i64 N, .int .i64 M, vL, vP, vB, .string s]] w fun e w' => e = .returned (.bool true) ∧ Below w.heap.size w w' := by
  go_enter Try.func44, Try.ntmps44
  go_wp2_with fail
  obtain ⟨wb, hwb⟩ : ∃ wb, w.alloc (.cells #[.int .i64 K, .int .u32 A, .int .u32 B, .int .u32 C, .int .u32 D, .int .i64 N, .int .i64 M, vL, vP, vB, .string s] 67) = wb := ⟨_, rfl⟩
  have c0 : wb.cell? ⟨w.heap.size, 10, none⟩ = some (.string s) := by rw [← hwb]; simp [go_sem]
  have hB0 : Below w.heap.size w wb := by rw [← hwb]; exact (Below.refl _ _).alloc (Nat.le_refl _) _
  have hz : w.heap.size < wb.heap.size := by rw [← hwb]; simp
  rw [hwb]
  clear hwb
  refine (rparseall_all s _ hs).mono ?_
  rintro e w1 ⟨v1, rfl, ho1, hb1⟩
  have c1 := (hb1.cell (p := ⟨w.heap.size, 10, none⟩) hz).trans c0
  have hB1 := hB0.trans (hb1.mono hB0.size)
  clear c0 hb1 hB0 hz
  go_wp2_with fail
  refine (parseall_all s _ hs).mono ?_
  rintro e w2 ⟨v2, rfl, ho2, hb2⟩
  have ho1 := ho1.mono hb2
  have hB2 := hB1.trans (hb2.mono hB1.size)
  clear c1 hb2 hB1
  go_wp2_with fail
  refine (lsame_any _ _ (parseR s) (parseR s) _ ho2 ho1).mono ?_
  rintro e w3 ⟨rfl, n3, rfl⟩
  have ar := alike_refl (parseR s)
  clear ho1 ho2
  go_wp2_with fail
  go_ret
  exact ⟨ret_bool (by simp), below_drewN hB2 _⟩
set_option maxRecDepth 100000 in
set_option maxHeartbeats 1000000 in
theorem ltexts_4 (hs : s.size ≤ 9223372036854775807) :
    Calls Try.prog 44 #[.agg #[.int .i64 4, .int .u32 A, .int .u32 B, .int .u32 C, .int .u32 D, .int .i64 N, .int .i64 M, vL, vP, vB, .string s]] w fun e w' => e = .returned (.bool true) ∧ Below w.heap.size w w' := by
  obtain ⟨n, e1, hp⟩ := parseHexV_pair s
  have HP := Lib.hid hp
  clear hp
  go_enter Try.func44, Try.ntmps44
  go_wp2_with fail
  refine (rparsehex_any s _ hs).mono ?_
  rw [HP.out]; unfold pairV
  rintro e w1 ⟨rfl, rfl⟩
  go_wp2_with fail
  refine (parsehex_any s _ hs).mono ?_
  rw [HP.out]; unfold pairV
  rintro e w1 ⟨rfl, rfl⟩
  go_wp2_with fail
  go_ret
  exact ⟨ret_bool (by simp), (Below.refl _ _).alloc (Nat.le_refl _) _⟩
set_option maxRecDepth 100000 in
set_option maxHeartbeats 1000000 in
theorem ltexts_5 (l : List UInt32) (hl : Rd w vL (vw l)) (hm : l.length ≤ 4294967296) :
    Calls Try.prog 44 #[.agg #[.int .i64 5, .int .u32 A, .int .u32 B, .int .u32 C, .int .u32 D, .int .i64 N, .int .i64 M, vL, vP, vB, .string s]] w fun e w' => e = .returned (.bool true) ∧ Below w.heap.size w w' := by
  have hl := Lib.hid hl
  go_enter Try.func44, Try.ntmps44
  go_wp2_with fail
  obtain ⟨wb, hwb⟩ : ∃ wb, w.alloc (.cells #[.int .i64 5, .int .u32 A, .int .u32 B, .int .u32 C, .int .u32 D, .int .i64 N, .int .i64 M, vL, vP, vB, .string s] 67) = wb := ⟨_, rfl⟩
  have c0 : wb.cell? ⟨w.heap.size, 7, none⟩ = some (vL) := by rw [← hwb]; simp [go_sem]
  have hB0 : Below w.heap.size w wb := by rw [← hwb]; exact (Below.refl _ _).alloc (Nat.le_refl _) _
  have hz : w.heap.size < wb.heap.size := by rw [← hwb]; simp
  have r0 : Rd wb vL (vw l) := by rw [← hwb]; exact hl.out.alloc _
  rw [hwb]
  clear hwb
  refine (rhexall_any _ l _ r0 hm).mono ?_
  rintro e w1 ⟨rfl, hb1⟩
  have r1 := r0.mono hb1
  have c1 := (hb1.cell (p := ⟨w.heap.size, 7, none⟩) hz).trans c0
  have hB1 := hB0.trans (hb1.mono hB0.size)
  clear r0 c0 hb1 hB0 hz
  go_wp2_with fail
  refine (hexall_any _ l _ r1 hm).mono ?_
  rintro e w2 ⟨rfl, hb2⟩
  have hB2 := hB1.trans (hb2.mono hB1.size)
  clear r1 c1 hb2 hB1
  go_wp2_with fail
  go_ret
  exact ⟨ret_bool (by simp), hB2⟩
set_option maxRecDepth 100000 in
set_option maxHeartbeats 1000000 in
theorem ltexts_3 (A1 : 0 ≤ A) (A2 : A ≤ 4294967295) :
    Calls Try.prog 44 #[.agg #[.int .i64 3, .int .u32 A, .int .u32 B, .int .u32 C, .int .u32 D, .int .i64 N, .int .i64 M, vL, vP, vB, .string s]] w fun e w' => e = .returned (.bool true) ∧ Below w.heap.size w w' := by
  go_enter Try.func44, Try.ntmps44
  go_wp2_with fail
  obtain ⟨wb, hwb⟩ : ∃ wb, w.alloc (.cells #[.int .i64 3, .int .u32 A, .int .u32 B, .int .u32 C, .int .u32 D, .int .i64 N, .int .i64 M, vL, vP, vB, .string s] 67) = wb := ⟨_, rfl⟩
  have c0 : wb.cell? ⟨w.heap.size, 1, none⟩ = some (.int .u32 A) := by rw [← hwb]; simp [go_sem]
  have hB0 : Below w.heap.size w wb := by rw [← hwb]; exact (Below.refl _ _).alloc (Nat.le_refl _) _
  have hz : w.heap.size < wb.heap.size := by rw [← hwb]; simp
  rw [hwb]
  clear hwb
  go_region_held3 (fun w' => Below wb.heap.size wb w' ∧ w'.cell? ⟨w.heap.size, 1, none⟩ = some (.int .u32 A))
    (first
      | exact ⟨Below.refl _ _, c0⟩
      | exact ⟨Below.drew (Below.refl _ _), c0⟩
      | exact ⟨by assumption, by assumption⟩
      | exact ⟨Below.drew (by assumption), by assumption⟩
      | exact ⟨hb1.trans (hb.mono hb1.size), (hb.cell (p := ⟨w.heap.size, 1, none⟩) (Nat.lt_of_lt_of_le hz hb1.size)).trans hc1⟩)
    (first
      | (go_at_call 31; obtain ⟨hb1, hc1⟩ := (by assumption : Below wb.heap.size wb _ ∧ World.cell? _ ⟨w.heap.size, 1, none⟩ = some (.int .u32 A)); refine (hex_any _ _ A1 A2).mono ?_; rintro e w1 ⟨rfl, hb⟩)
      | (go_at_call 46; refine (rhex_any _ _ A1 A2).mono ?_; rintro e w1 ⟨rfl, rfl⟩))
  have hB1 := hB0.trans ((hb1.trans (hb.mono hb1.size)).mono hB0.size)
  clear hb hb1 hc1 c0
  go_wp2_with fail
  go_ret
  exact ⟨ret_bool (by simp), hB1⟩
set_option maxRecDepth 100000 in
set_option maxHeartbeats 1000000 in
theorem ltexts_1 (l : List UInt32) (hl : Rd w vL (vw l)) (hm : l.length ≤ 4294967296) :
    Calls Try.prog 44 #[.agg #[.int .i64 1, .int .u32 A, .int .u32 B, .int .u32 C, .int .u32 D, .int .i64 N, .int .i64 M, vL, vP, vB, .string s]] w fun e w' => e = .returned (.bool true) ∧ Below w.heap.size w w' := by
  have hl := Lib.hid hl
  go_enter Try.func44, Try.ntmps44
  go_wp2_with fail
  obtain ⟨wb, hwb⟩ : ∃ wb, w.alloc (.cells #[.int .i64 1, .int .u32 A, .int .u32 B, .int .u32 C, .int .u32 D, .int .i64 N, .int .i64 M, vL, vP, vB, .string s] 67) = wb := ⟨_, rfl⟩
  have c0 : wb.cell? ⟨w.heap.size, 7, none⟩ = some (vL) := by rw [← hwb]; simp [go_sem]
  have hB0 : Below w.heap.size w wb := by rw [← hwb]; exact (Below.refl _ _).alloc (Nat.le_refl _) _
  have hz : w.heap.size < wb.heap.size := by rw [← hwb]; simp
  have r0 : Rd wb vL (vw l) := by rw [← hwb]; exact hl.out.alloc _
  rw [hwb]
  clear hwb
  refine (rbytes_any _ l _ r0 hm).mono ?_
  rintro e w1 ⟨v1, rfl, ho1, hb1⟩
  have r1 : Rd w1.drew vL (vw l) := (r0.mono hb1).kept fun _ _ _ => rfl
  have rv : Rd w1.drew v1 (vb (bytesL l)) := (Rd.of_own ho1).kept fun _ _ _ => rfl
  have c1 := (hb1.cell (p := ⟨w.heap.size, 7, none⟩) hz).trans c0
  have hB1 := (hB0.trans (hb1.mono hB0.size)).drew
  clear r0 c0 hb1 hB0 hz ho1
  have hcv1 := conv_bytes (P := Try.prog) rv 48 5 9 Try.underlying48 Try.underlying5 Try.underlying9
  go_wp2_with fail
  go_region_with (go_at_call 25; refine (bytes_any _ l _ r1 hm).mono ?_; rintro e w2 ⟨v2, rfl, ho2, hb2⟩; have hB2 := hB1.trans (hb2.mono hB1.size); have hcv2 := conv_bytes (P := Try.prog) (Rd.of_own ho2) 48 5 9 Try.underlying48 Try.underlying5 Try.underlying9; have hcv3 := conv_bytes (P := Try.prog) (rv.mono hb2) 48 5 9 Try.underlying48 Try.underlying5 Try.underlying9; clear ho2 hb2)
  all_goals
    go_wp2_with fail
    go_ret
    exact ⟨ret_bool (by simp), hB2⟩
end
end Go.Proofs.Ytedhinekkmoheaa
