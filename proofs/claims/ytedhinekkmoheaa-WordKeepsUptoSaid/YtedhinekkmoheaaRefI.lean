/- The contract of the reference's ParseAll. -/
import Derived.Test.YtedhinekkmoheaaRefH
namespace Go.Proofs.Ytedhinekkmoheaa
open Go.RowKit WP
theorem parseAllL_take (s : ByteArray) (q : Nat) (h : q < s.size / 8) : vw ((parseAllL s).take (q + 1)) = vw ((parseAllL s).take q) ++ [.int .u32 (chunkI s q)] := by
  have hl : q < (parseAllL s).length := by unfold parseAllL; simpa using h
  rw [List.take_succ_eq_append_getElem hl, vw_append]
  congr 1
  obtain ⟨h1, h2⟩ := chunkI_bd s q
  simp [vw, parseAllL, ofI_val _ h1 h2]
theorem parse8_chunk (s : ByteArray) (q : Nat) (h : 8 * q + 8 ≤ s.size) : parse8 (s.extract (8 * q) (8 * q + 8)) = chunkN s q := by
  unfold chunkN parse8
  rw [strL_extract, strL_extract, List.take_take, List.take_take, Nat.min_eq_left (by omega), Nat.min_eq_left (by omega)]
theorem phv_chunk (s : ByteArray) (q : Nat) (h : 8 * q + 8 ≤ s.size) : parseHexV (s.extract (8 * q) (8 * q + 8)) = match chunkN s q with | some n => pairV n 0 | none => pairV 0 10 := by
  unfold parseHexV
  rw [if_pos (by rw [ByteArray.size_extract]; omega), parse8_chunk s q h]
  rfl
set_option maxRecDepth 100000 in
set_option maxHeartbeats 1000000 in
theorem rparseall_any (s : ByteArray) (w : World) (hl : s.size ≤ 2097152) (h8 : s.size % 8 = 0) :
    Calls Try.prog 48 #[.string s] w (ParseAllPost s w) := by
  obtain ⟨i0, hi, hz0, hz1, hz2⟩ := info_parts info22
  obtain ⟨n, hn⟩ : ∃ n, s.size = 8 * n := ⟨s.size / 8, by omega⟩
  have hdiv : s.size / 8 = n := by omega
  have hwl : (parseAllL s).length = n := by unfold parseAllL; simp [hdiv]
  have hst := parseAllL_take s
  rw [hdiv] at hst
  have HST := Lib.hid hst
  have HWL := Lib.hid hwl
  have e1 : (((s.size : Nat) : Int) % 8 != 0) = false := by simp; omega
  have hn1 : n ≤ 262144 := by omega
  have HN := Lib.hid hn
  have g1 : 8 * n ≤ s.size := by omega
  have g2 : s.size ≤ 8 * n := by omega
  clear hn hdiv h8 hst hwl
  go_enter Try.func48, Try.ntmps48
  go_wp2
  go_loopw [4, 5, 6, 7] (fun b i _ _ wr => ∃ q : Nat, q ≤ n ∧ i = .int .i64 ((8 * q : Nat) : Int) ∧ wr.ownsRow w.heap.size 22 1 b q (vw ((parseAllL s).take q)) ∧ (∀ i, i < q → chunkN s i ≠ none) ∧ Below w.heap.size w wr) (fun _ i _ _ _ => 8 * n - (intOf i).toNat)
  case atStart => exact ⟨0, by omega, rfl, World.ownsRow_nil _ _ _ _, by intro i h; omega, Below.refl _ _⟩
  case round =>
    obtain ⟨q, hq, rfl, ho, hall, hb⟩ := hrel
    have hs := hb.size
    by_cases hlt : q < n
    · have hq8 : 8 * q + 8 ≤ s.size := by omega
      have hst := Lib.hid (HST.out q hlt)
      have ho := Lib.hid ho; have hb := Lib.hid hb; have hall := Lib.hid hall
      have hph := phv_chunk s q hq8
      have hsz : (s.extract (8 * q) (8 * q + 8)).size ≤ 9223372036854775807 := by rw [ByteArray.size_extract]; omega
      cases hp : chunkN s q with
      | some m =>
        rw [hp] at hph
        have hph : parseHexV (s.extract (8 * q) (8 * q + 8)) = pairV m 0 := hph
        have HPH := Lib.hid hph
        have hm : chunkI s q = (m : Int) := by unfold chunkI; rw [hp]; rfl
        rw [hm] at hst
        have HP := Lib.hid hp
        clear hph hp hm
        go_wp2_with (first
          | (go_at_call 47; refine (rparsehex_any _ _ hsz).mono ?_; rw [HPH.out]; unfold pairV; rintro e w' ⟨rfl, rfl⟩)
          | (at_builtin; refine wpList_append_onto' _ rfl _ _ 39 rfl w.heap.size 22 i0 (.int .u32 0) 1 4 Try.underlying39 hi hz0 hz1 hz2 rfl (by decide) _ _ _ rfl (ho.out.alloc _) ⟨wr.heap.size, 0, none⟩ 1 1 [.int .u32 (m : Int)] rfl rfl ?c1 ?c2 ?c3 ?c4 ?c5 ?_))
        try (case c1 => exact cells_new _ _ _ _)
        case c2 => simp [Value.oneCell']
        case c3 => simp only [maxLen]; omega
        case c4 => omega
        case c5 => first | omega | (simp; omega)
        intro v1 w2 ho1 hO1
        have hfin : w2.ownsRow w.heap.size 22 1 v1 (q + 1) (vw ((parseAllL s).take (q + 1))) := by
          rw [hst.out]; exact ho1
        have hb2 := hb.out.trans ((Onto.alloc _ hO1 (fun g hg => (ho.out.lt g hg).2)).below (B := w.heap.size) hs (fun g hg => (ho.out.lt g hg).1))
        clear ho1 hO1
        have hfin := Lib.hid hfin
        have hb2 := Lib.hid hb2
        go_wp2
        go_roundw
        case rel =>
          refine ⟨q + 1, by omega, by go_num, hfin.out, ?_, hb2.out⟩
          intro j hj
          by_cases h : j = q
          · rw [h, HP.out]; simp
          · exact hall.out j (by omega)
        case measure => simp [intOf]; omega
      | none =>
        rw [hp] at hph
        have hph : parseHexV (s.extract (8 * q) (8 * q + 8)) = pairV 0 10 := hph
        have HPH := Lib.hid hph
        have HP := Lib.hid hp
        clear hph hp
        go_wp2_with (go_at_call 47; refine (rparsehex_any _ _ hsz).mono ?_; rw [HPH.out]; unfold pairV; rintro e w' ⟨rfl, rfl⟩)
        go_ret2
        exact ⟨hb.out, .inr ⟨rfl, q, by omega, HP.out⟩⟩
    · obtain rfl : q = n := by omega
      rw [List.take_of_length_le (by rw [HWL.out]; omega)] at ho
      have ho := Lib.hid ho; have hb := Lib.hid hb; have hall := Lib.hid hall
      have hdq : s.size / 8 = q := by omega
      have HDQ := Lib.hid hdq
      clear hdq
      go_wp2
      go_ret2
      refine ⟨hb.out, .inl ⟨_, rfl, ?_, ?_⟩⟩
      · rw [HDQ.out]; exact ho.out
      · rw [HDQ.out]; exact hall.out
theorem rparseall_long (s : ByteArray) (w : World) (hm : s.size ≤ 9223372036854775807) (hl : 2097152 < s.size) :
    Calls Try.prog 48 #[.string s] w fun e w' => e = .returned (.tuple #[.slice none 0 0, .int .i64 2]) ∧ w = w' := by
  go_enter Try.func48, Try.ntmps48
  go_wp2
  go_ret2
  exact ⟨rfl, rfl⟩
theorem rparseall_part (s : ByteArray) (w : World) (hl : s.size ≤ 2097152) (h8 : s.size % 8 ≠ 0) :
    Calls Try.prog 48 #[.string s] w fun e w' => e = .returned (.tuple #[.slice none 0 0, .int .i64 10]) ∧ w = w' := by
  have e1 : ((s.size : Int) % 8 != 0) = true := by simp; omega
  clear h8
  go_enter Try.func48, Try.ntmps48
  go_wp2
  go_ret2
  exact ⟨rfl, rfl⟩
end Go.Proofs.Ytedhinekkmoheaa
