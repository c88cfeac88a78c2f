/- The reference's tens, Number and Signed. -/
import Derived.Test.YtefbogmgcihndaaGreatDoorKPl
import Derived.Test.YtefbogmgcihndaaGreatDoorTNuP
import Derived.Test.YtefbogmgcihndaaGreatDoorTUnP
namespace Go.Proofs.YtefbogmgcihndaaGreatDoor
open Go.RowKit WP
/-- digits up to k, as the reference walks them -/
theorem valFrom_snoc (a : Nat) (l : List UInt8) (c : UInt8) : valFrom a (l ++ [c]) = valFrom a l * 10 + (c.toNat - 48) := by rw [valFrom_app]; rfl
theorem take_snoc (l : List UInt8) (k : Nat) (h : k < l.length) : l.take (k + 1) = l.take k ++ [l.getD k 0] := by
  rw [List.take_add_one, List.getElem?_eq_getElem h, List.getD_eq_getElem?_getD, List.getElem?_eq_getElem h]; rfl
theorem valFrom_lt (l : List UInt8) (h : l.all isDg = true) : ∀ a, valFrom a l < (a + 1) * 10 ^ l.length := by
  induction l with
  | nil => intro a; simp [valFrom]
  | cons c l ih =>
    intro a
    rw [List.all_cons, Bool.and_eq_true] at h
    have hc : 48 ≤ c.toNat ∧ c.toNat ≤ 57 := of_decide_eq_true h.1
    have h1 := ih h.2 (a * 10 + (c.toNat - 48))
    show valFrom (a * 10 + (c.toNat - 48)) l < _
    rw [List.length_cons, Nat.pow_succ]
    refine Nat.lt_of_lt_of_le h1 ?_
    rw [Nat.mul_comm (10 ^ l.length) 10, ← Nat.mul_assoc]
    exact Nat.mul_le_mul_right _ (by omega)
theorem nDigits_le (k : Nat) : ∀ u, u < 10 ^ (k + 1) → Lib.nDigits u ≤ k + 1 := by
  induction k with
  | zero => intro u h; rw [Lib.nDigits_small (by simpa using h)]; omega
  | succ k ih =>
    intro u h
    by_cases h1 : u < 10
    · rw [Lib.nDigits_small h1]; omega
    · rw [Lib.nDigits_big h1]
      have := ih (u / 10) (by rw [Nat.div_lt_iff_lt_mul (by decide)]; rwa [Nat.pow_succ] at h)
      omega
theorem ten_le (l : List UInt8) (h : tensB l = true) (hv : valFrom 0 l < 10000000000) : l.length ≤ 10 := by
  have hd := dec_back _ l rfl h
  have := Lib.decDigits_length (valFrom 0 l)
  rw [hd] at this
  rw [this]
  exact nDigits_le 9 _ hv
/-- what the reference's tens answers -/
def tenF (most : Int) (l : List UInt8) : Int := if tensB l = true ∧ (valFrom 0 l : Int) ≤ most then (valFrom 0 l : Int) else -1
theorem tenF_no (most : Int) (l : List UInt8) (h : tensB l = false) : tenF most l = -1 := by unfold tenF; rw [if_neg (by rw [h]; simp)]
theorem str_empty (s : ByteArray) (b : Bool) (h : decide (s.size = 0) = b) : s.toList.isEmpty = b := by
  rw [ByteArray.toList_eq]
  have := size_list s
  cases hl : s.data.toList with
  | nil => rw [hl] at this; rw [← h, decide_eq_true (by simpa using this.symm)]; rfl
  | cons c r => rw [hl] at this; rw [← h, decide_eq_false (by simp at this; omega)]; rfl
theorem isDg_iff (c : UInt8) : isDg c = decide (48 ≤ (c.toNat : Int) ∧ (c.toNat : Int) ≤ 57) := by
  unfold isDg
  by_cases h : 48 ≤ c.toNat ∧ c.toNat ≤ 57
  · rw [decide_eq_true h, decide_eq_true (by omega)]
  · rw [decide_eq_false h, decide_eq_false (by omega)]
/-- the first k bytes are digits, and x is their number -/
def DgAt (l : List UInt8) (k : Nat) (x : Int) : Prop := (l.take k).all isDg = true ∧ x = (valFrom 0 (l.take k) : Int)
theorem dgAt_zero (l : List UInt8) : DgAt l 0 0 := ⟨rfl, rfl⟩
theorem dgAt_bound {l : List UInt8} {k : Nat} {x : Int} (h : DgAt l k x) (hk : k ≤ 10) : 0 ≤ x ∧ x < 10000000000 := by
  have h1 := valFrom_lt _ h.1 0
  have h2 : (l.take k).length ≤ 10 := by rw [List.length_take]; omega
  have h3 : (10 : Nat) ^ (l.take k).length ≤ 10 ^ 10 := Nat.pow_le_pow_right (by decide) h2
  have h4 : (10 : Nat) ^ 10 = 10000000000 := rfl
  have h5 := h.2
  omega
theorem bAt_getD (l : List UInt8) (k : Nat) : bAt l k = (((l.getD k 0).toNat : Nat) : Int) := rfl
theorem dgAt_step {l : List UInt8} {k : Nat} {x : Int} (h : DgAt l k x) (hk : k < l.length) (h1 : 48 ≤ bAt l k) (h2 : bAt l k ≤ 57) : DgAt l (k + 1) (10 * x + (bAt l k - 48)) := by
  unfold DgAt
  rw [take_snoc l k hk, List.all_append, h.1, valFrom_snoc, h.2]
  rw [bAt_getD] at h1 h2 ⊢
  refine ⟨?_, by omega⟩
  simp only [List.all_cons, List.all_nil, Bool.and_true, Bool.true_and]
  rw [isDg_iff]
  exact decide_eq_true ⟨h1, h2⟩
theorem dg_bad {l : List UInt8} {k : Nat} (hk : k < l.length) (h : bAt l k < 48 ∨ 57 < bAt l k) : l.all isDg = false := by
  rw [List.all_eq_false]
  refine ⟨l[k], List.getElem_mem hk, ?_⟩
  have e : bAt l k = ((l[k].toNat : Nat) : Int) := by unfold bAt; rw [List.getD_eq_getElem?_getD, List.getElem?_eq_getElem hk]; rfl
  rw [e] at h
  rw [isDg_iff, decide_eq_false (by omega)]
  simp
theorem dgAt_end {l : List UInt8} {x : Int} (h : DgAt l l.length x) : l.all isDg = true ∧ x = (valFrom 0 l : Int) := by
  have := h
  unfold DgAt at this
  rwa [List.take_length] at this
set_option maxRecDepth 100000 in
set_option maxHeartbeats 1600000 in
theorem rtensF_any (s : ByteArray) (most : Int) (w : World) (hs : s.size ≤ 140737488355328) (hm0 : 0 ≤ most) (hm1 : most < 10000000000) :
    Calls Tryz.prog 40 #[.string s, .int .i64 most] w fun e w' => e = .returned (.int .i64 (tenF most s.data.toList)) ∧ w' = w := by
  have hl := size_list s
  obtain ⟨R, hR⟩ : ∃ R, tenF most s.data.toList = R := ⟨_, rfl⟩
  rw [hR]
  by_cases h0 : s.size = 0
  · have he := str_empty s true (decide_eq_true h0)
    have hRn : R = -1 := by
      rw [← hR]; refine tenF_no _ _ ?_
      cases hd : s.data.toList with
      | nil => rfl
      | cons c r => rw [hd] at hl; simp at hl; omega
    subst hRn
    clear hR hl
    go_enter Tryz.func40, Tryz.ntmps40
    go_wp2_with fail
    go_ret
    exact ⟨rfl, rfl⟩
  · have he := str_empty s false (decide_eq_false h0)
    by_cases h10 : s.size ≤ 10
    · have d1 : decide ((s.size : Int) > 10) = false := decide_eq_false (by omega)
      have hp : 0 < s.size := by omega
      have b0 := bAt_get s 0 hp
      have hpi : (0 : Int) < (s.size : Int) := by omega
      have hdf : tensB s.data.toList = (!(decide (1 < s.size) && (bAt s.data.toList 0 == 48)) && s.data.toList.all isDg) := by
        unfold tensB
        have e1 : s.data.toList.isEmpty = false := by rw [← ByteArray.toList_eq]; exact he
        have e2 : (s.data.toList.getD 0 0 == (48 : UInt8)) = (bAt s.data.toList 0 == 48) := by
          unfold bAt
          by_cases h : s.data.toList.getD 0 0 = 48
          · rw [h]; rfl
          · rw [beq_eq_false_iff_ne.2 h]
            symm
            rw [beq_eq_false_iff_ne]
            intro hh
            exact h (UInt8.toNat.inj (by show _ = 48; omega))
        rw [e1, e2, hl]; rfl
      by_cases hz : 1 < s.size ∧ bAt s.data.toList 0 = 48
      · have hRn : R = -1 := by
          rw [← hR]; refine tenF_no _ _ ?_
          rw [hdf, decide_eq_true hz.1, hz.2]; rfl
        have d2 : decide ((s.size : Int) > 1) = true := decide_eq_true (by omega)
        rw [hz.2] at b0
        subst hRn
        clear hR hl hdf
        go_enter Tryz.func40, Tryz.ntmps40
        go_wp2_with fail
        go_ret
        exact ⟨rfl, rfl⟩
      · have hdf2 : tensB s.data.toList = s.data.toList.all isDg := by
          rw [hdf]
          have : (decide (1 < s.size) && (bAt s.data.toList 0 == 48)) = false := by
            by_cases h1 : 1 < s.size
            · rw [decide_eq_true h1, Bool.true_and, beq_eq_false_iff_ne]; exact fun h => hz ⟨h1, h⟩
            · rw [decide_eq_false h1]; rfl
          rw [this]; rfl
        clear hdf
        obtain ⟨c0, hc0⟩ : ∃ c, bAt s.data.toList 0 = c := ⟨_, rfl⟩
        rw [hc0] at b0 hz
        clear hc0
        replace hl := Lib.hid hl; replace hdf2 := Lib.hid hdf2; replace hR := Lib.hid hR; replace hz := Lib.hid hz
        go_enter Tryz.func40, Tryz.ntmps40
        go_upto_region 1 with fail
        go_cut [23] from 7 to 23 (fun r wx => r = .bool false ∧ wx = w)
        case first =>
          by_cases h1 : 1 < s.size
          · have d2 : decide ((s.size : Int) > 1) = true := decide_eq_true (by omega)
            have d3 : (c0 == 48) = false := by rw [beq_eq_false_iff_ne]; exact fun h => hz.out ⟨h1, h⟩
            replace h1 := Lib.hid h1
            go_wp2_with fail
            go_meet
            case rel => exact ⟨rfl, rfl⟩
          · have d2 : decide ((s.size : Int) > 1) = false := decide_eq_false (by omega)
            replace h1 := Lib.hid h1
            go_wp2_with fail
            go_meet
            case rel => exact ⟨rfl, rfl⟩
        case rest =>
          obtain ⟨rfl, hw⟩ := hcut
          subst hw
          clear b0 he d1
          go_wp2_with fail
          go_loop [5, 6] (fun n i => ∃ (k : Nat) (x : Int), k ≤ s.size ∧ i = .int .i64 k ∧ n = .int .i64 x ∧ DgAt s.data.toList k x) (fun _ i => s.size - (intOf i).toNat)
          case atStart => exact ⟨0, 0, by omega, rfl, rfl, dgAt_zero _⟩
          case round =>
            obtain ⟨k, x, hk, rfl, rfl, hD⟩ := hrel
            obtain ⟨x0, x1⟩ := dgAt_bound hD (by omega)
            by_cases hlt : k < s.size
            · have d4 : decide ((k : Int) < (s.size : Int)) = true := decide_eq_true (by omega)
              have bk := bAt_get s k hlt
              have hst := fun h1 h2 => dgAt_step hD (by rw [hl.out]; exact hlt) h1 h2
              have hbad := fun h => dg_bad (l := s.data.toList) (k := k) (by rw [hl.out]; exact hlt) h
              have i1 : (0 : Int) ≤ (k : Int) := by omega
              obtain ⟨c, hc⟩ : ∃ c, bAt s.data.toList k = c := ⟨_, rfl⟩
              rw [hc] at bk hst hbad
              clear hc hD
              replace hst := Lib.hid hst; replace hbad := Lib.hid hbad
              by_cases c1 : c < 48
              · have d5 : decide (c < 48) = true := decide_eq_true c1
                have hRn : R = -1 := by rw [← hR.out]; exact tenF_no _ _ (by rw [hdf2.out]; exact hbad.out (.inl c1))
                subst hRn
                go_wp2_with fail
                go_ret
                exact ⟨rfl, rfl⟩
              · have d5 : decide (c < 48) = false := decide_eq_false c1
                by_cases c2 : c > 57
                · have d6 : decide (c > 57) = true := decide_eq_true c2
                  have hRn : R = -1 := by rw [← hR.out]; exact tenF_no _ _ (by rw [hdf2.out]; exact hbad.out (.inr c2))
                  subst hRn
                  go_wp2_with fail
                  go_ret
                  exact ⟨rfl, rfl⟩
                · have d6 : decide (c > 57) = false := decide_eq_false c2
                  have hst2 := Lib.hid (hst.out (by omega) (by omega))
                  have c3 : 0 ≤ c - 48 := by omega
                  have c4 : c - 48 ≤ 9 := by omega
                  go_wp2_with fail
                  go_round
                  case rel => exact ⟨k + 1, 10 * x + (c - 48), by omega, by go_num, by go_num, hst2.out⟩
                  case measure => simp [intOf]; omega
            · obtain rfl : k = s.size := by omega
              have d4 : decide ((s.size : Int) < (s.size : Int)) = false := decide_eq_false (by omega)
              rw [← hl.out] at hD
              obtain ⟨hA, hx⟩ := dgAt_end hD
              have hTb : tensB s.data.toList = true := by rw [hdf2.out]; exact hA
              clear hD
              by_cases hm : x ≤ most
              · have d5 : decide (x > most) = false := decide_eq_false (by omega)
                have hRn : R = x := by rw [← hR.out, hx]; unfold tenF; rw [if_pos ⟨hTb, by rw [← hx]; exact hm⟩]
                replace hx := Lib.hid hx
                subst hRn
                go_wp2_with fail
                go_ret
                exact ⟨rfl, rfl⟩
              · have d5 : decide (x > most) = true := decide_eq_true (by omega)
                have hRn : R = -1 := by rw [← hR.out]; unfold tenF; rw [if_neg (by rw [← hx]; exact fun h => hm h.2)]
                replace hx := Lib.hid hx
                subst hRn
                go_wp2_with fail
                go_ret
                exact ⟨rfl, rfl⟩
    · have hRn : R = -1 := by
        rw [← hR]; unfold tenF
        rw [if_neg]
        rintro ⟨h1, h2⟩
        have := ten_le _ h1 (by omega)
        omega
      have d1 : decide ((s.size : Int) > 10) = true := decide_eq_true (by omega)
      subst hRn
      clear hR hl
      go_enter Tryz.func40, Tryz.ntmps40
      go_wp2_with fail
      go_ret
      exact ⟨rfl, rfl⟩
end Go.Proofs.YtefbogmgcihndaaGreatDoor
