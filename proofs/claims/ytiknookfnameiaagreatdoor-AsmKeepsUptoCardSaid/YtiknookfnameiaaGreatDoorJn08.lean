/- The contract of text's Name. (Printed by wip/genTNam.py.) The quoted form of bytes: plain laws. Plain laws: a line put together of blanks, words and quoted forms is read as just these. -/
import Derived.Test.YtiknookfnameiaaGreatDoorJn05
import Derived.Test.YtiknookfnameiaaGreatDoorTWdPJn
namespace Go.Proofs.YtiknookfnameiaaGreatDoor
open Go.RowKit WP
/-- may the byte stand in a name at this place? -/
def nmOk (i : Nat) (c : Int) : Bool := (decide (97 ≤ c) && decide (c ≤ 122)) || (decide (i ≠ 0) && ((decide (48 ≤ c) && decide (c ≤ 57)) || decide (c = 95)))
/-- the bytes of a name, from a place on -/
def nameA : List UInt8 → Nat → Bool
  | [], _ => true
  | c :: l, i => nmOk i (c.toNat : Int) && nameA l (i + 1)
def nameF (s : ByteArray) : Bool := decide (1 ≤ s.size) && decide (s.size ≤ 24) && nameA s.data.toList 0
theorem nameA_drop (l : List UInt8) (k j : Nat) (h : k < l.length) : nameA (l.drop k) j = (nmOk j (bAt l k) && nameA (l.drop (k + 1)) (j + 1)) := by
  rw [List.drop_eq_getElem_cons h]
  have e : bAt l k = ((l[k].toNat : Nat) : Int) := by unfold bAt; rw [List.getD_eq_getElem?_getD, List.getElem?_eq_getElem h]; rfl
  rw [e]; rfl
theorem name_any (s : ByteArray) (w : World) :
    Calls Tryz.prog 63 #[.string s] w fun e w' => e = .returned (.int .i64 (if nameF s = true then 0 else 42)) ∧ w' = w := by
  have hl : s.data.toList.length = s.size := by rw [Array.length_toList]; rfl
  obtain ⟨R, hR⟩ : ∃ R, (if nameF s = true then (0 : Int) else 42) = R := ⟨_, rfl⟩
  rw [hR]
  by_cases h1 : 1 ≤ s.size
  · have d1 : decide (s.size < 1) = false := decide_eq_false (by omega)
    by_cases h2 : s.size ≤ 24
    · have hF : nameF s = nameA s.data.toList 0 := by unfold nameF; rw [decide_eq_true h1, decide_eq_true h2]; rfl
      rw [hF] at hR
      have d2 : decide (24 < s.size) = false := decide_eq_false (by omega)
      replace hR := Lib.hid hR; replace hl := Lib.hid hl
      clear hF
      have hs : s.size ≤ 9223372036854775807 := by omega
      go_enter Tryz.func63, Tryz.ntmps63
      go_wp2
      clear d1 d2
      go_loop [16] (fun i => ∃ k : Nat, k ≤ s.size ∧ i = .int .i64 k ∧ (if nameA (s.data.toList.drop k) k = true then (0 : Int) else 42) = R) (fun i => s.size - (intOf i).toNat)
      case atStart => exact ⟨0, by omega, rfl, hR.out⟩
      case round =>
        obtain ⟨k, hk, rfl, hq⟩ := hrel
        clear hR
        by_cases hlt : k < s.size
        · have eb : (s[k].toNat : Int) = bAt s.data.toList k := by
            unfold bAt; rw [List.getD_eq_getElem?_getD, List.getElem?_eq_getElem (by rw [hl.out]; exact hlt)]; rfl
          rw [nameA_drop _ _ _ (by rw [hl.out]; exact hlt)] at hq
          obtain ⟨c, hc⟩ : ∃ c, bAt s.data.toList k = c := ⟨_, rfl⟩
          rw [hc] at eb hq
          clear hc
          by_cases a1 : 97 ≤ c
          · have d1 : decide (c ≥ 97) = true := decide_eq_true (by omega)
            by_cases a2 : c ≤ 122
            · have d2 : decide (c ≤ 122) = true := decide_eq_true (by omega)
              have hn : nmOk k c = true := by unfold nmOk; simp; omega
              rw [hn, Bool.true_and] at hq
              replace hq := Lib.hid hq; clear hn
              go_wp2
              go_round
              case rel => exact ⟨k + 1, by omega, by go_num, hq.out⟩
              case measure => simp [intOf]; omega
            · have d2 : decide (c ≤ 122) = false := decide_eq_false (by omega)
              by_cases hk0 : k = 0
              · have z2 : True := trivial
                have z1 : ((k : Int) == 0) = true := by simp [hk0]
                have hn : nmOk k c = false := by unfold nmOk; simp; omega
                rw [hn, Bool.false_and] at hq
                replace hq : (42 : Int) = R := hq
                replace hq := Lib.hid hq; replace hk0 := Lib.hid hk0; clear hn z2
                go_wp2
                go_ret
                exact ⟨by rw [← hq.out]; rfl, rfl⟩
              · have z1 : ((k : Int) == 0) = false := by simp [hk0]
                by_cases b1 : 48 ≤ c
                · have e1 : decide (c < 48) = false := decide_eq_false (by omega)
                  by_cases b2 : c ≤ 57
                  · have e2 : decide (c > 57) = false := decide_eq_false (by omega)
                    have hn : nmOk k c = true := by unfold nmOk; simp; omega
                    rw [hn, Bool.true_and] at hq
                    replace hq := Lib.hid hq; clear hn
                    go_wp2
                    go_round
                    case rel => exact ⟨k + 1, by omega, by go_num, hq.out⟩
                    case measure => simp [intOf]; omega
                  · have e2 : decide (c > 57) = true := decide_eq_true (by omega)
                    by_cases b3 : c = 95
                    · have e3 : (c != 95) = false := by simp [b3]
                      have hn : nmOk k c = true := by unfold nmOk; simp; omega
                      rw [hn, Bool.true_and] at hq
                      replace hq := Lib.hid hq; replace b3 := Lib.hid b3; clear hn
                      go_wp2
                      go_round
                      case rel => exact ⟨k + 1, by omega, by go_num, hq.out⟩
                      case measure => simp [intOf]; omega
                    · have e3 : (c != 95) = true := by simp [b3]
                      have hn : nmOk k c = false := by unfold nmOk; simp; omega
                      rw [hn, Bool.false_and] at hq
                      replace hq : (42 : Int) = R := hq
                      replace hq := Lib.hid hq; clear hn
                      go_wp2
                      go_ret
                      exact ⟨by rw [← hq.out]; rfl, rfl⟩
                · have e1 : decide (c < 48) = true := decide_eq_true (by omega)
                  have e3 : (c != 95) = true := by simp; omega
                  have hn : nmOk k c = false := by unfold nmOk; simp; omega
                  rw [hn, Bool.false_and] at hq
                  replace hq : (42 : Int) = R := hq
                  replace hq := Lib.hid hq; clear hn
                  go_wp2
                  go_ret
                  exact ⟨by rw [← hq.out]; rfl, rfl⟩
          · have d1 : decide (c ≥ 97) = false := decide_eq_false (by omega)
            by_cases hk0 : k = 0
            · have z2 : True := trivial
              have z1 : ((k : Int) == 0) = true := by simp [hk0]
              have hn : nmOk k c = false := by unfold nmOk; simp; omega
              rw [hn, Bool.false_and] at hq
              replace hq : (42 : Int) = R := hq
              replace hq := Lib.hid hq; replace hk0 := Lib.hid hk0; clear hn z2
              go_wp2
              go_ret
              exact ⟨by rw [← hq.out]; rfl, rfl⟩
            · have z1 : ((k : Int) == 0) = false := by simp [hk0]
              by_cases b1 : 48 ≤ c
              · have e1 : decide (c < 48) = false := decide_eq_false (by omega)
                by_cases b2 : c ≤ 57
                · have e2 : decide (c > 57) = false := decide_eq_false (by omega)
                  have hn : nmOk k c = true := by unfold nmOk; simp; omega
                  rw [hn, Bool.true_and] at hq
                  replace hq := Lib.hid hq; clear hn
                  go_wp2
                  go_round
                  case rel => exact ⟨k + 1, by omega, by go_num, hq.out⟩
                  case measure => simp [intOf]; omega
                · have e2 : decide (c > 57) = true := decide_eq_true (by omega)
                  by_cases b3 : c = 95
                  · have e3 : (c != 95) = false := by simp [b3]
                    have hn : nmOk k c = true := by unfold nmOk; simp; omega
                    rw [hn, Bool.true_and] at hq
                    replace hq := Lib.hid hq; replace b3 := Lib.hid b3; clear hn
                    go_wp2
                    go_round
                    case rel => exact ⟨k + 1, by omega, by go_num, hq.out⟩
                    case measure => simp [intOf]; omega
                  · have e3 : (c != 95) = true := by simp [b3]
                    have hn : nmOk k c = false := by unfold nmOk; simp; omega
                    rw [hn, Bool.false_and] at hq
                    replace hq : (42 : Int) = R := hq
                    replace hq := Lib.hid hq; clear hn
                    go_wp2
                    go_ret
                    exact ⟨by rw [← hq.out]; rfl, rfl⟩
              · have e1 : decide (c < 48) = true := decide_eq_true (by omega)
                have e3 : (c != 95) = true := by simp; omega
                have hn : nmOk k c = false := by unfold nmOk; simp; omega
                rw [hn, Bool.false_and] at hq
                replace hq : (42 : Int) = R := hq
                replace hq := Lib.hid hq; clear hn
                go_wp2
                go_ret
                exact ⟨by rw [← hq.out]; rfl, rfl⟩
        · obtain rfl : k = s.size := by omega
          rw [List.drop_of_length_le (by rw [hl.out]; exact Nat.le_refl _)] at hq
          replace hq : (0 : Int) = R := hq
          replace hq := Lib.hid hq
          go_wp2
          go_ret
          exact ⟨by rw [← hq.out]; rfl, rfl⟩
    · have hF : nameF s = false := by unfold nameF; simp; omega
      rw [hF] at hR
      replace hR : (42 : Int) = R := hR
      replace hR := Lib.hid hR
      have d2 : decide (24 < s.size) = true := decide_eq_true (by omega)
      clear hF
      go_enter Tryz.func63, Tryz.ntmps63
      go_wp2
      go_ret
      exact ⟨by rw [← hR.out]; rfl, rfl⟩
  · have hF : nameF s = false := by unfold nameF; simp; omega
    rw [hF] at hR
    replace hR : (42 : Int) = R := hR
    replace hR := Lib.hid hR
    have d1 : decide (s.size < 1) = true := decide_eq_true (by omega)
    clear hF
    go_enter Tryz.func63, Tryz.ntmps63
    go_wp2
    go_ret
    exact ⟨by rw [← hR.out]; rfl, rfl⟩
end Go.Proofs.YtiknookfnameiaaGreatDoor

namespace Go.Proofs.YtiknookfnameiaaGreatDoor
open Go.RowKit WP
def dgB (d : Nat) : UInt8 := if d < 10 then UInt8.ofNat (48 + d) else UInt8.ofNat (87 + d)
/-- a byte in a quoted form -/
def qb (c : UInt8) : List UInt8 := if plainI (c.toNat : Int) = true then [c] else [92, 120, dgB (c.toNat / 16), dgB (c.toNat % 16)]
def quoteL (b : List UInt8) : List UInt8 := 34 :: (b.flatMap qb ++ [34])
def qpre (b : List UInt8) (k : Nat) : List UInt8 := 34 :: (b.take k).flatMap qb
end Go.Proofs.YtiknookfnameiaaGreatDoor

namespace Go.Proofs.YtiknookfnameiaaGreatDoor
open Go.RowKit WP
theorem bAt_at {l : List UInt8} {k : Nat} {c : UInt8} {r : List UInt8} (h : l.drop k = c :: r) : k < l.length ∧ l.getD k 0 = c ∧ bAt l k = (c.toNat : Int) := by
  have h1 : k < l.length := by
    rcases Nat.lt_or_ge k l.length with h' | h'
    · exact h'
    · rw [List.drop_eq_nil_of_le h'] at h; exact absurd h (by simp)
  have h2 : l.getD k 0 = c := by
    rw [List.drop_eq_getElem_cons h1] at h
    simp only [List.cons.injEq] at h
    simp [h1, h.1]
  exact ⟨h1, h2, by unfold bAt; rw [h2]⟩
theorem drop_by {l : List UInt8} {k : Nat} (a : List UInt8) {r : List UInt8} (h : l.drop k = a ++ r) : l.drop (k + a.length) = r := by
  rw [← List.drop_drop, h, List.drop_left]
theorem drop_one {l : List UInt8} {k : Nat} {c : UInt8} {r : List UInt8} (h : l.drop k = c :: r) : l.drop (k + 1) = r := by
  rw [← List.drop_drop, h]; rfl
theorem hv_dg : ∀ d : Fin 16, hv ((dgB d.val).toNat : Int) = (d.val : Int) := by decide
theorem hv_dgB (d : Nat) (h : d < 16) : hv ((dgB d).toNat : Int) = (d : Int) := hv_dg ⟨d, h⟩
theorem escF_at {m r : List UInt8} (c : UInt8) (h : m = 92 :: 120 :: dgB (c.toNat / 16) :: dgB (c.toNat % 16) :: r) : escF m = ((c.toNat : Int), !plainI (c.toNat : Int)) := by
  have hc : c.toNat < 256 := c.toNat_lt
  have h1 : bAt m 1 = 120 := by rw [h]; rfl
  have h2 : bAt m 2 = ((dgB (c.toNat / 16)).toNat : Int) := by rw [h]; rfl
  have h3 : bAt m 3 = ((dgB (c.toNat % 16)).toNat : Int) := by rw [h]; rfl
  have h4 : ¬ (m.length < 4 ∨ bAt m 1 ≠ 120) := by rw [h1, h]; simp
  unfold escF
  rw [if_neg h4, h2, h3, hv_dgB _ (by omega), hv_dgB _ (by omega), if_neg (by omega)]
  have e : ((c.toNat / 16 : Nat) : Int) * 16 + ((c.toNat % 16 : Nat) : Int) = (c.toNat : Int) := by omega
  rw [e]
/-- a quoted form that is there is read as its bytes -/
theorem qA_at (l r : List UInt8) : ∀ (b : List UInt8) (f k : Nat) (acc : List UInt8), l.drop k = b.flatMap qb ++ 34 :: r → l.length + 1 ≤ f + k → qA l f k acc = .inl (acc ++ b, k + (b.flatMap qb).length + 1)
  | [], f, k, acc, h, hf => by
    simp only [List.flatMap_nil, List.nil_append] at h
    obtain ⟨h1, h2, h3⟩ := bAt_at h
    obtain ⟨f, rfl⟩ : ∃ g, f = g + 1 := ⟨f - 1, by omega⟩
    unfold qA
    have h3 : bAt l k = 34 := h3
    rw [if_neg (by omega), h3, if_pos rfl]
    simp
  | c :: b, f, k, acc, h, hf => by
    simp only [List.flatMap_cons, List.append_assoc] at h
    by_cases hp : plainI (c.toNat : Int) = true
    · have hq : qb c = [c] := by unfold qb; rw [if_pos hp]
      rw [hq] at h
      obtain ⟨h1, h2, h3⟩ := bAt_at h
      obtain ⟨f, rfl⟩ : ∃ g, f = g + 1 := ⟨f - 1, by omega⟩
      have h34 : (c.toNat : Int) ≠ 34 := by intro e; rw [e] at hp; exact absurd hp (by decide)
      unfold qA
      rw [if_neg (by omega), h3, if_neg h34, if_pos hp, h2, qA_at l r b f (k + 1) _ (drop_one h) (by omega)]
      simp only [List.append_assoc, List.singleton_append, List.flatMap_cons, hq, List.length_cons, Sum.inl.injEq, Prod.mk.injEq, true_and]
      omega
    · have hq : qb c = [92, 120, dgB (c.toNat / 16), dgB (c.toNat % 16)] := by unfold qb; rw [if_neg hp]
      rw [hq] at h
      obtain ⟨h1, h2, h3⟩ := bAt_at h
      have h3 : bAt l k = 92 := h3
      obtain ⟨f, rfl⟩ : ∃ g, f = g + 1 := ⟨f - 1, by omega⟩
      have he := escF_at c h
      unfold qA
      rw [if_neg (by omega), h3, if_neg (by decide), if_neg (by decide), if_neg (by simp), he]
      have hpf : plainI (c.toNat : Int) = false := by simpa using hp
      simp only [hpf, Bool.not_false, if_true]
      have h' : l.drop k = [92, 120, dgB (c.toNat / 16), dgB (c.toNat % 16)] ++ (b.flatMap qb ++ 34 :: r) := h
      have hd := drop_by _ h'
      have hlen : k + 4 ≤ l.length := by
        have := congrArg List.length h'
        rw [List.length_drop] at this
        simp at this; omega
      rw [qA_at l r b f (k + 4) _ hd (by omega)]
      have ec : UInt8.ofNat (Int.toNat (c.toNat : Int)) = c := by simp
      rw [ec]
      simp only [List.append_assoc, List.singleton_append, List.flatMap_cons, hq, List.length_append, List.length_cons, List.length_nil, Sum.inl.injEq, Prod.mk.injEq, true_and]
      omega
theorem skipB_at (l : List UInt8) (c : UInt8) (r : List UInt8) (hc : blankI (c.toNat : Int) = true) : ∀ (b : List UInt8) (F k : Nat), (∀ x ∈ b, blankI ((x.toNat : Nat) : Int) = false) → l.drop k = b ++ c :: r → b.length ≤ F → skipB l F k = k + b.length
  | [], F, k, _, h, _ => by
    cases F with
    | zero => rfl
    | succ F =>
      obtain ⟨h1, h2, h3⟩ := bAt_at (by simpa using h)
      unfold skipB
      rw [if_neg (by rw [h3, hc]; simp)]; rfl
  | x :: b, F, k, hb, h, hF => by
    obtain ⟨F, rfl⟩ : ∃ g, F = g + 1 := ⟨F - 1, by simp at hF; omega⟩
    obtain ⟨h1, h2, h3⟩ := bAt_at h
    unfold skipB
    rw [if_pos ⟨h1, by rw [h3]; exact hb x (by simp)⟩, skipB_at l c r hc b F (k + 1) (fun y hy => hb y (by simp [hy])) (drop_one h) (by simpa using hF)]
    simp; omega
theorem extract_at {s : ByteArray} {k : Nat} {b r : List UInt8} (h : s.data.toList.drop k = b ++ r) : s.extract k (k + b.length) = ⟨b.toArray⟩ := by
  apply ByteArray.ext
  apply Array.ext'
  rw [ByteArray.data_extract, Array.toList_extract]
  simp only [List.extract_eq_take_drop, h]
  simp
def allBlank (g : List UInt8) : Prop := ∀ x ∈ g, blankI ((x.toNat : Nat) : Int) = true
theorem wA_gap (s : ByteArray) : ∀ (g r : List UInt8) (f k : Nat) (acc : List W), allBlank g → s.data.toList.drop k = g ++ r → s.size + 1 ≤ f + k → ∃ f', s.size + 1 ≤ f' + (k + g.length) ∧ wA s f k acc = wA s f' (k + g.length) acc
  | [], r, f, k, acc, _, _, hf => ⟨f, hf, rfl⟩
  | x :: g, r, f, k, acc, hg, h, hf => by
    obtain ⟨h1, h2, h3⟩ := bAt_at h
    rw [size_list] at h1
    obtain ⟨f, rfl⟩ : ∃ g, f = g + 1 := ⟨f - 1, by omega⟩
    obtain ⟨f', i1, i2⟩ := wA_gap s g r f (k + 1) acc (fun y hy => hg y (by simp [hy])) (drop_one h) (by omega)
    have el : k + 1 + g.length = k + (x :: g).length := by simp; omega
    rw [el] at i1 i2
    refine ⟨f', i1, ?_⟩
    rw [← i2]
    conv => lhs; unfold wA
    rw [if_neg (by omega), h3, if_pos (hg x (by simp))]
/-- may these bytes stand as a word that is not quoted? -/
def plainWd (b : List UInt8) : Bool := decide (b ≠ [] ∧ b.head? ≠ some 34 ∧ b.head? ≠ some 35) && b.all fun x => !blankI ((x.toNat : Nat) : Int)
def formL (q : Bool) (b : List UInt8) : List UInt8 := if q then quoteL b else b
theorem wA_form (s : ByteArray) (q : Bool) (b : List UInt8) (c : UInt8) (r : List UInt8) (hc : blankI ((c.toNat : Nat) : Int) = true) (hp : q = true ∨ plainWd b = true) (f k : Nat) (acc : List W)
    (h : s.data.toList.drop k = formL q b ++ c :: r) (hf : s.size + 1 ≤ f + k) : ∃ f', s.size + 1 ≤ f' + (k + (formL q b).length) ∧ wA s f k acc = wA s f' (k + (formL q b).length) (acc ++ [(⟨b.toArray⟩, q, k + 1)]) := by
  have hsz := size_list s
  have hlen : k + (formL q b).length < s.size := by
    have := congrArg List.length h
    rw [List.length_drop, hsz] at this
    simp at this; omega
  have hd := drop_by _ h
  cases q with
  | true =>
    have h' : s.data.toList.drop k = 34 :: (b.flatMap qb ++ 34 :: (c :: r)) := by rw [h]; simp [formL, quoteL]
    obtain ⟨h1, h2, h3⟩ := bAt_at h'
    have h3 : bAt s.data.toList k = 34 := h3
    obtain ⟨f, rfl⟩ : ∃ g, f = g + 1 := ⟨f - 1, by omega⟩
    have hq := qA_at s.data.toList (c :: r) b (s.size + 1) (k + 1) [] (drop_one h') (by omega)
    have e : k + 1 + (b.flatMap qb).length + 1 = k + (formL true b).length := by simp [formL, quoteL]; omega
    rw [e, List.nil_append] at hq
    obtain ⟨_, _, h4⟩ := bAt_at hd
    have hge : 2 ≤ (formL true b).length := by simp [formL, quoteL]
    refine ⟨f, by omega, ?_⟩
    conv => lhs; unfold wA
    rw [if_neg (by omega), h3, if_neg (by decide), if_neg (by decide), if_pos rfl, hq]
    simp only
    rw [if_neg (by rw [h4, hc]; simp)]
  | false =>
    have hp := hp.resolve_left (by simp)
    unfold plainWd at hp
    simp only [Bool.and_eq_true, decide_eq_true_eq, List.all_eq_true, Bool.not_eq_true'] at hp
    obtain ⟨⟨p1, p2, p3⟩, p4⟩ := hp
    have h : s.data.toList.drop k = b ++ c :: r := h
    have ef : formL false b = b := rfl
    rw [ef] at hlen hd ⊢
    have hsk := skipB_at s.data.toList c r hc b s.size k p4 h (by omega)
    have hex := extract_at h
    cases b with
    | nil => exact absurd rfl p1
    | cons x b =>
      obtain ⟨h1, h2, h3⟩ := bAt_at h
      rw [hsz] at h1
      obtain ⟨f, rfl⟩ : ∃ g, f = g + 1 := ⟨f - 1, by omega⟩
      have hx := p4 x (by simp)
      have n34 : ((x.toNat : Nat) : Int) ≠ 34 := by
        intro e; apply p2; simp; exact UInt8.toNat_inj.1 (by show x.toNat = 34; omega)
      have n35 : ((x.toNat : Nat) : Int) ≠ 35 := by
        intro e; apply p3; simp; exact UInt8.toNat_inj.1 (by show x.toNat = 35; omega)
      refine ⟨f, by simp; omega, ?_⟩
      conv => lhs; unfold wA
      rw [if_neg (by omega), h3, if_neg (by rw [hx]; simp), if_neg n35, if_neg n34, hsk, hex]
/-- a piece of a line: quoted or not, its bytes, how many blanks ahead, a tab ahead of these or none -/
structure Pc where
  q : Bool
  b : List UInt8
  g : Nat
  t : Bool
def Pc.keep (p : Pc) : Bool := p.q || plainWd p.b
def Pc.gap (p : Pc) : List UInt8 := (if p.t then [9] else []) ++ List.replicate p.g 32
def stepP (st : List UInt8 × List W) (p : Pc) : List UInt8 × List W :=
  if p.keep = true then (st.1 ++ p.gap ++ formL p.q p.b, st.2 ++ [(⟨p.b.toArray⟩, p.q, (st.1 ++ p.gap).length + 1)]) else st
def startsBlank (l : List UInt8) : Prop := ∃ c r, l = c :: r ∧ blankI ((c.toNat : Nat) : Int) = true
end Go.Proofs.YtiknookfnameiaaGreatDoor
