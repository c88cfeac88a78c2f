/- The contract of text's Name. (Printed by wip/genTNam.py.) A text cut at its ends: the plain law, and the contract of text's Lines. -/
import Derived.Test.YtemanjahkohcpaaGreatDoorJn14
import Derived.Test.YtemanjahkohcpaaGreatDoorJn12
namespace Go.Proofs.YtemanjahkohcpaaGreatDoor
open Go.RowKit WP
/-- may the byte stand in a name at this place? -/
def nmOk (i : Nat) (c : Int) : Bool := (decide (97 ≤ c) && decide (c ≤ 122)) || (decide (i ≠ 0) && ((decide (48 ≤ c) && decide (c ≤ 57)) || decide (c = 95)))
/-- the bytes of a name, from a place on -/
def nameA : List UInt8 → Nat → Bool
  | [], _ => true
  | c :: l, i => nmOk i (c.toNat : Int) && nameA l (i + 1)
def nameF (s : ByteArray) : Bool := decide (1 ≤ s.size) && decide (s.size ≤ 24) && nameA s.data.toList 0
theorem nameA_drop (l : List UInt8) (k j : Nat) (h : k < l.length) : nameA (l.drop k) j = (nmOk j (bAt l k) && nameA (l.drop (k + 1)) (j + 1)) := by
  rw [List.drop_eq_getElem_cons h]
  have e : bAt l k = ((l[k].toNat : Nat) : Int) := by unfold bAt; rw [List.getD_eq_getElem?_getD, List.getElem?_eq_getElem h]; rfl
  rw [e]; rfl
theorem name_any (s : ByteArray) (w : World) :
    Calls Tryz.prog 28 #[.string s] w fun e w' => e = .returned (.int .i64 (if nameF s = true then 0 else 42)) ∧ w' = w := by
  have hl : s.data.toList.length = s.size := by rw [Array.length_toList]; rfl
  obtain ⟨R, hR⟩ : ∃ R, (if nameF s = true then (0 : Int) else 42) = R := ⟨_, rfl⟩
  rw [hR]
  by_cases h1 : 1 ≤ s.size
  · have d1 : decide (s.size < 1) = false := decide_eq_false (by omega)
    by_cases h2 : s.size ≤ 24
    · have hF : nameF s = nameA s.data.toList 0 := by unfold nameF; rw [decide_eq_true h1, decide_eq_true h2]; rfl
      rw [hF] at hR
      have d2 : decide (24 < s.size) = false := decide_eq_false (by omega)
      replace hR := Lib.hid hR; replace hl := Lib.hid hl
      clear hF
      have hs : s.size ≤ 9223372036854775807 := by omega
      go_enter Tryz.func28, Tryz.ntmps28
      go_wp2
      clear d1 d2
      go_loop [16] (fun i => ∃ k : Nat, k ≤ s.size ∧ i = .int .i64 k ∧ (if nameA (s.data.toList.drop k) k = true then (0 : Int) else 42) = R) (fun i => s.size - (intOf i).toNat)
      case atStart => exact ⟨0, by omega, rfl, hR.out⟩
      case round =>
        obtain ⟨k, hk, rfl, hq⟩ := hrel
        clear hR
        by_cases hlt : k < s.size
        · have eb : (s[k].toNat : Int) = bAt s.data.toList k := by
            unfold bAt; rw [List.getD_eq_getElem?_getD, List.getElem?_eq_getElem (by rw [hl.out]; exact hlt)]; rfl
          rw [nameA_drop _ _ _ (by rw [hl.out]; exact hlt)] at hq
          obtain ⟨c, hc⟩ : ∃ c, bAt s.data.toList k = c := ⟨_, rfl⟩
          rw [hc] at eb hq
          clear hc
          by_cases a1 : 97 ≤ c
          · have d1 : decide (c ≥ 97) = true := decide_eq_true (by omega)
            by_cases a2 : c ≤ 122
            · have d2 : decide (c ≤ 122) = true := decide_eq_true (by omega)
              have hn : nmOk k c = true := by unfold nmOk; simp; omega
              rw [hn, Bool.true_and] at hq
              replace hq := Lib.hid hq; clear hn
              go_wp2
              go_round
              case rel => exact ⟨k + 1, by omega, by go_num, hq.out⟩
              case measure => simp [intOf]; omega
            · have d2 : decide (c ≤ 122) = false := decide_eq_false (by omega)
              by_cases hk0 : k = 0
              · have z2 : True := trivial
                have z1 : ((k : Int) == 0) = true := by simp [hk0]
                have hn : nmOk k c = false := by unfold nmOk; simp; omega
                rw [hn, Bool.false_and] at hq
                replace hq : (42 : Int) = R := hq
                replace hq := Lib.hid hq; replace hk0 := Lib.hid hk0; clear hn z2
                go_wp2
                go_ret
                exact ⟨by rw [← hq.out]; rfl, rfl⟩
              · have z1 : ((k : Int) == 0) = false := by simp [hk0]
                by_cases b1 : 48 ≤ c
                · have e1 : decide (c < 48) = false := decide_eq_false (by omega)
                  by_cases b2 : c ≤ 57
                  · have e2 : decide (c > 57) = false := decide_eq_false (by omega)
                    have hn : nmOk k c = true := by unfold nmOk; simp; omega
                    rw [hn, Bool.true_and] at hq
                    replace hq := Lib.hid hq; clear hn
                    go_wp2
                    go_round
                    case rel => exact ⟨k + 1, by omega, by go_num, hq.out⟩
                    case measure => simp [intOf]; omega
                  · have e2 : decide (c > 57) = true := decide_eq_true (by omega)
                    by_cases b3 : c = 95
                    · have e3 : (c != 95) = false := by simp [b3]
                      have hn : nmOk k c = true := by unfold nmOk; simp; omega
                      rw [hn, Bool.true_and] at hq
                      replace hq := Lib.hid hq; replace b3 := Lib.hid b3; clear hn
                      go_wp2
                      go_round
                      case rel => exact ⟨k + 1, by omega, by go_num, hq.out⟩
                      case measure => simp [intOf]; omega
                    · have e3 : (c != 95) = true := by simp [b3]
                      have hn : nmOk k c = false := by unfold nmOk; simp; omega
                      rw [hn, Bool.false_and] at hq
                      replace hq : (42 : Int) = R := hq
                      replace hq := Lib.hid hq; clear hn
                      go_wp2
                      go_ret
                      exact ⟨by rw [← hq.out]; rfl, rfl⟩
                · have e1 : decide (c < 48) = true := decide_eq_true (by omega)
                  have e3 : (c != 95) = true := by simp; omega
                  have hn : nmOk k c = false := by unfold nmOk; simp; omega
                  rw [hn, Bool.false_and] at hq
                  replace hq : (42 : Int) = R := hq
                  replace hq := Lib.hid hq; clear hn
                  go_wp2
                  go_ret
                  exact ⟨by rw [← hq.out]; rfl, rfl⟩
          · have d1 : decide (c ≥ 97) = false := decide_eq_false (by omega)
            by_cases hk0 : k = 0
            · have z2 : True := trivial
              have z1 : ((k : Int) == 0) = true := by simp [hk0]
              have hn : nmOk k c = false := by unfold nmOk; simp; omega
              rw [hn, Bool.false_and] at hq
              replace hq : (42 : Int) = R := hq
              replace hq := Lib.hid hq; replace hk0 := Lib.hid hk0; clear hn z2
              go_wp2
              go_ret
              exact ⟨by rw [← hq.out]; rfl, rfl⟩
            · have z1 : ((k : Int) == 0) = false := by simp [hk0]
              by_cases b1 : 48 ≤ c
              · have e1 : decide (c < 48) = false := decide_eq_false (by omega)
                by_cases b2 : c ≤ 57
                · have e2 : decide (c > 57) = false := decide_eq_false (by omega)
                  have hn : nmOk k c = true := by unfold nmOk; simp; omega
                  rw [hn, Bool.true_and] at hq
                  replace hq := Lib.hid hq; clear hn
                  go_wp2
                  go_round
                  case rel => exact ⟨k + 1, by omega, by go_num, hq.out⟩
                  case measure => simp [intOf]; omega
                · have e2 : decide (c > 57) = true := decide_eq_true (by omega)
                  by_cases b3 : c = 95
                  · have e3 : (c != 95) = false := by simp [b3]
                    have hn : nmOk k c = true := by unfold nmOk; simp; omega
                    rw [hn, Bool.true_and] at hq
                    replace hq := Lib.hid hq; replace b3 := Lib.hid b3; clear hn
                    go_wp2
                    go_round
                    case rel => exact ⟨k + 1, by omega, by go_num, hq.out⟩
                    case measure => simp [intOf]; omega
                  · have e3 : (c != 95) = true := by simp [b3]
                    have hn : nmOk k c = false := by unfold nmOk; simp; omega
                    rw [hn, Bool.false_and] at hq
                    replace hq : (42 : Int) = R := hq
                    replace hq := Lib.hid hq; clear hn
                    go_wp2
                    go_ret
                    exact ⟨by rw [← hq.out]; rfl, rfl⟩
              · have e1 : decide (c < 48) = true := decide_eq_true (by omega)
                have e3 : (c != 95) = true := by simp; omega
                have hn : nmOk k c = false := by unfold nmOk; simp; omega
                rw [hn, Bool.false_and] at hq
                replace hq : (42 : Int) = R := hq
                replace hq := Lib.hid hq; clear hn
                go_wp2
                go_ret
                exact ⟨by rw [← hq.out]; rfl, rfl⟩
        · obtain rfl : k = s.size := by omega
          rw [List.drop_of_length_le (by rw [hl.out]; exact Nat.le_refl _)] at hq
          replace hq : (0 : Int) = R := hq
          replace hq := Lib.hid hq
          go_wp2
          go_ret
          exact ⟨by rw [← hq.out]; rfl, rfl⟩
    · have hF : nameF s = false := by unfold nameF; simp; omega
      rw [hF] at hR
      replace hR : (42 : Int) = R := hR
      replace hR := Lib.hid hR
      have d2 : decide (24 < s.size) = true := decide_eq_true (by omega)
      clear hF
      go_enter Tryz.func28, Tryz.ntmps28
      go_wp2
      go_ret
      exact ⟨by rw [← hR.out]; rfl, rfl⟩
  · have hF : nameF s = false := by unfold nameF; simp; omega
    rw [hF] at hR
    replace hR : (42 : Int) = R := hR
    replace hR := Lib.hid hR
    have d1 : decide (s.size < 1) = true := decide_eq_true (by omega)
    clear hF
    go_enter Tryz.func28, Tryz.ntmps28
    go_wp2
    go_ret
    exact ⟨by rw [← hR.out]; rfl, rfl⟩
end Go.Proofs.YtemanjahkohcpaaGreatDoor

namespace Go.Proofs.YtemanjahkohcpaaGreatDoor
open Go.RowKit WP
/-- the pieces of a text, behind what is begun -/
def splitA : List UInt8 → List UInt8 → List (List UInt8)
  | c, [] => [c]
  | c, x :: l => if x = 10 then c :: splitA [] l else splitA (c ++ [x]) l
/-- its lines: the last piece is none if it is empty -/
def linesA : List UInt8 → List UInt8 → List (List UInt8)
  | c, [] => if c = [] then [] else [c]
  | c, x :: l => if x = 10 then c :: linesA [] l else linesA (c ++ [x]) l
theorem splitA_pure (a : List UInt8) : ∀ c, (10 : UInt8) ∉ a → splitA c a = [c ++ a] := by
  induction a with
  | nil => intro c _; simp [splitA]
  | cons x a ih =>
    intro c h
    simp only [List.mem_cons, not_or] at h
    rw [splitA, if_neg (fun e => h.1 e.symm), ih _ h.2]; simp
theorem splitA_at (r a : List UInt8) : ∀ c, (10 : UInt8) ∉ a → splitA c (a ++ 10 :: r) = (c ++ a) :: splitA [] r := by
  induction a with
  | nil => intro c _; simp [splitA]
  | cons x a ih =>
    intro c h
    simp only [List.mem_cons, not_or] at h
    rw [List.cons_append, splitA, if_neg (fun e => h.1 e.symm), ih _ h.2]; simp
theorem first_end : ∀ l : List UInt8, (10 : UInt8) ∈ l → ∃ a r, l = a ++ 10 :: r ∧ (10 : UInt8) ∉ a
  | [], h => by simp at h
  | x :: l, h => by
    by_cases hx : x = 10
    · exact ⟨[], l, by rw [hx]; rfl, by simp⟩
    · obtain ⟨a, r, e, ha⟩ := first_end l (by simpa [Ne.symm hx] using h)
      exact ⟨x :: a, r, by rw [e]; rfl, by simp only [List.mem_cons, not_or]; exact ⟨fun e => hx e.symm, ha⟩⟩
theorem splitK_A : ∀ (k : Nat) (l : List UInt8), l.length ≤ k → Lib.splitK [10] 0 (l.count 10) l = splitA [] l
  | k, l, hk => by
    by_cases h : (10 : UInt8) ∈ l
    · obtain ⟨a, r, e, ha⟩ := first_end l h
      subst e
      have hc : (a ++ 10 :: r).count 10 = r.count 10 + 1 := by
        rw [List.count_append, List.count_cons_self, List.count_eq_zero_of_not_mem ha]; omega
      cases k with
      | zero => simp at hk
      | succ k =>
        rw [hc, splitK_at 10 _ _ _ ha, splitA_at _ _ _ ha, splitK_A k r (by simp at hk; omega)]; rfl
    · rw [List.count_eq_zero_of_not_mem h, splitA_pure _ _ h]; rfl
theorem splitA_ne (l : List UInt8) : ∀ c, splitA c l ≠ [] := by
  induction l with
  | nil => intro c; simp [splitA]
  | cons x l ih =>
    intro c
    unfold splitA
    split
    · simp
    · exact ih _
theorem linesA_split (l : List UInt8) : ∀ c, linesA c l = if (splitA c l).getLastD [] = [] then (splitA c l).dropLast else splitA c l := by
  induction l with
  | nil => intro c; simp [linesA, splitA]
  | cons x l ih =>
    intro c
    unfold linesA splitA
    by_cases hx : x = 10
    · rw [if_pos hx, if_pos hx, ih []]
      have hne := splitA_ne l []
      obtain ⟨y, t, e⟩ := List.exists_cons_of_ne_nil hne
      rw [e]
      simp only [List.getLastD_cons, List.dropLast_cons_cons]
      split <;> rfl
    · rw [if_neg hx, if_neg hx, ih]
def bas (L : List (List UInt8)) : List ByteArray := L.map fun b => ⟨b.toArray⟩
/-- the lines of a text -/
def linesF (s : ByteArray) : List ByteArray := bas (linesA [] s.data.toList)
theorem bas_of {P : List ByteArray} {L : List (List UInt8)} (h : P.map (fun s => s.data.toList) = L) : P = bas L := by
  subst h; unfold bas; rw [List.map_map]
  conv => lhs; rw [← List.map_id P]
  exact List.map_congr_left fun s _ => by simp
theorem linesOf_bas (s : ByteArray) : linesOf s = bas (splitA [] s.data.toList) := by
  refine bas_of ?_
  have := Lib.splitB_data ⟨#[10]⟩ 0 (Lib.countB s ⟨#[10]⟩) s
  have e : (linesOf s).map (fun s => s.data.toList) = Lib.splitK [10] 0 (Lib.countB s ⟨#[10]⟩) s.data.toList := this
  have hc : Lib.countB s ⟨#[10]⟩ = s.data.toList.count 10 := by
    show Lib.count s.data.toList [10] = _
    rw [Lib.count_one]
  rw [e, hc, splitK_A _ _ (Nat.le_refl _)]
theorem linesF_eq (s : ByteArray) (n : Nat) (hn : (linesOf s).length = n + 1) (x : ByteArray) (hx : (linesOf s)[n]? = some x) :
    linesF s = if x.data.toList = [] then (linesOf s).take n else linesOf s := by
  unfold linesF
  rw [linesA_split]
  have hb := linesOf_bas s
  rw [hb] at hn hx
  rw [hb]
  generalize splitA [] s.data.toList = L at *
  have hl : L.length = n + 1 := by simpa [bas] using hn
  have hy : ∃ y, L[n]? = some y ∧ x.data.toList = y := by
    unfold bas at hx; rw [List.getElem?_map] at hx
    cases hq : L[n]? with
    | none => rw [hq] at hx; cases hx
    | some y => rw [hq] at hx; simp at hx; exact ⟨y, rfl, by rw [← hx]⟩
  obtain ⟨y, hy, e⟩ := hy
  have hg : L.getLastD [] = y := by
    rw [List.getLastD_eq_getLast?, List.getLast?_eq_getElem?, hl]; simp [hy]
  rw [hg, e]
  split
  · unfold bas; rw [← List.map_take, List.dropLast_eq_take, hl]; rfl
  · rfl
theorem infoStr : (Tryz.prog.info? 9).map (fun i => (i.zero, i.size, i.bytes)) = some (some (.string ⟨#[]⟩), 1, 16) := by kernel_rfl
theorem tlines_no (s : ByteArray) (w : World) (hs : 65536 < s.size) (h63 : s.size ≤ 9223372036854775807) :
    Calls Tryz.prog 13 #[.string s] w fun e w' => e = .returned (.tuple #[.slice none 0 0, .int .i64 2]) ∧ w' = w := by
  go_enter Tryz.func13, Tryz.ntmps13
  go_wp2_with fail
  go_ret2
  exact ⟨rfl, rfl⟩
set_option maxRecDepth 100000 in
theorem tlines_any (s : ByteArray) (m : Int) (w : World) (hm : MaxL w m) (hs : s.size ≤ 65536) :
    Calls Tryz.prog 13 #[.string s] w fun e w' => ∃ v, e = .returned (.tuple #[v, .int .i64 0]) ∧
      w'.ownsRow w.heap.size 9 1 v (linesF s).length ((linesF s).map Value.string) ∧ Below w.heap.size w w' := by
  obtain ⟨i0, hi, hz0, hz1, hz2⟩ := info_parts infoStr
  have hlen := linesOf_len s
  have hcl : Lib.countB s ⟨#[10]⟩ ≤ s.size := Lib.countB_le ⟨#[10]⟩ (by decide) _ s (Nat.le_refl _)
  have hsp := split_any s ⟨#[10]⟩ m w (by omega) hm (by decide)
  obtain ⟨n, hn⟩ : ∃ n, Lib.countB s ⟨#[10]⟩ = n := ⟨_, rfl⟩
  rw [show Lib.splitB ⟨#[10]⟩ 0 (Lib.countB s ⟨#[10]⟩) s = linesOf s from rfl, hn] at hsp
  rw [hn] at hlen hcl
  obtain ⟨x, hx⟩ : ∃ x, (linesOf s)[n]? = some x := ⟨_, List.getElem?_eq_getElem (by omega)⟩
  have hF := linesF_eq s n hlen x hx
  obtain ⟨F, hFF⟩ : ∃ F, linesF s = F := ⟨_, rfl⟩
  rw [hFF] at hF ⊢
  obtain ⟨P, hP⟩ : ∃ P, linesOf s = P := ⟨_, rfl⟩
  rw [hP] at hlen hx hF hsp
  have hc : (w.alloc (.cells (P.map Value.string).toArray 9)).cell? ⟨w.heap.size, n, none⟩ = some (.string x) := by
    have hg : (w.alloc (.cells (P.map Value.string).toArray 9)).heap[w.heap.size]? = _ := heap_alloc_new w _
    simp only [World.cell?, hg]
    simp [hx]
  have hnews : ∀ j u, (P.map Value.string)[j]? = some u → (w.alloc (.cells (P.map Value.string).toArray 9)).cell? ((⟨w.heap.size, 0, none⟩ : Addr).add j) = some u := cells_new w _ _ _
  have hb1 : Below w.heap.size w (w.alloc (.cells (P.map Value.string).toArray 9)) := (Below.refl _ _).alloc (Nat.le_refl _) _
  have hsz1 : (w.alloc (.cells (P.map Value.string).toArray 9)).heap.size = w.heap.size + 1 := by simp
  have hone : ∀ u ∈ P.map Value.string, u.oneCell' = true := by
    intro u hu; obtain ⟨_, _, rfl⟩ := List.mem_map.1 hu; rfl
  have hlp : (P.map Value.string).length = n + 1 := by rw [List.length_map, hlen]
  generalize hw1 : w.alloc (.cells (P.map Value.string).toArray 9) = w1 at *
  clear hw1 hP hFF hn hm
  replace hlen := Lib.hid hlen; replace hx := Lib.hid hx; replace hnews := Lib.hid hnews; replace hb1 := Lib.hid hb1; replace hone := Lib.hid hone; replace hlp := Lib.hid hlp; replace hsp := Lib.hid hsp; replace hsz1 := Lib.hid hsz1
  by_cases h0 : x.data.toList = []
  · rw [if_pos h0] at hF
    have hx0 : x = ⟨#[]⟩ := by
      obtain ⟨d⟩ := x; simp at h0; rw [h0]
    subst hx0
    replace hF := Lib.hid hF
    clear h0
    go_enter Tryz.func13, Tryz.ntmps13
    go_wp2_with fail
    refine hsp.out.mono ?_
    rintro e w2 ⟨rfl, rfl⟩
    go_wp2_with (at_builtin; refine wpList_append_onto' _ rfl _ _ 46 rfl w.heap.size 9 i0 (.string ⟨#[]⟩) 1 16 Tryz.underlying46 hi hz0 hz1 hz2 rfl (by decide) _ 0 [] rfl (World.ownsRow_nil _ _ _ _) ⟨w.heap.size, 0, none⟩ n (n + 1) ((P.map Value.string).take n) rfl ?c1 ?c2 ?c3 ?c4 ?c5 ?c6 ?_)
    case c1 => have h1 := hlp.out; simp at h1; simp; omega
    case c2 => intro j u hu; rw [List.getElem?_take] at hu; split at hu; (first | exact hnews.out j u hu | cases hu); all_goals cases hu
    case c3 => intro u hu; exact hone.out u (by first | exact hu | exact List.mem_of_mem_take hu)
    case c4 => simp only [maxLen]; omega
    case c5 => omega
    case c6 => have := hsz1.out; omega
    intro v' w3 ho3 hO3
    have hb3 : Below w.heap.size w w3 := hb1.out.grown hO3.1 (by have := hsz1.out; omega) (fun k hk => by cases hk)
    replace ho3 : w3.ownsRow w.heap.size 9 1 v' F.length (F.map Value.string) := by
      have e1 : F.map Value.string = (P.map Value.string).take n := by rw [hF.out]; simp [List.map_take]
      have e2 : F.length = n := by have h1 := hlen.out; rw [hF.out]; simp; try omega
      rw [e1, e2]; exact ho3
    clear hO3
    replace ho3 := Lib.hid ho3; replace hb3 := Lib.hid hb3
    go_wp2_with fail
    go_ret2
    exact ⟨v', rfl, ho3.out, hb3.out⟩
  · rw [if_neg h0] at hF
    have hx1 : (x.toList == ([] : List UInt8)) = false := by
      rw [ByteArray.toList_eq]; simpa using h0
    replace hF := Lib.hid hF
    go_enter Tryz.func13, Tryz.ntmps13
    go_wp2_with fail
    refine hsp.out.mono ?_
    rintro e w2 ⟨rfl, rfl⟩
    go_wp2_with (at_builtin; refine wpList_append_onto' _ rfl _ _ 46 rfl w.heap.size 9 i0 (.string ⟨#[]⟩) 1 16 Tryz.underlying46 hi hz0 hz1 hz2 rfl (by decide) _ 0 [] rfl (World.ownsRow_nil _ _ _ _) ⟨w.heap.size, 0, none⟩ (n + 1) (n + 1) (P.map Value.string) rfl ?c1 ?c2 ?c3 ?c4 ?c5 ?c6 ?_)
    case c1 => have h1 := hlp.out; simp at h1; simp; omega
    case c2 => exact hnews.out
    case c3 => intro u hu; exact hone.out u (by first | exact hu | exact List.mem_of_mem_take hu)
    case c4 => simp only [maxLen]; omega
    case c5 => omega
    case c6 => have := hsz1.out; omega
    intro v' w3 ho3 hO3
    have hb3 : Below w.heap.size w w3 := hb1.out.grown hO3.1 (by have := hsz1.out; omega) (fun k hk => by cases hk)
    replace ho3 : w3.ownsRow w.heap.size 9 1 v' F.length (F.map Value.string) := by
      have e1 : F.map Value.string = P.map Value.string := by rw [hF.out]
      have e2 : F.length = n + 1 := by rw [hF.out]; exact hlen.out
      rw [e1, e2]; exact ho3
    clear hO3
    replace ho3 := Lib.hid ho3; replace hb3 := Lib.hid hb3
    go_wp2_with fail
    go_ret2
    exact ⟨v', rfl, ho3.out, hb3.out⟩
end Go.Proofs.YtemanjahkohcpaaGreatDoor
