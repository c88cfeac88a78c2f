/- The contract of the reference's Words. The contract of the reference's plain: the words of a line, none quoted. A quote's text told by places, as plain laws. -/
import Derived.Test.YtemanjahkohcpaaGreatDoorKQuoJn
import Derived.Test.YtemanjahkohcpaaGreatDoorJn27
import Derived.Test.YtemanjahkohcpaaGreatDoorUBasJn
import Derived.Test.YtemanjahkohcpaaGreatDoorJn14
namespace Go.Proofs.YtemanjahkohcpaaGreatDoor
open Go.RowKit WP
theorem rown_later {w w' : World} {base : Nat} {e : TypeId} {size n : Nat} {v : Value} {xs : List Value} (h : w.ownsRow base e size v n xs) (hb : Below w.heap.size w w') : w'.ownsRow base e size v n xs :=
  h.kept (row := none) ⟨hb.os, hb.tape, hb.output, hb.size, fun k hk _ => hb.block k hk⟩ (by
    rcases h.2 with ⟨hv, _⟩ | ⟨g, cap, cur, hv, _⟩
    · exact .inl (by rw [hv]; rfl)
    · exact .inr (by rw [hv]; simp [Value.ownBlock]))
theorem infoRW : (Tryz.prog.info? 89).map (fun i => (i.zero.map (fun z => z.cells.size), i.size, i.bytes)) = some (some 3, 3, 32) := by kernel_rfl
theorem infoRW_parts : ∃ i z, Tryz.prog.info? 89 = some i ∧ i.zero = some z ∧ i.size = 3 ∧ i.bytes = 32 ∧ z.cells.size = 3 := by
  have h := infoRW
  cases hi : Tryz.prog.info? 89 with
  | none => rw [hi] at h; exact absurd h (by simp)
  | some i =>
    rw [hi] at h
    simp only [Option.map_some, Option.some.injEq, Prod.mk.injEq] at h
    obtain ⟨h1, h2, h3⟩ := h
    cases hz : i.zero with
    | none => rw [hz] at h1; exact absurd h1 (by simp)
    | some z => rw [hz] at h1; simp only [Option.map_some, Option.some.injEq] at h1; exact ⟨i, z, rfl, hz, h2, h3, h1⟩
/-- what the reference's Words answers -/
def RWordsRes (R : (List W) ⊕ Nat) (B : Nat) (e : Ending) (w' : World) : Prop :=
  match R with
  | .inl acc => ∃ v, e = .returned (.tuple #[v, .int .i64 0, .int .i64 0]) ∧ w'.ownsRow B 89 3 v acc.length (ww acc)
  | .inr c => e = .returned (.tuple #[.slice none 0 0, .int .i64 (c : Int), .int .i64 40])
set_option maxRecDepth 100000 in
set_option maxHeartbeats 8000000 in
theorem rwords_any (s : ByteArray) (w : World) (hs : s.size ≤ 1099511627776) :
    Calls Tryz.prog 31 #[.string s] w fun e w' => Below w.heap.size w w' ∧ RWordsRes (wordsF s) w.heap.size e w' := by
  obtain ⟨i0, z0, hi, hz0, hz1, hz2, hz3⟩ := infoRW_parts
  obtain ⟨R, hR⟩ : ∃ R, wordsF s = R := ⟨_, rfl⟩
  rw [hR]
  have hl := Lib.hid (size_list s)
  replace hR := Lib.hid hR
  go_enter Tryz.func31, Tryz.ntmps31
  go_wp2_with fail
  go_loopw [5, 6] (fun v i wr => ∃ (k f : Nat) (acc : List W), k ≤ s.size ∧ s.size + 1 ≤ f + k ∧ acc.length ≤ k ∧ i = .int .i64 k ∧ wr.ownsRow w.heap.size 89 3 v acc.length (ww acc) ∧ Below w.heap.size w wr ∧ wA s f k acc = R) (fun _ i _ => s.size - (intOf i).toNat)
  case atStart => exact ⟨0, s.size + 1, [], by omega, by omega, by simp, rfl, World.ownsRow_nil _ _ _ _, Below.refl _ _, hR.out⟩
  case round =>
    obtain ⟨wo, rfl⟩ : ∃ wo, wo = wr := ⟨wr, rfl⟩
    obtain ⟨va, rfl⟩ : ∃ b, b = u5 := ⟨u5, rfl⟩
    obtain ⟨k0, f0, acc, hk0, hf0, hac0, rfl, ho, hb, hq0⟩ := hrel
    clear hR
    obtain ⟨ao, ca, rfl⟩ : ∃ ao ca, va = .slice ao acc.length ca := by
      rcases ho.2 with ⟨hv, hn⟩ | ⟨g, cap, cur, hv, _⟩
      · exact ⟨none, 0, by rw [hv, hn]⟩
      · exact ⟨_, _, hv⟩
    have hbs := hb.size
    replace ho := Lib.hid ho; replace hb := Lib.hid hb; replace hq0 := Lib.hid hq0
    go_wp2_with fail
    go_loop [6] (fun i => ∃ (k f : Nat), k0 ≤ k ∧ k ≤ s.size ∧ s.size + 1 ≤ f + k ∧ i = .int .i64 k ∧ wA s f k acc = R) (fun i => s.size - (intOf i).toNat)
    case atStart => exact ⟨k0, f0, by omega, by omega, by omega, rfl, hq0.out⟩
    case round =>
      obtain ⟨k, f, hk1, hk, hf, rfl, hq⟩ := hrel
      obtain ⟨f, rfl⟩ : ∃ g, f = g + 1 := ⟨f - 1, by omega⟩
      have hac : acc.length ≤ k := by omega
      clear hq0
      by_cases hlt : k < s.size
      · have d0 : decide (k < s.size) = true := decide_eq_true hlt
        have d1 : decide (s.size ≤ k) = false := decide_eq_false (by omega)
        have eb := bAt_get s k hlt
        have hq : (if blankI (bAt s.data.toList k) = true then wA s f (k + 1) acc
          else if bAt s.data.toList k = 35 then .inl acc
          else if bAt s.data.toList k = 34 then
            match qA s.data.toList (s.size + 1) (k + 1) [] with
            | .inr k => .inr (k + 1)
            | .inl (b, n) => if n < s.size ∧ blankI (bAt s.data.toList n) = false then .inr (n + 1) else wA s f n (acc ++ [((⟨b.toArray⟩ : ByteArray), true, k + 1)])
          else wA s f (skipB s.data.toList s.size k) (acc ++ [(s.extract k (skipB s.data.toList s.size k), false, k + 1)])) = R := by
          rw [← hq]; conv => rhs; unfold wA; rw [if_neg (by omega)]
          rfl
        obtain ⟨c, hc⟩ : ∃ c, bAt s.data.toList k = c := ⟨_, rfl⟩
        rw [hc] at eb
        simp only [hc] at hq
        by_cases hbk : blankI c = true
        · rw [if_pos hbk] at hq
          replace hq := Lib.hid hq
          go_wp2_with (go_at_call 52; refine (rparts_any _ _).mono ?_; rintro e w2 ⟨rfl, hw⟩; rw [hw, hbk]; clear hw w2)
          go_round
          case rel => exact ⟨k + 1, f, by omega, by omega, by omega, by go_num, hq.out⟩
          case measure => simp [intOf]; omega
        · rw [if_neg hbk] at hq
          replace hbk : blankI c = false := by simpa using hbk
          by_cases h35 : c = 35
          · subst h35
            have hR : R = .inl acc := by rw [← hq, if_pos rfl]
            clear hc hq
            replace hR := Lib.hid hR
            go_wp2_with (go_at_call 52; refine (rparts_any _ _).mono ?_; rintro e w2 ⟨rfl, hw⟩; rw [hw, hbk]; clear hw w2)
            refine bodyPost_ret (v := .tuple #[.slice ao acc.length ca, .int .i64 0, .int .i64 0]) (by simp [results, Tryz.results31, go_sem]) rfl ⟨hb.out, by rw [hR.out]; exact ⟨_, rfl, ho.out⟩⟩
          · rw [if_neg h35] at hq
            have d35 : (c == 35) = false := by simp [h35]
            by_cases h34 : c = 34
            · subst h34
              rw [if_pos rfl] at hq
              have hqc := rquoted_any s k wo (by omega) hlt
              cases hQ : qA s.data.toList (s.size + 1) (k + 1) [] with
              | inr k2 =>
                rw [hQ] at hq hqc
                simp only at hq
                have hk2 := qA_no _ _ _ _ _ (by rw [hl.out]; omega) hQ
                rw [hl.out] at hk2
                replace hq := Lib.hid hq; replace hQ := Lib.hid hQ; replace hqc := Lib.hid hqc
                go_wp2_with (first | (go_at_call 52; refine (rparts_any _ _).mono ?_; rintro e w2 ⟨rfl, hw⟩; rw [hw, hbk]; clear hw w2) | (go_at_call 53; refine hqc.out.mono ?_; rintro e w2 ⟨hb2, hr2⟩; replace hr2 : e = .returned (.tuple #[.slice none 0 0, .int .i64 k2, .bool false]) := hr2; rw [hr2]; clear hr2))
                have hb3 := hb.out.trans (hb2.mono hbs)
                refine bodyPost_ret (v := .tuple #[.slice none 0 0, .int .i64 ((k2 : Int) + 1), .int .i64 40]) (by simp [results, Tryz.results31, go_sem]) rfl ⟨hb3, by rw [← hq.out]; rfl⟩
              | inl p =>
                obtain ⟨b, n⟩ := p
                rw [hQ] at hq hqc
                simp only at hq
                have hbd := qA_bd _ _ _ _ _ _ hQ
                rw [hl.out] at hbd
                replace hQ := Lib.hid hQ; replace hqc := Lib.hid hqc
                go_upto_region 10 with (first | (go_at_call 52; refine (rparts_any _ _).mono ?_; rintro e w2 ⟨rfl, hw⟩; rw [hw, hbk]; clear hw w2) | (go_at_call 53; refine hqc.out.mono ?_; rintro e w2 ⟨hb2, hr2⟩; obtain ⟨v2, he, ho2⟩ := hr2; rw [he]; clear he e))
                have hb3 := hb.out.trans (hb2.mono hbs)
                have ho3 := rown_later ho.out hb2
                have hcv := conv_bytes (P := Tryz.prog) (Rd.of_own ho2) 72 5 9 Tryz.underlying72 Tryz.underlying5 Tryz.underlying9
                clear ho2 hb2 hqc
                replace hb3 := Lib.hid hb3; replace ho3 := Lib.hid ho3
                by_cases hn : n < s.size
                · have en := bAt_get s n hn
                  have dn : decide (n < s.size) = true := decide_eq_true hn
                  obtain ⟨c3, hc3⟩ : ∃ x, bAt s.data.toList n = x := ⟨_, rfl⟩
                  rw [hc3] at hq en
                  by_cases hb4 : blankI c3 = true
                  · rw [if_neg (by rw [hb4]; simp)] at hq
                    replace hq := Lib.hid hq
                    go_upto_region 12 with (go_at_call 52; refine (rparts_any _ _).mono ?_; rintro e w3 ⟨rfl, hw⟩; rw [hw, hb4]; clear hw w3)
                    have hsx := hb3.out.size
                    go_wp2_with (at_builtin; refine wpList_append_onto' _ rfl _ _ 86 rfl w.heap.size 89 i0 z0 3 32 Tryz.underlying86 hi hz0 hz1 hz2 hz3 (by omega) _ _ _ rfl (ho3.out.alloc _) ⟨w2.heap.size, 0, none⟩ 1 1 [.string ⟨b.toArray⟩, .bool true, .int .i64 ((k : Int) + 1)] rfl rfl ?c1 ?c2 ?c3 ?c4 ?c5 ?_)
                    case c1 => exact cells_new _ _ _ _
                    case c2 => intro u hu; simp only [List.mem_cons, List.not_mem_nil, or_false] at hu; rcases hu with rfl | rfl | rfl <;> rfl
                    case c3 => simp only [maxLen]; omega
                    case c4 => omega
                    case c5 => simp; omega
                    intro v3 w3 hoN hON
                    have hb3 : Below w.heap.size w w3 := (hb3.out.alloc hsx _).grown hON.1 (by simp; omega) (fun k hk => (ho3.out.lt k hk).1)
                    have ho4 : w3.ownsRow w.heap.size 89 3 v3 (acc ++ [((⟨b.toArray⟩ : ByteArray), true, k + 1)]).length (ww (acc ++ [((⟨b.toArray⟩ : ByteArray), true, k + 1)])) := by
                      rw [ww_append, List.length_append]; exact hoN
                    clear hoN hON
                    replace hb3 := Lib.hid hb3; replace ho4 := Lib.hid ho4
                    go_wp2_with fail
                    go_roundw
                    case rel => exact ⟨n, f, _, by omega, by omega, by simp; omega, rfl, ho4.out, hb3.out, hq.out⟩
                    case measure => simp [intOf]; omega
                  · replace hb4 : blankI c3 = false := by simpa using hb4
                    rw [if_pos ⟨hn, hb4⟩] at hq
                    replace hq := Lib.hid hq
                    clear hcv
                    go_wp2_with (go_at_call 52; refine (rparts_any _ _).mono ?_; rintro e w3 ⟨rfl, hw⟩; rw [hw, hb4]; clear hw w3)
                    refine bodyPost_ret (v := .tuple #[.slice none 0 0, .int .i64 ((n : Int) + 1), .int .i64 40]) (by simp [results, Tryz.results31, go_sem]) rfl ⟨hb3.out, by rw [← hq.out]; rfl⟩
                · have dn : decide (n < s.size) = false := decide_eq_false hn
                  rw [if_neg (fun h => hn h.1)] at hq
                  replace hq := Lib.hid hq
                  go_upto_region 12 with fail
                  have hsx := hb3.out.size
                  go_wp2_with (at_builtin; refine wpList_append_onto' _ rfl _ _ 86 rfl w.heap.size 89 i0 z0 3 32 Tryz.underlying86 hi hz0 hz1 hz2 hz3 (by omega) _ _ _ rfl (ho3.out.alloc _) ⟨w2.heap.size, 0, none⟩ 1 1 [.string ⟨b.toArray⟩, .bool true, .int .i64 ((k : Int) + 1)] rfl rfl ?c1 ?c2 ?c3 ?c4 ?c5 ?_)
                  case c1 => exact cells_new _ _ _ _
                  case c2 => intro u hu; simp only [List.mem_cons, List.not_mem_nil, or_false] at hu; rcases hu with rfl | rfl | rfl <;> rfl
                  case c3 => simp only [maxLen]; omega
                  case c4 => omega
                  case c5 => simp; omega
                  intro v3 w3 hoN hON
                  have hb3 : Below w.heap.size w w3 := (hb3.out.alloc hsx _).grown hON.1 (by simp; omega) (fun k hk => (ho3.out.lt k hk).1)
                  have ho4 : w3.ownsRow w.heap.size 89 3 v3 (acc ++ [((⟨b.toArray⟩ : ByteArray), true, k + 1)]).length (ww (acc ++ [((⟨b.toArray⟩ : ByteArray), true, k + 1)])) := by
                    rw [ww_append, List.length_append]; exact hoN
                  clear hoN hON
                  replace hb3 := Lib.hid hb3; replace ho4 := Lib.hid ho4
                  go_wp2_with fail
                  go_roundw
                  case rel => exact ⟨n, f, _, by omega, by omega, by simp; omega, rfl, ho4.out, hb3.out, hq.out⟩
                  case measure => simp [intOf]; omega
            · rw [if_neg h34] at hq
              have d34 : (c == 34) = false := by simp [h34]
              obtain ⟨N, hN⟩ : ∃ N, skipB s.data.toList s.size k = N := ⟨_, rfl⟩
              have hN1 : k < N := by
                obtain ⟨g, hg⟩ : ∃ g, s.size = g + 1 := ⟨s.size - 1, by omega⟩
                rw [← hN, hg]; exact skipB_gt _ _ _ (by rw [hl.out]; omega) (by rw [hc]; exact hbk)
              have hN2 : N ≤ s.size := by
                have := (skipB_bd s.data.toList s.size k (by rw [hl.out]; omega)).2
                rw [hN, hl.out] at this; exact this
              rw [hN] at hq
              replace hN := Lib.hid hN; replace hq := Lib.hid hq
              go_wp2_with (go_at_call 52; refine (rparts_any _ _).mono ?_; rintro e w2 ⟨rfl, hw⟩; rw [hw, hbk]; clear hw w2)
              go_loop [6] (fun i => ∃ (j g : Nat), k ≤ j ∧ j ≤ s.size ∧ s.size ≤ g + j ∧ i = .int .i64 j ∧ skipB s.data.toList g j = N) (fun i => s.size - (intOf i).toNat)
              case atStart => exact ⟨k, s.size, by omega, by omega, by omega, rfl, hN.out⟩
              case round =>
                obtain ⟨j, g, hj1, hj2, hg, rfl, hsk⟩ := hrel
                by_cases hjs : j < s.size
                · have ej := bAt_get s j hjs
                  have dj : decide (j < s.size) = true := decide_eq_true hjs
                  obtain ⟨cj, hcj⟩ : ∃ x, bAt s.data.toList j = x := ⟨_, rfl⟩
                  by_cases hbj : blankI cj = true
                  · have hjN : j = N := by rw [← hsk]; cases g <;> simp [skipB, hcj, hbj]
                    rw [hcj] at ej
                    subst hjN
                    clear hsk hcj
                    go_upto_region 16 with (go_at_call 52; refine (rparts_any _ _).mono ?_; rintro e w2 ⟨rfl, hw⟩; rw [hw, hbj]; clear hw w2)
                    have hsx := hb.out.size
                    go_wp2_with (at_builtin; refine wpList_append_onto' _ rfl _ _ 86 rfl w.heap.size 89 i0 z0 3 32 Tryz.underlying86 hi hz0 hz1 hz2 hz3 (by omega) _ _ _ rfl (ho.out.alloc _) ⟨wo.heap.size, 0, none⟩ 1 1 [.string (s.extract k j), .bool false, .int .i64 ((k : Int) + 1)] rfl rfl ?c1 ?c2 ?c3 ?c4 ?c5 ?_)
                    case c1 => exact cells_new _ _ _ _
                    case c2 => intro u hu; simp only [List.mem_cons, List.not_mem_nil, or_false] at hu; rcases hu with rfl | rfl | rfl <;> rfl
                    case c3 => simp only [maxLen]; omega
                    case c4 => omega
                    case c5 => simp; omega
                    intro v3 w3 hoN hON
                    have hb3 : Below w.heap.size w w3 := (hb.out.alloc hsx _).grown hON.1 (by simp; omega) (fun k hk => (ho.out.lt k hk).1)
                    have ho4 : w3.ownsRow w.heap.size 89 3 v3 (acc ++ [((s.extract k j), false, k + 1)]).length (ww (acc ++ [((s.extract k j), false, k + 1)])) := by
                      rw [ww_append, List.length_append]; exact hoN
                    clear hoN hON
                    replace hb3 := Lib.hid hb3; replace ho4 := Lib.hid ho4
                    go_wp2_with fail
                    go_roundw
                    case rel => exact ⟨j, f, _, by omega, by omega, by simp; omega, rfl, ho4.out, hb3.out, hq.out⟩
                    case measure => simp [intOf]; omega
                  · replace hbj : blankI cj = false := by simpa using hbj
                    obtain ⟨g, rfl⟩ : ∃ x, g = x + 1 := ⟨g - 1, by omega⟩
                    have hsk : skipB s.data.toList g (j + 1) = N := by rw [← hsk]; conv => rhs; unfold skipB; rw [if_pos ⟨by rw [hl.out]; omega, by rw [hcj]; exact hbj⟩]
                    rw [hcj] at ej
                    clear hcj
                    replace hsk := Lib.hid hsk
                    go_wp2_with (go_at_call 52; refine (rparts_any _ _).mono ?_; rintro e w2 ⟨rfl, hw⟩; rw [hw, hbj]; clear hw w2)
                    go_round
                    case rel => exact ⟨j + 1, g, by omega, by omega, by omega, by go_num, hsk.out⟩
                    case measure => simp [intOf]; omega
                · have hjN : j = N := by rw [← hsk]; cases g <;> simp [skipB, hl.out, hjs]
                  subst hjN
                  obtain rfl : j = s.size := by omega
                  clear hsk
                  have dj : decide (s.size < s.size) = false := decide_eq_false (by omega)
                  go_upto_region 16 with fail
                  have hsx := hb.out.size
                  go_wp2_with (at_builtin; refine wpList_append_onto' _ rfl _ _ 86 rfl w.heap.size 89 i0 z0 3 32 Tryz.underlying86 hi hz0 hz1 hz2 hz3 (by omega) _ _ _ rfl (ho.out.alloc _) ⟨wo.heap.size, 0, none⟩ 1 1 [.string (s.extract k s.size), .bool false, .int .i64 ((k : Int) + 1)] rfl rfl ?e1 ?e2 ?e3 ?e4 ?e5 ?_)
                  case e2 => exact ⟨rfl, rfl, rfl⟩
                  case e3 => simp only [maxLen]; omega
                  case e4 => omega
                  case e5 => omega
                  intro v3 w3 hoN hON
                  have hb3 : Below w.heap.size w w3 := (hb.out.alloc hsx _).grown hON.1 (by simp; omega) (fun k hk => (ho.out.lt k hk).1)
                  have ho4 : w3.ownsRow w.heap.size 89 3 v3 (acc ++ [((s.extract k s.size), false, k + 1)]).length (ww (acc ++ [((s.extract k s.size), false, k + 1)])) := by
                    rw [ww_append, List.length_append]; exact hoN
                  clear hoN hON
                  replace hb3 := Lib.hid hb3; replace ho4 := Lib.hid ho4
                  go_wp2_with fail
                  go_roundw
                  case rel => exact ⟨s.size, f, _, by omega, by omega, by simp; omega, rfl, ho4.out, hb3.out, hq.out⟩
                  case measure => simp [intOf]; omega
      · obtain rfl : k = s.size := by omega
        have hR : R = .inl acc := by rw [← hq]; unfold wA; rw [if_pos (Nat.le_refl _)]
        have d0 : decide (s.size < s.size) = false := decide_eq_false (by omega)
        clear hq
        replace hR := Lib.hid hR
        go_wp2_with fail
        refine bodyPost_ret (v := .tuple #[.slice ao acc.length ca, .int .i64 0, .int .i64 0]) (by simp [results, Tryz.results31, go_sem]) rfl ⟨hb.out, by rw [hR.out]; exact ⟨_, rfl, ho.out⟩⟩
end Go.Proofs.YtemanjahkohcpaaGreatDoor

namespace Go.Proofs.YtemanjahkohcpaaGreatDoor
open Go.RowKit WP
def PlainL (ws : List W) (B : Nat) (e : Ending) (w' : World) : Prop :=
  if (ws.any fun x => x.2.1) = true then e = .returned (.tuple #[.slice none 0 0, .bool false])
  else ∃ v, e = .returned (.tuple #[v, .bool true]) ∧ w'.ownsRow B 9 1 v ws.length (tx ws)
def PlainRes (R : (List W) ⊕ Nat) (B : Nat) (e : Ending) (w' : World) : Prop :=
  match R with
  | .inr _ => e = .returned (.tuple #[.slice none 0 0, .bool false])
  | .inl ws => PlainL ws B e w'
set_option maxRecDepth 100000 in
set_option maxHeartbeats 4000000 in
theorem rplain16_any (s : ByteArray) (w : World) (hs : s.size ≤ 1048576) :
    Calls Tryz.prog 18 #[.string s] w fun e w' => Below w.heap.size w w' ∧ PlainRes (wordsF s) w.heap.size e w' := by
  have hrw := rwords_any s w (by omega)
  obtain ⟨i0, hi, hz0, hz1, hz2⟩ := info_parts infoStr
  cases hF : wordsF s with
  | inr c =>
    rw [hF] at hrw
    clear hF
    unfold PlainRes
    replace hrw := Lib.hid hrw
    go_enter Tryz.func18, Tryz.ntmps18
    go_wp2_with fail
    refine hrw.out.mono ?_
    rintro e w1 ⟨b1, rfl⟩
    go_wp2_with fail
    go_ret2
    exact ⟨b1, rfl⟩
  | inl ws =>
    have hbd := (wordsF_bd s ws hF).1
    rw [hF] at hrw
    clear hF
    unfold PlainRes
    dsimp only
    obtain ⟨n, hn⟩ : ∃ n, ws.length = n := ⟨_, rfl⟩
    rw [hn] at hbd
    replace hrw := Lib.hid hrw; replace hn := Lib.hid hn
    go_enter Tryz.func18, Tryz.ntmps18
    go_wp2_with fail
    refine hrw.out.mono ?_
    rintro e w1 ⟨b1, v, rfl, ow⟩
    obtain ⟨ao, cp, rfl, p1, p2⟩ := own_shape ow
    rw [hn.out] at ow p1 ⊢
    replace ow := Lib.hid ow; replace b1 := Lib.hid b1
    clear hrw
    go_wp2_with fail
    go_loopw [7, 8] (fun lv i wr => ∃ k : Nat, k ≤ n ∧ i = .int .i64 (k : Int) ∧ wr.ownsRow w1.heap.size 9 1 lv k (tx (ws.take k)) ∧ ((ws.take k).any fun x => x.2.1) = false ∧ Below w1.heap.size w1 wr) (fun _ i _ => n - (intOf i).toNat)
    case atStart => exact ⟨0, by omega, rfl, World.ownsRow_nil _ _ _ _, rfl, Below.refl _ _⟩
    case round =>
      obtain ⟨wo, rfl⟩ : ∃ wo, wo = wr := ⟨wr, rfl⟩
      obtain ⟨lv, rfl⟩ : ∃ b, b = u7 := ⟨u7, rfl⟩
      obtain ⟨k, hk, rfl, ol, hq, hb⟩ := hrel
      have hbs := hb.size
      have h1s := b1.out.size
      by_cases hlt : k < n
      · have hkl : k < ws.length := by rw [hn.out]; exact hlt
        obtain ⟨e0, e1, e2⟩ := ww_get3 ws k hkl
        have htk : ws.take (k + 1) = ws.take k ++ [ws[k]] := by rw [List.take_succ_eq_append_getElem hkl]
        obtain ⟨x, hx⟩ : ∃ x, ws[k] = x := ⟨_, rfl⟩
        rw [hx] at e0 e1 e2 htk
        obtain ⟨xt, xq, xc⟩ := x
        dsimp only at e0 e1 e2
        have ow2 := own_below ow.out hb
        obtain ⟨g, cap, hv, _⟩ := ow2.form (by omega)
        simp only [Value.slice.injEq, true_and] at hv
        obtain ⟨rfl, rfl⟩ := hv
        have c0 := (ow2.cellAt (k * 3) (by omega)).trans e0
        have c1 := (ow2.cellAt (k * 3 + 1) (by omega)).trans e1
        have i1 : (0 : Int) ≤ (k : Int) := by omega
        have i2 : (k : Int) < (n : Int) := by omega
        clear e0 e1 e2 ow2
        replace ol := Lib.hid ol; replace hb := Lib.hid hb; replace htk := Lib.hid htk; replace hx := Lib.hid hx; replace hq := Lib.hid hq
        cases xq with
        | true =>
          have hany : (ws.any fun x => x.2.1) = true := List.any_eq_true.2 ⟨ws[k], List.getElem_mem _, by rw [hx.out]⟩
          replace hany := Lib.hid hany
          go_wp2_with fail
          go_ret2
          exact ⟨b1.out.trans (hb.out.mono h1s), by unfold PlainL; rw [if_pos hany.out]; rfl⟩
        | false =>
          go_wp2_with (at_builtin; refine wpList_append_onto' _ rfl _ _ 46 rfl w1.heap.size 9 i0 (.string ⟨#[]⟩) 1 16 Tryz.underlying46 hi hz0 hz1 hz2 rfl (by decide) _ _ _ rfl (ol.out.alloc _) ⟨wo.heap.size, 0, none⟩ 1 1 [.string xt] rfl rfl ?c1 ?c2 ?c3 ?c4 ?c5 ?_)
          all_goals try exact cells_new _ _ _ _
          case c2 => simp [Value.oneCell']
          case c3 => simp only [maxLen]; omega
          case c4 => omega
          case c5 => first | omega | (simp; omega)
          intro v1 w2 ho1 hO1
          have hb2 : Below w1.heap.size w1 w2 := ((hb.out.alloc hbs _).grown hO1.1 (by simp; omega) (fun k hk => (ol.out.lt k hk).1))
          have ho2 : w2.ownsRow w1.heap.size 9 1 v1 (k + 1) (tx (ws.take (k + 1))) := by
            rw [htk.out]; unfold tx at ho1 ⊢; rw [List.map_append]; exact ho1
          have hq2 : ((ws.take (k + 1)).any fun x => x.2.1) = false := by rw [htk.out, List.any_append, hq.out]; rfl
          clear ho1 hO1
          replace hb2 := Lib.hid hb2; replace ho2 := Lib.hid ho2; replace hq2 := Lib.hid hq2
          go_wp2_with fail
          go_roundw
          case rel => exact ⟨k + 1, by omega, by go_num, ho2.out, hq2.out, hb2.out⟩
          case measure => simp [intOf]; omega
      · obtain rfl : k = n := by omega
        have htk : ws.take k = ws := by rw [← hn.out, List.take_length]
        rw [htk] at ol hq
        have hif : ¬ ((ws.any fun x => x.2.1) = true) := by rw [hq]; simp
        replace ol := Lib.hid ol; replace hb := Lib.hid hb; replace htk := Lib.hid htk; replace hq := Lib.hid hq; replace hif := Lib.hid hif
        go_wp2_with fail
        go_ret2
        exact ⟨b1.out.trans (hb.out.mono h1s), by unfold PlainL; rw [if_neg hif.out, hn.out]; exact ⟨lv, rfl, own_base ol.out h1s⟩⟩
end Go.Proofs.YtemanjahkohcpaaGreatDoor

namespace Go.Proofs.YtemanjahkohcpaaGreatDoor
open Go.RowKit
/-- 64 bytes from a place on; none, if the text ends ahead -/
def cutR (s : ByteArray) (k : Nat) : ByteArray := if s.size < k + 64 then ⟨#[]⟩ else s.extract k (k + 64)
theorem cutR_size (s : ByteArray) (k : Nat) : (cutR s k).size = 0 ∨ (cutR s k).size = 64 := by
  unfold cutR
  split
  · left; rfl
  · right; rw [ByteArray.size_extract]; omega
theorem fmtL_cat (me da tg : List UInt32) : fmtL me da tg = [113, 117, 111, 116, 101, 32, 49, 10, 109, 101, 97, 115, 117, 114, 101, 109, 101, 110, 116, 32] ++ hexAllL me ++ ([10, 100, 97, 116, 97, 32] ++ hexAllL da ++ ([10, 116, 97, 103, 32] ++ hexAllL tg ++ [10])) := by
  have e : ∀ l, strL (hexT l) = hexAllL l := fun l => by unfold strL hexT; simp
  unfold fmtL linesL fmtT
  simp only [List.flatMap_cons, List.flatMap_nil, strL_append, e]
  simp [strL]
def P1 : List UInt8 := [113, 117, 111, 116, 101, 32, 49, 10, 109, 101, 97, 115, 117, 114, 101, 109, 101, 110, 116, 32]
theorem mid_take (A B C : List UInt8) (a b : Nat) (ha : A.length = a) (hb : B.length = b) : ((A ++ B ++ C).drop a).take b = B := by
  subst ha hb
  rw [List.append_assoc, List.drop_left, List.take_left]
theorem quote_cut (s : ByteArray) (me da tg : List UInt32) (h : fmtL me da tg = strL s) (l0 : me.length = 8) (l1 : da.length = 8) (l2 : tg.length = 8) :
    strL (cutR s 20) = hexAllL me ∧ strL (cutR s 90) = hexAllL da ∧ strL (cutR s 159) = hexAllL tg := by
  have hs : s.size = 224 := by rw [← strL_length, ← h]; exact fmt_len me da tg l0 l1 l2
  have z0 : (hexAllL me).length = 64 := by rw [length_hexAllL, l0]
  have z1 : (hexAllL da).length = 64 := by rw [length_hexAllL, l1]
  have z2 : (hexAllL tg).length = 64 := by rw [length_hexAllL, l2]
  have c : ∀ k, k + 64 ≤ 224 → strL (cutR s k) = ((fmtL me da tg).drop k).take 64 := fun k hk => by
    unfold cutR
    rw [if_neg (by omega), strL_extract, h, show k + 64 - k = 64 by omega]
  rw [c 20 (by omega), c 90 (by omega), c 159 (by omega), fmtL_cat]
  refine ⟨mid_take _ _ _ 20 64 rfl z0, ?_, ?_⟩
  · refine Eq.trans ?_ (mid_take (P1 ++ hexAllL me ++ [10, 100, 97, 116, 97, 32]) (hexAllL da) ([10, 116, 97, 103, 32] ++ hexAllL tg ++ [10]) 90 64 (by rw [List.length_append, List.length_append, z0]; rfl) z1)
    congr 2
    simp only [P1, List.append_assoc]
  · refine Eq.trans ?_ (mid_take (P1 ++ hexAllL me ++ [10, 100, 97, 116, 97, 32] ++ hexAllL da ++ [10, 116, 97, 103, 32]) (hexAllL tg) [10] 159 64 (by rw [List.length_append, List.length_append, List.length_append, List.length_append, z0, z1]; rfl) z2)
    congr 2
    simp only [P1, List.append_assoc]
/-- a part that is no eight words: no quote -/
theorem noQuote_part (s : ByteArray) (h : NoWords (cutR s 20) ∨ NoWords (cutR s 90) ∨ NoWords (cutR s 159)) : NoQuote s := by
  intro me da tg l0 l1 l2 e
  obtain ⟨c0, c1, c2⟩ := quote_cut s me da tg e l0 l1 l2
  rcases h with h | h | h
  · exact h me l0 c0.symm
  · exact h da l1 c1.symm
  · exact h tg l2 c2.symm
/-- the parts' words told, and another text: no quote -/
theorem noQuote_other (s : ByteArray) (me da tg : List UInt32) (h0 : hexAllL me = strL (cutR s 20)) (h1 : hexAllL da = strL (cutR s 90)) (h2 : hexAllL tg = strL (cutR s 159)) (h : fmtL me da tg ≠ strL s) : NoQuote s := by
  intro a b c l0 l1 l2 e
  obtain ⟨c0, c1, c2⟩ := quote_cut s a b c e l0 l1 l2
  rw [hexAll_inj _ _ (h0.trans c0), hexAll_inj _ _ (h1.trans c1), hexAll_inj _ _ (h2.trans c2)] at h
  exact h e
end Go.Proofs.YtemanjahkohcpaaGreatDoor
