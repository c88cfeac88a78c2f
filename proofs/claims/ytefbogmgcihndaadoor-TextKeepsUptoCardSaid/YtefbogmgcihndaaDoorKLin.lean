/- The contract of the reference's Lines. -/
import Derived.Test.YtefbogmgcihndaaDoorTLin
import Derived.Test.YtefbogmgcihndaaDoorTLine
namespace Go.Proofs.YtefbogmgcihndaaDoor
open Go.RowKit WP
theorem rlines_no (s : ByteArray) (w : World) (hs : 65536 < s.size) (_h63 : s.size ≤ 9223372036854775807) :
    Calls Tryd.prog 34 #[.string s] w fun e w' => e = .returned (.tuple #[.slice none 0 0, .int .i64 2]) ∧ w' = w := by
  go_enter Tryd.func34, Tryd.ntmps34
  go_wp2_with fail
  go_ret2
  exact ⟨rfl, rfl⟩
theorem bas_snoc (L : List (List UInt8)) (c : List UInt8) : (bas (L ++ [c])).map Value.string = (bas L).map Value.string ++ [.string ⟨c.toArray⟩] := by simp [bas]
set_option maxRecDepth 100000 in
set_option maxHeartbeats 1000000 in
theorem rlines_any (s : ByteArray) (w : World) (hs : s.size ≤ 65536) :
    Calls Tryd.prog 34 #[.string s] w fun e w' => ∃ v, e = .returned (.tuple #[v, .int .i64 0]) ∧
      w'.ownsRow w.heap.size 9 1 v (linesF s).length ((linesF s).map Value.string) ∧ Below w.heap.size w w' := by
  obtain ⟨i0, hi, hz0, hz1, hz2⟩ := info_parts infoStr
  have hsz := size_list s
  obtain ⟨T, hT⟩ : ∃ T, linesA [] s.data.toList = T := ⟨_, rfl⟩
  have hF : linesF s = bas T := by unfold linesF; rw [hT]
  rw [hF]
  replace hF := Lib.hid hF; replace hT := Lib.hid hT
  have hd0 : decide (65536 < s.size) = false := decide_eq_false (by omega)
  go_enter Tryd.func34, Tryd.ntmps34
  go_wp2_with fail
  go_loopw [4, 5, 6] (fun vl fr i wr => ∃ (k : Nat) (L : List (List UInt8)) (c : List UInt8), k ≤ s.size ∧ i = .int .i64 k ∧ c.length ≤ k ∧ L.length ≤ k ∧ fr = .int .i64 ((k - c.length : Nat) : Int) ∧ (∃ a, s.data.toList.take k = a ++ c) ∧ L ++ linesA c (s.data.toList.drop k) = T ∧ wr.ownsRow w.heap.size 9 1 vl L.length ((bas L).map Value.string) ∧ Below w.heap.size w wr) (fun _ _ i _ => s.size - (intOf i).toNat)
  case atStart => exact ⟨0, [], [], by omega, rfl, by simp, by simp, rfl, ⟨[], by simp⟩, by simpa using hT.out, World.ownsRow_nil _ _ _ _, Below.refl _ _⟩
  case round =>
    obtain ⟨wo, rfl⟩ : ∃ wo, wo = wr := ⟨wr, rfl⟩
    obtain ⟨vl, rfl⟩ : ∃ b, b = u4 := ⟨u4, rfl⟩
    obtain ⟨k, L, c, hk, rfl, hck, hLk, rfl, ⟨a, ha⟩, hq, ol, hb⟩ := hrel
    have hbs := hb.size
    replace ol := Lib.hid ol; replace hb := Lib.hid hb
    have hla := congrArg List.length ha
    rw [List.length_take, List.length_append] at hla
    have hdr : s.data.toList.drop (k - c.length) = c ++ s.data.toList.drop k := by
      conv => lhs; rw [← List.take_append_drop k s.data.toList, ha]
      rw [List.append_assoc, show k - c.length = a.length by omega, List.drop_left]
    have hex : s.extract (k - c.length) k = ⟨c.toArray⟩ := by
      have := extract_at hdr
      rwa [show k - c.length + c.length = k by omega] at this
    by_cases hlt : k < s.size
    · have eb := bAt_get s k hlt
      have hkl : k < s.data.toList.length := by omega
      have hbx : bAt s.data.toList k = ((s.data.toList[k]'hkl).toNat : Int) := by
        unfold bAt; rw [List.getD_eq_getElem?_getD, List.getElem?_eq_getElem hkl]; rfl
      rw [hbx] at eb
      rw [List.drop_eq_getElem_cons hkl] at hq
      have htk : s.data.toList.take (k + 1) = s.data.toList.take k ++ [s.data.toList[k]] := by rw [List.take_add_one, List.getElem?_eq_getElem hkl]; rfl
      obtain ⟨x, hx⟩ : ∃ x, s.data.toList[k]'hkl = x := ⟨_, rfl⟩
      rw [hx] at eb hq htk
      clear hx hbx hkl hdr
      by_cases h10 : x = 10
      · have d1 : ((s[k].toNat : Int) == 10) = true := by rw [eb, h10]; rfl
        have hq2 : (L ++ [c]) ++ linesA [] (s.data.toList.drop (k + 1)) = T := by
          rw [← hq]; unfold linesA; rw [if_pos h10]; cases s.data.toList.drop (k + 1) <;> simp [linesA]
        replace hq := Lib.hid hq2; replace ha := Lib.hid ha; replace htk := Lib.hid htk; replace hla := Lib.hid hla
        clear hq2
        go_wp2_with (at_builtin; refine wpList_append_onto' _ rfl _ _ 39 rfl w.heap.size 9 i0 (.string ⟨#[]⟩) 1 16 Tryd.underlying39 hi hz0 hz1 hz2 rfl (by decide) _ _ _ rfl (ol.out.alloc _) ⟨wo.heap.size, 0, none⟩ 1 1 [.string ⟨c.toArray⟩] rfl rfl ?c1 ?c2 ?c3 ?c4 ?c5 ?_)
        all_goals try exact cells_new _ _ _ _
        case c2 => simp [Value.oneCell']
        case c3 => simp only [maxLen]; omega
        case c4 => omega
        case c5 => first | omega | (simp; omega)
        intro v1 w2 ho1 hO1
        have hb2 : Below w.heap.size w w2 := ((hb.out.alloc hbs _).grown hO1.1 (by simp; omega) (fun k hk => (ol.out.lt k hk).1))
        have ho2 : w2.ownsRow w.heap.size 9 1 v1 (L ++ [c]).length ((bas (L ++ [c])).map Value.string) := by
          rw [List.length_append, bas_snoc]; exact ho1
        clear ho1 hO1
        replace hb2 := Lib.hid hb2; replace ho2 := Lib.hid ho2
        go_wp2_with fail
        go_roundw
        case rel => exact ⟨k + 1, L ++ [c], [], by omega, by go_num, by simp, by simp; omega, by go_num, ⟨s.data.toList.take (k + 1), by simp⟩, hq.out, ho2.out, hb2.out⟩
        case measure => simp [intOf]; omega
      · have d1 : ((s[k].toNat : Int) == 10) = false := by
          rw [eb]
          have : x.toNat ≠ 10 := fun e => h10 (UInt8.toNat_inj.1 e)
          simp; omega
        have hq2 : L ++ linesA (c ++ [x]) (s.data.toList.drop (k + 1)) = T := by
          rw [← hq]; conv => rhs; unfold linesA
          rw [if_neg h10]
        have ha2 : s.data.toList.take (k + 1) = a ++ (c ++ [x]) := by rw [htk, ha]; simp
        replace hq := Lib.hid hq2; replace ha := Lib.hid ha2; replace htk := Lib.hid htk; replace hla := Lib.hid hla; replace hex := Lib.hid hex
        clear hq2 ha2
        go_wp2_with fail
        go_roundw
        case rel => exact ⟨k + 1, L, c ++ [x], by omega, by go_num, by simp; omega, by omega, by rw [List.length_append, List.length_singleton, show k + 1 - (c.length + 1) = k - c.length by omega], ⟨a, ha.out⟩, hq.out, ol.out, hb.out⟩
        case measure => simp [intOf]; omega
    · obtain rfl : k = s.size := by omega
      have hz : s.data.toList.drop s.size = [] := List.drop_of_length_le (by omega)
      rw [hz] at hq hdr
      clear hz
      by_cases hc : c = []
      · have hT2 : L = T := by rw [← hq]; unfold linesA; rw [if_pos hc]; simp
        have hc0 : c.length = 0 := by rw [hc]; rfl
        have d2 : decide (s.size - c.length < s.size) = false := decide_eq_false (by omega)
        replace hT2 := Lib.hid hT2; replace hc := Lib.hid hc; replace ha := Lib.hid ha; replace hq := Lib.hid hq; replace hdr := Lib.hid hdr; replace hex := Lib.hid hex; replace hla := Lib.hid hla; replace hc0 := Lib.hid hc0
        go_wp2_with fail
        go_ret2
        have hl : (bas T).length = L.length := by rw [← hT2.out]; simp [bas]
        exact ⟨vl, rfl, by rw [hl, ← hT2.out]; exact ol.out, hb.out⟩
      · have hT2 : L ++ [c] = T := by rw [← hq]; unfold linesA; rw [if_neg hc]
        have hpos : 0 < c.length := List.length_pos_iff.2 hc
        have d2 : decide (s.size - c.length < s.size) = true := decide_eq_true (by omega)
        replace hT2 := Lib.hid hT2; replace hc := Lib.hid hc; replace ha := Lib.hid ha; replace hq := Lib.hid hq; replace hdr := Lib.hid hdr; replace hla := Lib.hid hla
        go_wp2_with (at_builtin; refine wpList_append_onto' _ rfl _ _ 39 rfl w.heap.size 9 i0 (.string ⟨#[]⟩) 1 16 Tryd.underlying39 hi hz0 hz1 hz2 rfl (by decide) _ _ _ rfl (ol.out.alloc _) ⟨wo.heap.size, 0, none⟩ 1 1 [.string ⟨c.toArray⟩] rfl rfl ?e1 ?e2 ?e3 ?e4 ?e5 ?_)
        all_goals try exact cells_new _ _ _ _
        case e2 => simp [Value.oneCell']
        case e3 => simp only [maxLen]; omega
        case e4 => omega
        case e5 => first | omega | (simp; omega)
        intro v1 w2 ho1 hO1
        have hb2 : Below w.heap.size w w2 := ((hb.out.alloc hbs _).grown hO1.1 (by simp; omega) (fun k hk => (ol.out.lt k hk).1))
        have ho2 : w2.ownsRow w.heap.size 9 1 v1 (L ++ [c]).length ((bas (L ++ [c])).map Value.string) := by
          rw [List.length_append, bas_snoc]; exact ho1
        clear ho1 hO1
        replace hb2 := Lib.hid hb2; replace ho2 := Lib.hid ho2
        go_wp2_with fail
        go_ret2
        have hl : (bas T).length = (L ++ [c]).length := by rw [← hT2.out]; simp [bas]
        exact ⟨v1, rfl, by rw [hl, ← hT2.out]; exact ho2.out, hb2.out⟩
end Go.Proofs.YtefbogmgcihndaaDoor
