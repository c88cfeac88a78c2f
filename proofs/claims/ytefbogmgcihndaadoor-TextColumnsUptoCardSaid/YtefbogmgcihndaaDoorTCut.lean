/- The contract of the law's cut: the lines of a text. -/
import Derived.Test.YtefbogmgcihndaaDoorTCoP
import Derived.Test.YtefbogmgcihndaaDoorTRd
namespace Go.Proofs.YtefbogmgcihndaaDoor
open Go.RowKit WP
theorem infoS : (Tryd.prog.info? 9).map (fun i => (i.zero, i.size, i.bytes)) = some (some (.string ⟨#[]⟩), 1, 16) := by kernel_rfl
def vs (l : List ByteArray) : List Value := l.map Value.string
def lineS (L : List (List UInt8)) : List ByteArray := L.map fun b => ⟨b.toArray⟩
theorem cutS_len : ∀ (l : List UInt8) (st : List (List UInt8) × List UInt8), (l.foldl cutS st).1.length ≤ st.1.length + l.length ∧ (l.foldl cutS st).2.length ≤ st.2.length + l.length
  | [], st => ⟨Nat.le_refl _, Nat.le_refl _⟩
  | x :: l, st => by
    have ih := cutS_len l (cutS st x)
    rw [List.foldl_cons]
    have h : (cutS st x).1.length ≤ st.1.length + 1 ∧ (cutS st x).2.length ≤ st.2.length + 1 := by
      unfold cutS; split <;> simp
    simp only [List.length_cons]
    omega
/-- what is begun stands right ahead -/
theorem cutS_tail (l : List UInt8) : ∀ k, k ≤ l.length → ∃ a, l.take k = a ++ ((l.take k).foldl cutS ([], [])).2 := by
  intro k
  induction k with
  | zero => intro _; exact ⟨[], by simp⟩
  | succ k ih =>
    intro h
    obtain ⟨a, ha⟩ := ih (by omega)
    have e : l.take (k + 1) = l.take k ++ [l[k]'(by omega)] := by rw [List.take_add_one, List.getElem?_eq_getElem (by omega)]; rfl
    rw [e, List.foldl_append]
    simp only [List.foldl_cons, List.foldl_nil]
    generalize (l.take k).foldl cutS ([], []) = st at *
    unfold cutS
    split
    · exact ⟨l.take k ++ [l[k]'(by omega)], by simp⟩
    · exact ⟨a, by simp only; rw [← List.append_assoc, ← ha]⟩
set_option maxRecDepth 100000 in
theorem cut_any (s : ByteArray) (w : World) (hs : s.size ≤ 1099511627776) : Calls Tryd.prog 12 #[.string s] w fun e w' =>
    ∃ v, e = .returned (.tuple #[v, .bool (decide ((s.data.toList.foldl cutS ([], [])).2 = []))]) ∧ w'.ownsRow w.heap.size 9 1 v (s.data.toList.foldl cutS ([], [])).1.length (vs (lineS (s.data.toList.foldl cutS ([], [])).1)) ∧ Below w.heap.size w w' := by
  obtain ⟨i0, hi, hz0, hz1, hz2⟩ := info_parts infoS
  have hsz := size_list s
  go_enter Tryd.func12, Tryd.ntmps12
  go_wp2_with fail
  go_loopw [4, 5, 6] (fun vl fr i wr => ∃ (k : Nat) (L : List (List UInt8)) (c : List UInt8), k ≤ s.size ∧ i = .int .i64 k ∧ (s.data.toList.take k).foldl cutS ([], []) = (L, c) ∧ fr = .int .i64 ((k - c.length : Nat) : Int) ∧ wr.ownsRow w.heap.size 9 1 vl L.length (vs (lineS L)) ∧ Below w.heap.size w wr) (fun _ _ i _ => s.size - (intOf i).toNat)
  case atStart => exact ⟨0, [], [], by omega, rfl, rfl, rfl, World.ownsRow_nil _ _ _ _, Below.refl _ _⟩
  case round =>
    obtain ⟨wo, rfl⟩ : ∃ wo, wo = wr := ⟨wr, rfl⟩
    obtain ⟨vl, rfl⟩ : ∃ b, b = u4 := ⟨u4, rfl⟩
    obtain ⟨k, L, c, hk, rfl, hf, rfl, ol, hb⟩ := hrel
    have hbs := hb.size
    have ol := Lib.hid ol
    have hb := Lib.hid hb
    by_cases hlt : k < s.size
    · have eb := bAt_get s k hlt
      have hcl : c.length ≤ k := by
        have := (cutS_len (s.data.toList.take k) ([], [])).2
        rw [hf, List.length_take] at this; simp only [List.length_nil] at this; omega
      have hLl : L.length ≤ k := by
        have := (cutS_len (s.data.toList.take k) ([], [])).1
        rw [hf, List.length_take] at this; simp only [List.length_nil] at this; omega
      have hst : (s.data.toList.take (k + 1)).foldl cutS ([], []) = cutS (L, c) (s.data.toList[k]'(by omega)) := by
        have e : s.data.toList.take (k + 1) = s.data.toList.take k ++ [s.data.toList[k]'(by omega)] := by rw [List.take_add_one, List.getElem?_eq_getElem (by omega)]; rfl
        rw [e, List.foldl_append, hf]; rfl
      have hbx : bAt s.data.toList k = ((s.data.toList[k]'(by omega)).toNat : Int) := by
        unfold bAt; rw [List.getD_eq_getElem?_getD, List.getElem?_eq_getElem (by omega)]; rfl
      rw [hbx] at eb
      obtain ⟨x, hx⟩ : ∃ x, s.data.toList[k]'(by omega) = x := ⟨_, rfl⟩
      rw [hx] at eb hst
      have hex : s.extract (k - c.length) k = ⟨c.toArray⟩ := by
        obtain ⟨a, ha⟩ := cutS_tail s.data.toList k (by omega)
        rw [hf] at ha
        have hla := congrArg List.length ha
        rw [List.length_take, List.length_append] at hla
        have hdr : s.data.toList.drop (k - c.length) = c ++ s.data.toList.drop k := by
          conv => lhs; rw [← List.take_append_drop k s.data.toList, ha]
          rw [List.append_assoc, show k - c.length = a.length by simp only at hla; omega, List.drop_left]
        have := extract_at hdr
        rwa [show k - c.length + c.length = k by omega] at this
      replace hf := Lib.hid hf
      by_cases h10 : x = 10
      · have d1 : ((s[k].toNat : Int) == 10) = true := by rw [eb, h10]; rfl
        have hst : (s.data.toList.take (k + 1)).foldl cutS ([], []) = (L ++ [c], []) := by rw [hst]; unfold cutS; rw [if_pos h10]
        replace hst := Lib.hid hst
        go_wp2_with (at_builtin; refine wpList_append_onto' _ rfl _ _ 39 rfl w.heap.size 9 i0 (.string ⟨#[]⟩) 1 16 Tryd.underlying39 hi hz0 hz1 hz2 rfl (by decide) _ _ _ rfl (ol.out.alloc _) ⟨wo.heap.size, 0, none⟩ 1 1 [.string ⟨c.toArray⟩] rfl rfl ?c1 ?c2 ?c3 ?c4 ?c5 ?_)
        all_goals try exact cell_one_new _ _ _
        case c2 => simp [Value.oneCell']
        case c3 => simp only [maxLen]; omega
        case c4 => omega
        case c5 => first | omega | (simp; omega)
        intro v1 w2 ho1 hO1
        have hb2 : Below w.heap.size w w2 := ((hb.out.alloc hbs _).grown hO1.1 (by simp; omega) (fun k hk => (ol.out.lt k hk).1))
        have ho2 : w2.ownsRow w.heap.size 9 1 v1 (L ++ [c]).length (vs (lineS (L ++ [c]))) := by
          rw [List.length_append]; unfold vs lineS; rw [List.map_append, List.map_append]; exact ho1
        clear ho1 hO1
        replace hb2 := Lib.hid hb2; replace ho2 := Lib.hid ho2
        go_wp2_with fail
        go_roundw
        case rel => exact ⟨k + 1, L ++ [c], [], by omega, by go_num, hst.out, by go_num, ho2.out, hb2.out⟩
        case measure => simp [intOf]; omega
      · have d1 : ((s[k].toNat : Int) == 10) = false := by
          rw [eb]
          have : x.toNat ≠ 10 := fun e => h10 (UInt8.toNat_inj.1 e)
          simp; omega
        have hst : (s.data.toList.take (k + 1)).foldl cutS ([], []) = (L, c ++ [x]) := by rw [hst]; unfold cutS; rw [if_neg h10]
        replace hst := Lib.hid hst
        go_wp2_with fail
        go_roundw
        case rel => exact ⟨k + 1, L, c ++ [x], by omega, by go_num, hst.out, by rw [List.length_append, List.length_singleton, show k + 1 - (c.length + 1) = k - c.length by omega], ol.out, hb.out⟩
        case measure => simp [intOf]; omega
    · obtain rfl : k = s.size := by omega
      have hcl : c.length ≤ s.size := by
        have := (cutS_len (s.data.toList.take s.size) ([], [])).2
        rw [hf, List.length_take] at this; simp only [List.length_nil] at this; omega
      rw [List.take_of_length_le (by omega)] at hf
      have hd : (((s.size - c.length : Nat) : Int) == (s.size : Int)) = decide (c = []) := by
        cases c with
        | nil => simp
        | cons x c => simp at hcl ⊢; omega
      go_wp2_with fail
      go_ret2
      rw [hf]
      exact ⟨vl, rfl, ol.out, hb.out⟩
end Go.Proofs.YtefbogmgcihndaaDoor
