/- The policy that the reference puts together, in memory. The contract of the reference's Lines. -/
import Derived.Test.YtemanjahkohcpaaGreatDoorJn24
import Derived.Test.YtemanjahkohcpaaGreatDoorJn31
import Derived.Test.YtemanjahkohcpaaGreatDoorJn20
import Derived.Test.YtemanjahkohcpaaGreatDoorJn16
namespace Go.Proofs.YtemanjahkohcpaaGreatDoor
open Go.RowKit WP
/-- the policy that is being put together: at pb, its rules in a row of the call's own; all else below C stays -/
structure RSt (C pb : Nat) (w0 w : World) (v : Value) (rs : List RuleD) (o : Bool) : Prop where
  blk : w.heap[pb]? = some (.cells #[v, .bool o] 36 (0, 0))
  own : w.ownsRow C 64 10 v rs.length (rulesC rs)
  lt : pb < C
  size : C ≤ w.heap.size
  os : w.os = w0.os
  tape : w.tape = w0.tape
  output : w.output = w0.output
  keep : ∀ k, k < C → k ≠ pb → w.heap[k]? = w0.heap[k]?
  eight : ∀ r ∈ rs, r.me.length = 8
namespace RSt
variable {C pb : Nat} {w0 w w' : World} {v : Value} {rs : List RuleD} {o : Bool}
theorem c0 (h : RSt C pb w0 w v rs o) : w.cell? ⟨pb, 0, none⟩ = some v := cell_of_row _ _ _ _ _ _ h.blk
theorem c1 (h : RSt C pb w0 w v rs o) : w.cell? ⟨pb, 1, none⟩ = some (.bool o) := cell_of_row _ _ _ _ _ _ h.blk
theorem f0 (h : RSt C pb w0 w v rs o) : w.frozen? ⟨pb, 0, none⟩ = false := frozen_of_row _ _ _ _ _ h.blk
theorem f1 (h : RSt C pb w0 w v rs o) : w.frozen? ⟨pb, 1, none⟩ = false := frozen_of_row _ _ _ _ _ h.blk
theorem ltS (h : RSt C pb w0 w v rs o) : pb < w.heap.size := Nat.lt_of_lt_of_le h.lt h.size
theorem form (h : RSt C pb w0 w v rs o) : ∃ ao ca, v = .slice ao rs.length ca := by
  rcases h.own.2 with ⟨hv, hn⟩ | ⟨g, cap, cur, hv, _⟩
  · exact ⟨none, 0, by rw [hv, hn]⟩
  · exact ⟨_, _, hv⟩
theorem later (h : RSt C pb w0 w v rs o) (hb : Below w.heap.size w w') : RSt C pb w0 w' v rs o :=
  ⟨(hb.block _ h.ltS).trans h.blk,
    h.own.kept (row := none) ⟨hb.os, hb.tape, hb.output, hb.size, fun k hk _ => hb.block k hk⟩ (by
      rcases h.own.2 with ⟨hv, _⟩ | ⟨g, cap, cur, hv, _⟩
      · exact .inl (by rw [hv]; rfl)
      · exact .inr (by rw [hv]; simp [Value.ownBlock])),
    h.lt, Nat.le_trans h.size hb.size, hb.os.trans h.os, hb.tape.trans h.tape, hb.output.trans h.output,
    fun k hk hne => (hb.block k (Nat.lt_of_lt_of_le hk h.size)).trans (h.keep k hk hne), h.eight⟩
/-- other is written -/
theorem setO (h : RSt C pb w0 w v rs o) (x : Bool) : RSt C pb w0 (w.setCell ⟨pb, 1, none⟩ (.bool x)) v rs x := by
  refine ⟨?_, ownsRow_setCell_below h.own h.lt _, h.lt, by simpa using h.size, h.os, h.tape, h.output, ?_, h.eight⟩
  · rw [heap_setCell_same w pb 1 _ _ _ h.blk]; rfl
  · intro k hk hne
    rw [heap_setCell_other _ _ _ _ (fun e => hne (by simpa using e))]; exact h.keep k hk hne
/-- a rule more: the row has grown, then the slice is written -/
theorem more (h : RSt C pb w0 w v rs o) (r : RuleD) (h8 : r.me.length = 8) {ob : Obj} {g cap : Nat} {w3 : World} (hg : (w.alloc ob).grownBy w3 v.ownBlock)
    (ho : w3.ownsRow C 64 10 (.slice (some ⟨g, 0, none⟩) (rs.length + 1) cap) (rs.length + 1) (rulesC (rs ++ [r]))) :
    RSt C pb w0 (w3.setCell ⟨pb, 0, none⟩ (.slice (some ⟨g, 0, none⟩) (rs.length + 1) cap)) (.slice (some ⟨g, 0, none⟩) (rs.length + 1) cap) (rs ++ [r]) o := by
  have hs := h.size
  have hl := h.lt
  have hgs := hg.size
  have hsz : (w.alloc ob).heap.size = w.heap.size + 1 := by simp
  have hv : ∀ k, v.ownBlock = some k → C ≤ k := fun k hk => (h.own.lt k hk).1
  have hk : ∀ k, k < C → w3.heap[k]? = w.heap[k]? := fun k hk =>
    (hg.block k (by omega) (fun e => by have := hv k e.symm; omega)).trans (heap_alloc_old _ _ (by omega))
  have hg0 : C ≤ g := (ho.lt g rfl).1
  refine ⟨?_, ?_, hl, by simp; omega, hg.os.trans h.os, hg.tape.trans h.tape, hg.output.trans h.output, ?_, ?_⟩
  · have := heap_setCell_same w3 pb 0 #[v, .bool o] 36 (.slice (some ⟨g, 0, none⟩) (rs.length + 1) cap) ((hk pb hl).trans h.blk)
    rw [this]; rfl
  · rw [show (rs ++ [r]).length = rs.length + 1 by simp]
    exact ownsRow_setCell_other ho (by simp [Value.ownBlock]; omega) _
  · intro k hk' hne
    rw [heap_setCell_other _ _ _ _ (fun e => hne (by simpa using e)), hk k hk']; exact h.keep k hk' hne
  · intro x hx
    rcases List.mem_append.1 hx with hx | hx
    · exact h.eight x hx
    · simp only [List.mem_cons, List.not_mem_nil, or_false] at hx; subst hx; exact h8
/-- the rule's own block is made, the row grown: not yet stored -/
theorem mid (h : RSt C pb w0 w v rs o) {ob : Obj} {w3 : World} (hg : (w.alloc ob).drew.grownBy w3 v.ownBlock) : w3.cell? ⟨pb, 0, none⟩ = some v ∧ w3.frozen? ⟨pb, 0, none⟩ = false := by
  have hs := h.size
  have hl := h.lt
  have hk : w3.heap[pb]? = w.heap[pb]? :=
    (hg.block pb (by simp; omega) (fun e => by have := (h.own.lt pb e.symm).1; omega)).trans (heap_alloc_old _ _ (by omega))
  exact ⟨cell_of_row _ _ _ _ _ _ (hk.trans h.blk), frozen_of_row _ _ _ _ _ (hk.trans h.blk)⟩
end RSt
theorem RSt.belowB {C pb B : Nat} {w0 w w1 : World} {v : Value} {rs : List RuleD} {o : Bool} (h : RSt C pb w0 w v rs o) (hb : Below B w1 w0) (hB : B ≤ pb) (hs : w1.heap.size ≤ C) : Below B w1 w :=
  ⟨h.os.trans hb.os, h.tape.trans hb.tape, h.output.trans hb.output, Nat.le_trans hs h.size, fun k hk => (h.keep k (by have := h.lt; omega) (by omega)).trans (hb.block k hk)⟩
/-- the policy is struck -/
theorem RSt.struck {C pb : Nat} {w0 w : World} {v : Value} {rs : List RuleD} {o : Bool} (h : RSt C pb w0 w v rs o) :
    ((w.setCell ⟨pb, 0, none⟩ (.slice none 0 0)).setCell ⟨pb, 1, none⟩ (.bool false)).heap[pb]? = some (.cells #[.slice none 0 0, .bool false] 36 (0, 0)) := by
  have h1 := heap_setCell_same w pb 0 _ _ (.slice none 0 0) h.blk
  have h2 := heap_setCell_same (w.setCell ⟨pb, 0, none⟩ (.slice none 0 0)) pb 1 _ _ (.bool false) h1
  rw [h2]; rfl
/-- the policy is stored over itself -/
theorem RSt.same {C pb : Nat} {w0 w : World} {v : Value} {rs : List RuleD} {o : Bool} (h : RSt C pb w0 w v rs o) :
    RSt C pb w0 ((w.setCell ⟨pb, 0, none⟩ v).setCell ⟨pb, 1, none⟩ (.bool o)) v rs o := by
  have h1 := heap_setCell_same w pb 0 _ _ v h.blk
  have h2 := heap_setCell_same (w.setCell ⟨pb, 0, none⟩ v) pb 1 _ _ (.bool o) h1
  refine ⟨by rw [h2]; rfl, ownsRow_setCell_below (ownsRow_setCell_below h.own h.lt _) h.lt _, h.lt, by simpa using h.size, h.os, h.tape, h.output, ?_, h.eight⟩
  intro k hk hne
  rw [heap_setCell_other _ _ _ _ (fun e => hne (by simpa using e)), heap_setCell_other _ _ _ _ (fun e => hne (by simpa using e))]; exact h.keep k hk hne
def RParRes (R : (List RuleD × Bool) ⊕ Nat) (B : Nat) (e : Ending) (w' : World) : Prop :=
  match R with
  | .inl (rs, o) => ∃ v C, B ≤ C ∧ e = .returned (.tuple #[.agg #[v, .bool o], .int .i64 0, .int .i64 0]) ∧ w'.ownsRow C 64 10 v rs.length (rulesC rs) ∧ ∀ r ∈ rs, r.me.length = 8
  | .inr n => e = .returned (.tuple #[.agg #[.slice none 0 0, .bool false], .int .i64 (n : Int), .int .i64 161])
end Go.Proofs.YtemanjahkohcpaaGreatDoor

namespace Go.Proofs.YtemanjahkohcpaaGreatDoor
open Go.RowKit WP
theorem rlines_no (s : ByteArray) (w : World) (hs : 65536 < s.size) (_h63 : s.size ≤ 9223372036854775807) :
    Calls Tryz.prog 17 #[.string s] w fun e w' => e = .returned (.tuple #[.slice none 0 0, .int .i64 2]) ∧ w' = w := by
  go_enter Tryz.func17, Tryz.ntmps17
  go_wp2_with fail
  go_ret2
  exact ⟨rfl, rfl⟩
theorem bas_snoc (L : List (List UInt8)) (c : List UInt8) : (bas (L ++ [c])).map Value.string = (bas L).map Value.string ++ [.string ⟨c.toArray⟩] := by simp [bas]
set_option maxRecDepth 100000 in
set_option maxHeartbeats 1000000 in
theorem rlines_any (s : ByteArray) (w : World) (hs : s.size ≤ 65536) :
    Calls Tryz.prog 17 #[.string s] w fun e w' => ∃ v, e = .returned (.tuple #[v, .int .i64 0]) ∧
      w'.ownsRow w.heap.size 9 1 v (linesF s).length ((linesF s).map Value.string) ∧ Below w.heap.size w w' := by
  obtain ⟨i0, hi, hz0, hz1, hz2⟩ := info_parts infoStr
  have hsz := size_list s
  obtain ⟨T, hT⟩ : ∃ T, linesA [] s.data.toList = T := ⟨_, rfl⟩
  have hF : linesF s = bas T := by unfold linesF; rw [hT]
  rw [hF]
  replace hF := Lib.hid hF; replace hT := Lib.hid hT
  have hd0 : decide (65536 < s.size) = false := decide_eq_false (by omega)
  go_enter Tryz.func17, Tryz.ntmps17
  go_wp2_with fail
  go_loopw [4, 5, 6] (fun vl fr i wr => ∃ (k : Nat) (L : List (List UInt8)) (c : List UInt8), k ≤ s.size ∧ i = .int .i64 k ∧ c.length ≤ k ∧ L.length ≤ k ∧ fr = .int .i64 ((k - c.length : Nat) : Int) ∧ (∃ a, s.data.toList.take k = a ++ c) ∧ L ++ linesA c (s.data.toList.drop k) = T ∧ wr.ownsRow w.heap.size 9 1 vl L.length ((bas L).map Value.string) ∧ Below w.heap.size w wr) (fun _ _ i _ => s.size - (intOf i).toNat)
  case atStart => exact ⟨0, [], [], by omega, rfl, by simp, by simp, rfl, ⟨[], by simp⟩, by simpa using hT.out, World.ownsRow_nil _ _ _ _, Below.refl _ _⟩
  case round =>
    obtain ⟨wo, rfl⟩ : ∃ wo, wo = wr := ⟨wr, rfl⟩
    obtain ⟨vl, rfl⟩ : ∃ b, b = u4 := ⟨u4, rfl⟩
    obtain ⟨k, L, c, hk, rfl, hck, hLk, rfl, ⟨a, ha⟩, hq, ol, hb⟩ := hrel
    have hbs := hb.size
    replace ol := Lib.hid ol; replace hb := Lib.hid hb
    have hla := congrArg List.length ha
    rw [List.length_take, List.length_append] at hla
    have hdr : s.data.toList.drop (k - c.length) = c ++ s.data.toList.drop k := by
      conv => lhs; rw [← List.take_append_drop k s.data.toList, ha]
      rw [List.append_assoc, show k - c.length = a.length by omega, List.drop_left]
    have hex : s.extract (k - c.length) k = ⟨c.toArray⟩ := by
      have := extract_at hdr
      rwa [show k - c.length + c.length = k by omega] at this
    by_cases hlt : k < s.size
    · have eb := bAt_get s k hlt
      have hkl : k < s.data.toList.length := by omega
      have hbx : bAt s.data.toList k = ((s.data.toList[k]'hkl).toNat : Int) := by
        unfold bAt; rw [List.getD_eq_getElem?_getD, List.getElem?_eq_getElem hkl]; rfl
      rw [hbx] at eb
      rw [List.drop_eq_getElem_cons hkl] at hq
      have htk : s.data.toList.take (k + 1) = s.data.toList.take k ++ [s.data.toList[k]] := by rw [List.take_add_one, List.getElem?_eq_getElem hkl]; rfl
      obtain ⟨x, hx⟩ : ∃ x, s.data.toList[k]'hkl = x := ⟨_, rfl⟩
      rw [hx] at eb hq htk
      clear hx hbx hkl hdr
      by_cases h10 : x = 10
      · have d1 : ((s[k].toNat : Int) == 10) = true := by rw [eb, h10]; rfl
        have hq2 : (L ++ [c]) ++ linesA [] (s.data.toList.drop (k + 1)) = T := by
          rw [← hq]; unfold linesA; rw [if_pos h10]; cases s.data.toList.drop (k + 1) <;> simp [linesA]
        replace hq := Lib.hid hq2; replace ha := Lib.hid ha; replace htk := Lib.hid htk; replace hla := Lib.hid hla
        clear hq2
        go_wp2_with (at_builtin; refine wpList_append_onto' _ rfl _ _ 46 rfl w.heap.size 9 i0 (.string ⟨#[]⟩) 1 16 Tryz.underlying46 hi hz0 hz1 hz2 rfl (by decide) _ _ _ rfl (ol.out.alloc _) ⟨wo.heap.size, 0, none⟩ 1 1 [.string ⟨c.toArray⟩] rfl rfl ?c1 ?c2 ?c3 ?c4 ?c5 ?_)
        all_goals try exact cells_new _ _ _ _
        case c2 => simp [Value.oneCell']
        case c3 => simp only [maxLen]; omega
        case c4 => omega
        case c5 => first | omega | (simp; omega)
        intro v1 w2 ho1 hO1
        have hb2 : Below w.heap.size w w2 := ((hb.out.alloc hbs _).grown hO1.1 (by simp; omega) (fun k hk => (ol.out.lt k hk).1))
        have ho2 : w2.ownsRow w.heap.size 9 1 v1 (L ++ [c]).length ((bas (L ++ [c])).map Value.string) := by
          rw [List.length_append, bas_snoc]; exact ho1
        clear ho1 hO1
        replace hb2 := Lib.hid hb2; replace ho2 := Lib.hid ho2
        go_wp2_with fail
        go_roundw
        case rel => exact ⟨k + 1, L ++ [c], [], by omega, by go_num, by simp, by simp; omega, by go_num, ⟨s.data.toList.take (k + 1), by simp⟩, hq.out, ho2.out, hb2.out⟩
        case measure => simp [intOf]; omega
      · have d1 : ((s[k].toNat : Int) == 10) = false := by
          rw [eb]
          have : x.toNat ≠ 10 := fun e => h10 (UInt8.toNat_inj.1 e)
          simp; omega
        have hq2 : L ++ linesA (c ++ [x]) (s.data.toList.drop (k + 1)) = T := by
          rw [← hq]; conv => rhs; unfold linesA
          rw [if_neg h10]
        have ha2 : s.data.toList.take (k + 1) = a ++ (c ++ [x]) := by rw [htk, ha]; simp
        replace hq := Lib.hid hq2; replace ha := Lib.hid ha2; replace htk := Lib.hid htk; replace hla := Lib.hid hla; replace hex := Lib.hid hex
        clear hq2 ha2
        go_wp2_with fail
        go_roundw
        case rel => exact ⟨k + 1, L, c ++ [x], by omega, by go_num, by simp; omega, by omega, by rw [List.length_append, List.length_singleton, show k + 1 - (c.length + 1) = k - c.length by omega], ⟨a, ha.out⟩, hq.out, ol.out, hb.out⟩
        case measure => simp [intOf]; omega
    · obtain rfl : k = s.size := by omega
      have hz : s.data.toList.drop s.size = [] := List.drop_of_length_le (by omega)
      rw [hz] at hq hdr
      clear hz
      by_cases hc : c = []
      · have hT2 : L = T := by rw [← hq]; unfold linesA; rw [if_pos hc]; simp
        have hc0 : c.length = 0 := by rw [hc]; rfl
        have d2 : decide (s.size - c.length < s.size) = false := decide_eq_false (by omega)
        replace hT2 := Lib.hid hT2; replace hc := Lib.hid hc; replace ha := Lib.hid ha; replace hq := Lib.hid hq; replace hdr := Lib.hid hdr; replace hex := Lib.hid hex; replace hla := Lib.hid hla; replace hc0 := Lib.hid hc0
        go_wp2_with fail
        go_ret2
        have hl : (bas T).length = L.length := by rw [← hT2.out]; simp [bas]
        exact ⟨vl, rfl, by rw [hl, ← hT2.out]; exact ol.out, hb.out⟩
      · have hT2 : L ++ [c] = T := by rw [← hq]; unfold linesA; rw [if_neg hc]
        have hpos : 0 < c.length := List.length_pos_iff.2 hc
        have d2 : decide (s.size - c.length < s.size) = true := decide_eq_true (by omega)
        replace hT2 := Lib.hid hT2; replace hc := Lib.hid hc; replace ha := Lib.hid ha; replace hq := Lib.hid hq; replace hdr := Lib.hid hdr; replace hla := Lib.hid hla
        go_wp2_with (at_builtin; refine wpList_append_onto' _ rfl _ _ 46 rfl w.heap.size 9 i0 (.string ⟨#[]⟩) 1 16 Tryz.underlying46 hi hz0 hz1 hz2 rfl (by decide) _ _ _ rfl (ol.out.alloc _) ⟨wo.heap.size, 0, none⟩ 1 1 [.string ⟨c.toArray⟩] rfl rfl ?e1 ?e2 ?e3 ?e4 ?e5 ?_)
        all_goals try exact cells_new _ _ _ _
        case e2 => simp [Value.oneCell']
        case e3 => simp only [maxLen]; omega
        case e4 => omega
        case e5 => first | omega | (simp; omega)
        intro v1 w2 ho1 hO1
        have hb2 : Below w.heap.size w w2 := ((hb.out.alloc hbs _).grown hO1.1 (by simp; omega) (fun k hk => (ol.out.lt k hk).1))
        have ho2 : w2.ownsRow w.heap.size 9 1 v1 (L ++ [c]).length ((bas (L ++ [c])).map Value.string) := by
          rw [List.length_append, bas_snoc]; exact ho1
        clear ho1 hO1
        replace hb2 := Lib.hid hb2; replace ho2 := Lib.hid ho2
        go_wp2_with fail
        go_ret2
        have hl : (bas T).length = (L ++ [c]).length := by rw [← hT2.out]; simp [bas]
        exact ⟨v1, rfl, by rw [hl, ← hT2.out]; exact ho2.out, hb2.out⟩
end Go.Proofs.YtemanjahkohcpaaGreatDoor
