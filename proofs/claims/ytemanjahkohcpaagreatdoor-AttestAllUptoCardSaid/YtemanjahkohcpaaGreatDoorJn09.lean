/- The contract of attest's Verify. Arrays of eight words compared. The contract of attest's Decide. -/
import Derived.Test.YtemanjahkohcpaaGreatDoorJn08
import Derived.ChangeKeysEq
import Derived.Laws.StructEq
namespace Go.Proofs.YtemanjahkohcpaaGreatDoor
open Go.RowKit WP
set_option maxRecDepth 100000 in
set_option maxHeartbeats 2000000 in
theorem verify_any (KL key me da tag : List UInt32) (w : World) (hK : Rounds w KL) (hk : key.length = 8) (hm : me.length = 8) (hd : da.length = 8) (ht : tag.length = 8) :
    Calls Tryz.prog 62 #[.agg (vw key).toArray, .agg (vw me).toArray, .agg (vw da).toArray, .agg (vw tag).toArray] w fun e w' => e = .returned (.bool (decide (attF KL key me da = tag))) ∧ Below w.heap.size w w' := by
  obtain ⟨w1, hw1⟩ : ∃ w1, (((w.alloc (.cells (vw key).toArray 26)).alloc (.cells (vw me).toArray 26)).alloc (.cells (vw da).toArray 26)).alloc (.cells (vw tag).toArray 26) = w1 := ⟨_, rfl⟩
  have aK : Arr w1 w.heap.size 26 key := by rw [← hw1]; exact (((Arr.new w _ key).alloc _).alloc _).alloc _
  have aM : Arr w1 (w.heap.size + 1) 26 me := by
    rw [← hw1]
    have := ((Arr.new (w.alloc (.cells (vw key).toArray 26)) 26 me).alloc (.cells (vw da).toArray 26)).alloc (.cells (vw tag).toArray 26)
    simpa using this
  have aD : Arr w1 (w.heap.size + 1 + 1) 26 da := by
    rw [← hw1]
    have := (Arr.new ((w.alloc (.cells (vw key).toArray 26)).alloc (.cells (vw me).toArray 26)) 26 da).alloc (.cells (vw tag).toArray 26)
    simpa using this
  have aT : Arr w1 (w.heap.size + 1 + 1 + 1) 26 tag := by
    rw [← hw1]
    have := Arr.new (((w.alloc (.cells (vw key).toArray 26)).alloc (.cells (vw me).toArray 26)).alloc (.cells (vw da).toArray 26)) 26 tag
    simpa using this
  have hb1 : Below w.heap.size w w1 := by rw [← hw1]; exact ((((Below.refl _ _).alloc (Nat.le_refl _) _).alloc (by simp) _).alloc (by simp; omega) _).alloc (by simp; omega) _
  have hK1 : Rounds w1.drew KL := hK.below hb1.drew
  have hS : ∀ w' : World, Below w1.heap.size w1 w' → (Below w1.heap.size w1 w' ∧ w'.cell? ⟨w.heap.size, 0, none⟩ = some (.int .u32 (wAt key 0)) ∧ w'.cell? ⟨w.heap.size, 1, none⟩ = some (.int .u32 (wAt key 1)) ∧ w'.cell? ⟨w.heap.size, 2, none⟩ = some (.int .u32 (wAt key 2)) ∧ w'.cell? ⟨w.heap.size, 3, none⟩ = some (.int .u32 (wAt key 3)) ∧ w'.cell? ⟨w.heap.size, 4, none⟩ = some (.int .u32 (wAt key 4)) ∧ w'.cell? ⟨w.heap.size, 5, none⟩ = some (.int .u32 (wAt key 5)) ∧ w'.cell? ⟨w.heap.size, 6, none⟩ = some (.int .u32 (wAt key 6)) ∧ w'.cell? ⟨w.heap.size, 7, none⟩ = some (.int .u32 (wAt key 7)) ∧ w'.cell? ⟨w.heap.size + 1, 0, none⟩ = some (.int .u32 (wAt me 0)) ∧ w'.cell? ⟨w.heap.size + 1, 1, none⟩ = some (.int .u32 (wAt me 1)) ∧ w'.cell? ⟨w.heap.size + 1, 2, none⟩ = some (.int .u32 (wAt me 2)) ∧ w'.cell? ⟨w.heap.size + 1, 3, none⟩ = some (.int .u32 (wAt me 3)) ∧ w'.cell? ⟨w.heap.size + 1, 4, none⟩ = some (.int .u32 (wAt me 4)) ∧ w'.cell? ⟨w.heap.size + 1, 5, none⟩ = some (.int .u32 (wAt me 5)) ∧ w'.cell? ⟨w.heap.size + 1, 6, none⟩ = some (.int .u32 (wAt me 6)) ∧ w'.cell? ⟨w.heap.size + 1, 7, none⟩ = some (.int .u32 (wAt me 7)) ∧ w'.cell? ⟨w.heap.size + 1 + 1, 0, none⟩ = some (.int .u32 (wAt da 0)) ∧ w'.cell? ⟨w.heap.size + 1 + 1, 1, none⟩ = some (.int .u32 (wAt da 1)) ∧ w'.cell? ⟨w.heap.size + 1 + 1, 2, none⟩ = some (.int .u32 (wAt da 2)) ∧ w'.cell? ⟨w.heap.size + 1 + 1, 3, none⟩ = some (.int .u32 (wAt da 3)) ∧ w'.cell? ⟨w.heap.size + 1 + 1, 4, none⟩ = some (.int .u32 (wAt da 4)) ∧ w'.cell? ⟨w.heap.size + 1 + 1, 5, none⟩ = some (.int .u32 (wAt da 5)) ∧ w'.cell? ⟨w.heap.size + 1 + 1, 6, none⟩ = some (.int .u32 (wAt da 6)) ∧ w'.cell? ⟨w.heap.size + 1 + 1, 7, none⟩ = some (.int .u32 (wAt da 7)) ∧ w'.cell? ⟨w.heap.size + 1 + 1 + 1, 0, none⟩ = some (.int .u32 (wAt tag 0)) ∧ w'.cell? ⟨w.heap.size + 1 + 1 + 1, 1, none⟩ = some (.int .u32 (wAt tag 1)) ∧ w'.cell? ⟨w.heap.size + 1 + 1 + 1, 2, none⟩ = some (.int .u32 (wAt tag 2)) ∧ w'.cell? ⟨w.heap.size + 1 + 1 + 1, 3, none⟩ = some (.int .u32 (wAt tag 3)) ∧ w'.cell? ⟨w.heap.size + 1 + 1 + 1, 4, none⟩ = some (.int .u32 (wAt tag 4)) ∧ w'.cell? ⟨w.heap.size + 1 + 1 + 1, 5, none⟩ = some (.int .u32 (wAt tag 5)) ∧ w'.cell? ⟨w.heap.size + 1 + 1 + 1, 6, none⟩ = some (.int .u32 (wAt tag 6)) ∧ w'.cell? ⟨w.heap.size + 1 + 1 + 1, 7, none⟩ = some (.int .u32 (wAt tag 7))) := fun w' h => ⟨h, (aK.below h).cell 0 (by omega), (aK.below h).cell 1 (by omega), (aK.below h).cell 2 (by omega), (aK.below h).cell 3 (by omega), (aK.below h).cell 4 (by omega), (aK.below h).cell 5 (by omega), (aK.below h).cell 6 (by omega), (aK.below h).cell 7 (by omega), (aM.below h).cell 0 (by omega), (aM.below h).cell 1 (by omega), (aM.below h).cell 2 (by omega), (aM.below h).cell 3 (by omega), (aM.below h).cell 4 (by omega), (aM.below h).cell 5 (by omega), (aM.below h).cell 6 (by omega), (aM.below h).cell 7 (by omega), (aD.below h).cell 0 (by omega), (aD.below h).cell 1 (by omega), (aD.below h).cell 2 (by omega), (aD.below h).cell 3 (by omega), (aD.below h).cell 4 (by omega), (aD.below h).cell 5 (by omega), (aD.below h).cell 6 (by omega), (aD.below h).cell 7 (by omega), (aT.below h).cell 0 (by omega), (aT.below h).cell 1 (by omega), (aT.below h).cell 2 (by omega), (aT.below h).cell 3 (by omega), (aT.below h).cell 4 (by omega), (aT.below h).cell 5 (by omega), (aT.below h).cell 6 (by omega), (aT.below h).cell 7 (by omega)⟩
  replace hS := Lib.hid hS
  have vk := Lib.hid (vw_lit8 key hk); have vm := Lib.hid (vw_lit8 me hm); have vd := Lib.hid (vw_lit8 da hd); have vt := Lib.hid (vw_lit8 tag ht)
  have lA := Lib.hid (attF_len KL key me da)
  replace hK1 := Lib.hid hK1; replace aT := Lib.hid aT; replace hb1 := Lib.hid hb1
  clear aK aM aD hK
  go_enter Tryz.func62, Tryz.ntmps62
  go_upto_region 1 with fail
  go_cut [9, 10] from 11 to 19 (fun r _ wx => r = .bool (decide (attF KL key me da = tag)) ∧ Below w.heap.size w wx)
  case first =>
    go_region_held3 (fun w' => Below w1.heap.size w1 w' ∧ w'.cell? ⟨w.heap.size, 0, none⟩ = some (.int .u32 (wAt key 0)) ∧ w'.cell? ⟨w.heap.size, 1, none⟩ = some (.int .u32 (wAt key 1)) ∧ w'.cell? ⟨w.heap.size, 2, none⟩ = some (.int .u32 (wAt key 2)) ∧ w'.cell? ⟨w.heap.size, 3, none⟩ = some (.int .u32 (wAt key 3)) ∧ w'.cell? ⟨w.heap.size, 4, none⟩ = some (.int .u32 (wAt key 4)) ∧ w'.cell? ⟨w.heap.size, 5, none⟩ = some (.int .u32 (wAt key 5)) ∧ w'.cell? ⟨w.heap.size, 6, none⟩ = some (.int .u32 (wAt key 6)) ∧ w'.cell? ⟨w.heap.size, 7, none⟩ = some (.int .u32 (wAt key 7)) ∧ w'.cell? ⟨w.heap.size + 1, 0, none⟩ = some (.int .u32 (wAt me 0)) ∧ w'.cell? ⟨w.heap.size + 1, 1, none⟩ = some (.int .u32 (wAt me 1)) ∧ w'.cell? ⟨w.heap.size + 1, 2, none⟩ = some (.int .u32 (wAt me 2)) ∧ w'.cell? ⟨w.heap.size + 1, 3, none⟩ = some (.int .u32 (wAt me 3)) ∧ w'.cell? ⟨w.heap.size + 1, 4, none⟩ = some (.int .u32 (wAt me 4)) ∧ w'.cell? ⟨w.heap.size + 1, 5, none⟩ = some (.int .u32 (wAt me 5)) ∧ w'.cell? ⟨w.heap.size + 1, 6, none⟩ = some (.int .u32 (wAt me 6)) ∧ w'.cell? ⟨w.heap.size + 1, 7, none⟩ = some (.int .u32 (wAt me 7)) ∧ w'.cell? ⟨w.heap.size + 1 + 1, 0, none⟩ = some (.int .u32 (wAt da 0)) ∧ w'.cell? ⟨w.heap.size + 1 + 1, 1, none⟩ = some (.int .u32 (wAt da 1)) ∧ w'.cell? ⟨w.heap.size + 1 + 1, 2, none⟩ = some (.int .u32 (wAt da 2)) ∧ w'.cell? ⟨w.heap.size + 1 + 1, 3, none⟩ = some (.int .u32 (wAt da 3)) ∧ w'.cell? ⟨w.heap.size + 1 + 1, 4, none⟩ = some (.int .u32 (wAt da 4)) ∧ w'.cell? ⟨w.heap.size + 1 + 1, 5, none⟩ = some (.int .u32 (wAt da 5)) ∧ w'.cell? ⟨w.heap.size + 1 + 1, 6, none⟩ = some (.int .u32 (wAt da 6)) ∧ w'.cell? ⟨w.heap.size + 1 + 1, 7, none⟩ = some (.int .u32 (wAt da 7)) ∧ w'.cell? ⟨w.heap.size + 1 + 1 + 1, 0, none⟩ = some (.int .u32 (wAt tag 0)) ∧ w'.cell? ⟨w.heap.size + 1 + 1 + 1, 1, none⟩ = some (.int .u32 (wAt tag 1)) ∧ w'.cell? ⟨w.heap.size + 1 + 1 + 1, 2, none⟩ = some (.int .u32 (wAt tag 2)) ∧ w'.cell? ⟨w.heap.size + 1 + 1 + 1, 3, none⟩ = some (.int .u32 (wAt tag 3)) ∧ w'.cell? ⟨w.heap.size + 1 + 1 + 1, 4, none⟩ = some (.int .u32 (wAt tag 4)) ∧ w'.cell? ⟨w.heap.size + 1 + 1 + 1, 5, none⟩ = some (.int .u32 (wAt tag 5)) ∧ w'.cell? ⟨w.heap.size + 1 + 1 + 1, 6, none⟩ = some (.int .u32 (wAt tag 6)) ∧ w'.cell? ⟨w.heap.size + 1 + 1 + 1, 7, none⟩ = some (.int .u32 (wAt tag 7)))
      (first
        | exact hS.out _ (Below.refl _ _)
        | exact hS.out _ (Below.drew (Below.refl _ _))
        | assumption
        | exact hS.out _ (Below.drew (And.left (by assumption)))
        | exact hS.out _ (bX.trans (b2.mono bX.size))
        | exact hS.out _ (bY.trans (b3.mono bY.size)))
      (first
        | (go_at_call 79; rw [← vk.out, ← vm.out, ← vd.out]; obtain ⟨bX, _⟩ := (by assumption : Below w1.heap.size w1 _ ∧ _); refine (atag_any KL key me da _ (Rounds.below (w := w1) hK1.out bX) hk hm hd).mono ?_; rintro e w2 ⟨rfl, b2⟩)
        | (go_at_call 78; rw [← vt.out]; obtain ⟨bY, _⟩ := (by assumption : Below w1.heap.size w1 _ ∧ _); refine (msame_any (attF KL key me da) tag _ lA.out ht).mono ?_; rintro e w3 ⟨rfl, b3⟩))
    all_goals
      go_wp2_with fail
      go_meet
      case rel => exact ⟨rfl, (hb1.out.trans (bY.mono hb1.out.size)).trans (b3.mono (Nat.le_trans hb1.out.size bY.size))⟩
  case rest =>
    obtain ⟨rfl, hb⟩ := hcut
    go_wp2_with fail
    go_ret
    exact ⟨rfl, hb⟩
end Go.Proofs.YtemanjahkohcpaaGreatDoor

namespace Go.Proofs.YtemanjahkohcpaaGreatDoor
open Go.RowKit WP
theorem cellsW : Tryz.prog.cellsOf 25 = 1 := by kernel_rfl
theorem plainW : Tryz.prog.plainKey 25 = true := by kernel_rfl
theorem eqItems_words (a b : List UInt32) (w : World) : ∀ is : List Nat, (∀ i ∈ is, i < a.length ∧ i < b.length) →
    (Op.eqItems 9999 25 (Tryz.prog.cellsOf 25) (vw a).toArray (vw b).toArray is).run Tryz.prog w = .ok (decide (∀ i ∈ is, wAt a i = wAt b i)) w
  | [], _ => by simp [Op.eqItems]
  | i :: is, h => by
    obtain ⟨ha, hb⟩ := h i (by simp)
    have ih := eqItems_words a b w is (fun j hj => h j (by simp [hj]))
    have p1 := run_part_plain (P := Tryz.prog) w plainW (vw_getD a i ha)
    have p2 := run_part_plain (P := Tryz.prog) w plainW (vw_getD b i hb)
    have p3 := run_equalIn_int (P := Tryz.prog) w 9998 25 .u32 .u32 (wAt a i) (wAt b i) Tryz.underlying25
    simp only [Op.eqItems, Sem.run_bind]
    rw [cellsW, Nat.mul_one, p1]
    simp only [Result.andThen_ok]
    rw [p2]
    simp only [Result.andThen_ok]
    rw [p3]
    simp only [Result.andThen_ok]
    by_cases he : wAt a i = wAt b i
    · rw [if_neg (by simp [he])]
      rw [cellsW] at ih
      rw [ih]
      simp [he]
    · rw [if_pos (by simp [he])]
      simp [he]
theorem eq_words (a b : List UInt32) (w : World) (la : a.length = 8) (lb : b.length = 8) :
    (Op.equalIn 10000 26 (.agg (vw a).toArray) (.agg (vw b).toArray)).run Tryz.prog w = .ok (decide (a = b)) w := by
  obtain ⟨i, hi, _⟩ := info_parts info22
  rw [show (10000 : Nat) = 9999 + 1 from rfl, run_equalIn_array (P := Tryz.prog) w 9999 _ _ Tryz.underlying26 hi, eqItems_words a b w _ (fun i hi => by simp at hi; omega)]
  refine congrArg (fun c => Result.ok c w) (decide_eq_decide.2 ?_)
  constructor
  · intro h
    apply List.ext_getElem (by omega)
    intro i h1 h2
    exact (wAt_inj a b i h1 h2).1 (h i (by simp; omega))
  · rintro rfl i _; rfl
end Go.Proofs.YtemanjahkohcpaaGreatDoor

namespace Go.Proofs.YtemanjahkohcpaaGreatDoor
open Go.RowKit WP
structure RuleD where
  allow : Bool
  name : ByteArray
  me : List UInt32
/-- a rule's ten cells -/
def ruleC (r : RuleD) : List Value := .bool r.allow :: .string r.name :: vw r.me
theorem ruleC_len (r : RuleD) (h : r.me.length = 8) : (ruleC r).length = 10 := by simp [ruleC, h]
theorem ruleC_one (r : RuleD) : ∀ u ∈ ruleC r, u.oneCell' = true := by
  intro u hu
  simp only [ruleC, List.mem_cons] at hu
  rcases hu with rfl | rfl | hu
  · rfl
  · rfl
  · exact vw_oneCell _ u hu
/-- a list of rules that only is read -/
def Rules (w : World) (v : Value) (rs : List RuleD) : Prop :=
  ∃ ao cap, v = .slice ao rs.length cap ∧ rs.length ≤ cap ∧ cap ≤ 9223372036854775807 ∧ (∀ r ∈ rs, r.me.length = 8) ∧
    (rs = [] ∨ ∃ b off, ao = some ⟨b, off, none⟩ ∧ b < w.heap.size ∧ ∀ i r, rs[i]? = some r → w.rangeAt b (off + i * 10) (ruleC r))
theorem rangeAt_kept {w w' : World} {g o : Nat} {l : List Value} (h : w.rangeAt g o l) (he : w'.heap[g]? = w.heap[g]?) : w'.rangeAt g o l := by
  intro j u hu
  have := h j u hu
  simp only [World.cell?] at this ⊢
  rw [he]; exact this
theorem Rules.below {w w' : World} {v : Value} {rs : List RuleD} (h : Rules w v rs) (hb : Below w.heap.size w w') : Rules w' v rs := by
  obtain ⟨ao, cap, h1, h2, h3, h4, h5⟩ := h
  refine ⟨ao, cap, h1, h2, h3, h4, h5.imp id ?_⟩
  rintro ⟨b, off, e, hl, hr⟩
  exact ⟨b, off, e, Nat.lt_of_lt_of_le hl hb.size, fun i r hi => rangeAt_kept (hr i r hi) (hb.block b hl)⟩
theorem range_sub {w : World} {g o : Nat} {a b c : List Value} (h : w.rangeAt g o (a ++ b ++ c)) : w.rangeAt g (o + a.length) b := by
  intro j u hu
  have hj : j < b.length := (List.getElem?_eq_some_iff.1 hu).1
  have := h (a.length + j) u (by rw [List.append_assoc, List.getElem?_append_right (by omega), Nat.add_sub_cancel_left, List.getElem?_append_left hj]; exact hu)
  rw [Nat.add_assoc]; exact this
def decF : List RuleD → Bool → List UInt32 → Bool × ByteArray
  | [], o, _ => (o, ⟨#[]⟩)
  | r :: rs, o, m => if r.me = m then (r.allow, r.name) else decF rs o m
theorem decF_drop (rs : List RuleD) (o : Bool) (m : List UInt32) (k : Nat) (r : RuleD) (h : rs[k]? = some r) : decF (rs.drop k) o m = if r.me = m then (r.allow, r.name) else decF (rs.drop (k + 1)) o m := by
  have hk : k < rs.length := (List.getElem?_eq_some_iff.1 h).1
  have e : rs[k] = r := (List.getElem?_eq_some_iff.1 h).2
  rw [List.drop_eq_getElem_cons hk, e]; rfl
section
variable {P : Program}
theorem wpList_store_blk {ops : Array Oper} {rest : List Oper} {o : Oper} {a : Act} {w : World} {Q : Exit → Act → World → Prop} (hgd : o.guard = none) (ty : TypeId) (x y : Operand) (ho : o.op = .store ty x y)
    (g : Nat) (cells : List Value) (hx : a.eval x = .pointer (some ⟨g, 0, none⟩)) (hy : a.eval y = .agg cells.toArray)
    (t : TypeId) (old : Array Value) (hg : w.heap[g]? = some (.cells old t (0, 0))) (hi : (P.info? ty).map (·.size) = some cells.length)
    (hold : old.size = cells.length) (h1 : ∀ u ∈ cells, u.oneCell' = true)
    (k : ∀ w', w'.heap[g]? = some (.cells cells.toArray t (0, 0)) → w.grownBy w' (some g) → wpList P ops Q rest (a.put o.dst undef) w') : wpList P ops Q (o :: rest) a w :=
  wpList_store_row hgd ty x y ho g cells.toArray hx hy t old hg (by simpa using hi) (by simpa using hold) (all_oneCell_toArray h1)
    (k _ (setRow_heap w g _ _ t _ hg) ⟨rfl, rfl, rfl, by simp [World.setRow], fun j _ hj => setRow_other w g j _ (fun e => hj (by simp [e]))⟩)
end
theorem info42 : (Tryz.prog.info? 67).map (·.size) = some 10 := by kernel_rfl
set_option maxRecDepth 100000 in
set_option maxHeartbeats 2000000 in
theorem decide_any (rs : List RuleD) (other : Bool) (me : List UInt32) (v : Value) (w : World) (hr : Rules w v rs) (lm : me.length = 8) :
    Calls Tryz.prog 40 #[.agg #[v, .bool other], .agg (vw me).toArray] w fun e w' => e = .returned (.tuple #[.bool (decF rs other me).1, .string (decF rs other me).2]) ∧ Below w.heap.size w w' := by
  have hr0 := hr
  obtain ⟨ao, cap, rfl, n1, n2, l8, hcs⟩ := hr
  obtain ⟨w1, hw1⟩ : ∃ w1, (w.alloc (.cells #[.slice ao rs.length cap, .bool other] 24)).alloc (.cells (vw me).toArray 26) = w1 := ⟨_, rfl⟩
  have aM : Arr w1 (w.heap.size + 1) 26 me := by
    rw [← hw1]
    have := Arr.new (w.alloc (.cells #[.slice ao rs.length cap, .bool other] 24)) 26 me
    simpa using this
  have hp : w1.heap[w.heap.size]? = some (.cells #[.slice ao rs.length cap, .bool other] 24) := by
    rw [← hw1, heap_alloc_old _ _ (by simp)]; exact heap_alloc_new w _
  have hb1 : Below w.heap.size w w1 := by rw [← hw1]; exact ((Below.refl _ _).alloc (Nat.le_refl _) _).alloc (by simp) _
  have hp0 : w1.cell? ⟨w.heap.size, 0, none⟩ = some (.slice ao rs.length cap) := by rw [cell_of_row w1 _ 0 _ _ _ hp]; rfl
  have hp1 : w1.cell? ⟨w.heap.size, 1, none⟩ = some (.bool other) := by rw [cell_of_row w1 _ 1 _ _ _ hp]; rfl
  obtain ⟨n, hn⟩ : ∃ n, rs.length = n := ⟨_, rfl⟩
  have hlp : w.heap.size < w1.heap.size := (Array.getElem?_eq_some_iff.1 hp).1
  have hlm := aM.lt
  rw [hn] at n1 hp0 hw1 ⊢
  replace hn := Lib.hid hn; replace l8 := Lib.hid l8; replace hcs := Lib.hid hcs; replace aM := Lib.hid aM; replace hb1 := Lib.hid hb1; replace hr0 := Lib.hid hr0
  clear hp
  go_enter Tryz.func40, Tryz.ntmps40
  go_upto_region 1 with fail
  clear hw1
  go_wp2_with fail
  go_loopw [7, 11] (fun _ i wr => ∃ k : Nat, k ≤ n ∧ i = .int .i64 (k : Int) ∧ decF (rs.drop k) other me = decF rs other me ∧ Below w1.heap.size w1 wr) (fun _ i _ => n - (intOf i).toNat)
  case atStart => exact ⟨0, by omega, rfl, by simp, Below.refl _ _⟩
  case round =>
    obtain ⟨wo, rfl⟩ : ∃ wo, wo = wr := ⟨wr, rfl⟩
    obtain ⟨k, hk, rfl, hd, hb⟩ := hrel
    by_cases hlt : k < n
    · have hkr : k < rs.length := by rw [hn.out]; exact hlt
      obtain ⟨r, hri⟩ : ∃ r, rs[k]? = some r := ⟨_, List.getElem?_eq_getElem hkr⟩
      have lr : r.me.length = 8 := l8.out r (List.mem_of_getElem? hri)
      have hdk := decF_drop rs other me k r hri
      obtain ⟨b, off, rfl, hbl, hcl⟩ := hcs.out.resolve_left (by intro h; rw [h] at hkr; simp at hkr)
      have hb0 := hb1.out.trans (hb.mono hb1.out.size)
      have hrk : wo.rangeAt b (off + k * 10) (ruleC r) := rangeAt_kept (hcl k r hri) (hb0.block b hbl)
      have lrc := ruleC_len r lr
      have aMo := aM.out.below hb
      have i1 : (0 : Int) ≤ (k : Int) := by omega
      have i2 : (k : Int) < (n : Int) := by omega
      clear hcl hri hkr
      replace hrk := Lib.hid hrk; replace lrc := Lib.hid lrc; replace hb0 := Lib.hid hb0; replace hb := Lib.hid hb; replace hd := Lib.hid hd; replace hdk := Lib.hid hdk; replace aMo := Lib.hid aMo
      go_upto_region 4 with (first
        | (refine wpList_load_mid rfl 67 _ rfl b (off + k * 10) rfl (ruleC r) _ hrk.out Tryz.underlying67 rfl (by rw [lrc.out]; exact info42) ?_)
        | (refine wpList_store_blk rfl 67 _ _ rfl wo.heap.size (ruleC r) rfl rfl 67 _ (heap_alloc_new _ _) (by rw [lrc.out]; exact info42) (by rw [lrc.out]; rfl) (ruleC_one r) ?_; intro w3 hB3 g3))
      have b3 := below_new g3
      have hb3 := hb.out.trans (b3.mono hb.out.size)
      have aM3 := aMo.out.below b3
      have hB0 : w3.cell? ⟨wo.heap.size, 0, none⟩ = some (.bool r.allow) := by rw [cell_of_row w3 _ 0 _ _ _ hB3]; rfl
      have hB1 : w3.cell? ⟨wo.heap.size, 1, none⟩ = some (.string r.name) := by rw [cell_of_row w3 _ 1 _ _ _ hB3]; rfl
      have hB2 : w3.rangeAt wo.heap.size 2 (vw r.me) := by
        intro j u hu
        rw [cell_of_row w3 _ (2 + j) _ _ _ hB3, Nat.add_comm 2 j]
        simpa [ruleC] using hu
      clear b3 g3 hB3 aMo hrk lrc hb0 hb
      replace hb3 := Lib.hid hb3; replace aM3 := Lib.hid aM3; replace hB2 := Lib.hid hB2
      by_cases hm : r.me = me
      · have hE : ∀ w' : World, (Op.equalIn 10000 26 (.agg (vw r.me).toArray) (.agg (vw me).toArray)).run Tryz.prog w' = .ok true w' := fun w' => by
          rw [eq_words r.me me w' lr lm, decide_eq_true hm]
        have hF : decF rs other me = (r.allow, r.name) := by rw [← hd.out, hdk.out, if_pos hm]
        replace hF := Lib.hid hF
        replace hm := Lib.hid hm
        go_upto_region 5 with (first
          | (refine wpList_load_mid rfl 26 _ rfl wo.heap.size 2 rfl (vw r.me) _ hB2.out Tryz.underlying26 rfl (by rw [length_vw, lr]; exact info23) ?_)
          | (refine wpList_load_arr rfl 26 _ rfl (w.heap.size + 1) rfl aM3.out Tryz.underlying26 info23 lm ?_))
        go_quiet (fail)
        go_wp2_with fail
        go_ret2
        exact ⟨by rw [hF.out]; rfl, below_drewN (hb1.out.trans (hb3.out.mono hb1.out.size)) _⟩
      · have hE : ∀ w' : World, (Op.equalIn 10000 26 (.agg (vw r.me).toArray) (.agg (vw me).toArray)).run Tryz.prog w' = .ok false w' := fun w' => by
          rw [eq_words r.me me w' lr lm, decide_eq_false hm]
        have hF : decF (rs.drop (k + 1)) other me = decF rs other me := by rw [← hd.out, hdk.out, if_neg hm]
        replace hF := Lib.hid hF
        replace hm := Lib.hid hm
        go_wp2_with (first
          | (refine wpList_load_mid rfl 26 _ rfl wo.heap.size 2 rfl (vw r.me) _ hB2.out Tryz.underlying26 rfl (by rw [length_vw, lr]; exact info23) ?_)
          | (refine wpList_load_arr rfl 26 _ rfl (w.heap.size + 1) rfl aM3.out Tryz.underlying26 info23 lm ?_))
        go_roundw
        case rel => exact ⟨k + 1, by omega, by go_num, hF.out, hb3.out⟩
        case measure => simp [intOf]; omega
    · obtain rfl : k = n := by omega
      have hF : decF rs other me = (other, ⟨#[]⟩) := by rw [← hd, ← hn.out, List.drop_length]; rfl
      have hP0 := (hb.block _ hlp)
      have hq1 : wo.cell? ⟨w.heap.size, 1, none⟩ = some (.bool other) := by rw [← hp1]; simp only [World.cell?]; rw [hP0]
      clear hP0
      replace hb := Lib.hid hb; replace hF := Lib.hid hF; replace hd := Lib.hid hd
      go_wp2_with fail
      go_ret2
      exact ⟨by rw [hF.out]; rfl, hb1.out.trans (hb.out.mono hb1.out.size)⟩
end Go.Proofs.YtemanjahkohcpaaGreatDoor
