/- Plain laws on words of 32 bits: fields, moves, turns, by their bits. No program in sight. General lemmas on memory: an append to a row of the call's own, with the frame that a caller with other rows wants; slices that are only read. Over any program. -/
import Derived.WalkKit
import Derived.WalkSpells
import Derived.WalkLawsBesides
import Derived.Lib.Hide
namespace Go.Proofs.YtiknookfnameiaaGreatDoor.WP
/-! plain laws on words: fields, moves, turns -/
def maskN (lo n : Nat) : Nat := (2 ^ n - 1) * 2 ^ lo
def fieldN (w lo n : Nat) : Nat := w / 2 ^ lo % 2 ^ n
def setN (w lo n v : Nat) : Nat := (w &&& (4294967295 - maskN lo n)) ||| ((v * 2 ^ lo % 4294967296) &&& maskN lo n)
def rotN (w s : Nat) : Nat := (w * 2 ^ s % 4294967296) ||| (w / 2 ^ (32 - s))

theorem testBit_maskN (lo n i : Nat) : (maskN lo n).testBit i = (decide (lo ≤ i) && decide (i < lo + n)) := by
 unfold maskN
 rw [Nat.testBit_mul_two_pow, Nat.testBit_two_pow_sub_one]
 by_cases h : lo ≤ i <;> simp [h]
 omega
theorem lt32_of_testBit {x : Nat} (h : ∀ i, 32 ≤ i → x.testBit i = false) : x < 4294967296 :=
 Nat.lt_pow_two_of_testBit (n := 32) x h
theorem testBit_hi {x : Nat} (h : x < 4294967296) {i : Nat} (hi : 32 ≤ i) : x.testBit i = false :=
 Nat.testBit_lt_two_pow (Nat.lt_of_lt_of_le h (Nat.pow_le_pow_right (by decide) hi : 2 ^ 32 ≤ 2 ^ i))
theorem maskN_lt (lo n : Nat) (h : lo + n ≤ 32) : maskN lo n < 4294967296 :=
 lt32_of_testBit fun i hi => by rw [testBit_maskN]; simp; omega
theorem testBit_not (m i : Nat) (h : m < 4294967296) : (4294967295 - m).testBit i = (decide (i < 32) && !m.testBit i) := by
 have := Nat.testBit_two_pow_sub_succ (n := 32) h i
 rw [← this]; congr 1; omega
theorem testBit_fieldN (w lo n i : Nat) : (fieldN w lo n).testBit i = (decide (i < n) && w.testBit (i + lo)) := by
 unfold fieldN; rw [Nat.testBit_mod_two_pow, Nat.testBit_div_two_pow]
theorem testBit_setN (w lo n v i : Nat) (hw : w < 4294967296) (h : lo + n ≤ 32) :
  (setN w lo n v).testBit i = if lo ≤ i ∧ i < lo + n then v.testBit (i - lo) else w.testBit i := by
 have e : (4294967296 : Nat) = 2 ^ 32 := by decide
 unfold setN
 rw [e, Nat.testBit_or, Nat.testBit_and, Nat.testBit_and, testBit_not _ _ (maskN_lt lo n h), testBit_maskN, Nat.testBit_mod_two_pow, Nat.testBit_mul_two_pow]
 by_cases h1 : lo ≤ i <;> by_cases h2 : i < lo + n <;> by_cases h3 : i < 32 <;> simp [h1, h2, h3]
 all_goals first | omega | exact testBit_hi hw (by omega)
theorem setN_lt (w lo n v : Nat) (hw : w < 4294967296) (h : lo + n ≤ 32) : setN w lo n v < 4294967296 :=
 lt32_of_testBit fun i hi => by rw [testBit_setN _ _ _ _ _ hw h, if_neg (by omega), testBit_hi hw hi]
theorem field_set (w lo n v : Nat) (hw : w < 4294967296) (h : lo + n ≤ 32) : fieldN (setN w lo n v) lo n = fieldN v 0 n := by
 apply Nat.eq_of_testBit_eq; intro i
 rw [testBit_fieldN, testBit_setN _ _ _ _ _ hw h, testBit_fieldN]
 by_cases h1 : i < n <;> simp [h1]
 intro _; omega
theorem field_set_lo (w lo n v : Nat) (hw : w < 4294967296) (h : lo + n ≤ 32) : fieldN (setN w lo n v) 0 lo = fieldN w 0 lo := by
 apply Nat.eq_of_testBit_eq; intro i
 rw [testBit_fieldN, testBit_setN _ _ _ _ _ hw h, testBit_fieldN]
 by_cases h1 : i < lo <;> simp [h1]
 intro _; omega
theorem field_set_hi (w lo n v u : Nat) (hw : w < 4294967296) (h : lo + n ≤ 32) : fieldN (setN w lo n v) (lo + n) u = fieldN w (lo + n) u := by
 apply Nat.eq_of_testBit_eq; intro i
 rw [testBit_fieldN, testBit_setN _ _ _ _ _ hw h, testBit_fieldN]
 by_cases h1 : i < u <;> simp [h1]
 intro _; omega
end Go.Proofs.YtiknookfnameiaaGreatDoor.WP

namespace Go.Proofs.YtiknookfnameiaaGreatDoor
open Go.RowKit

theorem ret1 {k : IntKind} {a b : Int} (h : a = b) : Ending.returned (.int k a) = .returned (.int k b) := by rw [h]

/-- w' is w but for the row of v, and v' is v's row or a new one. -/
def Onto (w : World) (v : Value) (w' : World) (v' : Value) : Prop :=
 w.grownBy w' v.ownBlock ∧ (v'.ownBlock = v.ownBlock ∨ ∀ k, v'.ownBlock = some k → w.heap.size ≤ k)

theorem grownBy_trans {w w1 w2 : World} {r r1 : Option Nat} (h : w.grownBy w1 r) (h1 : w1.grownBy w2 r1) (hr : r1 = r ∨ ∀ k, r1 = some k → w.heap.size ≤ k) : w.grownBy w2 r := by
 refine ⟨h1.os.trans h.os, h1.tape.trans h.tape, h1.output.trans h.output, Nat.le_trans h.size h1.size, fun k hk hne => ?_⟩
 have hs := h.size
 rw [h1.block k (by omega) ?_]
 ·exact h.block k hk hne
 ·rcases hr with rfl | hr
  ·exact hne
  ·intro e; have := hr k e.symm; omega
theorem Onto.refl (w : World) (v : Value) : Onto w v w v := ⟨World.grownBy.refl _ _, .inl rfl⟩
theorem Onto.trans {w w1 w2 : World} {v v1 v2 : Value} (h : Onto w v w1 v1) (h1 : Onto w1 v1 w2 v2) : Onto w v w2 v2 := by
 obtain ⟨a, b⟩ := h
 obtain ⟨a1, b1⟩ := h1
 refine ⟨grownBy_trans a a1 b, ?_⟩
 have hs := a.size
 rcases b1 with b1 | b1
 ·rw [b1]; exact b
 ·exact .inr fun k hk => Nat.le_trans hs (b1 k hk)
theorem Onto.alloc {w w1 : World} {v v1 : Value} (o : Obj) (h : Onto (w.alloc o) v w1 v1) (_ : ∀ k, v.ownBlock = some k → k < w.heap.size) : Onto w v w1 v1 := by
 obtain ⟨a, b⟩ := h
 refine ⟨grownBy_trans (World.grownBy_alloc w o _) a (.inl rfl), ?_⟩
 rcases b with b | b
 ·exact .inl b
 ·exact .inr fun k hk => by have := b k hk; simp at this; omega
theorem Onto.below {B : Nat} {w w1 : World} {v v1 : Value} (h : Onto w v w1 v1) (hB : B ≤ w.heap.size) (hv : ∀ k, v.ownBlock = some k → B ≤ k) : Below B w w1 :=
 (Below.refl B w).grown h.1 hB hv
/-- another row of the call's own stays, and stays another -/
theorem Onto.kept {w w1 : World} {v v1 u : Value} {base : Nat} {e : TypeId} {size n : Nat} {xs : List Value} (h : Onto w v w1 v1) (hu : w.ownsRow base e size u n xs) (hne : u.ownBlock = none ∨ u.ownBlock ≠ v.ownBlock) :
  w1.ownsRow base e size u n xs ∧ (u.ownBlock = none ∨ u.ownBlock ≠ v1.ownBlock) := by
 refine ⟨hu.kept h.1 hne, ?_⟩
 rcases hne with hne | hne
 ·exact .inl hne
 rcases h.2 with b | b
 ·rw [b]; exact .inr hne
 ·cases hb : u.ownBlock with
  | none => exact .inl rfl
  | some k =>
   refine .inr fun e => ?_
   have := b k e.symm
   have := (hu.lt k hb).2
   omega

section
variable {P : Program} (w : World)
theorem run_append_onto (base : Nat) (t ty e : TypeId) (i : TypeInfo) (z : Value) (size bytes : Nat) (ht : P.underlying t = some (.slice e)) (hi : P.info? e = some i) (hz : i.zero = some z)
  (hsize : i.size = size) (hby : i.bytes = bytes) (hzs : z.cells.size = size) (hsz : 0 < size)
  (v : Value) (n : Nat) (xs : List Value) (hown : w.ownsRow base e size v n xs)
  (a : Addr) (m c : Nat) (news : List Value) (hl : news.length = m * size) (hnews : ∀ j u, news[j]? = some u → w.cell? (a.add j) = some u) (h1 : ∀ u ∈ news, u.oneCell' = true)
  (h63 : n + m ≤ maxLen) (hbytes : (n + m) * bytes ≤ 140737488355328) (hbase : base ≤ w.heap.size) :
  ∃ v' w', (Builtin.append_ #[t, t] ty #[v, .slice (some a) m c]).run P w = .ok v' w' ∧ w'.ownsRow base e size v' (n + m) (xs ++ news) ∧ Onto w v w' v' := by
 obtain ⟨v', w', hr, h2, h3, _⟩ := run_append_own (P := P) w base t ty e i z size bytes ht hi hz hsize hby hzs hsz v n xs hown a m c news hl hnews h1 h63 hbytes hbase
 refine ⟨v', w', hr, h2, h3, ?_⟩
 subst hsize
 have hsmall : n + m ≤ 9223372036854775807 := by simp only [maxLen] at h63; omega
 rcases hown.2 with ⟨rfl, rfl⟩ | ⟨g, cap, cur, rfl, hbg, hg, hnc, hcm, hcs, htake⟩
 ·have hx : xs = [] := List.eq_nil_of_length_eq_zero (by simpa using hown.1)
  subst hx
  by_cases hm : m = 0
  ·subst hm
   have hn : news = [] := List.eq_nil_of_length_eq_zero (by simpa using hl)
   subst hn
   have hr' : (Builtin.append_ #[t, t] ty #[.slice none 0 0, .slice (some a) 0 c]).run P w = .ok (.slice none 0 0) w := by
    simp [Builtin.append_, run_underlying ht, sizeOf, typeInfo, hi, Builtin.lenOf, Builtin.firstCells, loadCells, loadCellsFrom]
   rw [hr'] at hr
   simp only [Result.ok.injEq] at hr
   obtain ⟨rfl, rfl⟩ := hr
   exact .inl rfl
  ·have hr' := run_append_nil (P := P) w t ty e i z ht hi hz a m c news hl hnews (by omega) (by omega) (by subst hby; have hb := hbytes; simp only [Nat.zero_add] at hb; omega)
   rw [hr'] at hr
   simp only [Result.ok.injEq] at hr
   obtain ⟨rfl, rfl⟩ := hr
   exact .inr fun k hk => by simp [Value.ownBlock] at hk; omega
 ·by_cases hroom : n + m ≤ cap
  ·have hfit : n * i.size + news.length ≤ cur.size := by rw [hl, hcs, ← Nat.add_mul]; exact Nat.mul_le_mul_right _ hroom
   have hr' := run_append_room (P := P) w t ty e i ht hi g n cap cur hg a m c news hl hnews h1 hroom hfit
   rw [hr'] at hr
   simp only [Result.ok.injEq] at hr
   obtain ⟨rfl, rfl⟩ := hr
   exact .inl rfl
  ·have holds : ∀ j u, xs[j]? = some u → w.cell? ((⟨g, 0, none⟩ : Addr).add j) = some u := hown.cells (g := g) rfl
   have hr' := run_append_grow (P := P) w t ty e i z ht hi hz ⟨g, 0, none⟩ n cap xs hown.1 holds a m c news hl hnews (by omega) (by omega) (growslice_fits (by omega) (by rw [hby]; exact hbytes))
   rw [hr'] at hr
   simp only [Result.ok.injEq] at hr
   obtain ⟨rfl, rfl⟩ := hr
   exact .inr fun k hk => by simp [Value.ownBlock] at hk; omega
theorem wpList_append_onto' {ops : Array Oper} {rest : List Oper} {o : Oper} {a : Act} {Q : Exit → Act → World → Prop} (hgd : o.guard = none) (s x : Operand) (t : TypeId)
  (ho : o.op = .call { callee := .builtin .append, args := #[s, x], argTypes := #[t, t] })
  (base : Nat) (e : TypeId) (i : TypeInfo) (z : Value) (size bytes : Nat) (ht : P.underlying t = some (.slice e)) (hi : P.info? e = some i) (hz : i.zero = some z)
  (hsize : i.size = size) (hby : i.bytes = bytes) (hzs : z.cells.size = size) (hsz : 0 < size)
  (v : Value) (n : Nat) (xs : List Value) (hs : a.eval s = v) (hown : w.ownsRow base e size v n xs)
  (ad : Addr) (m c : Nat) (news : List Value) (hx : a.eval x = .slice (some ad) m c) (hl : news.length = m * size) (hnews : ∀ j u, news[j]? = some u → w.cell? (ad.add j) = some u) (h1 : ∀ u ∈ news, u.oneCell' = true)
  (h63 : n + m ≤ maxLen) (hbytes : (n + m) * bytes ≤ 140737488355328) (hbase : base ≤ w.heap.size)
  (h : ∀ v' w', w'.ownsRow base e size v' (n + m) (xs ++ news) → Onto w v w' v' → wpList P ops Q rest (a.put o.dst v') w') : wpList P ops Q (o :: rest) a w := by
 refine wpList_plain hgd fun K hK => ?_
 obtain ⟨v', w', hr, h2, h3⟩ := run_append_onto (P := P) w base t o.type e i z size bytes ht hi hz hsize hby hzs hsz v n xs hown ad m c news hl hnews h1 h63 hbytes hbase
 unfold Oper.wp execOp
 simp only [ho, resolve, invoke, builtin, Sem.run_bind, Sem.run_pure, Result.andThen_ok, List.map_toArray, List.map_cons, List.map_nil, hs, hx, hr]
 exact hK _ _ (h v' w' h2 h3)
end

/-! ### lists of bytes and of words, as values -/
def vb (l : List UInt8) : List Value := l.map fun b => .int .u8 b.toNat
def vw (l : List UInt32) : List Value := l.map fun b => .int .u32 b.toNat
def bAt (l : List UInt8) (i : Nat) : Int := (((l.getD i 0).toNat : Nat) : Int)
def wAt (l : List UInt32) (i : Nat) : Int := (((l.getD i 0).toNat : Nat) : Int)
theorem bAt_bd (l : List UInt8) (i : Nat) : 0 ≤ bAt l i ∧ bAt l i ≤ 255 := by
 have := (l.getD i 0).toNat_lt; unfold bAt; omega
@[simp] theorem length_vb (l : List UInt8) : (vb l).length = l.length := by simp [vb]
@[simp] theorem length_vw (l : List UInt32) : (vw l).length = l.length := by simp [vw]
theorem vb_append (a b : List UInt8) : vb (a ++ b) = vb a ++ vb b := by simp [vb]
theorem vb_get (l : List UInt8) (i : Nat) (h : i < l.length) : (vb l)[i]? = some (.int .u8 (bAt l i)) := by
 simp [vb, bAt, h]
theorem vw_get (l : List UInt32) (i : Nat) (h : i < l.length) : (vw l)[i]? = some (.int .u32 (wAt l i)) := by
 simp [vw, wAt, h]
/-! ### a slice (elements of one cell each) that reads as a list -/
def Rd (w : World) (v : Value) (xs : List Value) : Prop :=
 ∃ ao cap, v = .slice ao xs.length cap ∧ xs.length ≤ cap ∧ cap ≤ maxLen ∧
  (xs = [] ∨ ∃ b off, ao = some ⟨b, off, none⟩ ∧ ∀ j u, xs[j]? = some u → w.cell? ⟨b, off + j, none⟩ = some u)
theorem Rd.of_own {w : World} {base : Nat} {e : TypeId} {v : Value} {n : Nat} {xs : List Value} (h : w.ownsRow base e 1 v n xs) : Rd w v xs := by
 have hl := h.1
 rcases h.2 with ⟨rfl, rfl⟩ | ⟨g, cap, cur, rfl, _, hg, hn, hc, _, ht⟩
 ·have : xs = [] := List.eq_nil_of_length_eq_zero (by simpa using hl)
  subst this
  exact ⟨none, 0, rfl, Nat.le_refl _, by decide, .inl rfl⟩
 ·have hl' : xs.length = n := by simpa using hl
  refine ⟨_, _, by rw [hl'], by omega, hc, .inr ⟨g, 0, rfl, fun j u hu => ?_⟩⟩
  have hj := (List.getElem?_eq_some_iff.1 hu).1
  rw [← hu, Nat.zero_add]
  exact World.ownsRow.cellAt h j (by omega)
theorem Rd.kept {w w' : World} {v : Value} {xs : List Value} (h : Rd w v xs) (hk : ∀ k, v.ownBlock = some k → k < w.heap.size → w'.heap[k]? = w.heap[k]?) : Rd w' v xs := by
 obtain ⟨ao, cap, rfl, h1, h2, h3⟩ := h
 refine ⟨ao, cap, rfl, h1, h2, ?_⟩
 rcases h3 with h3 | ⟨b, off, rfl, hc⟩
 ·exact .inl h3
 ·refine .inr ⟨b, off, rfl, fun j u hu => ?_⟩
  have hcell := hc j u hu
  rw [World.cell?_of_block (w := w) (hk b rfl (World.block_lt_of_cell? w _ hcell))]
  exact hcell
theorem Rd.below {B : Nat} {w w' : World} {v : Value} {xs : List Value} (h : Rd w v xs) (hb : Below B w w') (hv : ∀ k, v.ownBlock = some k → k < w.heap.size → k < B) : Rd w' v xs :=
 h.kept fun k hk hlt => hb.block k (hv k hk hlt)
theorem Rd.grown {w w' : World} {v : Value} {xs : List Value} {r : Option Nat} (h : Rd w v xs) (hg : w.grownBy w' r) (hv : v.ownBlock = none ∨ v.ownBlock ≠ r) : Rd w' v xs :=
 h.kept fun k hk hlt => hg.block k hlt (by rw [← hk]; rcases hv with hv | hv <;> simp_all)
theorem Rd.mono {w w' : World} {v : Value} {xs : List Value} (h : Rd w v xs) (hb : Below w.heap.size w w') : Rd w' v xs := h.below hb fun _ _ h => h
theorem Rd.alloc {w : World} {v : Value} {xs : List Value} (h : Rd w v xs) (o : Obj) : Rd (w.alloc o) v xs :=
 h.kept fun k _ hlt => by show (w.heap.push o)[k]? = _; rw [Array.getElem?_push, if_neg (by omega)]
theorem Rd.drewN {w : World} {v : Value} {xs : List Value} (h : Rd w v xs) (n : Nat) : Rd (w.drewN n) v xs := h.kept fun _ _ _ => rfl
theorem Rd.new (w : World) (cs : List Value) (t : TypeId) (fr : Nat × Nat) (h : cs.length ≤ maxLen) : Rd (w.alloc (.cells cs.toArray t fr)) (.slice (some ⟨w.heap.size, 0, none⟩) cs.length cs.length) cs := by
 refine ⟨_, _, rfl, Nat.le_refl _, h, .inr ⟨_, 0, rfl, fun j u hu => ?_⟩⟩
 have hg : (w.alloc (.cells cs.toArray t fr)).heap[w.heap.size]? = some (.cells cs.toArray t fr) := heap_alloc_new w _
 simp only [World.cell?, hg]
 simp [← hu]
theorem Rd.take {w : World} {ao : Option Addr} {n cap : Nat} {xs : List Value} (h : Rd w (.slice ao n cap) xs) (k : Nat) (hk : k ≤ n) : Rd w (.slice ao k cap) (xs.take k) := by
 obtain ⟨ao', cap', he, h1, h2, h3⟩ := h
 simp only [Value.slice.injEq] at he
 obtain ⟨rfl, rfl, rfl⟩ := he
 have hl : (xs.take k).length = k := by simp; omega
 refine ⟨ao, cap, by rw [hl], by omega, h2, ?_⟩
 rcases h3 with rfl | ⟨b, off, rfl, hc⟩
 ·exact .inl (by simp)
 ·refine .inr ⟨b, off, rfl, fun j u hu => hc j u ?_⟩
  rw [List.getElem?_take] at hu
  split at hu
  ·exact hu
  ·cases hu
def ofI (x : Int) : UInt32 := UInt32.ofNat x.toNat
theorem cells_new (w : World) (cs : List Value) (t : TypeId) (fr : Nat × Nat) : ∀ j u, cs[j]? = some u → (w.alloc (.cells cs.toArray t fr)).cell? ((⟨w.heap.size, 0, none⟩ : Addr).add j) = some u := by
 intro j u hu
 have hg : (w.alloc (.cells cs.toArray t fr)).heap[w.heap.size]? = some (.cells cs.toArray t fr) := heap_alloc_new w _
 have hadd : (⟨w.heap.size, 0, none⟩ : Addr).add j = ⟨w.heap.size, j, none⟩ := by unfold Addr.add; split <;> simp_all
 rw [hadd]
 simp only [World.cell?, hg]
 simp [← hu]
/-- the cells of a list of words that came in, at its block -/
theorem Rd.words {w : World} {v : Value} {l : List UInt32} (h : Rd w v (vw l)) : ∃ ao cap, v = .slice ao l.length cap ∧ l.length ≤ cap ∧ cap ≤ 9223372036854775807 ∧
  (l = [] ∨ ∃ b off, ao = some ⟨b, off, none⟩ ∧ b < w.heap.size ∧ ∀ j, j < l.length → w.cell? ⟨b, off + j, none⟩ = some (.int .u32 (wAt l j))) := by
 obtain ⟨ao, cap, rfl, h1, h2, h3⟩ := h
 simp only [length_vw] at h1 ⊢
 refine ⟨ao, cap, rfl, h1, h2, ?_⟩
 rcases h3 with h3 | ⟨b, off, rfl, hc⟩
 ·exact .inl (by simpa [vw] using h3)
 ·by_cases hl : l = []
  ·exact .inl hl
  ·have hp : 0 < l.length := List.length_pos_iff.2 hl
   exact .inr ⟨b, off, rfl, World.block_lt_of_cell? w _ (hc 0 _ (vw_get l 0 hp)), fun j hj => hc j _ (vw_get l j hj)⟩
theorem Rd.bytes {w : World} {v : Value} {l : List UInt8} (h : Rd w v (vb l)) : ∃ ao cap, v = .slice ao l.length cap ∧ l.length ≤ cap ∧ cap ≤ 9223372036854775807 ∧
  (l = [] ∨ ∃ b off, ao = some ⟨b, off, none⟩ ∧ b < w.heap.size ∧ ∀ j, j < l.length → w.cell? ⟨b, off + j, none⟩ = some (.int .u8 (bAt l j))) := by
 obtain ⟨ao, cap, rfl, h1, h2, h3⟩ := h
 simp only [length_vb] at h1 ⊢
 refine ⟨ao, cap, rfl, h1, h2, ?_⟩
 rcases h3 with h3 | ⟨b, off, rfl, hc⟩
 ·exact .inl (by simpa [vb] using h3)
 ·by_cases hl : l = []
  ·exact .inl hl
  ·have hp : 0 < l.length := List.length_pos_iff.2 hl
   exact .inr ⟨b, off, rfl, World.block_lt_of_cell? w _ (hc 0 _ (vb_get l 0 hp)), fun j hj => hc j _ (vb_get l j hj)⟩
section
variable {P : Program}
theorem conv_bytes {w : World} {v : Value} {l : List UInt8} (h : Rd w v (vb l)) (src e dst : TypeId) (hs : P.underlying src = some (.slice e)) (he : P.underlying e = some (.int .u8)) (hd : P.underlying dst = some .string) :
  (convert src dst v).run P w = .ok (.string ⟨l.toArray⟩) w := by
 obtain ⟨ao, cap, rfl, h1, h2, h3⟩ := h
 rcases h3 with h3 | ⟨b, off, rfl, hc⟩
 ·have : l = [] := by simpa [vb] using h3
  subst this
  rw [run_convert_bytes_string w src dst e _ _ _ hs he hd]
  cases ao <;> simp [Conv.bytesToString, vb, loadCells, loadCellsFrom, ByteArray.empty, ByteArray.emptyWithCapacity] <;> rfl
 ·have hx : (vb l).length = l.length := by simp
  rw [hx]
  have := run_convert_bytes_arg (P := P) w src e hs he b off l.length cap (l.map fun b => (b.toNat : Int)) (by simp) (fun i hi => by
   rw [hc i _ (vb_get l i hi)]
   simp [bAt, hi]) dst hd
  rw [this]
  simp [strOfNums, Function.comp_def]
end
end Go.Proofs.YtiknookfnameiaaGreatDoor
