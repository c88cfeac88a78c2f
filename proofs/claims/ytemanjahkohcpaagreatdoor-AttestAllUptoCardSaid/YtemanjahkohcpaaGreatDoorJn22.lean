/- What attest's line and ParsePolicy compute; the policy that is being put together, in memory. Rows of rules of the call's own: one rule stored, rows read. A rule is like itself. Rows of rules: all of them appended at once, some of them copied over. -/
import Derived.Test.YtemanjahkohcpaaGreatDoorJn19
import Derived.Test.YtemanjahkohcpaaGreatDoorJn14
import Derived.Test.YtemanjahkohcpaaGreatDoorJn09
import Derived.Test.YtemanjahkohcpaaGreatDoorJn20
import Derived.Test.YtemanjahkohcpaaGreatDoorTWdsJn
import Derived.Test.YtemanjahkohcpaaGreatDoorUBasJn
import Derived.Laws.CopyRow
namespace Go.Proofs.YtemanjahkohcpaaGreatDoor
open Go.RowKit WP
/-- whether a word says allow -/
def saysF (s : ByteArray) : Option Bool := if s = allowB then some true else if s = denyB then some false else none
/-- eight words of their digits -/
def eightF (s : ByteArray) : Option (List UInt32) := if (parseAllL s).length = 8 ∧ hexAllL (parseAllL s) = strL s then some (parseAllL s) else none
theorem eightF_some (s : ByteArray) (l : List UInt32) (h8 : l.length = 8) (h : hexAllL l = strL s) : eightF s = some l := by
  have e : s = ⟨(hexAllL l).toArray⟩ := by
    unfold strL at h; rw [h]
  have hp : parseAllL s = l := by rw [e]; exact parseAll_hex l
  unfold eightF
  rw [hp, if_pos ⟨h8, h⟩]
theorem eightF_none (s : ByteArray) (h : NoWords s) : eightF s = none := by
  unfold eightF
  rw [if_neg]
  rintro ⟨h8, e⟩
  exact h _ h8 e
/-- a line's words into the policy: whether it was the last, the rules, other -/
def lineF (ws : List W) (rs : List RuleD) (o : Bool) : Option (Bool × List RuleD × Bool) :=
  if (ws.any fun x => x.2.1) = true then none else
  match ws with
  | [a, b] => if a.1 = otherB then (saysF b.1).map fun x => (true, rs, x) else none
  | [a, b, c] => if nameF b.1 = true then (saysF a.1).bind fun x => (eightF c.1).bind fun m => if rs.length = 256 then none else some (false, rs ++ [⟨x, b.1, m⟩], o) else none
  | _ => none
/-- a policy's lines from one on: its rules and other, or the line at which it is refused -/
def polA : List ByteArray → Nat → Bool → List RuleD → Bool → (List RuleD × Bool) ⊕ Nat
  | [], i, last, rs, o => if last = true then .inl (rs, o) else .inr (i + 1)
  | t :: ts, i, last, rs, o =>
    match wordsF t with
    | .inr _ => .inr (i + 1)
    | .inl [] => polA ts (i + 1) last rs o
    | .inl (x :: ws) => if last = true then .inr (i + 1) else
      match lineF (x :: ws) rs o with
      | none => .inr (i + 1)
      | some (l', rs', o') => polA ts (i + 1) l' rs' o'
def parsePolF (s : ByteArray) : (List RuleD × Bool) ⊕ Nat := polA (linesF s) 0 false [] false
/-- the rules' cells -/
def rulesC (rs : List RuleD) : List Value := rs.flatMap ruleC
theorem rulesC_append (a b : List RuleD) : rulesC (a ++ b) = rulesC a ++ rulesC b := by simp [rulesC]
/-- the policy that is being put together: at pb, its rules in a row of the call's own; all else below C stays -/
structure PolSt (C pb : Nat) (w0 w : World) (v : Value) (rs : List RuleD) (o : Bool) : Prop where
  blk : w.heap[pb]? = some (.cells #[v, .bool o] 24 (0, 0))
  own : w.ownsRow C 67 10 v rs.length (rulesC rs)
  lt : pb < C
  size : C ≤ w.heap.size
  os : w.os = w0.os
  tape : w.tape = w0.tape
  output : w.output = w0.output
  keep : ∀ k, k < C → k ≠ pb → w.heap[k]? = w0.heap[k]?
  eight : ∀ r ∈ rs, r.me.length = 8
namespace PolSt
variable {C pb : Nat} {w0 w w' : World} {v : Value} {rs : List RuleD} {o : Bool}
theorem c0 (h : PolSt C pb w0 w v rs o) : w.cell? ⟨pb, 0, none⟩ = some v := cell_of_row _ _ _ _ _ _ h.blk
theorem c1 (h : PolSt C pb w0 w v rs o) : w.cell? ⟨pb, 1, none⟩ = some (.bool o) := cell_of_row _ _ _ _ _ _ h.blk
theorem f0 (h : PolSt C pb w0 w v rs o) : w.frozen? ⟨pb, 0, none⟩ = false := frozen_of_row _ _ _ _ _ h.blk
theorem f1 (h : PolSt C pb w0 w v rs o) : w.frozen? ⟨pb, 1, none⟩ = false := frozen_of_row _ _ _ _ _ h.blk
theorem ltS (h : PolSt C pb w0 w v rs o) : pb < w.heap.size := Nat.lt_of_lt_of_le h.lt h.size
theorem form (h : PolSt C pb w0 w v rs o) : ∃ ao ca, v = .slice ao rs.length ca := by
  rcases h.own.2 with ⟨hv, hn⟩ | ⟨g, cap, cur, hv, _⟩
  · exact ⟨none, 0, by rw [hv, hn]⟩
  · exact ⟨_, _, hv⟩
theorem later (h : PolSt C pb w0 w v rs o) (hb : Below w.heap.size w w') : PolSt C pb w0 w' v rs o :=
  ⟨(hb.block _ h.ltS).trans h.blk,
    h.own.kept (row := none) ⟨hb.os, hb.tape, hb.output, hb.size, fun k hk _ => hb.block k hk⟩ (by
      rcases h.own.2 with ⟨hv, _⟩ | ⟨g, cap, cur, hv, _⟩
      · exact .inl (by rw [hv]; rfl)
      · exact .inr (by rw [hv]; simp [Value.ownBlock])),
    h.lt, Nat.le_trans h.size hb.size, hb.os.trans h.os, hb.tape.trans h.tape, hb.output.trans h.output,
    fun k hk hne => (hb.block k (Nat.lt_of_lt_of_le hk h.size)).trans (h.keep k hk hne), h.eight⟩
/-- other is written -/
theorem setO (h : PolSt C pb w0 w v rs o) (x : Bool) : PolSt C pb w0 (w.setCell ⟨pb, 1, none⟩ (.bool x)) v rs x := by
  refine ⟨?_, ownsRow_setCell_below h.own h.lt _, h.lt, by simpa using h.size, h.os, h.tape, h.output, ?_, h.eight⟩
  · rw [heap_setCell_same w pb 1 _ _ _ h.blk]; rfl
  · intro k hk hne
    rw [heap_setCell_other _ _ _ _ (fun e => hne (by simpa using e))]; exact h.keep k hk hne
/-- a rule more: the row has grown, then the slice is written -/
theorem more (h : PolSt C pb w0 w v rs o) (r : RuleD) (h8 : r.me.length = 8) {ob : Obj} {g cap : Nat} {w3 : World} (hg : (w.alloc ob).grownBy w3 v.ownBlock)
    (ho : w3.ownsRow C 67 10 (.slice (some ⟨g, 0, none⟩) (rs.length + 1) cap) (rs.length + 1) (rulesC (rs ++ [r]))) :
    PolSt C pb w0 (w3.setCell ⟨pb, 0, none⟩ (.slice (some ⟨g, 0, none⟩) (rs.length + 1) cap)) (.slice (some ⟨g, 0, none⟩) (rs.length + 1) cap) (rs ++ [r]) o := by
  have hs := h.size
  have hl := h.lt
  have hgs := hg.size
  have hsz : (w.alloc ob).heap.size = w.heap.size + 1 := by simp
  have hv : ∀ k, v.ownBlock = some k → C ≤ k := fun k hk => (h.own.lt k hk).1
  have hk : ∀ k, k < C → w3.heap[k]? = w.heap[k]? := fun k hk =>
    (hg.block k (by omega) (fun e => by have := hv k e.symm; omega)).trans (heap_alloc_old _ _ (by omega))
  have hg0 : C ≤ g := (ho.lt g rfl).1
  refine ⟨?_, ?_, hl, by simp; omega, hg.os.trans h.os, hg.tape.trans h.tape, hg.output.trans h.output, ?_, ?_⟩
  · have := heap_setCell_same w3 pb 0 #[v, .bool o] 24 (.slice (some ⟨g, 0, none⟩) (rs.length + 1) cap) ((hk pb hl).trans h.blk)
    rw [this]; rfl
  · rw [show (rs ++ [r]).length = rs.length + 1 by simp]
    exact ownsRow_setCell_other ho (by simp [Value.ownBlock]; omega) _
  · intro k hk' hne
    rw [heap_setCell_other _ _ _ _ (fun e => hne (by simpa using e)), hk k hk']; exact h.keep k hk' hne
  · intro x hx
    rcases List.mem_append.1 hx with hx | hx
    · exact h.eight x hx
    · simp only [List.mem_cons, List.not_mem_nil, or_false] at hx; subst hx; exact h8
/-- the rule's own block is made, the row grown: not yet stored -/
theorem mid (h : PolSt C pb w0 w v rs o) {ob : Obj} {w3 : World} (hg : (w.alloc ob).drew.grownBy w3 v.ownBlock) : w3.cell? ⟨pb, 0, none⟩ = some v ∧ w3.frozen? ⟨pb, 0, none⟩ = false := by
  have hs := h.size
  have hl := h.lt
  have hk : w3.heap[pb]? = w.heap[pb]? :=
    (hg.block pb (by simp; omega) (fun e => by have := (h.own.lt pb e.symm).1; omega)).trans (heap_alloc_old _ _ (by omega))
  exact ⟨cell_of_row _ _ _ _ _ _ (hk.trans h.blk), frozen_of_row _ _ _ _ _ (hk.trans h.blk)⟩
end PolSt
end Go.Proofs.YtemanjahkohcpaaGreatDoor

namespace Go.Proofs.YtemanjahkohcpaaGreatDoor
open Go.RowKit WP
theorem set10 (P Q : List Value) (n : Nat) (hP : P.length = n) (a0 a1 a2 a3 a4 a5 a6 a7 a8 a9 b0 b1 b2 b3 b4 b5 b6 b7 b8 b9 : Value) :
    ((((((((((P ++ ([a0, a1, a2, a3, a4, a5, a6, a7, a8, a9] ++ Q)).set n b0).set (n + 1) b1).set (n + 2) b2).set (n + 3) b3).set (n + 4) b4).set (n + 5) b5).set (n + 6) b6).set (n + 7) b7).set (n + 8) b8).set (n + 9) b9 = P ++ ([b0, b1, b2, b3, b4, b5, b6, b7, b8, b9] ++ Q) := by
  subst hP
  simp [List.set_append_right]
theorem rulesC_len (rs : List RuleD) (h : ∀ r ∈ rs, r.me.length = 8) : (rulesC rs).length = rs.length * 10 := by
  induction rs with
  | nil => rfl
  | cons r rs ih =>
    have e : rulesC (r :: rs) = ruleC r ++ rulesC rs := rfl
    rw [e, List.length_append, ruleC_len r (h r (by simp)), ih (fun x hx => h x (by simp [hx])), List.length_cons]; omega
theorem vw_lit (l : List UInt32) (h : l.length = 8) : vw l = [.int .u32 (wAt l 0), .int .u32 (wAt l 1), .int .u32 (wAt l 2), .int .u32 (wAt l 3), .int .u32 (wAt l 4), .int .u32 (wAt l 5), .int .u32 (wAt l 6), .int .u32 (wAt l 7)] :=
  congrArg Array.toList (vw_lit8 l h)
theorem ruleC_lits (r : RuleD) (h : r.me.length = 8) : ruleC r = [.bool r.allow, .string r.name, .int .u32 (wAt r.me 0), .int .u32 (wAt r.me 1), .int .u32 (wAt r.me 2), .int .u32 (wAt r.me 3), .int .u32 (wAt r.me 4), .int .u32 (wAt r.me 5), .int .u32 (wAt r.me 6), .int .u32 (wAt r.me 7)] := by
  unfold ruleC; rw [vw_lit r.me h]
def setR (w : World) (B at_ : Nat) (t : RuleD) : World :=
  (((((((((w.setCell ⟨B, at_, none⟩ (.bool t.allow)).setCell ⟨B, at_ + 1, none⟩ (.string t.name)).setCell ⟨B, at_ + 2, none⟩ (.int .u32 (wAt t.me 0))).setCell ⟨B, at_ + 3, none⟩ (.int .u32 (wAt t.me 1))).setCell ⟨B, at_ + 4, none⟩ (.int .u32 (wAt t.me 2))).setCell ⟨B, at_ + 5, none⟩ (.int .u32 (wAt t.me 3))).setCell ⟨B, at_ + 6, none⟩ (.int .u32 (wAt t.me 4))).setCell ⟨B, at_ + 7, none⟩ (.int .u32 (wAt t.me 5))).setCell ⟨B, at_ + 8, none⟩ (.int .u32 (wAt t.me 6))).setCell ⟨B, at_ + 9, none⟩ (.int .u32 (wAt t.me 7))
theorem store10 {w : World} {base : Nat} {ty : TypeId} {B q cap i : Nat} {D T : List RuleD} {t : RuleD} (h : w.ownsRow base ty 10 (.slice (some ⟨B, 0, none⟩) q cap) q (rulesC (D ++ t :: T))) (hi : D.length = i) (h8 : ∀ r ∈ D ++ t :: T, r.me.length = 8) (t' : RuleD) (h8' : t'.me.length = 8) :
    (setR w B (i * 10) t').ownsRow base ty 10 (.slice (some ⟨B, 0, none⟩) q cap) q (rulesC (D ++ t' :: T)) ∧ Touch [.slice (some ⟨B, 0, none⟩) q cap] w (setR w B (i * 10) t') := by
  have s0 := h.stored (i * 10) (.bool t'.allow)
  have s1 := s0.1.stored (i * 10 + 1) (.string t'.name)
  have s2 := s1.1.stored (i * 10 + 2) (.int .u32 (wAt t'.me 0))
  have s3 := s2.1.stored (i * 10 + 3) (.int .u32 (wAt t'.me 1))
  have s4 := s3.1.stored (i * 10 + 4) (.int .u32 (wAt t'.me 2))
  have s5 := s4.1.stored (i * 10 + 5) (.int .u32 (wAt t'.me 3))
  have s6 := s5.1.stored (i * 10 + 6) (.int .u32 (wAt t'.me 4))
  have s7 := s6.1.stored (i * 10 + 7) (.int .u32 (wAt t'.me 5))
  have s8 := s7.1.stored (i * 10 + 8) (.int .u32 (wAt t'.me 6))
  have s9 := s8.1.stored (i * 10 + 9) (.int .u32 (wAt t'.me 7))
  have e : ∀ x : RuleD, rulesC (D ++ x :: T) = rulesC D ++ (ruleC x ++ rulesC T) := fun x => by rw [rulesC_append]; rfl
  have hs := set10 (rulesC D) (rulesC T) (i * 10) (by rw [rulesC_len D (fun r hr => h8 r (by simp [hr])), hi]) (.bool t.allow) (.string t.name) (.int .u32 (wAt t.me 0)) (.int .u32 (wAt t.me 1)) (.int .u32 (wAt t.me 2)) (.int .u32 (wAt t.me 3)) (.int .u32 (wAt t.me 4)) (.int .u32 (wAt t.me 5)) (.int .u32 (wAt t.me 6)) (.int .u32 (wAt t.me 7))
    (.bool t'.allow) (.string t'.name) (.int .u32 (wAt t'.me 0)) (.int .u32 (wAt t'.me 1)) (.int .u32 (wAt t'.me 2)) (.int .u32 (wAt t'.me 3)) (.int .u32 (wAt t'.me 4)) (.int .u32 (wAt t'.me 5)) (.int .u32 (wAt t'.me 6)) (.int .u32 (wAt t'.me 7))
  rw [← ruleC_lits t (h8 t (by simp)), ← ruleC_lits t' h8', ← e, ← e] at hs
  have hf := s9.1
  rw [hs] at hf
  have k : ∀ {W W' : World}, W.grownBy W' (Value.slice (some ⟨B, 0, none⟩) q cap).ownBlock → Touch [.slice (some ⟨B, 0, none⟩) q cap] W W' := fun hg => Touch.grown hg (List.mem_singleton_self _)
  exact ⟨hf, ((((((((k s0.2).trans (k s1.2)).trans (k s2.2)).trans (k s3.2)).trans (k s4.2)).trans (k s5.2)).trans (k s6.2)).trans (k s7.2)).trans (k s8.2) |>.trans (k s9.2)⟩
theorem rules_at : ∀ (rs : List RuleD) (i : Nat) (hi : i < rs.length), (∀ x ∈ rs, x.me.length = 8) → ∀ j, j < 10 → (rulesC rs)[i * 10 + j]? = (ruleC rs[i])[j]?
  | x :: rs, 0, _, hl, j, hj => by
    have e : rulesC (x :: rs) = ruleC x ++ rulesC rs := rfl
    rw [e, Nat.zero_mul, Nat.zero_add, List.getElem?_append_left (by rw [ruleC_len x (hl x (by simp))]; exact hj)]; rfl
  | x :: rs, i + 1, hi, hl, j, hj => by
    have e : rulesC (x :: rs) = ruleC x ++ rulesC rs := rfl
    have hx := ruleC_len x (hl x (by simp))
    rw [e, List.getElem?_append_right (by omega), hx, show (i + 1) * 10 + j - 10 = i * 10 + j by omega]
    exact rules_at rs i (by simpa using hi) (fun y hy => hl y (by simp [hy])) j hj
/-- one rule of a row that reads -/
theorem Reads.rule {w : World} {n : Nat} {g cap : Nat} {rs : List RuleD} (h : Reads w 10 (.slice (some ⟨g, 0, none⟩) n cap) n (rulesC rs)) (h8 : ∀ x ∈ rs, x.me.length = 8) (i : Nat) (hi : i < rs.length) : w.rangeAt g (i * 10) (ruleC rs[i]) := by
  rcases h.2 with ⟨hv, _⟩ | ⟨g', cap', hv, _, _, _, hc⟩
  · simp at hv
  · simp only [Value.slice.injEq, Option.some.injEq, Addr.mk.injEq, and_true, true_and] at hv
    obtain ⟨rfl, rfl⟩ := hv
    intro j u hu
    have hj : j < 10 := by have := (List.getElem?_eq_some_iff.1 hu).1; rw [ruleC_len _ (h8 _ (List.getElem_mem hi))] at this; exact this
    exact hc _ _ ((rules_at rs i hi h8 j hj).trans hu)
theorem Reads.rules {w : World} {v : Value} {n : Nat} {rs : List RuleD} (h : Reads w 10 v n (rulesC rs)) (h8 : ∀ x ∈ rs, x.me.length = 8) : Rules w v rs := by
  have hl := h.1
  rw [rulesC_len rs h8] at hl
  have hn : n = rs.length := by omega
  subst hn
  rcases id h.2 with ⟨rfl, hz⟩ | ⟨g, cap, rfl, hg, h1, h2, hc⟩
  · have : rs = [] := List.eq_nil_of_length_eq_zero hz
    subst this
    exact ⟨none, 0, rfl, Nat.le_refl _, by decide, h8, .inl rfl⟩
  · refine ⟨some ⟨g, 0, none⟩, cap, rfl, h1, by simp only [maxLen] at h2; omega, h8, .inr ⟨g, 0, rfl, hg, fun i r hr => ?_⟩⟩
    have hi := (List.getElem?_eq_some_iff.1 hr).1
    have he := (List.getElem?_eq_some_iff.1 hr).2
    rw [Nat.zero_add, ← he]
    exact h.rule h8 i hi
theorem Reads.onto {w w' : World} {size n m : Nat} {v v0 v' : Value} {xs ys : List Value} (h0 : Reads w size v0 n xs) (hk : Reads w' size v m (xs ++ ys)) (hO : Onto w v w' v') : Reads w' size v0 n xs := by
  refine ⟨h0.1, ?_⟩
  rcases h0.2 with hn | ⟨g, cap, rfl, hg, h1, h2, hc⟩
  · exact .inl hn
  · refine .inr ⟨g, cap, rfl, Nat.lt_of_lt_of_le hg hO.1.size, h1, h2, fun j u hu => ?_⟩
    by_cases hb : v.ownBlock = some g
    · rcases hk.2 with ⟨rfl, _⟩ | ⟨g', cap', rfl, _, _, _, hc'⟩
      · simp [Value.ownBlock] at hb
      · simp only [Value.ownBlock, Option.some.injEq] at hb
        subst hb
        exact hc' j u (by rw [List.getElem?_append_left (List.getElem?_eq_some_iff.1 hu).1]; exact hu)
    · exact (World.cell?_of_block (hO.1.block g hg (fun e => hb e.symm))).trans (hc j u hu)
theorem Touch.near {w wr w' : World} {v0 v v' : Value} (h : Touch [v0] w wr) (hn : Near w v0 v) (hO : Onto wr v w' v') : Touch [v0] w w' := by
  refine ⟨hO.1.os.trans h.os, hO.1.tape.trans h.tape, hO.1.output.trans h.output, Nat.le_trans h.size hO.1.size, fun k hk hf => ?_⟩
  have h0 := hf v0 (by simp)
  refine (hO.1.block k (Nat.lt_of_lt_of_le hk h.size) (fun e => ?_)).trans (h.block k hk hf)
  rcases hn with hb | hb
  · exact h0 (by rw [← hb]; exact e.symm)
  · have := hb k e.symm; omega
theorem Near.onto {w wr w' : World} {v0 v v' : Value} (hn : Near w v0 v) (hO : Onto wr v w' v') (hs : w.heap.size ≤ wr.heap.size) : Near w v0 v' := hn.trans hO.2 hs
def rslR (R : Nat) : Value := .slice (some ⟨R, 0, none⟩) 0 0
theorem touchR (R : Nat) (w : World) (a0 a1 a2 a3 a4 a5 a6 a7 a8 a9 : Value) : Touch [rslR R] w ((((((((((w.setCell ⟨R, 0, none⟩ a0).setCell ⟨R, 1, none⟩ a1).setCell ⟨R, 2, none⟩ a2).setCell ⟨R, 3, none⟩ a3).setCell ⟨R, 4, none⟩ a4).setCell ⟨R, 5, none⟩ a5).setCell ⟨R, 6, none⟩ a6).setCell ⟨R, 7, none⟩ a7).setCell ⟨R, 8, none⟩ a8).setCell ⟨R, 9, none⟩ a9) := by
  have one : ∀ (W : World) (c : Nat) (a : Value), Touch [rslR R] W (W.setCell ⟨R, c, none⟩ a) := fun W c a =>
    ⟨rfl, rfl, rfl, by simp [World.setCell], fun k _ hf => Below.heap_setCell _ _ _ _ (fun e => hf _ (List.mem_singleton_self _) (by rw [e]; rfl))⟩
  exact (((((((((one w 0 a0).trans (one _ 1 a1)).trans (one _ 2 a2)).trans (one _ 3 a3)).trans (one _ 4 a4)).trans (one _ 5 a5)).trans (one _ 6 a6)).trans (one _ 7 a7)).trans (one _ 8 a8)).trans (one _ 9 a9)
theorem Touch.drewB {S : List Value} {w w' : World} (h : Touch S w w') : Touch S w w'.drew := ⟨h.os, h.tape, h.output, h.size, h.block⟩
/-- a marked rule -/
def mkR (m : ByteArray) : RuleD := ⟨false, m, List.replicate 8 0⟩
theorem mkR_lit (m : ByteArray) : ruleC (mkR m) = [.bool false, .string m, .int .u32 0, .int .u32 0, .int .u32 0, .int .u32 0, .int .u32 0, .int .u32 0, .int .u32 0, .int .u32 0] := by
  unfold ruleC mkR vw; rfl
theorem mkR_eight (m : ByteArray) (n : Nat) : ∀ x ∈ List.replicate n (mkR m), x.me.length = 8 := by
  intro x hx
  rw [(List.mem_replicate.1 hx).2]; rfl
end Go.Proofs.YtemanjahkohcpaaGreatDoor

namespace Go.Proofs.YtemanjahkohcpaaGreatDoor
open Go.RowKit WP
set_option maxRecDepth 100000
theorem fieldsR : (Tryz.prog.fieldsOf 67).toList.map (fun f => (f.name, f.type, f.offset)) = [("Allow", 4, 0), ("Name", 9, 1), ("Measurement", 26, 2)] := by kernel_rfl
theorem structR : Tryz.prog.underlying 67 = some (.struct (Tryz.prog.fieldsOf 67)) := by kernel_rfl
theorem stoodR : Tryz.prog.stoodInHeld 67 = false := by kernel_rfl
theorem plainB : Tryz.prog.plainKey 4 = true := by kernel_rfl
theorem plainS : Tryz.prog.plainKey 9 = true := by kernel_rfl
theorem eq_rule (r : RuleD) (h8 : r.me.length = 8) (w : World) : (Op.equalIn 10000 67 (.agg (ruleC r).toArray) (.agg (ruleC r).toArray)).run Tryz.prog w = .ok true w := by
  obtain ⟨f0, f1, f2, hf, h0, h1, h2⟩ := three_of fieldsR
  simp only [Prod.mk.injEq] at h0 h1 h2
  obtain ⟨n0, t0, o0⟩ := h0
  obtain ⟨n1, t1, o1⟩ := h1
  obtain ⟨n2, t2, o2⟩ := h2
  rw [show (10000 : Nat) = 9999 + 1 from rfl, run_equalIn_struct w 9999 _ _ _ structR stoodR, hf]
  have x0 := run_equalIn_bool' (P := Tryz.prog) w 9998 4 r.allow r.allow Tryz.underlying4
  have x1 := run_equalIn_string (P := Tryz.prog) w 9998 9 r.name r.name Tryz.underlying9
  have x2 := eq_wordsD 9997 r.me r.me w h8 h8
  simp only [Op.eqFields, n0, n1, n2, t0, t1, t2, o0, o1, o2]
  rw [if_pos (by decide), if_pos (by decide), if_pos (by decide)]
  have y0 := run_part_plain (P := Tryz.prog) (xs := (ruleC r).toArray) (off := 0) (v := .bool r.allow) w plainB rfl
  have y1 := run_part_plain (P := Tryz.prog) (xs := (ruleC r).toArray) (off := 1) (v := .string r.name) w plainS rfl
  have y2 := part_words (ruleC r) 2 r.me w (by unfold ruleC; simp only [List.drop_succ_cons, List.drop_zero]; exact List.take_of_length_le (by simp [h8]))
  simp only [Sem.run_bind, y0, Result.andThen_ok]
  rw [show (9999 : Nat) = 9998 + 1 from rfl, x0]
  simp only [Result.andThen_ok]
  rw [if_neg (by simp)]
  simp only [Sem.run_bind, y1, Result.andThen_ok]
  rw [x1]
  simp only [Result.andThen_ok]
  rw [if_neg (by simp)]
  simp only [Sem.run_bind, y2, Result.andThen_ok]
  rw [show (9998 + 1 : Nat) = 9997 + 1 + 1 from rfl, x2]
  simp only [Result.andThen_ok]
  rw [if_neg (by simp)]
  rfl
end Go.Proofs.YtemanjahkohcpaaGreatDoor

namespace Go.Proofs.YtemanjahkohcpaaGreatDoor
open Go.RowKit WP
theorem Rules.range {w : World} {v : Value} {rs : List RuleD} (h : Rules w v rs) : ∃ ao cap, v = .slice ao rs.length cap ∧ rs.length ≤ cap ∧ cap ≤ 9223372036854775807 ∧ (rs = [] ∨ ∃ b off, ao = some ⟨b, off, none⟩ ∧ b < w.heap.size ∧ w.rangeAt b off (rulesC rs)) := by
  obtain ⟨ao, cap, h1, h2, h3, h8, h5⟩ := h
  refine ⟨ao, cap, h1, h2, h3, h5.imp id ?_⟩
  rintro ⟨b, off, e, hl, hr⟩
  refine ⟨b, off, e, hl, fun j u hu => ?_⟩
  have hj : j < rs.length * 10 := by have := (List.getElem?_eq_some_iff.1 hu).1; rwa [rulesC_len rs h8] at this
  have hi : j / 10 < rs.length := by omega
  have h1 := rules_at rs (j / 10) hi h8 (j % 10) (by omega)
  rw [show j / 10 * 10 + j % 10 = j by omega] at h1
  have h2 := hr (j / 10) rs[j / 10] (List.getElem?_eq_getElem hi) (j % 10) u (by rw [← h1]; exact hu)
  rwa [show off + j / 10 * 10 + j % 10 = off + j by omega] at h2
section
variable {P : Program}
theorem run_append_zero {w : World} (base : Nat) (t ty e : TypeId) (i : TypeInfo) (size cap : Nat) (ht : P.underlying t = some (.slice e)) (hi : P.info? e = some i)
    (v : Value) (n : Nat) (xs : List Value) (hown : w.ownsRow base e size v n xs) :
    (Builtin.append_ #[t, t] ty #[v, .slice none 0 cap]).run P w = .ok v w := by
  rcases hown.2 with ⟨rfl, rfl⟩ | ⟨g, cap, cur, rfl, _, _, hnc, _⟩
  · simp [Builtin.append_, run_underlying ht, sizeOf, typeInfo, hi, Builtin.lenOf, Builtin.firstCells]
  · simp [Builtin.append_, run_underlying ht, sizeOf, typeInfo, hi, Builtin.lenOf, Builtin.firstCells, hnc, storeCells]
theorem wpList_append_rules (w : World) {ops : Array Oper} {rest : List Oper} {o : Oper} {a : Act} {Q : Exit → Act → World → Prop} (hgd : o.guard = none) (s x : Operand) (t : TypeId)
    (ho : o.op = .call { callee := .builtin .append, args := #[s, x], argTypes := #[t, t] })
    (base : Nat) (e : TypeId) (i : TypeInfo) (z : Value) (bytes : Nat) (ht : P.underlying t = some (.slice e)) (hi : P.info? e = some i) (hz : i.zero = some z)
    (hsize : i.size = 10) (hby : i.bytes = bytes) (hzs : z.cells.size = 10)
    (v : Value) (n : Nat) (xs : List Value) (hs : a.eval s = v) (hown : w.ownsRow base e 10 v n xs)
    (ao : Option Addr) (rs : List RuleD) (c : Nat) (hx : a.eval x = .slice ao rs.length c) (h8 : ∀ r ∈ rs, r.me.length = 8) (hsrc : rs = [] ∨ ∃ b off, ao = some ⟨b, off, none⟩ ∧ b < w.heap.size ∧ w.rangeAt b off (rulesC rs))
    (h63 : n + rs.length ≤ maxLen) (hbytes : (n + rs.length) * bytes ≤ 140737488355328) (hbase : base ≤ w.heap.size)
    (h : ∀ v' w', w'.ownsRow base e 10 v' (n + rs.length) (xs ++ rulesC rs) → Onto w v w' v' → wpList P ops Q rest (a.put o.dst v') w') : wpList P ops Q (o :: rest) a w := by
  cases ao with
  | none =>
    have hr : rs = [] := hsrc.resolve_right (by rintro ⟨b, off, hh, _⟩; cases hh)
    subst hr
    refine wpList_plain hgd fun K hK => ?_
    have hrun := run_append_zero (P := P) (w := w) base t o.type e i 10 c ht hi v n xs hown
    unfold Oper.wp execOp
    simp only [ho, resolve, invoke, builtin, Sem.run_bind, Sem.run_pure, Result.andThen_ok, List.map_toArray, List.map_cons, List.map_nil, hs, hx, List.length_nil, hrun]
    exact hK _ _ (h v w (by simpa [rulesC] using hown) ⟨⟨rfl, rfl, rfl, Nat.le_refl _, fun _ _ _ => rfl⟩, .inl rfl⟩)
  | some ad =>
    refine wpList_append_onto' w hgd s x t ho base e i z 10 bytes ht hi hz hsize hby hzs (by decide) v n xs hs hown ad rs.length c (rulesC rs) hx (rulesC_len rs h8) (fun j u hu => ?_) (fun u hu => ?_) h63 hbytes hbase h
    · rcases hsrc with rfl | ⟨b, off, hh, _, hr⟩
      · simp [rulesC] at hu
      · simp only [Option.some.injEq] at hh
        subst hh
        have hadd : (⟨b, off, none⟩ : Addr).add j = ⟨b, off + j, none⟩ := by unfold Addr.add; split <;> simp_all
        rw [hadd]; exact hr j u hu
    · obtain ⟨r, _, hr⟩ := List.mem_flatMap.1 hu
      exact ruleC_one r u hr
theorem run_copy_wide (w : World) (dT sT ty elem : TypeId) (g o dLen dCap : Nat) (a : Addr) (sLen sCap size : Nat) (cur : Array Value) (t : TypeId) (cs : List Value)
    (hu : P.underlying dT = some (.slice elem)) (hs : (P.info? elem).map (·.size) = some size)
    (hg : w.heap[g]? = some (.cells cur t (0, 0))) (hn : cs.length = Nat.min sLen dLen * size)
    (hsrc : ∀ j v, cs[j]? = some v → w.cell? (a.add j) = some v) (hfit : o + cs.length ≤ cur.size) (h1 : ∀ v ∈ cs, v.oneCell' = true) :
    (Builtin.copy_ #[dT, sT] ty #[.slice (some ⟨g, o, none⟩) dLen dCap, .slice (some a) sLen sCap]).run P w =
      .ok (goInt (Nat.min sLen dLen)) (w.setRow g (cur.toList.take o ++ cs ++ cur.toList.drop (o + cs.length)).toArray) := by
  have hl := run_loadCells_list (P := P) w a cs hsrc
  have hst := run_storeCells_at P g o t cs 0 cur w hg (by simpa using hfit) h1
  cases hq : P.info? elem with
  | none => simp [hq] at hs
  | some i =>
    have hi : i.size = size := by simpa [hq] using hs
    simp [Builtin.copy_, run_underlying hu, Builtin.lenOf, Builtin.firstCells, sizeOf, typeInfo, hq, hi, ← hn, hl, hst]
end
end Go.Proofs.YtemanjahkohcpaaGreatDoor
