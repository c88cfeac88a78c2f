/- What attest's line and ParsePolicy compute; the policy that is being put together, in memory. -/
import Derived.Test.YtemanjahkohcpaaDoorERef
import Derived.Test.YtemanjahkohcpaaDoorJn29
import Derived.Test.YtemanjahkohcpaaDoorADec
import Derived.Test.YtemanjahkohcpaaDoorTLinJn
import Derived.Test.YtemanjahkohcpaaDoorTWdsJn
namespace Go.Proofs.YtemanjahkohcpaaDoor
open Go.RowKit WP
/-- whether a word says allow -/
def saysF (s : ByteArray) : Option Bool := if s = allowB then some true else if s = denyB then some false else none
/-- eight words of their digits -/
def eightF (s : ByteArray) : Option (List UInt32) := if (parseAllL s).length = 8 ∧ hexAllL (parseAllL s) = strL s then some (parseAllL s) else none
theorem eightF_some (s : ByteArray) (l : List UInt32) (h8 : l.length = 8) (h : hexAllL l = strL s) : eightF s = some l := by
  have e : s = ⟨(hexAllL l).toArray⟩ := by
    unfold strL at h; rw [h]
  have hp : parseAllL s = l := by rw [e]; exact parseAll_hex l
  unfold eightF
  rw [hp, if_pos ⟨h8, h⟩]
theorem eightF_none (s : ByteArray) (h : NoWords s) : eightF s = none := by
  unfold eightF
  rw [if_neg]
  rintro ⟨h8, e⟩
  exact h _ h8 e
/-- a line's words into the policy: whether it was the last, the rules, other -/
def lineF (ws : List W) (rs : List RuleD) (o : Bool) : Option (Bool × List RuleD × Bool) :=
  if (ws.any fun x => x.2.1) = true then none else
  match ws with
  | [a, b] => if a.1 = otherB then (saysF b.1).map fun x => (true, rs, x) else none
  | [a, b, c] => if nameF b.1 = true then (saysF a.1).bind fun x => (eightF c.1).bind fun m => if rs.length = 256 then none else some (false, rs ++ [⟨x, b.1, m⟩], o) else none
  | _ => none
/-- a policy's lines from one on: its rules and other, or the line at which it is refused -/
def polA : List ByteArray → Nat → Bool → List RuleD → Bool → (List RuleD × Bool) ⊕ Nat
  | [], i, last, rs, o => if last = true then .inl (rs, o) else .inr (i + 1)
  | t :: ts, i, last, rs, o =>
    match wordsF t with
    | .inr _ => .inr (i + 1)
    | .inl [] => polA ts (i + 1) last rs o
    | .inl (x :: ws) => if last = true then .inr (i + 1) else
      match lineF (x :: ws) rs o with
      | none => .inr (i + 1)
      | some (l', rs', o') => polA ts (i + 1) l' rs' o'
def parsePolF (s : ByteArray) : (List RuleD × Bool) ⊕ Nat := polA (linesF s) 0 false [] false
/-- the rules' cells -/
def rulesC (rs : List RuleD) : List Value := rs.flatMap ruleC
theorem rulesC_append (a b : List RuleD) : rulesC (a ++ b) = rulesC a ++ rulesC b := by simp [rulesC]
/-- the policy that is being put together: at pb, its rules in a row of the call's own; all else below C stays -/
structure PolSt (C pb : Nat) (w0 w : World) (v : Value) (rs : List RuleD) (o : Bool) : Prop where
  blk : w.heap[pb]? = some (.cells #[v, .bool o] 36 (0, 0))
  own : w.ownsRow C 42 10 v rs.length (rulesC rs)
  lt : pb < C
  size : C ≤ w.heap.size
  os : w.os = w0.os
  tape : w.tape = w0.tape
  output : w.output = w0.output
  keep : ∀ k, k < C → k ≠ pb → w.heap[k]? = w0.heap[k]?
  eight : ∀ r ∈ rs, r.me.length = 8
namespace PolSt
variable {C pb : Nat} {w0 w w' : World} {v : Value} {rs : List RuleD} {o : Bool}
theorem c0 (h : PolSt C pb w0 w v rs o) : w.cell? ⟨pb, 0, none⟩ = some v := cell_of_row _ _ _ _ _ _ h.blk
theorem c1 (h : PolSt C pb w0 w v rs o) : w.cell? ⟨pb, 1, none⟩ = some (.bool o) := cell_of_row _ _ _ _ _ _ h.blk
theorem f0 (h : PolSt C pb w0 w v rs o) : w.frozen? ⟨pb, 0, none⟩ = false := frozen_of_row _ _ _ _ _ h.blk
theorem f1 (h : PolSt C pb w0 w v rs o) : w.frozen? ⟨pb, 1, none⟩ = false := frozen_of_row _ _ _ _ _ h.blk
theorem ltS (h : PolSt C pb w0 w v rs o) : pb < w.heap.size := Nat.lt_of_lt_of_le h.lt h.size
theorem form (h : PolSt C pb w0 w v rs o) : ∃ ao ca, v = .slice ao rs.length ca := by
  rcases h.own.2 with ⟨hv, hn⟩ | ⟨g, cap, cur, hv, _⟩
  · exact ⟨none, 0, by rw [hv, hn]⟩
  · exact ⟨_, _, hv⟩
theorem later (h : PolSt C pb w0 w v rs o) (hb : Below w.heap.size w w') : PolSt C pb w0 w' v rs o :=
  ⟨(hb.block _ h.ltS).trans h.blk,
    h.own.kept (row := none) ⟨hb.os, hb.tape, hb.output, hb.size, fun k hk _ => hb.block k hk⟩ (by
      rcases h.own.2 with ⟨hv, _⟩ | ⟨g, cap, cur, hv, _⟩
      · exact .inl (by rw [hv]; rfl)
      · exact .inr (by rw [hv]; simp [Value.ownBlock])),
    h.lt, Nat.le_trans h.size hb.size, hb.os.trans h.os, hb.tape.trans h.tape, hb.output.trans h.output,
    fun k hk hne => (hb.block k (Nat.lt_of_lt_of_le hk h.size)).trans (h.keep k hk hne), h.eight⟩
/-- other is written -/
theorem setO (h : PolSt C pb w0 w v rs o) (x : Bool) : PolSt C pb w0 (w.setCell ⟨pb, 1, none⟩ (.bool x)) v rs x := by
  refine ⟨?_, ownsRow_setCell_below h.own h.lt _, h.lt, by simpa using h.size, h.os, h.tape, h.output, ?_, h.eight⟩
  · rw [heap_setCell_same w pb 1 _ _ _ h.blk]; rfl
  · intro k hk hne
    rw [heap_setCell_other _ _ _ _ (fun e => hne (by simpa using e))]; exact h.keep k hk hne
/-- a rule more: the row has grown, then the slice is written -/
theorem more (h : PolSt C pb w0 w v rs o) (r : RuleD) (h8 : r.me.length = 8) {ob : Obj} {g cap : Nat} {w3 : World} (hg : (w.alloc ob).grownBy w3 v.ownBlock)
    (ho : w3.ownsRow C 42 10 (.slice (some ⟨g, 0, none⟩) (rs.length + 1) cap) (rs.length + 1) (rulesC (rs ++ [r]))) :
    PolSt C pb w0 (w3.setCell ⟨pb, 0, none⟩ (.slice (some ⟨g, 0, none⟩) (rs.length + 1) cap)) (.slice (some ⟨g, 0, none⟩) (rs.length + 1) cap) (rs ++ [r]) o := by
  have hs := h.size
  have hl := h.lt
  have hgs := hg.size
  have hsz : (w.alloc ob).heap.size = w.heap.size + 1 := by simp
  have hv : ∀ k, v.ownBlock = some k → C ≤ k := fun k hk => (h.own.lt k hk).1
  have hk : ∀ k, k < C → w3.heap[k]? = w.heap[k]? := fun k hk =>
    (hg.block k (by omega) (fun e => by have := hv k e.symm; omega)).trans (heap_alloc_old _ _ (by omega))
  have hg0 : C ≤ g := (ho.lt g rfl).1
  refine ⟨?_, ?_, hl, by simp; omega, hg.os.trans h.os, hg.tape.trans h.tape, hg.output.trans h.output, ?_, ?_⟩
  · have := heap_setCell_same w3 pb 0 #[v, .bool o] 36 (.slice (some ⟨g, 0, none⟩) (rs.length + 1) cap) ((hk pb hl).trans h.blk)
    rw [this]; rfl
  · rw [show (rs ++ [r]).length = rs.length + 1 by simp]
    exact ownsRow_setCell_other ho (by simp [Value.ownBlock]; omega) _
  · intro k hk' hne
    rw [heap_setCell_other _ _ _ _ (fun e => hne (by simpa using e)), hk k hk']; exact h.keep k hk' hne
  · intro x hx
    rcases List.mem_append.1 hx with hx | hx
    · exact h.eight x hx
    · simp only [List.mem_cons, List.not_mem_nil, or_false] at hx; subst hx; exact h8
/-- the rule's own block is made, the row grown: not yet stored -/
theorem mid (h : PolSt C pb w0 w v rs o) {ob : Obj} {w3 : World} (hg : (w.alloc ob).drew.grownBy w3 v.ownBlock) : w3.cell? ⟨pb, 0, none⟩ = some v ∧ w3.frozen? ⟨pb, 0, none⟩ = false := by
  have hs := h.size
  have hl := h.lt
  have hk : w3.heap[pb]? = w.heap[pb]? :=
    (hg.block pb (by simp; omega) (fun e => by have := (h.own.lt pb e.symm).1; omega)).trans (heap_alloc_old _ _ (by omega))
  exact ⟨cell_of_row _ _ _ _ _ _ (hk.trans h.blk), frozen_of_row _ _ _ _ _ (hk.trans h.blk)⟩
end PolSt
end Go.Proofs.YtemanjahkohcpaaDoor
