/- Rows of the call's own, apart from one another: what a change of some of them leaves of the others. Over any program. What the world keeps of the library's tables; a drawn region whose callees only make memory. What asm keeps in memory while it reads a text: its reader, rows, map, what waits; faults. -/
import Derived.Test.YtiknookfnameiaaGreatDoorJn14
import Derived.Test.YtiknookfnameiaaGreatDoorTWdPJn
import Derived.Test.YtiknookfnameiaaGreatDoorTNuDJn
import Derived.BigQuiet
import Derived.Maps.OwnSet
namespace Go.Proofs.YtiknookfnameiaaGreatDoor
open Go.RowKit WP
theorem own_below {w w' : World} {base : Nat} {e : TypeId} {size n : Nat} {v : Value} {xs : List Value} (h : w.ownsRow base e size v n xs) (hb : Below w.heap.size w w') : w'.ownsRow base e size v n xs := by
  refine ⟨h.1, ?_⟩
  rcases h.2 with hn | ⟨g, cap, cur, rfl, hbg, hgg, rest⟩
  · exact .inl hn
  · refine .inr ⟨g, cap, cur, rfl, hbg, ?_, rest⟩
    rw [hb.block g (Array.getElem?_eq_some_iff.1 hgg).1]
    exact hgg
theorem own_base {w : World} {base base' : Nat} {e : TypeId} {size n : Nat} {v : Value} {xs : List Value} (h : w.ownsRow base e size v n xs) (hb : base' ≤ base) : w.ownsRow base' e size v n xs := by
  refine ⟨h.1, ?_⟩
  rcases h.2 with hn | ⟨g, cap, cur, rfl, hbg, hgg, rest⟩
  · exact .inl hn
  · exact .inr ⟨g, cap, cur, rfl, Nat.le_trans hb hbg, hgg, rest⟩
theorem own_shape {w : World} {base : Nat} {e : TypeId} {size : Nat} {v : Value} {n : Nat} {xs : List Value} (h : w.ownsRow base e size v n xs) : ∃ ao ca, v = .slice ao n ca ∧ n ≤ ca ∧ ca ≤ 9223372036854775807 := by
  rcases h.2 with ⟨rfl, h0⟩ | ⟨g, cap, cur, rfl, _, _, h1, h2, _⟩
  · exact ⟨none, 0, by rw [h0], by omega, by decide⟩
  · exact ⟨_, _, rfl, h1, h2⟩
/-- two rows in different blocks -/
def Far (u v : Value) : Prop := ∀ k, u.ownBlock = some k → v.ownBlock ≠ some k
theorem Far.symm {u v : Value} (h : Far u v) : Far v u := fun k h1 h2 => h k h2 h1
/-- the blocks of these values, and new ones, are all that is changed -/
structure Touch (S : List Value) (w w' : World) : Prop where
  os : w'.os = w.os
  tape : w'.tape = w.tape
  output : w'.output = w.output
  size : w.heap.size ≤ w'.heap.size
  block : ∀ k, k < w.heap.size → (∀ v ∈ S, v.ownBlock ≠ some k) → w'.heap[k]? = w.heap[k]?
theorem Touch.refl (S : List Value) (w : World) : Touch S w w := ⟨rfl, rfl, rfl, Nat.le_refl _, fun _ _ _ => rfl⟩
/-- v' lies where v lies, or in a new block -/
def Near (w : World) (v v' : Value) : Prop := v'.ownBlock = v.ownBlock ∨ ∀ k, v'.ownBlock = some k → w.heap.size ≤ k
theorem Near.refl (w : World) (v : Value) : Near w v v := .inl rfl
theorem Near.trans {w w' : World} {a b c : Value} (h : Near w a b) (h' : Near w' b c) (hs : w.heap.size ≤ w'.heap.size) : Near w a c := by
  rcases h' with h' | h'
  · rcases h with h | h
    · exact .inl (h'.trans h)
    · exact .inr fun k hk => h k (by rw [← h']; exact hk)
  · exact .inr fun k hk => Nat.le_trans hs (h' k hk)
theorem Near.far {w : World} {v v' y : Value} (h : Near w v v') (hf : Far v y) (hy : ∀ k, y.ownBlock = some k → k < w.heap.size) : Far v' y := by
  intro k h1 h2
  rcases h with hb | hb
  · rw [hb] at h1; exact hf k h1 h2
  · have := hb k h1; have := hy k h2; omega
theorem Touch.trans {S : List Value} {w w1 w2 : World} (h : Touch S w w1) (h' : Touch S w1 w2) : Touch S w w2 :=
  ⟨h'.os.trans h.os, h'.tape.trans h.tape, h'.output.trans h.output, Nat.le_trans h.size h'.size, fun k hk hS => (h'.block k (Nat.lt_of_lt_of_le hk h.size) hS).trans (h.block k hk hS)⟩
theorem Touch.onto {S : List Value} {w w' : World} {v v' : Value} (hO : Onto w v w' v') (hv : v ∈ S) : Touch S w w' :=
  ⟨hO.1.os, hO.1.tape, hO.1.output, hO.1.size, fun k hk hS => hO.1.block k hk fun e => hS v hv e.symm⟩
theorem Touch.grown {S : List Value} {w w' : World} {v : Value} (hg : w.grownBy w' v.ownBlock) (hv : v ∈ S) : Touch S w w' :=
  ⟨hg.os, hg.tape, hg.output, hg.size, fun k hk hS => hg.block k hk fun e => hS v hv e.symm⟩
theorem Touch.of_below {S : List Value} {w w' : World} (hb : Below w.heap.size w w') : Touch S w w' :=
  ⟨hb.os, hb.tape, hb.output, hb.size, fun k hk _ => hb.block k hk⟩
theorem Touch.below {S : List Value} {w w' : World} {B : Nat} (h : Touch S w w') (hB : B ≤ w.heap.size) (hS : ∀ v ∈ S, ∀ k, v.ownBlock = some k → B ≤ k) : Below B w w' :=
  ⟨h.os, h.tape, h.output, h.size, fun k hk => h.block k (by omega) fun v hv e => by have := hS v hv k e; omega⟩
theorem Touch.own {S : List Value} {w w' : World} {base : Nat} {e : TypeId} {size n : Nat} {v : Value} {xs : List Value} (h : w.ownsRow base e size v n xs) (ht : Touch S w w') (hf : ∀ s ∈ S, Far v s) : w'.ownsRow base e size v n xs := by
  refine ⟨h.1, ?_⟩
  rcases h.2 with hn | ⟨g, cap, cur, rfl, hbg, hgg, rest⟩
  · exact .inl hn
  · refine .inr ⟨g, cap, cur, rfl, hbg, ?_, rest⟩
    rw [ht.block g (Array.getElem?_eq_some_iff.1 hgg).1 fun s hs => hf s hs g rfl]
    exact hgg
theorem Touch.cell {S : List Value} {w w' : World} (h : Touch S w w') {a : Addr} {u : Value} (hc : w.cell? a = some u) (hS : ∀ v ∈ S, v.ownBlock ≠ some a.block) : w'.cell? a = some u :=
  (World.cell?_of_block (h.block a.block (World.block_lt_of_cell? w a hc) hS)).trans hc
/-- a row that reads as a list, whoever owns it -/
def Reads (w : World) (size : Nat) (v : Value) (n : Nat) (xs : List Value) : Prop :=
  xs.length = n * size ∧ ((v = .slice none 0 0 ∧ n = 0) ∨ ∃ g cap, v = .slice (some ⟨g, 0, none⟩) n cap ∧ g < w.heap.size ∧ n ≤ cap ∧ cap ≤ maxLen ∧ ∀ j u, xs[j]? = some u → w.cell? ⟨g, j, none⟩ = some u)
theorem Reads.of_own {w : World} {base : Nat} {e : TypeId} {size n : Nat} {v : Value} {xs : List Value} (h : w.ownsRow base e size v n xs) : Reads w size v n xs := by
  refine ⟨h.1, ?_⟩
  rcases h.2 with hn | ⟨g, cap, cur, rfl, hbg, hgg, h1, h2, _⟩
  · exact .inl hn
  · refine .inr ⟨g, cap, rfl, (Array.getElem?_eq_some_iff.1 hgg).1, h1, h2, fun j u hu => ?_⟩
    have := h.cells (g := g) rfl j u hu
    have hadd : (⟨g, 0, none⟩ : Addr).add j = ⟨g, j, none⟩ := by unfold Addr.add; split <;> simp_all
    rwa [hadd] at this
theorem Reads.lt {w : World} {size n : Nat} {v : Value} {xs : List Value} (h : Reads w size v n xs) : ∀ k, v.ownBlock = some k → k < w.heap.size := by
  intro k hk
  rcases h.2 with ⟨rfl, _⟩ | ⟨g, cap, rfl, hg, _⟩
  · simp [Value.ownBlock] at hk
  · simp [Value.ownBlock] at hk; omega
theorem Reads.touch {S : List Value} {w w' : World} {size n : Nat} {v : Value} {xs : List Value} (h : Reads w size v n xs) (ht : Touch S w w') (hf : ∀ s ∈ S, Far v s) : Reads w' size v n xs := by
  refine ⟨h.1, ?_⟩
  rcases h.2 with hn | ⟨g, cap, rfl, hg, h1, h2, hc⟩
  · exact .inl hn
  · exact .inr ⟨g, cap, rfl, Nat.lt_of_lt_of_le hg ht.size, h1, h2, fun j u hu => ht.cell (hc j u hu) fun s hs => hf s hs g rfl⟩
theorem Reads.later {w w' : World} {size n : Nat} {v : Value} {xs : List Value} (h : Reads w size v n xs) (hb : Below w.heap.size w w') : Reads w' size v n xs :=
  h.touch (Touch.of_below (S := []) hb) (by simp)
theorem Reads.cellAt {w : World} {size n : Nat} {v : Value} {xs : List Value} (h : Reads w size v n xs) (hn : n ≠ 0) : ∃ g cap, v = .slice (some ⟨g, 0, none⟩) n cap ∧ g < w.heap.size ∧ n ≤ cap ∧ cap ≤ 9223372036854775807 ∧ ∀ j u, xs[j]? = some u → w.cell? ⟨g, j, none⟩ = some u :=
  h.2.resolve_left fun e => hn e.2
theorem Reads.shape {w : World} {size n : Nat} {v : Value} {xs : List Value} (h : Reads w size v n xs) : ∃ ao cap, v = .slice ao n cap ∧ n ≤ cap ∧ cap ≤ 9223372036854775807 := by
  rcases h.2 with ⟨rfl, rfl⟩ | ⟨g, cap, rfl, hg, h1, h2, hc⟩
  · exact ⟨none, 0, rfl, Nat.le_refl _, by decide⟩
  · exact ⟨_, _, rfl, h1, h2⟩
theorem Reads.rd {w : World} {n : Nat} {v : Value} {xs : List Value} (h : Reads w 1 v n xs) : Rd w v xs := by
  have hl := h.1
  rw [Nat.mul_one] at hl
  rcases h.2 with ⟨rfl, hn⟩ | ⟨g, cap, rfl, hg, h1, h2, hc⟩
  · have : xs = [] := List.eq_nil_of_length_eq_zero (by omega)
    subst this
    exact ⟨none, 0, rfl, Nat.le_refl _, by decide, .inl rfl⟩
  · exact ⟨_, cap, by rw [hl], by omega, h2, .inr ⟨g, 0, rfl, fun j u hu => by rw [Nat.zero_add]; exact hc j u hu⟩⟩
section
variable {P : Program} (w : World)
end
theorem cell_alloc_up {w : World} {o : Obj} {a : Addr} {u : Value} (h : w.cell? a = some u) : (w.alloc o).cell? a = some u :=
  (World.cell?_of_block (Below.heap_alloc w o a.block (World.block_lt_of_cell? w a h))).trans h
theorem lit_new {w : World} {cs : Array Value} {t : TypeId} {G j : Nat} {u : Value} (hG : G = w.heap.size) (hu : cs[j]? = some u) : (w.alloc (.cells cs t)).cell? ⟨G, j, none⟩ = some u := by
  subst hG
  have := cells_new w cs.toList t (0, 0) j u (by simpa using hu)
  have hadd : (⟨w.heap.size, 0, none⟩ : Addr).add j = ⟨w.heap.size, j, none⟩ := by unfold Addr.add; split <;> simp_all
  rw [hadd] at this
  simpa using this
theorem Touch.alloc1 {S : List Value} {w w' : World} {o : Obj} (h : Touch S (w.alloc o) w') : Touch S w w' :=
  (Touch.of_below ((Below.refl w.heap.size w).alloc (Nat.le_refl _) o)).trans h
theorem add_zero' (g j : Nat) : (⟨g, 0, none⟩ : Addr).add j = ⟨g, j, none⟩ := by unfold Addr.add; split <;> simp_all
theorem set_fill (c : Value) (xs : List Value) (q : Nat) (h : q < xs.length) : (List.replicate q c ++ xs.drop q).set q c = List.replicate (q + 1) c ++ xs.drop (q + 1) := by
  rw [List.set_append_right _ _ (by simp), List.length_replicate, Nat.sub_self, List.drop_eq_getElem_cons h, List.set_cons_zero, List.replicate_succ', List.append_assoc]
  rfl
theorem get_fill (c : Value) (xs : List Value) (q : Nat) (h : q < xs.length) : ∃ y, (List.replicate q c ++ xs.drop q)[q]? = some y :=
  ⟨_, List.getElem?_eq_getElem (by simp; omega)⟩
theorem fill_all (c : Value) (xs : List Value) (n : Nat) (h : xs.length = n) : List.replicate n c ++ xs.drop n = List.replicate n c := by
  rw [List.drop_of_length_le (by omega), List.append_nil]
end Go.Proofs.YtiknookfnameiaaGreatDoor

namespace Go.Proofs.YtiknookfnameiaaGreatDoor
open Go.RowKit WP
structure Pk (w : World) : Prop where
  p : Pow10 w
  e : ErrVar w "strconv.ErrRange"
theorem Pk.later {w w' : World} (h : Pk w) (hb : Below w.heap.size w w') : Pk w' := ⟨pow10_later h.p hb, h.e.later hb⟩
/-- a world grown out of w -/
structure GrownOf (w : World) where
  w' : World
  h : Below w.heap.size w w'
/-- a drawn region whose operations read no memory and whose callees only make memory: one walk in the order of the text -/
theorem wp_region_grown {P : Program} {id : Nat} {Q : Exit → Act → World → Prop} {a : Act} {w : World} {l : List Oper} (hm : P.follows .mixedOrders = true) (hB : Region.lexB .any l.toArray = true)
    (h : wpQuiet P l.toArray (fun w' => ∃ g : GrownOf w, w' = g.w') (fun a' => ∀ w', (∃ g : GrownOf w, w' = g.w') → Q .normal a' w') l a) : (Code.region id l.toArray true).wp P Q a w :=
  wp_region_quiet (C := fun w' => ∃ g : GrownOf w, w' = g.w') hm hB ⟨⟨_, Below.drew (Below.refl _ _)⟩, rfl⟩ (by simpa using h)
end Go.Proofs.YtiknookfnameiaaGreatDoor

namespace Go.Proofs.YtiknookfnameiaaGreatDoor
open Go.RowKit WP
def wV (x : W) : Value := .agg #[.string x.1, .bool x.2.1, .int .i64 (x.2.2 : Int)]
def wC (x : W) : Array Value := #[.string x.1, .bool x.2.1, .int .i64 (x.2.2 : Int)]
def wi (l : List Int) : List Value := l.map fun x => .int .u32 x
def lc (l : List (ByteArray × Nat)) : List Value := l.flatMap fun p => [.string p.1, .int .i64 (p.2 : Int)]
theorem wi_append (a b : List Int) : wi (a ++ b) = wi a ++ wi b := by simp [wi]
theorem lc_append (a b : List (ByteArray × Nat)) : lc (a ++ b) = lc a ++ lc b := by simp [lc]
theorem wi_len (a : List Int) : (wi a).length = a.length := by simp [wi]
abbrev ptr (b : Nat) : Value := .pointer (some ⟨b, 0, none⟩)
/-- a fault in a block of its own -/
def FltAt (w : World) (v : Value) (f : Flt) : Prop := ∃ g, v = .iface 110 (ptr g) ∧ w.heap[g]? = some (.cells #[.int .i64 f.1, .int .i64 (f.2.1 : Int), .int .i64 (f.2.2 : Int)] 112 (0, 0))
/-- what the tables and variables of the library and of isa hold -/
structure AEnv (w : World) : Prop where
  pk : Pk w
  tabs : Tabs w
theorem AEnv.later {w w' : World} (h : AEnv w) (hb : Below w.heap.size w w') : AEnv w' := ⟨h.pk.later hb, h.tabs.later hb⟩
/-- the types of the blocks that closures capture -/
def capT (t : TypeId) : Prop := t = 68 ∨ t = 152 ∨ t = 3 ∨ t = 92 ∨ t = 1 ∨ t = 188 ∨ t = 9
/-- such blocks are kept -/
def Keep (w w' : World) : Prop := ∀ (k : Nat) (c : Array Value) (t : TypeId), w.heap[k]? = some (Obj.cells c t (0, 0)) → capT t → w'.heap[k]? = w.heap[k]?
theorem Keep.refl (w : World) : Keep w w := fun _ _ _ _ _ => rfl
theorem Keep.trans {a b c : World} (h : Keep a b) (h' : Keep b c) : Keep a c := fun k cs t hk ht => by
  have h1 := h k cs t hk ht
  rw [← h1]; exact h' k cs t (h1.trans hk) ht
theorem Keep.below {w w' : World} (hb : Below w.heap.size w w') : Keep w w' := fun k _ _ hk _ => hb.block k (Array.getElem?_eq_some_iff.1 hk).1
theorem Keep.at_ {w w' : World} {k : Nat} {c : Array Value} {t : TypeId} (h : Keep w w') (hk : w.heap[k]? = some (.cells c t (0, 0))) (ht : capT t) : w'.heap[k]? = some (.cells c t (0, 0)) := (h k c t hk ht).trans hk
/-- one that waits: the closure, its captured blocks; b is the block of the instruction, if it is one -/
def Pend (w : World) (R b : Nat) (f : Value) (x : Lat) : Prop :=
  match x.what with
  | .jmp i => ∃ b4 bw bl bp bf, f = .func (.func 115) #[] #[ptr b4, ptr bw, ptr bl, ptr bp, ptr b, ptr bf] ∧ w.heap[b4]? = some (.cells #[ptr R] 68 (0, 0)) ∧
      w.heap[bw]? = some (.cells (wC (x.nm, false, x.col)) 152 (0, 0)) ∧ w.heap[bl]? = some (.cells #[.int .i64 (x.line : Int)] 3 (0, 0)) ∧ w.heap[bp]? = some (.cells #[.int .i64 (x.place : Int)] 3 (0, 0)) ∧
      w.heap[b]? = some (.cells (insC i) 92 (0, 0)) ∧ w.heap[bf]? = some (.cells #[.func (.func 113) #[] #[ptr b, ptr b4, ptr bp]] 1 (0, 0))
  | .word => ∃ b4 bw bl bp bn bf, f = .func (.func 118) #[] #[ptr b4, ptr bw, ptr bl, ptr bf, ptr bp, ptr bn] ∧ w.heap[b4]? = some (.cells #[ptr R] 68 (0, 0)) ∧
      w.heap[bw]? = some (.cells (wC (x.nm, false, x.col)) 152 (0, 0)) ∧ w.heap[bl]? = some (.cells #[.int .i64 (x.line : Int)] 3 (0, 0)) ∧ w.heap[bp]? = some (.cells #[.int .i64 (x.place : Int)] 3 (0, 0)) ∧
      w.heap[bn]? = some (.cells #[.int .i64 1] 3 (0, 0)) ∧ w.heap[bf]? = some (.cells #[.func (.func 87) #[] #[]] 188 (0, 0))
  | .li a => ∃ b4 bw bl bp bn bf ba, f = .func (.func 118) #[] #[ptr b4, ptr bw, ptr bl, ptr bf, ptr bp, ptr bn] ∧ w.heap[b4]? = some (.cells #[ptr R] 68 (0, 0)) ∧
      w.heap[bw]? = some (.cells (wC (x.nm, false, x.col)) 152 (0, 0)) ∧ w.heap[bl]? = some (.cells #[.int .i64 (x.line : Int)] 3 (0, 0)) ∧ w.heap[bp]? = some (.cells #[.int .i64 (x.place : Int)] 3 (0, 0)) ∧
      w.heap[bn]? = some (.cells #[.int .i64 2] 3 (0, 0)) ∧ w.heap[bf]? = some (.cells #[.func (.func 120) #[] #[ptr ba]] 188 (0, 0)) ∧ w.heap[ba]? = some (.cells #[.int .i64 a] 3 (0, 0))
theorem Pend.keep {w w' : World} {R b : Nat} {f : Value} {x : Lat} (h : Pend w R b f x) (hk : Keep w w') : Pend w' R b f x := by
  obtain ⟨what, pl, nm, ln, col⟩ := x
  cases what with
  | jmp i =>
    obtain ⟨b4, bw, bl, bp, bf, e, h1, h2, h3, h4, h5, h6⟩ := h
    exact ⟨b4, bw, bl, bp, bf, e, hk.at_ h1 (.inl rfl), hk.at_ h2 (.inr (.inl rfl)), hk.at_ h3 (.inr (.inr (.inl rfl))), hk.at_ h4 (.inr (.inr (.inl rfl))), hk.at_ h5 (.inr (.inr (.inr (.inl rfl)))), hk.at_ h6 (.inr (.inr (.inr (.inr (.inl rfl)))))⟩
  | word =>
    obtain ⟨b4, bw, bl, bp, bn, bf, e, h1, h2, h3, h4, h5, h6⟩ := h
    exact ⟨b4, bw, bl, bp, bn, bf, e, hk.at_ h1 (.inl rfl), hk.at_ h2 (.inr (.inl rfl)), hk.at_ h3 (.inr (.inr (.inl rfl))), hk.at_ h4 (.inr (.inr (.inl rfl))), hk.at_ h5 (.inr (.inr (.inl rfl))), hk.at_ h6 (.inr (.inr (.inr (.inr (.inr (.inl rfl))))))⟩
  | li a =>
    obtain ⟨b4, bw, bl, bp, bn, bf, ba, e, h1, h2, h3, h4, h5, h6, h7⟩ := h
    exact ⟨b4, bw, bl, bp, bn, bf, ba, e, hk.at_ h1 (.inl rfl), hk.at_ h2 (.inr (.inl rfl)), hk.at_ h3 (.inr (.inr (.inl rfl))), hk.at_ h4 (.inr (.inr (.inl rfl))), hk.at_ h5 (.inr (.inr (.inl rfl))), hk.at_ h6 (.inr (.inr (.inr (.inr (.inr (.inl rfl)))))), hk.at_ h7 (.inr (.inr (.inl rfl)))⟩
/-- all that wait, each with a block of its own -/
structure Pends (w : World) (R : Nat) (fs : List Value) (lat : List Lat) (bs : List Nat) : Prop where
  lenB : bs.length = lat.length
  lenF : fs.length = lat.length
  up : bs.Pairwise (· < ·)
  lt : ∀ b ∈ bs, b < w.heap.size
  all : ∀ (i : Nat) x f b, lat[i]? = some x → fs[i]? = some f → bs[i]? = some b → Pend w R b f x
theorem Pends.keep {w w' : World} {R : Nat} {fs : List Value} {lat : List Lat} {bs : List Nat} (h : Pends w R fs lat bs) (hk : Keep w w') (hs : w.heap.size ≤ w'.heap.size) : Pends w' R fs lat bs :=
  ⟨h.lenB, h.lenF, h.up, fun b hb => Nat.lt_of_lt_of_le (h.lt b hb) hs, fun i x f b h1 h2 h3 => (h.all i x f b h1 h2 h3).keep hk⟩
theorem Pends.nil (w : World) (R : Nat) : Pends w R [] [] [] := ⟨rfl, rfl, List.Pairwise.nil, by simp, by simp⟩
theorem Pends.add {w : World} {R N : Nat} {fs : List Value} {lat : List Lat} {bs : List Nat} {f : Value} {x : Lat} {b : Nat} (h : Pends w R fs lat bs) (hb : ∀ c ∈ bs, c < b) (hw : b < w.heap.size) (hp : Pend w R b f x) (_ : N = N) : Pends w R (fs ++ [f]) (lat ++ [x]) (bs ++ [b]) := by
  refine ⟨by simp [h.lenB], by simp [h.lenF], ?_, ?_, ?_⟩
  · rw [List.pairwise_append]
    exact ⟨h.up, by simp, fun c hc d hd => by simp only [List.mem_singleton] at hd; subst hd; exact hb c hc⟩
  · intro c hc
    rcases List.mem_append.1 hc with hc | hc
    · exact h.lt c hc
    · simp only [List.mem_singleton] at hc; subst hc; exact hw
  · intro i y g c h1 h2 h3
    have hlB := h.lenB
    have hlF := h.lenF
    rcases Nat.lt_or_ge i lat.length with hi | hi
    · rw [List.getElem?_append_left hi] at h1
      rw [List.getElem?_append_left (by omega)] at h2 h3
      exact h.all i y g c h1 h2 h3
    · have : i = lat.length := by
        have := (List.getElem?_eq_some_iff.1 h1).1
        simp at this; omega
      subst this
      rw [List.getElem?_append_right (Nat.le_refl _)] at h1
      rw [List.getElem?_append_right (by omega)] at h2 h3
      simp only [Nat.sub_self, List.getElem?_cons_zero, Option.some.injEq] at h1
      simp only [hlF, Nat.sub_self, List.getElem?_cons_zero, Option.some.injEq] at h2
      simp only [hlB, Nat.sub_self, List.getElem?_cons_zero, Option.some.injEq] at h3
      subst h1; subst h2; subst h3; exact hp
/-- the map of the labels -/
def MapIs (w : World) (mb : Nat) (L : List (ByteArray × Nat)) : Prop :=
  ∃ (n : Nat) (D : DataW Unit), w.ownsMap Tryz.prog 9 (plainElem Tryz.prog 3) mb n D ∧ n ≤ L.length ∧ Maps.IsMap D ∧
    (∀ s : ByteArray, Maps.has D (.string s.data.toList) = (findL L s).isSome) ∧ ∀ (s : ByteArray) (p : Nat), findL L s = some p → ∀ z, D.atKey (.string s.data.toList) z = .lit (.int .i64 (p : Int))
theorem MapIs.same {w w' : World} {mb : Nat} {L : List (ByteArray × Nat)} (h : MapIs w mb L) (hb : w'.heap[mb]? = w.heap[mb]?) : MapIs w' mb L := by
  obtain ⟨n, D, ⟨es, clock, h1, h2⟩, r⟩ := h
  exact ⟨n, D, ⟨es, clock, hb.trans h1, h2⟩, r⟩
theorem MapIs.lt {w : World} {mb : Nat} {L : List (ByteArray × Nat)} (h : MapIs w mb L) : ∃ es clock, w.heap[mb]? = some (.map es clock) := by
  obtain ⟨n, D, ⟨es, clock, h1, h2⟩, r⟩ := h
  exact ⟨es, clock, h1⟩
/-- rows of strings are as they were -/
def StrK (w0 w : World) : Prop := ∀ (k : Nat) (cs : Array Value), w0.heap[k]? = some (Obj.cells cs 9 (0, 0)) → w.heap[k]? = some (Obj.cells cs 9 (0, 0))
theorem StrK.refl (w : World) : StrK w w := fun _ _ h => h
theorem StrK.keep {w0 w w' : World} (h : StrK w0 w) (hk : Keep w w') : StrK w0 w' := fun k cs hc => hk.at_ (h k cs hc) (.inr (.inr (.inr (.inr (.inr (.inr rfl))))))
/-- the reader at R and all that hangs on it; all else below B is as it was in w0 -/
structure RSt (B : Nat) (w0 w : World) (R : Nat) (base : Int) (ln : Nat) (st : Asm) (vw vl : Value) (mb : Nat) (vf : Value) (fs : List Value) (bs : List Nat) (ml : List (ByteArray × Nat)) : Prop where
  blk : w.heap[R]? = some (.cells #[.int .u32 base, .int .i64 (ln : Int), vw, vl, .map (some mb), vf] 77 (0, 0))
  ws : w.ownsRow B 22 1 vw st.ws.length (wi st.ws)
  labs : w.ownsRow B 44 2 vl st.labs.length (lc st.labs)
  map : MapIs w mb ml
  lat : w.ownsRow B 118 1 vf fs.length fs
  pend : Pends w R (fs.drop (fs.length - st.lat.length)) st.lat bs
  hR : B ≤ R
  hm : B ≤ mb
  below : Below B w0 w
  size : ∃ w00 : World, AEnv w00 ∧ w00.heap.size ≤ B ∧ Below B w00 w0
  strs : StrK w0 w
  lo : ∀ b ∈ bs, B ≤ b
/-- .. with whatever rows -/
def RAt (B : Nat) (w0 w : World) (R : Nat) (base : Int) (ln : Nat) (st : Asm) : Prop := ∃ vw vl mb vf fs bs, RSt B w0 w R base ln st vw vl mb vf fs bs st.labs ∧ fs.length = st.lat.length
section
variable {B : Nat} {w0 w w' : World} {R : Nat} {base : Int} {ln : Nat} {st : Asm} {vw vl : Value} {mb : Nat} {vf : Value} {fs : List Value} {bs : List Nat} {ml : List (ByteArray × Nat)}
theorem RSt.lt (h : RSt B w0 w R base ln st vw vl mb vf fs bs ml) : R < w.heap.size := (Array.getElem?_eq_some_iff.1 h.blk).1
theorem RSt.c (h : RSt B w0 w R base ln st vw vl mb vf fs bs ml) : w.cell? ⟨R, 0, none⟩ = some (.int .u32 base) ∧ w.cell? ⟨R, 1, none⟩ = some (.int .i64 (ln : Int)) ∧ w.cell? ⟨R, 2, none⟩ = some vw ∧ w.cell? ⟨R, 3, none⟩ = some vl ∧ w.cell? ⟨R, 4, none⟩ = some (.map (some mb)) ∧ w.cell? ⟨R, 5, none⟩ = some vf :=
  ⟨cell_of_row _ _ 0 _ _ _ h.blk, cell_of_row _ _ 1 _ _ _ h.blk, cell_of_row _ _ 2 _ _ _ h.blk, cell_of_row _ _ 3 _ _ _ h.blk, cell_of_row _ _ 4 _ _ _ h.blk, cell_of_row _ _ 5 _ _ _ h.blk⟩
theorem RSt.f (h : RSt B w0 w R base ln st vw vl mb vf fs bs ml) (j : Nat) : w.frozen? ⟨R, j, none⟩ = false := frozen_of_row _ _ _ _ _ h.blk
theorem RSt.env (h : RSt B w0 w R base ln st vw vl mb vf fs bs ml) (_hE : AEnv w0) : AEnv w := by
  obtain ⟨w00, h1, h2, h3⟩ := h.size
  exact h1.later ((h3.trans h.below).mono h2)
theorem RSt.later (h : RSt B w0 w R base ln st vw vl mb vf fs bs ml) (hb : Below w.heap.size w w') : RSt B w0 w' R base ln st vw vl mb vf fs bs ml :=
  ⟨(hb.block R h.lt).trans h.blk, own_below h.ws hb, own_below h.labs hb, h.map.same (by obtain ⟨es, c, hm⟩ := h.map.lt; exact hb.block _ (Array.getElem?_eq_some_iff.1 hm).1), own_below h.lat hb, h.pend.keep (Keep.below hb) hb.size, h.hR, h.hm, h.below.trans (hb.mono (by have := h.hR; have := h.lt; omega)), h.size, h.strs.keep (Keep.below hb), h.lo⟩
theorem RAt.later (h : RAt B w0 w R base ln st) (hb : Below w.heap.size w w') : RAt B w0 w' R base ln st := by
  obtain ⟨vw, vl, mb, vf, fs, bs, h, e⟩ := h; exact ⟨vw, vl, mb, vf, fs, bs, h.later hb, e⟩
/-- a block of cells of another type is no block of a row -/
theorem own_ne {C : Nat} {e : TypeId} {size n : Nat} {v : Value} {xs : List Value} {k : Nat} {c : Array Value} {t : TypeId} {fr : Nat × Nat} (h : w.ownsRow C e size v n xs) (hk : w.heap[k]? = some (.cells c t fr)) (hne : t ≠ e) : v.ownBlock ≠ some k := by
  intro hv
  rcases h.2 with ⟨rfl, _⟩ | ⟨g, cap, cur, rfl, _, hg, _⟩
  · simp [Value.ownBlock] at hv
  · simp only [Value.ownBlock, Option.some.injEq] at hv
    subst hv
    rw [hk] at hg
    simp only [Option.some.injEq, Obj.cells.injEq] at hg
    exact hne hg.2.1
theorem own_ne_map {C : Nat} {e : TypeId} {size n : Nat} {v : Value} {xs : List Value} {k : Nat} {es : Array MapEntry} {c : Nat} (h : w.ownsRow C e size v n xs) (hk : w.heap[k]? = some (.map es c)) : v.ownBlock ≠ some k := by
  intro hv
  rcases h.2 with ⟨rfl, _⟩ | ⟨g, cap, cur, rfl, _, hg, _⟩
  · simp [Value.ownBlock] at hv
  · simp only [Value.ownBlock, Option.some.injEq] at hv
    subst hv
    rw [hk] at hg
    simp at hg
theorem own_far {C C' : Nat} {e e' : TypeId} {size size' n n' : Nat} {u v : Value} {xs ys : List Value} (h : w.ownsRow C e size u n xs) (h' : w.ownsRow C' e' size' v n' ys) (hne : e ≠ e') : Far u v := by
  intro k h1 h2
  rcases h.2 with ⟨rfl, _⟩ | ⟨g, cap, cur, rfl, _, hg, _⟩
  · simp [Value.ownBlock] at h1
  · simp only [Value.ownBlock, Option.some.injEq] at h1
    subst h1
    exact own_ne h' hg hne h2
end
end Go.Proofs.YtiknookfnameiaaGreatDoor
