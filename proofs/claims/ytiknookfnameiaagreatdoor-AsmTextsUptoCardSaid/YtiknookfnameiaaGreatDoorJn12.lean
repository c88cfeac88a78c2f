/- Rows of the call's own, apart from one another: what a change of some of them leaves of the others. Over any program. What the world keeps of the library's tables; a drawn region whose callees only make memory. -/
import Derived.Test.YtiknookfnameiaaGreatDoorJn11
import Derived.Test.YtiknookfnameiaaGreatDoorJn05
import Derived.Test.YtiknookfnameiaaGreatDoorTNuDJn
import Derived.BigQuiet
namespace Go.Proofs.YtiknookfnameiaaGreatDoor
open Go.RowKit WP
theorem own_below {w w' : World} {base : Nat} {e : TypeId} {size n : Nat} {v : Value} {xs : List Value} (h : w.ownsRow base e size v n xs) (hb : Below w.heap.size w w') : w'.ownsRow base e size v n xs := by
 refine ⟨h.1, ?_⟩
 rcases h.2 with hn | ⟨g, cap, cur, rfl, hbg, hgg, rest⟩
 ·exact .inl hn
 ·refine .inr ⟨g, cap, cur, rfl, hbg, ?_, rest⟩
  rw [hb.block g (Array.getElem?_eq_some_iff.1 hgg).1]
  exact hgg
theorem own_base {w : World} {base base' : Nat} {e : TypeId} {size n : Nat} {v : Value} {xs : List Value} (h : w.ownsRow base e size v n xs) (hb : base' ≤ base) : w.ownsRow base' e size v n xs := by
 refine ⟨h.1, ?_⟩
 rcases h.2 with hn | ⟨g, cap, cur, rfl, hbg, hgg, rest⟩
 ·exact .inl hn
 ·exact .inr ⟨g, cap, cur, rfl, Nat.le_trans hb hbg, hgg, rest⟩
theorem own_shape {w : World} {base : Nat} {e : TypeId} {size : Nat} {v : Value} {n : Nat} {xs : List Value} (h : w.ownsRow base e size v n xs) : ∃ ao ca, v = .slice ao n ca ∧ n ≤ ca ∧ ca ≤ 9223372036854775807 := by
 rcases h.2 with ⟨rfl, h0⟩ | ⟨g, cap, cur, rfl, _, _, h1, h2, _⟩
 ·exact ⟨none, 0, by rw [h0], by omega, by decide⟩
 ·exact ⟨_, _, rfl, h1, h2⟩
/-- two rows in different blocks -/
def Far (u v : Value) : Prop := ∀ k, u.ownBlock = some k → v.ownBlock ≠ some k
theorem Far.symm {u v : Value} (h : Far u v) : Far v u := fun k h1 h2 => h k h2 h1
/-- the blocks of these values, and new ones, are all that is changed -/
structure Touch (S : List Value) (w w' : World) : Prop where
 os : w'.os = w.os
 tape : w'.tape = w.tape
 output : w'.output = w.output
 size : w.heap.size ≤ w'.heap.size
 block : ∀ k, k < w.heap.size → (∀ v ∈ S, v.ownBlock ≠ some k) → w'.heap[k]? = w.heap[k]?
theorem Touch.refl (S : List Value) (w : World) : Touch S w w := ⟨rfl, rfl, rfl, Nat.le_refl _, fun _ _ _ => rfl⟩
/-- v' lies where v lies, or in a new block -/
def Near (w : World) (v v' : Value) : Prop := v'.ownBlock = v.ownBlock ∨ ∀ k, v'.ownBlock = some k → w.heap.size ≤ k
theorem Near.refl (w : World) (v : Value) : Near w v v := .inl rfl
theorem Near.trans {w w' : World} {a b c : Value} (h : Near w a b) (h' : Near w' b c) (hs : w.heap.size ≤ w'.heap.size) : Near w a c := by
 rcases h' with h' | h'
 ·rcases h with h | h
  ·exact .inl (h'.trans h)
  ·exact .inr fun k hk => h k (by rw [← h']; exact hk)
 ·exact .inr fun k hk => Nat.le_trans hs (h' k hk)
theorem Near.far {w : World} {v v' y : Value} (h : Near w v v') (hf : Far v y) (hy : ∀ k, y.ownBlock = some k → k < w.heap.size) : Far v' y := by
 intro k h1 h2
 rcases h with hb | hb
 ·rw [hb] at h1; exact hf k h1 h2
 ·have := hb k h1; have := hy k h2; omega
theorem Touch.trans {S : List Value} {w w1 w2 : World} (h : Touch S w w1) (h' : Touch S w1 w2) : Touch S w w2 :=
 ⟨h'.os.trans h.os, h'.tape.trans h.tape, h'.output.trans h.output, Nat.le_trans h.size h'.size, fun k hk hS => (h'.block k (Nat.lt_of_lt_of_le hk h.size) hS).trans (h.block k hk hS)⟩
theorem Touch.grown {S : List Value} {w w' : World} {v : Value} (hg : w.grownBy w' v.ownBlock) (hv : v ∈ S) : Touch S w w' :=
 ⟨hg.os, hg.tape, hg.output, hg.size, fun k hk hS => hg.block k hk fun e => hS v hv e.symm⟩
theorem Touch.of_below {S : List Value} {w w' : World} (hb : Below w.heap.size w w') : Touch S w w' :=
 ⟨hb.os, hb.tape, hb.output, hb.size, fun k hk _ => hb.block k hk⟩
theorem Touch.below {S : List Value} {w w' : World} {B : Nat} (h : Touch S w w') (hB : B ≤ w.heap.size) (hS : ∀ v ∈ S, ∀ k, v.ownBlock = some k → B ≤ k) : Below B w w' :=
 ⟨h.os, h.tape, h.output, h.size, fun k hk => h.block k (by omega) fun v hv e => by have := hS v hv k e; omega⟩
theorem Touch.own {S : List Value} {w w' : World} {base : Nat} {e : TypeId} {size n : Nat} {v : Value} {xs : List Value} (h : w.ownsRow base e size v n xs) (ht : Touch S w w') (hf : ∀ s ∈ S, Far v s) : w'.ownsRow base e size v n xs := by
 refine ⟨h.1, ?_⟩
 rcases h.2 with hn | ⟨g, cap, cur, rfl, hbg, hgg, rest⟩
 ·exact .inl hn
 ·refine .inr ⟨g, cap, cur, rfl, hbg, ?_, rest⟩
  rw [ht.block g (Array.getElem?_eq_some_iff.1 hgg).1 fun s hs => hf s hs g rfl]
  exact hgg
theorem Touch.cell {S : List Value} {w w' : World} (h : Touch S w w') {a : Addr} {u : Value} (hc : w.cell? a = some u) (hS : ∀ v ∈ S, v.ownBlock ≠ some a.block) : w'.cell? a = some u :=
 (World.cell?_of_block (h.block a.block (World.block_lt_of_cell? w a hc) hS)).trans hc
/-- a row that reads as a list, whoever owns it -/
def Reads (w : World) (size : Nat) (v : Value) (n : Nat) (xs : List Value) : Prop :=
 xs.length = n * size ∧ ((v = .slice none 0 0 ∧ n = 0) ∨ ∃ g cap, v = .slice (some ⟨g, 0, none⟩) n cap ∧ g < w.heap.size ∧ n ≤ cap ∧ cap ≤ maxLen ∧ ∀ j u, xs[j]? = some u → w.cell? ⟨g, j, none⟩ = some u)
theorem Reads.of_own {w : World} {base : Nat} {e : TypeId} {size n : Nat} {v : Value} {xs : List Value} (h : w.ownsRow base e size v n xs) : Reads w size v n xs := by
 refine ⟨h.1, ?_⟩
 rcases h.2 with hn | ⟨g, cap, cur, rfl, hbg, hgg, h1, h2, _⟩
 ·exact .inl hn
 ·refine .inr ⟨g, cap, rfl, (Array.getElem?_eq_some_iff.1 hgg).1, h1, h2, fun j u hu => ?_⟩
  have := h.cells (g := g) rfl j u hu
  have hadd : (⟨g, 0, none⟩ : Addr).add j = ⟨g, j, none⟩ := by unfold Addr.add; split <;> simp_all
  rwa [hadd] at this
theorem Reads.lt {w : World} {size n : Nat} {v : Value} {xs : List Value} (h : Reads w size v n xs) : ∀ k, v.ownBlock = some k → k < w.heap.size := by
 intro k hk
 rcases h.2 with ⟨rfl, _⟩ | ⟨g, cap, rfl, hg, _⟩
 ·simp [Value.ownBlock] at hk
 ·simp [Value.ownBlock] at hk; omega
theorem Reads.touch {S : List Value} {w w' : World} {size n : Nat} {v : Value} {xs : List Value} (h : Reads w size v n xs) (ht : Touch S w w') (hf : ∀ s ∈ S, Far v s) : Reads w' size v n xs := by
 refine ⟨h.1, ?_⟩
 rcases h.2 with hn | ⟨g, cap, rfl, hg, h1, h2, hc⟩
 ·exact .inl hn
 ·exact .inr ⟨g, cap, rfl, Nat.lt_of_lt_of_le hg ht.size, h1, h2, fun j u hu => ht.cell (hc j u hu) fun s hs => hf s hs g rfl⟩
theorem Reads.later {w w' : World} {size n : Nat} {v : Value} {xs : List Value} (h : Reads w size v n xs) (hb : Below w.heap.size w w') : Reads w' size v n xs :=
 h.touch (Touch.of_below (S := []) hb) (by simp)
theorem Reads.cellAt {w : World} {size n : Nat} {v : Value} {xs : List Value} (h : Reads w size v n xs) (hn : n ≠ 0) : ∃ g cap, v = .slice (some ⟨g, 0, none⟩) n cap ∧ g < w.heap.size ∧ n ≤ cap ∧ cap ≤ 9223372036854775807 ∧ ∀ j u, xs[j]? = some u → w.cell? ⟨g, j, none⟩ = some u :=
 h.2.resolve_left fun e => hn e.2
theorem Reads.shape {w : World} {size n : Nat} {v : Value} {xs : List Value} (h : Reads w size v n xs) : ∃ ao cap, v = .slice ao n cap ∧ n ≤ cap ∧ cap ≤ 9223372036854775807 := by
 rcases h.2 with ⟨rfl, rfl⟩ | ⟨g, cap, rfl, hg, h1, h2, hc⟩
 ·exact ⟨none, 0, rfl, Nat.le_refl _, by decide⟩
 ·exact ⟨_, _, rfl, h1, h2⟩
theorem Reads.rd {w : World} {n : Nat} {v : Value} {xs : List Value} (h : Reads w 1 v n xs) : Rd w v xs := by
 have hl := h.1
 rw [Nat.mul_one] at hl
 rcases h.2 with ⟨rfl, hn⟩ | ⟨g, cap, rfl, hg, h1, h2, hc⟩
 ·have : xs = [] := List.eq_nil_of_length_eq_zero (by omega)
  subst this
  exact ⟨none, 0, rfl, Nat.le_refl _, by decide, .inl rfl⟩
 ·exact ⟨_, cap, by rw [hl], by omega, h2, .inr ⟨g, 0, rfl, fun j u hu => by rw [Nat.zero_add]; exact hc j u hu⟩⟩
section
variable {P : Program} (w : World)
/-- an append to a row of the call's own: the row as it was before still reads as it did -/
theorem run_append_still (base : Nat) (t ty e : TypeId) (i : TypeInfo) (z : Value) (size bytes : Nat) (ht : P.underlying t = some (.slice e)) (hi : P.info? e = some i) (hz : i.zero = some z)
  (hsize : i.size = size) (hby : i.bytes = bytes) (hzs : z.cells.size = size) (hsz : 0 < size)
  (v : Value) (n : Nat) (xs : List Value) (hown : w.ownsRow base e size v n xs)
  (a : Addr) (m c : Nat) (news : List Value) (hl : news.length = m * size) (hnews : ∀ j u, news[j]? = some u → w.cell? (a.add j) = some u) (h1 : ∀ u ∈ news, u.oneCell' = true)
  (h63 : n + m ≤ maxLen) (hbytes : (n + m) * bytes ≤ 140737488355328) (hbase : base ≤ w.heap.size) :
  ∃ v' w', (Builtin.append_ #[t, t] ty #[v, .slice (some a) m c]).run P w = .ok v' w' ∧ w'.ownsRow base e size v' (n + m) (xs ++ news) ∧ Onto w v w' v' ∧ Reads w' size v n xs := by
 obtain ⟨v', w', hr, h2, h3⟩ := run_append_onto (P := P) w base t ty e i z size bytes ht hi hz hsize hby hzs hsz v n xs hown a m c news hl hnews h1 h63 hbytes hbase
 refine ⟨v', w', hr, h2, h3, ?_⟩
 have hr0 := Reads.of_own hown
 subst hsize
 rcases hown.2 with ⟨rfl, rfl⟩ | ⟨g, cap, cur, rfl, hbg, hg, hnc, hcm, hcs, htake⟩
 ·exact ⟨hown.1, .inl ⟨rfl, rfl⟩⟩
 ·by_cases hroom : n + m ≤ cap
  ·have hfit : n * i.size + news.length ≤ cur.size := by rw [hl, hcs, ← Nat.add_mul]; exact Nat.mul_le_mul_right _ hroom
   have hr' := run_append_room (P := P) w t ty e i ht hi g n cap cur hg a m c news hl hnews h1 hroom hfit
   rw [hr'] at hr
   simp only [Result.ok.injEq] at hr
   obtain ⟨rfl, rfl⟩ := hr
   have := Reads.of_own h2
   refine ⟨hown.1, .inr ⟨g, cap, rfl, this.lt g rfl, hnc, hcm, fun j u hu => ?_⟩⟩
   rcases this.2 with ⟨hv, _⟩ | ⟨g', cap', hv, _, _, _, hc⟩
   ·simp at hv
   ·simp only [Value.slice.injEq, Option.some.injEq, Addr.mk.injEq, and_true] at hv
    obtain ⟨rfl, _⟩ := hv
    refine hc j u ?_
    rw [List.getElem?_append_left (by have := (List.getElem?_eq_some_iff.1 hu).1; exact this)]
    exact hu
  ·have holds : ∀ j u, xs[j]? = some u → w.cell? ((⟨g, 0, none⟩ : Addr).add j) = some u := hown.cells (g := g) rfl
   have hr' := run_append_grow (P := P) w t ty e i z ht hi hz ⟨g, 0, none⟩ n cap xs hown.1 holds a m c news hl hnews (by omega) (by simp only [maxLen] at h63; omega) (growslice_fits (by omega) (by rw [hby]; exact hbytes))
   rw [hr'] at hr
   simp only [Result.ok.injEq] at hr
   obtain ⟨rfl, rfl⟩ := hr
   exact hr0.later (((Below.refl _ w).drew).alloc (Nat.le_refl _) _)
end
theorem step_append_still {P : Program} (w : World) {ops : Array Oper} {o : Oper} {a : Act} {K : Act → World → Prop} {Q : Exit → Act → World → Prop} {E : Prop} (hgd : o.guard = none) (s x : Operand) (t : TypeId)
  (ho : o.op = .call { callee := .builtin .append, args := #[s, x], argTypes := #[t, t] })
  (base : Nat) (e : TypeId) (i : TypeInfo) (z : Value) (size bytes : Nat) (ht : P.underlying t = some (.slice e)) (hi : P.info? e = some i) (hz : i.zero = some z)
  (hsize : i.size = size) (hby : i.bytes = bytes) (hzs : z.cells.size = size) (hsz : 0 < size)
  (v : Value) (n : Nat) (xs : List Value) (hs : a.eval s = v) (hown : w.ownsRow base e size v n xs)
  (ad : Addr) (m c : Nat) (news : List Value) (hx : a.eval x = .slice (some ad) m c) (hl : news.length = m * size) (hnews : ∀ j u, news[j]? = some u → w.cell? (ad.add j) = some u) (h1 : ∀ u ∈ news, u.oneCell' = true)
  (h63 : n + m ≤ maxLen) (hbytes : (n + m) * bytes ≤ 140737488355328) (hbase : base ≤ w.heap.size)
  (h : ∀ v' w', w'.ownsRow base e size v' (n + m) (xs ++ news) → Onto w v w' v' → Reads w' size v n xs → K (a.put o.dst v') w') :
  if Region.wanted o (yielded ops a.tmps) = true then Oper.wp P o a w K Q else E := by
 have hw : Region.wanted o (yielded ops a.tmps) = true := by simp [Region.wanted, hgd]
 rw [if_pos hw]
 obtain ⟨v', w', hr, h2, h3, h4⟩ := run_append_still (P := P) w base t o.type e i z size bytes ht hi hz hsize hby hzs hsz v n xs hown ad m c news hl hnews h1 h63 hbytes hbase
 unfold Oper.wp execOp
 simp only [ho, resolve, invoke, builtin, Sem.run_bind, Sem.run_pure, Result.andThen_ok, List.map_toArray, List.map_cons, List.map_nil, hs, hx, hr]
 exact h v' w' h2 h3 h4
theorem cell_alloc_up {w : World} {o : Obj} {a : Addr} {u : Value} (h : w.cell? a = some u) : (w.alloc o).cell? a = some u :=
 (World.cell?_of_block (Below.heap_alloc w o a.block (World.block_lt_of_cell? w a h))).trans h
theorem lit_new {w : World} {cs : Array Value} {t : TypeId} {G j : Nat} {u : Value} (hG : G = w.heap.size) (hu : cs[j]? = some u) : (w.alloc (.cells cs t)).cell? ⟨G, j, none⟩ = some u := by
 subst hG
 have := cells_new w cs.toList t (0, 0) j u (by simpa using hu)
 have hadd : (⟨w.heap.size, 0, none⟩ : Addr).add j = ⟨w.heap.size, j, none⟩ := by unfold Addr.add; split <;> simp_all
 rw [hadd] at this
 simpa using this
theorem add_zero' (g j : Nat) : (⟨g, 0, none⟩ : Addr).add j = ⟨g, j, none⟩ := by unfold Addr.add; split <;> simp_all
end Go.Proofs.YtiknookfnameiaaGreatDoor

namespace Go.Proofs.YtiknookfnameiaaGreatDoor
open Go.RowKit WP
structure Pk (w : World) : Prop where
 p : Pow10 w
 e : ErrVar w "strconv.ErrRange"
theorem Pk.later {w w' : World} (h : Pk w) (hb : Below w.heap.size w w') : Pk w' := ⟨pow10_later h.p hb, h.e.later hb⟩
/-- a world grown out of w -/
structure GrownOf (w : World) where
 w' : World
 h : Below w.heap.size w w'
/-- a drawn region whose operations read no memory and whose callees only make memory: one walk in the order of the text -/
theorem wp_region_grown {P : Program} {id : Nat} {Q : Exit → Act → World → Prop} {a : Act} {w : World} {l : List Oper} (hm : P.follows .mixedOrders = true) (hB : Region.lexB .any l.toArray = true)
  (h : wpQuiet P l.toArray (fun w' => ∃ g : GrownOf w, w' = g.w') (fun a' => ∀ w', (∃ g : GrownOf w, w' = g.w') → Q .normal a' w') l a) : (Code.region id l.toArray true).wp P Q a w :=
 wp_region_quiet (C := fun w' => ∃ g : GrownOf w, w' = g.w') hm hB ⟨⟨_, Below.drew (Below.refl _ _)⟩, rfl⟩ (by simpa using h)
end Go.Proofs.YtiknookfnameiaaGreatDoor
