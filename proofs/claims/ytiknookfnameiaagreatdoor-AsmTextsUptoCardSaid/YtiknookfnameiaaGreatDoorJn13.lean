/- What asm keeps in memory while it reads a text: its reader, rows, map, what waits; faults. The library's Itoa, FormatInt at base 10 and (*Builder).String at this program's numbers. (Printed by wip/sh/layplain.py, laymark.py.) The contracts of asm's small functions: isName, number, register; isa's Named and CondNamed. -/
import Derived.Test.YtiknookfnameiaaGreatDoorJn11
import Derived.Test.YtiknookfnameiaaGreatDoorJn12
import Derived.Maps.OwnSet
import Derived.Test.YtiknookfnameiaaGreatDoorProg
import Derived.Shelf.LaysM
import Derived.Shelf.Strconv.Itoa3
import Derived.Shelf.Strconv.Itoa4
import Derived.Shelf.Strings.Builder1
namespace Go.Proofs.YtiknookfnameiaaGreatDoor
open Go.RowKit WP
def wV (x : W) : Value := .agg #[.string x.1, .bool x.2.1, .int .i64 (x.2.2 : Int)]
def wC (x : W) : Array Value := #[.string x.1, .bool x.2.1, .int .i64 (x.2.2 : Int)]
def wi (l : List Int) : List Value := l.map fun x => .int .u32 x
def lc (l : List (ByteArray × Nat)) : List Value := l.flatMap fun p => [.string p.1, .int .i64 (p.2 : Int)]
theorem wi_append (a b : List Int) : wi (a ++ b) = wi a ++ wi b := by simp [wi]
theorem lc_append (a b : List (ByteArray × Nat)) : lc (a ++ b) = lc a ++ lc b := by simp [lc]
theorem wi_len (a : List Int) : (wi a).length = a.length := by simp [wi]
abbrev ptr (b : Nat) : Value := .pointer (some ⟨b, 0, none⟩)
/-- a fault in a block of its own -/
def FltAt (w : World) (v : Value) (f : Flt) : Prop := ∃ g, v = .iface 110 (ptr g) ∧ w.heap[g]? = some (.cells #[.int .i64 f.1, .int .i64 (f.2.1 : Int), .int .i64 (f.2.2 : Int)] 112 (0, 0))
/-- what the tables and variables of the library and of isa hold -/
structure AEnv (w : World) : Prop where
 pk : Pk w
 tabs : Tabs w
theorem AEnv.later {w w' : World} (h : AEnv w) (hb : Below w.heap.size w w') : AEnv w' := ⟨h.pk.later hb, h.tabs.later hb⟩
/-- the types of the blocks that closures capture -/
def capT (t : TypeId) : Prop := t = 68 ∨ t = 152 ∨ t = 3 ∨ t = 92 ∨ t = 1 ∨ t = 188 ∨ t = 9
/-- such blocks are kept -/
def Keep (w w' : World) : Prop := ∀ (k : Nat) (c : Array Value) (t : TypeId), w.heap[k]? = some (Obj.cells c t (0, 0)) → capT t → w'.heap[k]? = w.heap[k]?
theorem Keep.refl (w : World) : Keep w w := fun _ _ _ _ _ => rfl
theorem Keep.trans {a b c : World} (h : Keep a b) (h' : Keep b c) : Keep a c := fun k cs t hk ht => by
 have h1 := h k cs t hk ht
 rw [← h1]; exact h' k cs t (h1.trans hk) ht
theorem Keep.below {w w' : World} (hb : Below w.heap.size w w') : Keep w w' := fun k _ _ hk _ => hb.block k (Array.getElem?_eq_some_iff.1 hk).1
theorem Keep.at_ {w w' : World} {k : Nat} {c : Array Value} {t : TypeId} (h : Keep w w') (hk : w.heap[k]? = some (.cells c t (0, 0))) (ht : capT t) : w'.heap[k]? = some (.cells c t (0, 0)) := (h k c t hk ht).trans hk
/-- one that waits: the closure, its captured blocks; b is the block of the instruction, if it is one -/
def Pend (w : World) (R b : Nat) (f : Value) (x : Lat) : Prop :=
 match x.what with
 | .jmp i => ∃ b4 bw bl bp bf, f = .func (.func 115) #[] #[ptr b4, ptr bw, ptr bl, ptr bp, ptr b, ptr bf] ∧ w.heap[b4]? = some (.cells #[ptr R] 68 (0, 0)) ∧
   w.heap[bw]? = some (.cells (wC (x.nm, false, x.col)) 152 (0, 0)) ∧ w.heap[bl]? = some (.cells #[.int .i64 (x.line : Int)] 3 (0, 0)) ∧ w.heap[bp]? = some (.cells #[.int .i64 (x.place : Int)] 3 (0, 0)) ∧
   w.heap[b]? = some (.cells (insC i) 92 (0, 0)) ∧ w.heap[bf]? = some (.cells #[.func (.func 113) #[] #[ptr b, ptr b4, ptr bp]] 1 (0, 0))
 | .word => ∃ b4 bw bl bp bn bf, f = .func (.func 118) #[] #[ptr b4, ptr bw, ptr bl, ptr bf, ptr bp, ptr bn] ∧ w.heap[b4]? = some (.cells #[ptr R] 68 (0, 0)) ∧
   w.heap[bw]? = some (.cells (wC (x.nm, false, x.col)) 152 (0, 0)) ∧ w.heap[bl]? = some (.cells #[.int .i64 (x.line : Int)] 3 (0, 0)) ∧ w.heap[bp]? = some (.cells #[.int .i64 (x.place : Int)] 3 (0, 0)) ∧
   w.heap[bn]? = some (.cells #[.int .i64 1] 3 (0, 0)) ∧ w.heap[bf]? = some (.cells #[.func (.func 87) #[] #[]] 188 (0, 0))
 | .li a => ∃ b4 bw bl bp bn bf ba, f = .func (.func 118) #[] #[ptr b4, ptr bw, ptr bl, ptr bf, ptr bp, ptr bn] ∧ w.heap[b4]? = some (.cells #[ptr R] 68 (0, 0)) ∧
   w.heap[bw]? = some (.cells (wC (x.nm, false, x.col)) 152 (0, 0)) ∧ w.heap[bl]? = some (.cells #[.int .i64 (x.line : Int)] 3 (0, 0)) ∧ w.heap[bp]? = some (.cells #[.int .i64 (x.place : Int)] 3 (0, 0)) ∧
   w.heap[bn]? = some (.cells #[.int .i64 2] 3 (0, 0)) ∧ w.heap[bf]? = some (.cells #[.func (.func 120) #[] #[ptr ba]] 188 (0, 0)) ∧ w.heap[ba]? = some (.cells #[.int .i64 a] 3 (0, 0))
theorem Pend.keep {w w' : World} {R b : Nat} {f : Value} {x : Lat} (h : Pend w R b f x) (hk : Keep w w') : Pend w' R b f x := by
 obtain ⟨what, pl, nm, ln, col⟩ := x
 cases what with
 | jmp i =>
  obtain ⟨b4, bw, bl, bp, bf, e, h1, h2, h3, h4, h5, h6⟩ := h
  exact ⟨b4, bw, bl, bp, bf, e, hk.at_ h1 (.inl rfl), hk.at_ h2 (.inr (.inl rfl)), hk.at_ h3 (.inr (.inr (.inl rfl))), hk.at_ h4 (.inr (.inr (.inl rfl))), hk.at_ h5 (.inr (.inr (.inr (.inl rfl)))), hk.at_ h6 (.inr (.inr (.inr (.inr (.inl rfl)))))⟩
 | word =>
  obtain ⟨b4, bw, bl, bp, bn, bf, e, h1, h2, h3, h4, h5, h6⟩ := h
  exact ⟨b4, bw, bl, bp, bn, bf, e, hk.at_ h1 (.inl rfl), hk.at_ h2 (.inr (.inl rfl)), hk.at_ h3 (.inr (.inr (.inl rfl))), hk.at_ h4 (.inr (.inr (.inl rfl))), hk.at_ h5 (.inr (.inr (.inl rfl))), hk.at_ h6 (.inr (.inr (.inr (.inr (.inr (.inl rfl))))))⟩
 | li a =>
  obtain ⟨b4, bw, bl, bp, bn, bf, ba, e, h1, h2, h3, h4, h5, h6, h7⟩ := h
  exact ⟨b4, bw, bl, bp, bn, bf, ba, e, hk.at_ h1 (.inl rfl), hk.at_ h2 (.inr (.inl rfl)), hk.at_ h3 (.inr (.inr (.inl rfl))), hk.at_ h4 (.inr (.inr (.inl rfl))), hk.at_ h5 (.inr (.inr (.inl rfl))), hk.at_ h6 (.inr (.inr (.inr (.inr (.inr (.inl rfl)))))), hk.at_ h7 (.inr (.inr (.inl rfl)))⟩
/-- all that wait, each with a block of its own -/
structure Pends (w : World) (R : Nat) (fs : List Value) (lat : List Lat) (bs : List Nat) : Prop where
 lenB : bs.length = lat.length
 lenF : fs.length = lat.length
 up : bs.Pairwise (· < ·)
 lt : ∀ b ∈ bs, b < w.heap.size
 all : ∀ (i : Nat) x f b, lat[i]? = some x → fs[i]? = some f → bs[i]? = some b → Pend w R b f x
theorem Pends.keep {w w' : World} {R : Nat} {fs : List Value} {lat : List Lat} {bs : List Nat} (h : Pends w R fs lat bs) (hk : Keep w w') (hs : w.heap.size ≤ w'.heap.size) : Pends w' R fs lat bs :=
 ⟨h.lenB, h.lenF, h.up, fun b hb => Nat.lt_of_lt_of_le (h.lt b hb) hs, fun i x f b h1 h2 h3 => (h.all i x f b h1 h2 h3).keep hk⟩
theorem Pends.nil (w : World) (R : Nat) : Pends w R [] [] [] := ⟨rfl, rfl, List.Pairwise.nil, by simp, by simp⟩
theorem Pends.add {w : World} {R N : Nat} {fs : List Value} {lat : List Lat} {bs : List Nat} {f : Value} {x : Lat} {b : Nat} (h : Pends w R fs lat bs) (hb : ∀ c ∈ bs, c < b) (hw : b < w.heap.size) (hp : Pend w R b f x) (_ : N = N) : Pends w R (fs ++ [f]) (lat ++ [x]) (bs ++ [b]) := by
 refine ⟨by simp [h.lenB], by simp [h.lenF], ?_, ?_, ?_⟩
 ·rw [List.pairwise_append]
  exact ⟨h.up, by simp, fun c hc d hd => by simp only [List.mem_singleton] at hd; subst hd; exact hb c hc⟩
 ·intro c hc
  rcases List.mem_append.1 hc with hc | hc
  ·exact h.lt c hc
  ·simp only [List.mem_singleton] at hc; subst hc; exact hw
 ·intro i y g c h1 h2 h3
  have hlB := h.lenB
  have hlF := h.lenF
  rcases Nat.lt_or_ge i lat.length with hi | hi
  ·rw [List.getElem?_append_left hi] at h1
   rw [List.getElem?_append_left (by omega)] at h2 h3
   exact h.all i y g c h1 h2 h3
  ·have : i = lat.length := by
    have := (List.getElem?_eq_some_iff.1 h1).1
    simp at this; omega
   subst this
   rw [List.getElem?_append_right (Nat.le_refl _)] at h1
   rw [List.getElem?_append_right (by omega)] at h2 h3
   simp only [Nat.sub_self, List.getElem?_cons_zero, Option.some.injEq] at h1
   simp only [hlF, Nat.sub_self, List.getElem?_cons_zero, Option.some.injEq] at h2
   simp only [hlB, Nat.sub_self, List.getElem?_cons_zero, Option.some.injEq] at h3
   subst h1; subst h2; subst h3; exact hp
/-- the map of the labels -/
def MapIs (w : World) (mb : Nat) (L : List (ByteArray × Nat)) : Prop :=
 ∃ (n : Nat) (D : DataW Unit), w.ownsMap Tryz.prog 9 (plainElem Tryz.prog 3) mb n D ∧ n ≤ L.length ∧ Maps.IsMap D ∧
  (∀ s : ByteArray, Maps.has D (.string s.data.toList) = (findL L s).isSome) ∧ ∀ (s : ByteArray) (p : Nat), findL L s = some p → ∀ z, D.atKey (.string s.data.toList) z = .lit (.int .i64 (p : Int))
theorem MapIs.same {w w' : World} {mb : Nat} {L : List (ByteArray × Nat)} (h : MapIs w mb L) (hb : w'.heap[mb]? = w.heap[mb]?) : MapIs w' mb L := by
 obtain ⟨n, D, ⟨es, clock, h1, h2⟩, r⟩ := h
 exact ⟨n, D, ⟨es, clock, hb.trans h1, h2⟩, r⟩
theorem MapIs.lt {w : World} {mb : Nat} {L : List (ByteArray × Nat)} (h : MapIs w mb L) : ∃ es clock, w.heap[mb]? = some (.map es clock) := by
 obtain ⟨n, D, ⟨es, clock, h1, h2⟩, r⟩ := h
 exact ⟨es, clock, h1⟩
/-- rows of strings are as they were -/
def StrK (w0 w : World) : Prop := ∀ (k : Nat) (cs : Array Value), w0.heap[k]? = some (Obj.cells cs 9 (0, 0)) → w.heap[k]? = some (Obj.cells cs 9 (0, 0))
theorem StrK.refl (w : World) : StrK w w := fun _ _ h => h
theorem StrK.keep {w0 w w' : World} (h : StrK w0 w) (hk : Keep w w') : StrK w0 w' := fun k cs hc => hk.at_ (h k cs hc) (.inr (.inr (.inr (.inr (.inr (.inr rfl))))))
/-- the reader at R and all that hangs on it; all else below B is as it was in w0 -/
structure RSt (B : Nat) (w0 w : World) (R : Nat) (base : Int) (ln : Nat) (st : Asm) (vw vl : Value) (mb : Nat) (vf : Value) (fs : List Value) (bs : List Nat) (ml : List (ByteArray × Nat)) : Prop where
 blk : w.heap[R]? = some (.cells #[.int .u32 base, .int .i64 (ln : Int), vw, vl, .map (some mb), vf] 77 (0, 0))
 ws : w.ownsRow B 22 1 vw st.ws.length (wi st.ws)
 labs : w.ownsRow B 44 2 vl st.labs.length (lc st.labs)
 map : MapIs w mb ml
 lat : w.ownsRow B 118 1 vf fs.length fs
 pend : Pends w R (fs.drop (fs.length - st.lat.length)) st.lat bs
 hR : B ≤ R
 hm : B ≤ mb
 below : Below B w0 w
 size : ∃ w00 : World, AEnv w00 ∧ w00.heap.size ≤ B ∧ Below B w00 w0
 strs : StrK w0 w
 lo : ∀ b ∈ bs, B ≤ b
/-- .. with whatever rows -/
def RAt (B : Nat) (w0 w : World) (R : Nat) (base : Int) (ln : Nat) (st : Asm) : Prop := ∃ vw vl mb vf fs bs, RSt B w0 w R base ln st vw vl mb vf fs bs st.labs ∧ fs.length = st.lat.length
section
variable {B : Nat} {w0 w w' : World} {R : Nat} {base : Int} {ln : Nat} {st : Asm} {vw vl : Value} {mb : Nat} {vf : Value} {fs : List Value} {bs : List Nat} {ml : List (ByteArray × Nat)}
theorem RSt.lt (h : RSt B w0 w R base ln st vw vl mb vf fs bs ml) : R < w.heap.size := (Array.getElem?_eq_some_iff.1 h.blk).1
theorem RSt.c (h : RSt B w0 w R base ln st vw vl mb vf fs bs ml) : w.cell? ⟨R, 0, none⟩ = some (.int .u32 base) ∧ w.cell? ⟨R, 1, none⟩ = some (.int .i64 (ln : Int)) ∧ w.cell? ⟨R, 2, none⟩ = some vw ∧ w.cell? ⟨R, 3, none⟩ = some vl ∧ w.cell? ⟨R, 4, none⟩ = some (.map (some mb)) ∧ w.cell? ⟨R, 5, none⟩ = some vf :=
 ⟨cell_of_row _ _ 0 _ _ _ h.blk, cell_of_row _ _ 1 _ _ _ h.blk, cell_of_row _ _ 2 _ _ _ h.blk, cell_of_row _ _ 3 _ _ _ h.blk, cell_of_row _ _ 4 _ _ _ h.blk, cell_of_row _ _ 5 _ _ _ h.blk⟩
theorem RSt.f (h : RSt B w0 w R base ln st vw vl mb vf fs bs ml) (j : Nat) : w.frozen? ⟨R, j, none⟩ = false := frozen_of_row _ _ _ _ _ h.blk
theorem RSt.env (h : RSt B w0 w R base ln st vw vl mb vf fs bs ml) (_hE : AEnv w0) : AEnv w := by
 obtain ⟨w00, h1, h2, h3⟩ := h.size
 exact h1.later ((h3.trans h.below).mono h2)
theorem RSt.later (h : RSt B w0 w R base ln st vw vl mb vf fs bs ml) (hb : Below w.heap.size w w') : RSt B w0 w' R base ln st vw vl mb vf fs bs ml :=
 ⟨(hb.block R h.lt).trans h.blk, own_below h.ws hb, own_below h.labs hb, h.map.same (by obtain ⟨es, c, hm⟩ := h.map.lt; exact hb.block _ (Array.getElem?_eq_some_iff.1 hm).1), own_below h.lat hb, h.pend.keep (Keep.below hb) hb.size, h.hR, h.hm, h.below.trans (hb.mono (by have := h.hR; have := h.lt; omega)), h.size, h.strs.keep (Keep.below hb), h.lo⟩
theorem RAt.later (h : RAt B w0 w R base ln st) (hb : Below w.heap.size w w') : RAt B w0 w' R base ln st := by
 obtain ⟨vw, vl, mb, vf, fs, bs, h, e⟩ := h; exact ⟨vw, vl, mb, vf, fs, bs, h.later hb, e⟩
/-- a block of cells of another type is no block of a row -/
theorem own_ne {C : Nat} {e : TypeId} {size n : Nat} {v : Value} {xs : List Value} {k : Nat} {c : Array Value} {t : TypeId} {fr : Nat × Nat} (h : w.ownsRow C e size v n xs) (hk : w.heap[k]? = some (.cells c t fr)) (hne : t ≠ e) : v.ownBlock ≠ some k := by
 intro hv
 rcases h.2 with ⟨rfl, _⟩ | ⟨g, cap, cur, rfl, _, hg, _⟩
 ·simp [Value.ownBlock] at hv
 ·simp only [Value.ownBlock, Option.some.injEq] at hv
  subst hv
  rw [hk] at hg
  simp only [Option.some.injEq, Obj.cells.injEq] at hg
  exact hne hg.2.1
theorem own_ne_map {C : Nat} {e : TypeId} {size n : Nat} {v : Value} {xs : List Value} {k : Nat} {es : Array MapEntry} {c : Nat} (h : w.ownsRow C e size v n xs) (hk : w.heap[k]? = some (.map es c)) : v.ownBlock ≠ some k := by
 intro hv
 rcases h.2 with ⟨rfl, _⟩ | ⟨g, cap, cur, rfl, _, hg, _⟩
 ·simp [Value.ownBlock] at hv
 ·simp only [Value.ownBlock, Option.some.injEq] at hv
  subst hv
  rw [hk] at hg
  simp at hg
theorem own_far {C C' : Nat} {e e' : TypeId} {size size' n n' : Nat} {u v : Value} {xs ys : List Value} (h : w.ownsRow C e size u n xs) (h' : w.ownsRow C' e' size' v n' ys) (hne : e ≠ e') : Far u v := by
 intro k h1 h2
 rcases h.2 with ⟨rfl, _⟩ | ⟨g, cap, cur, rfl, _, hg, _⟩
 ·simp [Value.ownBlock] at h1
 ·simp only [Value.ownBlock, Option.some.injEq] at h1
  subst h1
  exact own_ne h' hg hne h2
end
end Go.Proofs.YtiknookfnameiaaGreatDoor

namespace Go.Proofs
open Go.Shelf
def YtiknookfnameiaaGreatDoor.laysItoa_ren : Go.Shelf.Ren := ⟨fun | 171 => 33 | 243 => 53 | 246 => 76 | 283 => 102 | 284 => 103 | 285 => 104 | 286 => 105 | 129 => 129 | 317 => 128 | 318 => 130 | 319 => 131 | 320 => 132 | 337 => 149 | 338 => 150 | n => n, fun | 3 => 3 | 9 => 9 | 2 => 2 | 4 => 4 | 171 => 212 | 0 => 0 | 53 => 132 | 37 => 101 | 5 => 5 | 173 => 215 | 212 => 238 | 51 => 22 | 20 => 20 | 213 => 239 | 46 => 93 | 232 => 266 | 233 => 267 | n => n, fun | 17 => 5 | 18 => 8 | 19 => 9 | n => n⟩
theorem YtiknookfnameiaaGreatDoor.laysItoa : Go.Proofs.LaysM.n171 Tryz.prog YtiknookfnameiaaGreatDoor.laysItoa_ren := {
 mixed := by kernel_rfl
 f129 := Tryz.func129.trans (congrArg some (by kernel_rfl))
 f171 := Tryz.func33.trans (congrArg some (by kernel_rfl))
 f243 := Tryz.func53.trans (congrArg some (by kernel_rfl))
 f246 := Tryz.func76.trans (congrArg some (by kernel_rfl))
 f283 := Tryz.func102.trans (congrArg some (by kernel_rfl))
 f284 := Tryz.func103.trans (congrArg some (by kernel_rfl))
 f285 := Tryz.func104.trans (congrArg some (by kernel_rfl))
 f286 := Tryz.func105.trans (congrArg some (by kernel_rfl))
 f317 := Tryz.func128.trans (congrArg some (by kernel_rfl))
 f318 := Tryz.func130.trans (congrArg some (by kernel_rfl))
 f319 := Tryz.func131.trans (congrArg some (by kernel_rfl))
 f320 := Tryz.func132.trans (congrArg some (by kernel_rfl))
 f337 := Tryz.func149.trans (congrArg some (by kernel_rfl))
 f338 := Tryz.func150.trans (congrArg some (by kernel_rfl))
 t0 := Tryz.underlying0
 a0 := Tryz.isAgg0
 z0 := Tryz.sizeOf0
 v0 := Tryz.zeroValue0
 t2 := Tryz.underlying2
 a2 := Tryz.isAgg2
 z2 := Tryz.sizeOf2
 v2 := Tryz.zeroValue2
 t3 := Tryz.underlying3
 a3 := Tryz.isAgg3
 z3 := Tryz.sizeOf3
 v3 := Tryz.zeroValue3
 t4 := Tryz.underlying4
 a4 := Tryz.isAgg4
 z4 := Tryz.sizeOf4
 v4 := Tryz.zeroValue4
 t5 := Tryz.underlying5
 a5 := Tryz.isAgg5
 z5 := Tryz.sizeOf5
 v5 := Tryz.zeroValue5
 t9 := Tryz.underlying9
 a9 := Tryz.isAgg9
 z9 := Tryz.sizeOf9
 v9 := Tryz.zeroValue9
 t20 := Tryz.underlying20
 a20 := Tryz.isAgg20
 z20 := Tryz.sizeOf20
 v20 := Tryz.zeroValue20
 t37 := Tryz.underlying101
 a37 := Tryz.isAgg101
 z37 := Tryz.sizeOf101
 v37 := Tryz.zeroValue101
 t46 := Tryz.underlying93
 a46 := Tryz.isAgg93
 z46 := Tryz.sizeOf93
 v46 := Tryz.zeroValue93
 t51 := Tryz.underlying22
 a51 := Tryz.isAgg22
 z51 := Tryz.sizeOf22
 v51 := Tryz.zeroValue22
 t53 := Tryz.underlying132
 a53 := Tryz.isAgg132
 z53 := Tryz.sizeOf132
 v53 := Tryz.zeroValue132
 t171 := Tryz.underlying212
 a171 := Tryz.isAgg212
 z171 := Tryz.sizeOf212
 v171 := Tryz.zeroValue212
 t173 := Tryz.underlying215
 a173 := Tryz.isAgg215
 z173 := Tryz.sizeOf215
 v173 := Tryz.zeroValue215
 t212 := Tryz.underlying238
 a212 := Tryz.isAgg238
 z212 := Tryz.sizeOf238
 v212 := Tryz.zeroValue238
 t213 := Tryz.underlying239
 a213 := Tryz.isAgg239
 z213 := Tryz.sizeOf239
 t232 := Tryz.underlying266
 a232 := Tryz.isAgg266
 z232 := Tryz.sizeOf266
 v232 := Tryz.zeroValue266
 t233 := Tryz.underlying267
 a233 := Tryz.isAgg267
 z233 := Tryz.sizeOf267
 v233 := Tryz.zeroValue267
 g17 := by kernel_rfl
 g18 := by kernel_rfl
 g19 := by kernel_rfl
 i0 := by kernel_rfl
 i2 := by kernel_rfl
 i3 := by kernel_rfl
 i4 := by kernel_rfl
 i5 := by kernel_rfl
 i9 := by kernel_rfl
 i20 := by kernel_rfl
 i37 := by kernel_rfl
 i46 := by kernel_rfl
 i51 := by kernel_rfl
 i53 := by kernel_rfl
 i171 := by kernel_rfl
 i173 := by kernel_rfl
 i212 := by kernel_rfl
 i232 := by kernel_rfl
 i233 := by kernel_rfl
 m17 := by kernel_rfl
 m18 := by kernel_rfl
 m19 := by kernel_rfl }
def YtiknookfnameiaaGreatDoor.laysFIntP_ren : Go.Shelf.Ren := ⟨fun | 173 => 78 | 246 => 76 | 283 => 102 | 284 => 103 | 285 => 104 | 286 => 105 | 129 => 129 | 317 => 128 | 318 => 130 | 319 => 131 | 320 => 132 | 337 => 149 | 338 => 150 | n => n, fun | 2 => 2 | 3 => 3 | 9 => 9 | 4 => 4 | 171 => 212 | 0 => 0 | 53 => 132 | 37 => 101 | 5 => 5 | 173 => 215 | 212 => 238 | 51 => 22 | 20 => 20 | 213 => 239 | 46 => 93 | 232 => 266 | 233 => 267 | n => n, fun | 17 => 5 | 18 => 8 | 19 => 9 | n => n⟩
def YtiknookfnameiaaGreatDoor.laysBStr_ren : Go.Shelf.Ren := ⟨fun | 169 => 36 | n => n, fun | 70 => 100 | 9 => 9 | 0 => 0 | 72 => 103 | 37 => 101 | 127 => 145 | 3 => 3 | 5 => 5 | n => n, fun | n => n⟩
end Go.Proofs

namespace Go.Proofs.YtiknookfnameiaaGreatDoor
open Go.RowKit WP
set_option linter.unusedSimpArgs false
set_option maxRecDepth 100000 in
theorem isnm_any (x : W) (w : World) : Calls Tryz.prog 114 #[wV x] w fun e w' => e = .returned (.bool (isNameF x)) ∧ Below w.heap.size w w' := by
 obtain ⟨s, q, c⟩ := x
 have hb := (Below.refl w.heap.size w).alloc (Nat.le_refl _) (.cells #[.string s, .bool q, .int .i64 (c : Int)] 152)
 have hn := fun W => name_any s W
 unfold isNameF wV
 dsimp only
 replace hb := Lib.hid hb
 cases q with
 | true =>
  clear hn
  go_enter Tryz.func114, Tryz.ntmps114
  go_wp2_with fail
  go_ret
  exact ⟨rfl, hb.out⟩
 | false =>
  cases h : nameF s with
  | true =>
   rw [h, if_pos rfl] at hn
   go_enter Tryz.func114, Tryz.ntmps114
   go_wp2_with (go_at_call 63; refine (hn _).mono ?_; rintro e w' ⟨rfl, rfl⟩)
   go_ret
   exact ⟨rfl, hb.out⟩
  | false =>
   rw [h, if_neg (by simp)] at hn
   go_enter Tryz.func114, Tryz.ntmps114
   go_wp2_with (go_at_call 63; refine (hn _).mono ?_; rintro e w' ⟨rfl, rfl⟩)
   go_ret
   exact ⟨rfl, hb.out⟩
set_option maxRecDepth 100000 in
theorem anum_any (x : W) (w : World) (hs : x.1.size ≤ 140737488355328) (hE : ErrVar w "strconv.ErrRange") :
  Calls Tryz.prog 117 #[wV x] w fun e w' => e = .returned (.tuple #[.int .u32 ((numberM x).getD 0), .bool (numberM x).isSome]) ∧ Below w.heap.size w w' := by
 obtain ⟨s, q, c⟩ := x
 have hb := (Below.refl w.heap.size w).alloc (Nat.le_refl _) (.cells #[.string s, .bool q, .int .i64 (c : Int)] 152)
 have hE1 := hE.later hb
 have hnu := fun W hW => number_any s W hs hW
 have hsg := fun W hW => signed_any s W hs hW
 unfold numberM wV
 dsimp only
 cases q with
 | true =>
  clear hnu hsg
  replace hb := Lib.hid hb; replace hE1 := Lib.hid hE1
  go_enter Tryz.func117, Tryz.ntmps117
  go_wp2_with fail
  go_ret2
  exact ⟨rfl, hb.out⟩
 | false =>
  rw [if_neg (by simp)]
  cases hn : numF s.data.toList with
  | some v =>
   rw [hn] at hnu
   simp only [Option.getD_some, Option.isSome_some, errN, if_true] at hnu ⊢
   clear hsg
   replace hb := Lib.hid hb; replace hE1 := Lib.hid hE1; replace hnu := Lib.hid hnu
   go_enter Tryz.func117, Tryz.ntmps117
   go_wp2_with (go_at_call 121; refine (hnu.out _ hE1.out).mono ?_; rintro e w1 ⟨b1, rfl⟩)
   go_ret2
   exact ⟨rfl, hb.out.trans (b1.mono hb.out.size)⟩
  | none =>
   rw [hn] at hnu
   simp only [Option.getD_none, Option.isSome_none, errN] at hnu
   have e41 : (if false = true then (0 : Int) else 41) = 41 := rfl
   rw [e41] at hnu
   cases hg : sgnF s.data.toList with
   | some v =>
    rw [hg] at hsg
    simp only [Option.getD_some, Option.isSome_some, errN, if_true, Option.map_some] at hsg ⊢
    replace hb := Lib.hid hb; replace hE1 := Lib.hid hE1; replace hnu := Lib.hid hnu; replace hsg := Lib.hid hsg
    go_enter Tryz.func117, Tryz.ntmps117
    go_wp2_with fail
    refine (hnu.out _ hE1.out).mono ?_
    rintro e w1 ⟨b1, rfl⟩
    have B1 := hb.out.trans (b1.mono hb.out.size)
    have hE2 := hE1.out.later b1
    have k0 : w1.cell? ⟨w.heap.size, 0, none⟩ = some (.string s) := (b1.cell (p := ⟨w.heap.size, 0, none⟩) (by simp)).trans (by simp)
    replace B1 := Lib.hid B1; replace hE2 := Lib.hid hE2
    clear b1
    go_wp2_with fail
    refine (hsg.out _ hE2.out).mono ?_
    rintro e w2 ⟨b2, rfl⟩
    go_wp2_with fail
    go_ret2
    exact ⟨rfl, B1.out.trans (b2.mono B1.out.size)⟩
   | none =>
    rw [hg] at hsg
    simp only [Option.getD_none, Option.isSome_none, errN, Option.map_none] at hsg ⊢
    rw [e41] at hsg
    replace hb := Lib.hid hb; replace hE1 := Lib.hid hE1; replace hnu := Lib.hid hnu; replace hsg := Lib.hid hsg
    go_enter Tryz.func117, Tryz.ntmps117
    go_wp2_with fail
    refine (hnu.out _ hE1.out).mono ?_
    rintro e w1 ⟨b1, rfl⟩
    have B1 := hb.out.trans (b1.mono hb.out.size)
    have hE2 := hE1.out.later b1
    have k0 : w1.cell? ⟨w.heap.size, 0, none⟩ = some (.string s) := (b1.cell (p := ⟨w.heap.size, 0, none⟩) (by simp)).trans (by simp)
    replace B1 := Lib.hid B1; replace hE2 := Lib.hid hE2
    clear b1
    go_wp2_with fail
    refine (hsg.out _ hE2.out).mono ?_
    rintro e w2 ⟨b2, rfl⟩
    go_wp2_with fail
    go_ret2
    exact ⟨rfl, B1.out.trans (b2.mono B1.out.size)⟩
end Go.Proofs.YtiknookfnameiaaGreatDoor
