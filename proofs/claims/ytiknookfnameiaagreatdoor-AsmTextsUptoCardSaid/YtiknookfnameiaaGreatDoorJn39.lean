/- The contract of asm's statement. For the document's statement: parts of a row of words; a fault's variable. -/
import Derived.Test.YtiknookfnameiaaGreatDoorMInsJn
import Derived.Test.YtiknookfnameiaaGreatDoorJn38
import Derived.Test.YtiknookfnameiaaGreatDoorRInJn
import Derived.Test.YtiknookfnameiaaGreatDoorROwJn
import Derived.Test.YtiknookfnameiaaGreatDoorJn31
import Derived.Test.YtiknookfnameiaaGreatDoorJn16
namespace Go.Proofs.YtiknookfnameiaaGreatDoor
open Go.RowKit WP
set_option linter.unusedSimpArgs false
set_option linter.unusedVariables false
theorem findT_lt {T : List (List UInt8)} {s : List UInt8} : ∀ (f k o : Nat), findT T s f k = some o → o < k + f
 | 0, k, o, h => by simp [findT] at h
 | f + 1, k, o, h => by
  rw [findT] at h
  split at h
  ·simp only [Option.some.injEq] at h; omega
  ·have := findT_lt f (k + 1) o h; omega
theorem namedF_lt {s : ByteArray} {o : Nat} (h : namedF s = some o) : o < 25 := by
 have := findT_lt _ _ _ h
 omega
theorem str_of {s : ByteArray} {l : List UInt8} (h : s.data.toList = l) : s = ⟨l.toArray⟩ := by
 cases s with | mk d => cases d with | mk dl => simp only at h; subst h; rfl
theorem eq_no {s : ByteArray} {l : List UInt8} (h : ¬ s.data.toList = l) : (s.toList == l) = false := by
 rw [ByteArray.toList_eq]; simpa using h
set_option maxRecDepth 100000 in
set_option maxHeartbeats 4000000 in
theorem stmt_any {B : Nat} {w0 w : World} {R : Nat} {base : Int} {ln : Nat} {st : Asm} (hR : RAt B w0 w R base ln st) (hE : AEnv w0) (hst : st.ws.length ≤ 2048) (hlat : st.lat.length ≤ 2048) (name : W) (ops : List W) (v : Value) (hops : WsAt w v ops) (hsz : ∀ x ∈ ops, x.1.size ≤ 1048576) (hol : ops.length ≤ 1048576) :
  Calls Tryz.prog 64 #[ptr R, wV name, v] w fun e w' => StRes B w0 R base ln w' e (stmtM ln name ops st) := by
 obtain ⟨vw, vl, mb, vf, fs, bs, h, hfl⟩ := id hR
 obtain ⟨ns, nq, nc⟩ := name
 obtain ⟨w1, hw1⟩ : ∃ w1, w.alloc (.cells #[.string ns, .bool nq, .int .i64 (nc : Int)] 152) = w1 := ⟨_, rfl⟩
 have b1 : Below w.heap.size w w1 := by rw [← hw1]; exact (Below.refl w.heap.size w).alloc (Nat.le_refl _) _
 have H4 : w1.heap[w.heap.size]? = some (.cells #[.string ns, .bool nq, .int .i64 (nc : Int)] 152 (0, 0)) := by rw [← hw1]; exact heap_alloc_new w _
 have h1 := h.later b1
 have hR1 := hR.later b1
 have c0 : w1.cell? ⟨w.heap.size, 0, none⟩ = some (.string ns) := cell_of_row _ _ 0 _ _ _ H4
 have c1 : w1.cell? ⟨w.heap.size, 1, none⟩ = some (.bool nq) := cell_of_row _ _ 1 _ _ _ H4
 have c2 : w1.cell? ⟨w.heap.size, 2, none⟩ = some (.int .i64 (nc : Int)) := cell_of_row _ _ 2 _ _ _ H4
 have hOp := hops.later b1
 have hnm := named_any ns w1 (h1.env hE).tabs
 have hat := at_any R ln nc 60 w1 h1.c.2.1
 have hbel := h1.below
 have hs1 : B ≤ w1.heap.size := by have := h1.hR; have := h1.lt; omega
 obtain ⟨FR, hFR⟩ : ∃ FR, stmtM ln (ns, nq, nc) ops st = FR := ⟨_, rfl⟩
 rw [hFR]
 unfold stmtM at hFR
 dsimp only at hFR
 have hin := fun o ho => instr_any hR1 hE hst hlat (ns, nq, nc) o ho ops v hOp hsz hol
 have hfx := fixed_word hR1 hE hst hlat (ns, nq, nc) ops v hOp hsz ⟨#[120]⟩ 0 rfl (by omega) hol (.inl ⟨rfl, rfl, rfl⟩)
 have hli := li_any hR1 hE hst hlat (ns, nq, nc) ops v hOp hsz hol
 have hze := zero_any hR1 hE hst (ns, nq, nc) ops v hOp hsz hol
 unfold wV at hin hfx hli hze ⊢
 dsimp only [Wht.size] at hin hfx hli hze ⊢
 have e1 : ((1 : Nat) : Int) = 1 := rfl
 simp only [e1] at hfx
 clear h H4 b1 hops hOp hR h1 hR1 hE e1 hfl
 replace hsz := Lib.hid hsz; replace hin := Lib.hid hin; replace hfx := Lib.hid hfx; replace hli := Lib.hid hli; replace hze := Lib.hid hze; replace hat := Lib.hid hat; replace hbel := Lib.hid hbel
 cases nq with
 | true =>
  rw [if_pos rfl] at hFR
  subst hFR
  obtain ⟨V, hV⟩ : ∃ V : Int, (((namedF ns).getD 0 : Nat) : Int) = V := ⟨_, rfl⟩
  obtain ⟨C, hC⟩ : ∃ C : Int, (if (namedF ns).isSome = true then (0 : Int) else 50) = C := ⟨_, rfl⟩
  rw [hV, hC] at hnm
  clear hV hC
  replace hnm := Lib.hid hnm
  go_enter Tryz.func64, Tryz.ntmps64
  go_upto_region 1 with fail
  try rw [hw1]
  clear hw1
  go_wp2_with fail
  refine hnm.out.mono ?_
  rintro e w2 ⟨rfl, rfl⟩
  go_wp2_with fail
  refine hat.out.mono ?_
  rintro e w3 ⟨fv, rfl, hft, b3⟩
  have hfin := hbel.out.trans (b3.mono hs1)
  replace hft := Lib.hid hft; replace hfin := Lib.hid hfin
  go_wp2_with fail
  go_ret
  exact ⟨⟨_, rfl, hft.out⟩, hfin.out⟩
 | false =>
  rw [if_neg (by simp)] at hFR
  cases hn : namedF ns with
  | some o =>
   rw [hn] at hFR hnm
   simp only at hFR
   have hin1 := hin.out o (namedF_lt hn)
   rw [hFR] at hin1
   clear hin
   simp only [Option.getD_some, Option.isSome_some, if_true] at hnm
   replace hnm := Lib.hid hnm; replace hin1 := Lib.hid hin1; replace hFR := Lib.hid hFR
   go_enter Tryz.func64, Tryz.ntmps64
   go_upto_region 1 with fail
   try rw [hw1]
   clear hw1
   go_wp2_with fail
   refine hnm.out.mono ?_
   rintro e w2 ⟨rfl, rfl⟩
   go_wp2_with fail
   refine hin1.out.mono ?_
   rintro e w3 hres
   cases FR with
   | inl st' =>
    obtain ⟨rfl, hra⟩ := hres
    replace hra := Lib.hid hra
    go_wp2_with fail
    go_ret
    exact ⟨rfl, hra.out⟩
   | inr f =>
    obtain ⟨⟨fv, rfl, hft⟩, hbl⟩ := hres
    replace hft := Lib.hid hft; replace hbl := Lib.hid hbl
    go_wp2_with fail
    go_ret
    exact ⟨⟨_, rfl, hft.out⟩, hbl.out⟩
  | none =>
   rw [hn] at hFR hnm
   simp only at hFR
   clear hin
   simp only [Option.getD_none, Option.isSome_none] at hnm
   have e50 : (if false = true then (0 : Int) else 50) = 50 := rfl
   rw [e50] at hnm
   replace hnm := Lib.hid hnm
   by_cases h1 : ns.data.toList = [119, 111, 114, 100]
   ·rw [if_pos h1] at hFR
    replace hfx := hfx.out
    rw [hFR] at hfx
    have hs : ns = ⟨#[119, 111, 114, 100]⟩ := str_of h1
    subst hs
    clear h1 hli hze hat hn
    replace hfx := Lib.hid hfx; replace hFR := Lib.hid hFR
    go_enter Tryz.func64, Tryz.ntmps64
    go_upto_region 1 with fail
    try rw [hw1]
    clear hw1
    go_wp2_with fail
    refine hnm.out.mono ?_
    rintro e w2 ⟨rfl, rfl⟩
    go_wp2_with fail
    refine hfx.out.mono ?_
    rintro e w3 hres
    cases FR with
    | inl st' =>
     obtain ⟨rfl, hra⟩ := hres
     replace hra := Lib.hid hra
     go_wp2_with fail
     go_ret
     exact ⟨rfl, hra.out⟩
    | inr f =>
     obtain ⟨⟨fv, rfl, hft⟩, hbl⟩ := hres
     replace hft := Lib.hid hft; replace hbl := Lib.hid hbl
     go_wp2_with fail
     go_ret
     exact ⟨⟨_, rfl, hft.out⟩, hbl.out⟩
   ·rw [if_neg h1] at hFR
    have n1 := eq_no h1
    by_cases h2 : ns.data.toList = [108, 105]
    ·rw [if_pos h2] at hFR
     replace hli := hli.out
     rw [hFR] at hli
     have hs : ns = ⟨#[108, 105]⟩ := str_of h2
     subst hs
     clear h1 h2 hfx hze hat n1 hn
     replace hli := Lib.hid hli; replace hFR := Lib.hid hFR
     go_enter Tryz.func64, Tryz.ntmps64
     go_upto_region 1 with fail
     try rw [hw1]
     clear hw1
     go_wp2_with fail
     refine hnm.out.mono ?_
     rintro e w2 ⟨rfl, rfl⟩
     go_wp2_with fail
     refine hli.out.mono ?_
     rintro e w3 hres
     cases FR with
     | inl st' =>
      obtain ⟨rfl, hra⟩ := hres
      replace hra := Lib.hid hra
      go_wp2_with fail
      go_ret
      exact ⟨rfl, hra.out⟩
     | inr f =>
      obtain ⟨⟨fv, rfl, hft⟩, hbl⟩ := hres
      replace hft := Lib.hid hft; replace hbl := Lib.hid hbl
      go_wp2_with fail
      go_ret
      exact ⟨⟨_, rfl, hft.out⟩, hbl.out⟩
    ·rw [if_neg h2] at hFR
     have n2 := eq_no h2
     by_cases h3 : ns.data.toList = [122, 101, 114, 111]
     ·rw [if_pos h3] at hFR
      replace hze := hze.out
      rw [hFR] at hze
      have hs : ns = ⟨#[122, 101, 114, 111]⟩ := str_of h3
      subst hs
      clear h1 h2 h3 hfx hli hat n1 n2 hn
      replace hze := Lib.hid hze; replace hFR := Lib.hid hFR
      go_enter Tryz.func64, Tryz.ntmps64
      go_upto_region 1 with fail
      try rw [hw1]
      clear hw1
      go_wp2_with fail
      refine hnm.out.mono ?_
      rintro e w2 ⟨rfl, rfl⟩
      go_wp2_with fail
      refine hze.out.mono ?_
      rintro e w3 hres
      cases FR with
      | inl st' =>
       obtain ⟨rfl, hra⟩ := hres
       replace hra := Lib.hid hra
       go_wp2_with fail
       go_ret
       exact ⟨rfl, hra.out⟩
      | inr f =>
       obtain ⟨⟨fv, rfl, hft⟩, hbl⟩ := hres
       replace hft := Lib.hid hft; replace hbl := Lib.hid hbl
       go_wp2_with fail
       go_ret
       exact ⟨⟨_, rfl, hft.out⟩, hbl.out⟩
     ·rw [if_neg h3] at hFR
      have n3 := eq_no h3
      subst hFR
      clear h1 h2 h3 hfx hli hze hn
      go_enter Tryz.func64, Tryz.ntmps64
      go_upto_region 1 with fail
      try rw [hw1]
      clear hw1
      go_wp2_with fail
      refine hnm.out.mono ?_
      rintro e w2 ⟨rfl, rfl⟩
      go_wp2_with fail
      refine hat.out.mono ?_
      rintro e w3 ⟨fv, rfl, hft, b3⟩
      have hfin := hbel.out.trans (b3.mono hs1)
      replace hft := Lib.hid hft; replace hfin := Lib.hid hfin
      go_wp2_with fail
      go_ret
      exact ⟨⟨_, rfl, hft.out⟩, hfin.out⟩
end Go.Proofs.YtiknookfnameiaaGreatDoor

namespace Go.Proofs.YtiknookfnameiaaGreatDoor
open Go.RowKit WP
set_option linter.unusedSimpArgs false
set_option linter.unusedVariables false
theorem rsize_word (W : World) : (sizeOf (Tryz.prog.elem 169)).run Tryz.prog W = .ok 3 W := by kernel_rfl
theorem addr_add (b off j : Nat) : (⟨b, off, none⟩ : Addr).add j = ⟨b, off + j, none⟩ := by unfold Addr.add; split <;> simp_all
theorem rslice_l {w : World} {ao : Option Addr} {n cap : Nat} {ops : List W} (h : RWs w (.slice ao n cap) ops) (k : Nat) (K : Int) (hK : K = (k : Int)) (hk : k ≤ ops.length) :
  ∃ ao', (∀ W : World, (Instr.slice 169 (.slice ao n cap) (some (.int .i64 K)) none none).run Tryz.prog W = .ok (.slice ao' (ops.length - k) (cap - k)) W) ∧ RWs w (.slice ao' (ops.length - k) (cap - k)) (ops.drop k) := by
 obtain ⟨e1, e2, e3, e4⟩ := h.sub (k := k) (m := ops.length - k) (by omega)
 subst e1; subst hK
 refine ⟨if cap = k then ao else ao.map (·.add (k * 3)), fun W => ?_, ?_⟩
 ·rw [run_slice_l (P := Tryz.prog) (t := 169) (a := ao) (len := ops.length) (cap := cap) (ht := by kernel_rfl) (kl := .i64) (l := (k : Int)) (h0 := by omega) (h1 := by omega), rsize_word W]
  unfold sliced
  simp [Result.andThen]
 ·have := e4 (if cap = k then ao else ao.map (·.add (k * 3))) (fun b off hb hc => by rw [if_neg (by omega), hb]; simp [addr_add])
  rwa [List.take_of_length_le (by simp)] at this
theorem rslice_lh {w : World} {ao : Option Addr} {n cap : Nat} {ops : List W} (h : RWs w (.slice ao n cap) ops) (k m : Nat) (K M : Int) (hK : K = (k : Int)) (hM : M = ((k + m : Nat) : Int)) (hk : k + m ≤ ops.length) :
  ∃ ao', (∀ W : World, (Instr.slice 169 (.slice ao n cap) (some (.int .i64 K)) (some (.int .i64 M)) none).run Tryz.prog W = .ok (.slice ao' m (cap - k)) W) ∧ RWs w (.slice ao' m (cap - k)) ((ops.drop k).take m) := by
 obtain ⟨e1, e2, e3, e4⟩ := h.sub (k := k) (m := m) (by omega)
 subst e1; subst hK; subst hM
 refine ⟨if cap = k then ao else ao.map (·.add (k * 3)), fun W => ?_, e4 _ (fun b off hb hc => by rw [if_neg (by omega), hb]; simp [addr_add])⟩
 rw [run_slice_lh (P := Tryz.prog) (t := 169) (a := ao) (len := ops.length) (cap := cap) (ht := by kernel_rfl) (kl := .i64) (kh := .i64) (l := (k : Int)) (h := ((k + m : Nat) : Int)) (h0 := by omega) (h1 := by omega) (h2 := by omega), rsize_word W]
 unfold sliced
 simp [Result.andThen]
 omega
theorem pie_one (l : List Pie) : ∀ u ∈ pieC l, u.oneCell' = true := by
 intro u hu
 unfold pieC at hu
 obtain ⟨p, _, hp⟩ := List.mem_flatMap.1 hu
 simp only [pieA, List.mem_cons, List.not_mem_nil, or_false] at hp
 rcases hp with rfl | rfl | rfl | rfl | rfl | rfl | rfl | rfl <;> rfl
theorem run_append_row {P : Program} (w : World) (base base' : Nat) (t ty e : TypeId) (i : TypeInfo) (z : Value) (size bytes : Nat) (ht : P.underlying t = some (.slice e)) (hi : P.info? e = some i) (hz : i.zero = some z)
  (hsize : i.size = size) (hby : i.bytes = bytes) (hzs : z.cells.size = size) (hsz : 0 < size)
  (v : Value) (n : Nat) (xs : List Value) (hown : w.ownsRow base e size v n xs) (x : Value) (m : Nat) (news : List Value) (hx : w.ownsRow base' e size x m news) (h1 : ∀ u ∈ news, u.oneCell' = true)
  (h63 : n + m ≤ maxLen) (hbytes : (n + m) * bytes ≤ 140737488355328) (hbase : base ≤ w.heap.size) :
  ∃ v' w', (Builtin.append_ #[t, t] ty #[v, x]).run P w = .ok v' w' ∧ w'.ownsRow base e size v' (n + m) (xs ++ news) ∧ Onto w v w' v' := by
 have hl := hx.1
 rcases hx.2 with ⟨rfl, rfl⟩ | ⟨g, cap, cur, rfl, _⟩
 ·have : news = [] := List.eq_nil_of_length_eq_zero (by simpa using hl)
  subst this
  exact ⟨v, w, run_append_owned_none w base t ty e i size ht hi v n xs hown, by simpa using hown, Onto.refl _ _⟩
 ·exact run_append_onto (P := P) w base t ty e i z size bytes ht hi hz hsize hby hzs hsz v n xs hown ⟨g, 0, none⟩ m cap news hl (hx.cells (g := g) rfl) h1 h63 hbytes hbase
theorem wpList_append_row {P : Program} (w : World) {ops : Array Oper} {rest : List Oper} {o : Oper} {a : Act} {Q : Exit → Act → World → Prop} (hgd : o.guard = none) (s x : Operand) (t : TypeId)
  (ho : o.op = .call { callee := .builtin .append, args := #[s, x], argTypes := #[t, t] })
  (base base' : Nat) (e : TypeId) (i : TypeInfo) (z : Value) (size bytes : Nat) (ht : P.underlying t = some (.slice e)) (hi : P.info? e = some i) (hz : i.zero = some z)
  (hsize : i.size = size) (hby : i.bytes = bytes) (hzs : z.cells.size = size) (hsz : 0 < size)
  (v : Value) (n : Nat) (xs : List Value) (hs : a.eval s = v) (hown : w.ownsRow base e size v n xs)
  (y : Value) (m : Nat) (news : List Value) (hxv : a.eval x = y) (hx : w.ownsRow base' e size y m news) (h1 : ∀ u ∈ news, u.oneCell' = true)
  (h63 : n + m ≤ maxLen) (hbytes : (n + m) * bytes ≤ 140737488355328) (hbase : base ≤ w.heap.size)
  (h : ∀ v' w', w'.ownsRow base e size v' (n + m) (xs ++ news) → Onto w v w' v' → wpList P ops Q rest (a.put o.dst v') w') : wpList P ops Q (o :: rest) a w := by
 refine wpList_plain hgd fun K hK => ?_
 obtain ⟨v', w', hr, h2, h3⟩ := run_append_row (P := P) w base base' t o.type e i z size bytes ht hi hz hsize hby hzs hsz v n xs hown y m news hx h1 h63 hbytes hbase
 unfold Oper.wp execOp
 simp only [ho, resolve, invoke, builtin, Sem.run_bind, Sem.run_pure, Result.andThen_ok, List.map_toArray, List.map_cons, List.map_nil, hs, hxv, hr]
 exact hK _ _ (h v' w' h2 h3)
theorem infoRFlt : (Tryz.prog.info? 33).map (·.size) = some 3 := by kernel_rfl
/-- a fault stored over what stands in a variable -/
theorem rflt_set {w : World} {F : Nat} {a b c : Value} {T : TypeId} (f0 f1 f2 : Value) (hR : w.heap[F]? = some (.cells #[a, b, c] T (0, 0))) :
  (((w.setCell ⟨F, 0, none⟩ f0).setCell ⟨F, 1, none⟩ f1).setCell ⟨F, 2, none⟩ f2).heap[F]? = some (.cells #[f0, f1, f2] T (0, 0)) ∧
  (∀ B, B ≤ F → Below B w (((w.setCell ⟨F, 0, none⟩ f0).setCell ⟨F, 1, none⟩ f1).setCell ⟨F, 2, none⟩ f2)) ∧
  (w.cell? ⟨F, 0, none⟩ = some a ∧ w.cell? ⟨F, 1, none⟩ = some b ∧ w.cell? ⟨F, 2, none⟩ = some c) ∧
  (w.frozen? ⟨F, 0, none⟩ = false ∧ w.frozen? ⟨F, 1, none⟩ = false ∧ w.frozen? ⟨F, 2, none⟩ = false) ∧
  ∀ k, k ≠ F → (((w.setCell ⟨F, 0, none⟩ f0).setCell ⟨F, 1, none⟩ f1).setCell ⟨F, 2, none⟩ f2).heap[k]? = w.heap[k]? := by
 have h1 := heap_setCell_same w F 0 _ _ f0 hR
 have h2 := heap_setCell_same _ F 1 _ _ f1 h1
 have h3 := heap_setCell_same _ F 2 _ _ f2 h2
 refine ⟨h3, fun B hB => (((Below.refl B w).setCell (p := ⟨F, 0, none⟩) hB f0).setCell (p := ⟨F, 1, none⟩) hB f1).setCell (p := ⟨F, 2, none⟩) hB f2, ⟨cell_of_row _ _ _ _ _ _ hR, cell_of_row _ _ _ _ _ _ hR, cell_of_row _ _ _ _ _ _ hR⟩, ⟨frozen_of_row _ _ _ _ _ hR, frozen_of_row _ _ _ _ _ hR, frozen_of_row _ _ _ _ _ hR⟩, fun k hk => ?_⟩
 rw [Below.heap_setCell _ ⟨F, 2, none⟩ _ k hk, Below.heap_setCell _ ⟨F, 1, none⟩ _ k hk, Below.heap_setCell _ ⟨F, 0, none⟩ _ k hk]
theorem PSt.set1 {B : Nat} {w0 w : World} {R : Nat} {st : RAsm} {vl vp : Value} (h : PSt B w0 w R st vl vp) {F o : Nat} {c : Array Value} {u : Value} (hF : w.heap[F]? = some (.cells c 33 (0, 0))) (hB : B ≤ F) : PSt B w0 (w.setCell ⟨F, o, none⟩ u) R st vl vp := by
 have hne : R ≠ F := fun e => by
  have := h.blk
  rw [e, hF] at this
  simp at this
 exact ⟨(Below.heap_setCell _ _ _ _ hne).trans h.blk, own_set h.labs hF (by decide) _, own_set h.pcs hF (by decide) _, h.hR, h.below.setCell (p := ⟨F, o, none⟩) hB _⟩
theorem PSt.flt {B : Nat} {w0 w : World} {R : Nat} {st : RAsm} {vl vp : Value} (h : PSt B w0 w R st vl vp) {F : Nat} {c : Array Value} (hF : w.heap[F]? = some (.cells c 33 (0, 0))) (hB : B ≤ F) (f0 f1 f2 : Value) :
  PSt B w0 (((w.setCell ⟨F, 0, none⟩ f0).setCell ⟨F, 1, none⟩ f1).setCell ⟨F, 2, none⟩ f2) R st vl vp ∧ KeepR w (((w.setCell ⟨F, 0, none⟩ f0).setCell ⟨F, 1, none⟩ f1).setCell ⟨F, 2, none⟩ f2) := by
 have h1 := heap_setCell_same w F 0 _ _ f0 hF
 have h2 := heap_setCell_same _ F 1 _ _ f1 h1
 exact ⟨((h.set1 hF hB).set1 h1 hB).set1 h2 hB, ((KeepR.set hF (by decide)).trans (KeepR.set h1 (by decide))).trans (KeepR.set h2 (by decide))⟩
/-- variables of faults are as they were -/
def FltK (w w' : World) : Prop := ∀ (k : Nat) (c : Array Value), w.heap[k]? = some (Obj.cells c 33 (0, 0)) → w'.heap[k]? = some (Obj.cells c 33 (0, 0))
theorem FltK.below {w w' : World} (hb : Below w.heap.size w w') : FltK w w' := fun k _ hk => (hb.block k (Array.getElem?_eq_some_iff.1 hk).1).trans hk
theorem FltK.trans {a b c : World} (h : FltK a b) (h' : FltK b c) : FltK a c := fun k cs hk => h' k cs (h k cs hk)
theorem FltK.grown {w w' : World} {C : Nat} {e : TypeId} {size n : Nat} {v : Value} {xs : List Value} (ho : w.ownsRow C e size v n xs) (hne : ¬ e = 33) (hg : w.grownBy w' v.ownBlock) : FltK w w' := fun k _ hk =>
 (hg.block k (Array.getElem?_eq_some_iff.1 hk).1 (fun e2 => own_ne ho hk (fun e3 => hne e3.symm) e2.symm)).trans hk
theorem FltK.set {w : World} {R o : Nat} {c : Array Value} {t : TypeId} {u : Value} (hR : w.heap[R]? = some (Obj.cells c t (0, 0))) (hne : ¬ t = 33) : FltK w (w.setCell ⟨R, o, none⟩ u) := fun k cs hk => by
 refine (Below.heap_setCell _ _ _ _ (fun e => ?_)).trans hk
 have e' : k = R := e
 subst e'
 rw [hR] at hk
 simp only [Option.some.injEq, Obj.cells.injEq] at hk
 exact hne hk.2.1
/-- what a line, a statement answers -/
def RStRes (B : Nat) (w0 w : World) (R : Nat) (w' : World) (e : Ending) : RAsm ⊕ Flt → Prop
 | .inl st' => e = .returned (fltV (0, 0, 0)) ∧ PAt B w0 w' R st' ∧ KeepR w w' ∧ FltK w w'
 | .inr f => e = .returned (fltV f) ∧ Below B w0 w' ∧ FltK w w'
/-- the pieces and the number of what is none -/
def GotP (w' : World) (B : Nat) (vl vb : Value) : List Pie ⊕ Nat → Prop
 | .inl l => vb = .int .i64 (-1) ∧ w'.ownsRow B 125 8 vl l.length (pieC l)
 | .inr k => vb = .int .i64 (k : Int)
theorem ropsF_own {s : ByteArray} {y : Nat × Nat} (h : ropsF s = some y) (hn : namedF s = none) : s.data.toList = wordT ∨ s.data.toList = liT ∨ s.data.toList = zeroT := by
 unfold ropsF at h
 split at h
 ·exact .inl (by assumption)
 ·split at h
  ·exact .inr (.inl (by assumption))
  ·split at h
   ·exact .inr (.inr (by assumption))
   ·rw [hn] at h; cases h
theorem ropsF_le {s : ByteArray} {y : Nat × Nat} (h : ropsF s = some y) : y.1 ≤ 3 ∧ y.2 ≤ 2 := by
 unfold ropsF at h
 split at h
 ·cases h; exact ⟨by decide, by decide⟩
 ·split at h
  ·cases h; exact ⟨by decide, by decide⟩
  ·split at h
   ·cases h; exact ⟨by decide, by decide⟩
   ·obtain ⟨o, ho, rfl⟩ := Option.map_eq_some_iff.1 h
    exact ⟨shape_len _, Nat.le_succ 1⟩
end Go.Proofs.YtiknookfnameiaaGreatDoor
