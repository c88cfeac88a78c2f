/- The contract of asm's statement. The library's HasSuffix and TrimSuffix at this program's numbers, and what they answer of a colon. What asm's take wants: the rest of a row of words, a label appended; take's end (no label). -/
import Derived.Test.YtiknookfnameiaaGreatDoorMInsJn
import Derived.Test.YtiknookfnameiaaGreatDoorMZrJn
import Derived.Test.YtiknookfnameiaaGreatDoorProg
import Derived.Shelf.LaysM
import Derived.Shelf.Strings.Prefix
import Derived.Test.YtiknookfnameiaaGreatDoorJn14
namespace Go.Proofs.YtiknookfnameiaaGreatDoor
open Go.RowKit WP
set_option linter.unusedSimpArgs false
set_option linter.unusedVariables false
theorem findT_lt {T : List (List UInt8)} {s : List UInt8} : ∀ (f k o : Nat), findT T s f k = some o → o < k + f
  | 0, k, o, h => by simp [findT] at h
  | f + 1, k, o, h => by
    rw [findT] at h
    split at h
    · simp only [Option.some.injEq] at h; omega
    · have := findT_lt f (k + 1) o h; omega
theorem namedF_lt {s : ByteArray} {o : Nat} (h : namedF s = some o) : o < 25 := by
  have := findT_lt _ _ _ h
  omega
theorem str_of {s : ByteArray} {l : List UInt8} (h : s.data.toList = l) : s = ⟨l.toArray⟩ := by
  cases s with | mk d => cases d with | mk dl => simp only at h; subst h; rfl
theorem eq_no {s : ByteArray} {l : List UInt8} (h : ¬ s.data.toList = l) : (s.toList == l) = false := by
  rw [ByteArray.toList_eq]; simpa using h
set_option maxRecDepth 100000 in
set_option maxHeartbeats 4000000 in
theorem stmt_any {B : Nat} {w0 w : World} {R : Nat} {base : Int} {ln : Nat} {st : Asm} (hR : RAt B w0 w R base ln st) (hE : AEnv w0) (hst : st.ws.length ≤ 2048) (hlat : st.lat.length ≤ 2048) (name : W) (ops : List W) (v : Value) (hops : WsAt w v ops) (hsz : ∀ x ∈ ops, x.1.size ≤ 1048576) (hol : ops.length ≤ 1048576) :
    Calls Tryz.prog 64 #[ptr R, wV name, v] w fun e w' => StRes B w0 R base ln w' e (stmtM ln name ops st) := by
  obtain ⟨vw, vl, mb, vf, fs, bs, h, hfl⟩ := id hR
  obtain ⟨ns, nq, nc⟩ := name
  obtain ⟨w1, hw1⟩ : ∃ w1, w.alloc (.cells #[.string ns, .bool nq, .int .i64 (nc : Int)] 152) = w1 := ⟨_, rfl⟩
  have b1 : Below w.heap.size w w1 := by rw [← hw1]; exact (Below.refl w.heap.size w).alloc (Nat.le_refl _) _
  have H4 : w1.heap[w.heap.size]? = some (.cells #[.string ns, .bool nq, .int .i64 (nc : Int)] 152 (0, 0)) := by rw [← hw1]; exact heap_alloc_new w _
  have h1 := h.later b1
  have hR1 := hR.later b1
  have c0 : w1.cell? ⟨w.heap.size, 0, none⟩ = some (.string ns) := cell_of_row _ _ 0 _ _ _ H4
  have c1 : w1.cell? ⟨w.heap.size, 1, none⟩ = some (.bool nq) := cell_of_row _ _ 1 _ _ _ H4
  have c2 : w1.cell? ⟨w.heap.size, 2, none⟩ = some (.int .i64 (nc : Int)) := cell_of_row _ _ 2 _ _ _ H4
  have hOp := hops.later b1
  have hnm := named_any ns w1 (h1.env hE).tabs
  have hat := at_any R ln nc 60 w1 h1.c.2.1
  have hbel := h1.below
  have hs1 : B ≤ w1.heap.size := by have := h1.hR; have := h1.lt; omega
  obtain ⟨FR, hFR⟩ : ∃ FR, stmtM ln (ns, nq, nc) ops st = FR := ⟨_, rfl⟩
  rw [hFR]
  unfold stmtM at hFR
  dsimp only at hFR
  have hin := fun o ho => instr_any hR1 hE hst hlat (ns, nq, nc) o ho ops v hOp hsz hol
  have hfx := fixed_word hR1 hE hst hlat (ns, nq, nc) ops v hOp hsz ⟨#[120]⟩ 0 rfl (by omega) hol (.inl ⟨rfl, rfl, rfl⟩)
  have hli := li_any hR1 hE hst hlat (ns, nq, nc) ops v hOp hsz hol
  have hze := zero_any hR1 hE hst (ns, nq, nc) ops v hOp hsz hol
  unfold wV at hin hfx hli hze ⊢
  dsimp only [Wht.size] at hin hfx hli hze ⊢
  have e1 : ((1 : Nat) : Int) = 1 := rfl
  simp only [e1] at hfx
  clear h H4 b1 hops hOp hR h1 hR1 hE e1 hfl
  replace hsz := Lib.hid hsz; replace hin := Lib.hid hin; replace hfx := Lib.hid hfx; replace hli := Lib.hid hli; replace hze := Lib.hid hze; replace hat := Lib.hid hat; replace hbel := Lib.hid hbel
  cases nq with
  | true =>
    rw [if_pos rfl] at hFR
    subst hFR
    obtain ⟨V, hV⟩ : ∃ V : Int, (((namedF ns).getD 0 : Nat) : Int) = V := ⟨_, rfl⟩
    obtain ⟨C, hC⟩ : ∃ C : Int, (if (namedF ns).isSome = true then (0 : Int) else 50) = C := ⟨_, rfl⟩
    rw [hV, hC] at hnm
    clear hV hC
    replace hnm := Lib.hid hnm
    go_enter Tryz.func64, Tryz.ntmps64
    go_upto_region 1 with fail
    try rw [hw1]
    clear hw1
    go_wp2_with fail
    refine hnm.out.mono ?_
    rintro e w2 ⟨rfl, rfl⟩
    go_wp2_with fail
    refine hat.out.mono ?_
    rintro e w3 ⟨fv, rfl, hft, b3⟩
    have hfin := hbel.out.trans (b3.mono hs1)
    replace hft := Lib.hid hft; replace hfin := Lib.hid hfin
    go_wp2_with fail
    go_ret
    exact ⟨⟨_, rfl, hft.out⟩, hfin.out⟩
  | false =>
    rw [if_neg (by simp)] at hFR
    cases hn : namedF ns with
    | some o =>
      rw [hn] at hFR hnm
      simp only at hFR
      have hin1 := hin.out o (namedF_lt hn)
      rw [hFR] at hin1
      clear hin
      simp only [Option.getD_some, Option.isSome_some, if_true] at hnm
      replace hnm := Lib.hid hnm; replace hin1 := Lib.hid hin1; replace hFR := Lib.hid hFR
      go_enter Tryz.func64, Tryz.ntmps64
      go_upto_region 1 with fail
      try rw [hw1]
      clear hw1
      go_wp2_with fail
      refine hnm.out.mono ?_
      rintro e w2 ⟨rfl, rfl⟩
      go_wp2_with fail
      refine hin1.out.mono ?_
      rintro e w3 hres
      cases FR with
      | inl st' =>
        obtain ⟨rfl, hra⟩ := hres
        replace hra := Lib.hid hra
        go_wp2_with fail
        go_ret
        exact ⟨rfl, hra.out⟩
      | inr f =>
        obtain ⟨⟨fv, rfl, hft⟩, hbl⟩ := hres
        replace hft := Lib.hid hft; replace hbl := Lib.hid hbl
        go_wp2_with fail
        go_ret
        exact ⟨⟨_, rfl, hft.out⟩, hbl.out⟩
    | none =>
      rw [hn] at hFR hnm
      simp only at hFR
      clear hin
      simp only [Option.getD_none, Option.isSome_none] at hnm
      have e50 : (if false = true then (0 : Int) else 50) = 50 := rfl
      rw [e50] at hnm
      replace hnm := Lib.hid hnm
      by_cases h1 : ns.data.toList = [119, 111, 114, 100]
      · rw [if_pos h1] at hFR
        replace hfx := hfx.out
        rw [hFR] at hfx
        have hs : ns = ⟨#[119, 111, 114, 100]⟩ := str_of h1
        subst hs
        clear h1 hli hze hat hn
        replace hfx := Lib.hid hfx; replace hFR := Lib.hid hFR
        go_enter Tryz.func64, Tryz.ntmps64
        go_upto_region 1 with fail
        try rw [hw1]
        clear hw1
        go_wp2_with fail
        refine hnm.out.mono ?_
        rintro e w2 ⟨rfl, rfl⟩
        go_wp2_with fail
        refine hfx.out.mono ?_
        rintro e w3 hres
        cases FR with
        | inl st' =>
          obtain ⟨rfl, hra⟩ := hres
          replace hra := Lib.hid hra
          go_wp2_with fail
          go_ret
          exact ⟨rfl, hra.out⟩
        | inr f =>
          obtain ⟨⟨fv, rfl, hft⟩, hbl⟩ := hres
          replace hft := Lib.hid hft; replace hbl := Lib.hid hbl
          go_wp2_with fail
          go_ret
          exact ⟨⟨_, rfl, hft.out⟩, hbl.out⟩
      · rw [if_neg h1] at hFR
        have n1 := eq_no h1
        by_cases h2 : ns.data.toList = [108, 105]
        · rw [if_pos h2] at hFR
          replace hli := hli.out
          rw [hFR] at hli
          have hs : ns = ⟨#[108, 105]⟩ := str_of h2
          subst hs
          clear h1 h2 hfx hze hat n1 hn
          replace hli := Lib.hid hli; replace hFR := Lib.hid hFR
          go_enter Tryz.func64, Tryz.ntmps64
          go_upto_region 1 with fail
          try rw [hw1]
          clear hw1
          go_wp2_with fail
          refine hnm.out.mono ?_
          rintro e w2 ⟨rfl, rfl⟩
          go_wp2_with fail
          refine hli.out.mono ?_
          rintro e w3 hres
          cases FR with
          | inl st' =>
            obtain ⟨rfl, hra⟩ := hres
            replace hra := Lib.hid hra
            go_wp2_with fail
            go_ret
            exact ⟨rfl, hra.out⟩
          | inr f =>
            obtain ⟨⟨fv, rfl, hft⟩, hbl⟩ := hres
            replace hft := Lib.hid hft; replace hbl := Lib.hid hbl
            go_wp2_with fail
            go_ret
            exact ⟨⟨_, rfl, hft.out⟩, hbl.out⟩
        · rw [if_neg h2] at hFR
          have n2 := eq_no h2
          by_cases h3 : ns.data.toList = [122, 101, 114, 111]
          · rw [if_pos h3] at hFR
            replace hze := hze.out
            rw [hFR] at hze
            have hs : ns = ⟨#[122, 101, 114, 111]⟩ := str_of h3
            subst hs
            clear h1 h2 h3 hfx hli hat n1 n2 hn
            replace hze := Lib.hid hze; replace hFR := Lib.hid hFR
            go_enter Tryz.func64, Tryz.ntmps64
            go_upto_region 1 with fail
            try rw [hw1]
            clear hw1
            go_wp2_with fail
            refine hnm.out.mono ?_
            rintro e w2 ⟨rfl, rfl⟩
            go_wp2_with fail
            refine hze.out.mono ?_
            rintro e w3 hres
            cases FR with
            | inl st' =>
              obtain ⟨rfl, hra⟩ := hres
              replace hra := Lib.hid hra
              go_wp2_with fail
              go_ret
              exact ⟨rfl, hra.out⟩
            | inr f =>
              obtain ⟨⟨fv, rfl, hft⟩, hbl⟩ := hres
              replace hft := Lib.hid hft; replace hbl := Lib.hid hbl
              go_wp2_with fail
              go_ret
              exact ⟨⟨_, rfl, hft.out⟩, hbl.out⟩
          · rw [if_neg h3] at hFR
            have n3 := eq_no h3
            subst hFR
            clear h1 h2 h3 hfx hli hze hn
            go_enter Tryz.func64, Tryz.ntmps64
            go_upto_region 1 with fail
            try rw [hw1]
            clear hw1
            go_wp2_with fail
            refine hnm.out.mono ?_
            rintro e w2 ⟨rfl, rfl⟩
            go_wp2_with fail
            refine hat.out.mono ?_
            rintro e w3 ⟨fv, rfl, hft, b3⟩
            have hfin := hbel.out.trans (b3.mono hs1)
            replace hft := Lib.hid hft; replace hfin := Lib.hid hfin
            go_wp2_with fail
            go_ret
            exact ⟨⟨_, rfl, hft.out⟩, hfin.out⟩
end Go.Proofs.YtiknookfnameiaaGreatDoor

namespace Go.Proofs
def YtiknookfnameiaaGreatDoor.laysHasS_ren : Go.Shelf.Ren := ⟨fun | 100 => 61 | 207 => 82 | n => n, fun | 9 => 9 | 4 => 4 | 3 => 3 | n => n, fun | n => n⟩
theorem YtiknookfnameiaaGreatDoor.laysHasS : Go.Proofs.Lays.n100 Tryz.prog YtiknookfnameiaaGreatDoor.laysHasS_ren := {
  mixed := by kernel_rfl
  f100 := Tryz.func61.trans (congrArg some (by kernel_rfl))
  f207 := Tryz.func82.trans (congrArg some (by kernel_rfl))
  t3 := Tryz.underlying3
  a3 := Tryz.isAgg3
  z3 := Tryz.sizeOf3
  v3 := Tryz.zeroValue3
  t4 := Tryz.underlying4
  a4 := Tryz.isAgg4
  z4 := Tryz.sizeOf4
  v4 := Tryz.zeroValue4
  t9 := Tryz.underlying9
  a9 := Tryz.isAgg9
  z9 := Tryz.sizeOf9
  v9 := Tryz.zeroValue9 }
def YtiknookfnameiaaGreatDoor.laysTrimS_ren : Go.Shelf.Ren := ⟨fun | 102 => 62 | 207 => 82 | 209 => 83 | n => n, fun | 9 => 9 | 4 => 4 | 3 => 3 | n => n, fun | n => n⟩
theorem YtiknookfnameiaaGreatDoor.laysTrimS : Go.Proofs.Lays.n102 Tryz.prog YtiknookfnameiaaGreatDoor.laysTrimS_ren := {
  mixed := by kernel_rfl
  f102 := Tryz.func62.trans (congrArg some (by kernel_rfl))
  f207 := Tryz.func82.trans (congrArg some (by kernel_rfl))
  f209 := Tryz.func83.trans (congrArg some (by kernel_rfl))
  t3 := Tryz.underlying3
  a3 := Tryz.isAgg3
  z3 := Tryz.sizeOf3
  v3 := Tryz.zeroValue3
  t4 := Tryz.underlying4
  a4 := Tryz.isAgg4
  z4 := Tryz.sizeOf4
  v4 := Tryz.zeroValue4
  t9 := Tryz.underlying9
  a9 := Tryz.isAgg9
  z9 := Tryz.sizeOf9
  v9 := Tryz.zeroValue9 }
namespace YtiknookfnameiaaGreatDoor
theorem suf_colon (s : ByteArray) : Lib.hasSuffix s.data.toList [58] = colonEnd s := by
  unfold Lib.hasSuffix colonEnd
  rw [Bool.eq_iff_iff, decide_eq_true_iff, List.isSuffixOf_iff_suffix]
  constructor
  · rintro ⟨t, ht⟩
    rw [← ht, List.getLast?_append]; simp
  · intro h
    obtain ⟨t, ht⟩ := List.getLast?_eq_some_iff.1 h
    exact ⟨t, ht.symm⟩
theorem trim_colon (s : ByteArray) (h : colonEnd s = true) : (⟨(Lib.trimSuffix s.data.toList [58]).toArray⟩ : ByteArray) = cutC s := by
  unfold Lib.trimSuffix cutC
  rw [suf_colon, if_pos h]
  apply ByteArray.ext
  apply Array.ext'
  have hl : s.data.toList.length = s.size := by rw [Array.length_toList]; rfl
  rw [ByteArray.data_extract, Array.toList_extract]
  simp [List.extract, hl]
theorem hass_any (s : ByteArray) (w : World) (hs : s.size ≤ 9223372036854775807) :
    Calls Tryz.prog 61 #[.string s, .string ⟨#[58]⟩] w fun e w' => e = .returned (.bool (colonEnd s)) ∧ w' = w := by
  rw [← suf_colon]
  exact Any.strings_HasSuffix laysHasS s ⟨#[58]⟩ w hs
theorem trims_any (s : ByteArray) (w : World) (hs : s.size ≤ 9223372036854775807) (h : colonEnd s = true) :
    Calls Tryz.prog 62 #[.string s, .string ⟨#[58]⟩] w fun e w' => e = .returned (.string (cutC s)) ∧ w' = w := by
  rw [← trim_colon s h]
  exact Any.strings_TrimSuffix laysTrimS s ⟨#[58]⟩ w hs
end YtiknookfnameiaaGreatDoor
end Go.Proofs

namespace Go.Proofs.YtiknookfnameiaaGreatDoor
open Go.RowKit WP
set_option linter.unusedSimpArgs false
set_option linter.unusedVariables false
theorem slice_rest {w : World} {v : Value} {x : W} {rest : List W} (h : WsAt w v (x :: rest)) :
    ∃ v', (∀ W : World, (Instr.slice 113 v (some (.int .i64 1)) none none).run Tryz.prog W = .ok v' W) ∧ (∀ W, Keep w W → WsAt W v' rest) ∧ ∃ ao cap, v' = .slice ao rest.length cap := by
  obtain ⟨ao, cap, rfl, h1, h2, h3⟩ := h
  obtain ⟨b, off, cs, rfl, hb, hc⟩ := h3.resolve_left (by simp)
  rw [List.length_cons] at h1 ⊢
  have hs : ∀ W : World, (sizeOf (Tryz.prog.elem 113)).run Tryz.prog W = .ok 3 W := fun W => by kernel_rfl
  have hr : ∀ W : World, (Instr.slice 113 (.slice (some ⟨b, off, none⟩) (rest.length + 1) cap) (some (.int .i64 1)) none none).run Tryz.prog W = .ok (sliced (some ⟨b, off, none⟩) 1 (rest.length + 1) cap 3) W := fun W => by
    rw [run_slice_l (P := Tryz.prog) (t := 113) (a := some ⟨b, off, none⟩) (len := rest.length + 1) (cap := cap) (ht := by kernel_rfl) (kl := .i64) (l := 1) (h0 := by omega) (h1 := by omega), hs W]
    rfl
  have ha : ∃ ao, sliced (some ⟨b, off, none⟩) 1 (rest.length + 1) cap 3 = .slice ao rest.length (cap - 1) ∧ (rest = [] ∨ ao = some ⟨b, off + 3, none⟩) := by
    unfold sliced
    by_cases hc1 : cap = 1
    · have hr0 : rest = [] := List.eq_nil_of_length_eq_zero (by omega)
      subst hr0; subst hc1
      exact ⟨_, rfl, .inl rfl⟩
    · refine ⟨some ⟨b, off + 3, none⟩, ?_, .inr rfl⟩
      simp only [Nat.add_sub_cancel]
      rw [if_neg (by omega)]
      rfl
  obtain ⟨a2, e2, h4⟩ := ha
  refine ⟨_, hr, fun W hW => ?_, a2, cap - 1, e2⟩
  rw [e2]
  refine ⟨a2, cap - 1, rfl, by omega, by omega, ?_⟩
  rcases h4 with h4 | h4
  · exact .inl h4
  · refine .inr ⟨b, off + 3, cs, h4, hW.at_ hb (.inr (.inl rfl)), fun i y hy => ?_⟩
    obtain ⟨c0, c1, c2⟩ := hc (i + 1) y (by simpa using hy)
    rw [show off + (i + 1) * 3 = off + 3 + i * 3 by omega] at c0 c1 c2
    exact ⟨c0, c1, c2⟩
theorem infoLab : (Tryz.prog.info? 44).map (fun i => (i.zero, i.size, i.bytes)) = some (some (.agg #[.string ⟨#[]⟩, .int .i64 0]), 2, 24) := by kernel_rfl
theorem run_lab (base : Nat) (w : World) (v : Value) (n : Nat) (xs : List Value) (hown : w.ownsRow base 44 2 v n xs) (g0 : Nat) (s : ByteArray) (p : Int) (ty : TypeId) (hc0 : w.cell? ⟨g0, 0, none⟩ = some (.string s)) (hc1 : w.cell? ⟨g0, 1, none⟩ = some (.int .i64 p)) (hn : n ≤ 1048576) (hb : base ≤ w.heap.size) :
    ∃ v' w', (Builtin.append_ #[37, 37] ty #[v, .slice (some ⟨g0, 0, none⟩) 1 1]).run Tryz.prog w = .ok v' w' ∧ w'.ownsRow base 44 2 v' (n + 1) (xs ++ [.string s, .int .i64 p]) ∧ Onto w v w' v' := by
  obtain ⟨i, hi, hz, hs, hby⟩ := info_parts infoLab
  exact run_append_onto (P := Tryz.prog) w base 37 ty 44 i _ 2 24 Tryz.underlying37 hi hz hs hby rfl (by decide) v n xs hown ⟨g0, 0, none⟩ 1 1 [.string s, .int .i64 p] rfl (fun j u hj => by
    match j, hj with
    | 0, hj => simp only [List.getElem?_cons_zero, Option.some.injEq] at hj; subst hj; rw [add_zero']; exact hc0
    | 1, hj => simp only [List.getElem?_cons_succ, List.getElem?_cons_zero, Option.some.injEq] at hj; subst hj; exact hc1
    | j + 2, hj => simp at hj) (by simp [Value.oneCell']) (by simp only [maxLen]; omega) (by omega) hb
end Go.Proofs.YtiknookfnameiaaGreatDoor
