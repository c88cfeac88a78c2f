/- The contract of the document's find. The map of the labels: looked up, stored into; the contract of asm's label. The contracts of the closures that lay words. -/
import Derived.Test.YtiknookfnameiaaGreatDoorJn29
import Derived.Test.YtiknookfnameiaaGreatDoorMStJn
import Derived.StringKeys
import Derived.Deep.RegionHeld3
namespace Go.Proofs.YtiknookfnameiaaGreatDoor
open Go.RowKit WP
set_option linter.unusedSimpArgs false
set_option linter.unusedVariables false
set_option maxRecDepth 100000 in
set_option maxHeartbeats 2000000 in
theorem rfind_any {B : Nat} {w0 w : World} {R : Nat} {st : RAsm} {vl vp : Value} (h : PSt B w0 w R st vl vp) (s : ByteArray) :
  Calls Tryz.prog 44 #[ptr R, .string s] w fun e w' => e = .returned (.int .i64 (fndI st.labs s)) ∧ w' = w := by
 obtain ⟨ao, ca, rfl, h1, h2⟩ := h.lv
 have hc := fun i p hp => h.lab i p hp
 have c0 := h.c.1
 obtain ⟨L, hL⟩ : ∃ L, st.labs = L := ⟨_, rfl⟩
 rw [hL] at hc c0 h1 ⊢
 obtain ⟨F, hF⟩ : ∃ F, fndI L s = F := ⟨_, rfl⟩
 rw [hF]
 clear h hL
 replace hc := Lib.hid hc; replace hF := Lib.hid hF
 go_enter Tryz.func44, Tryz.ntmps44
 go_wp2_with fail
 go_loopw [5] (fun i wr => ∃ k : Nat, k ≤ L.length ∧ i = .int .i64 k ∧ wr = w ∧ fndI (L.drop k) s = F) (fun i _ => L.length - (intOf i).toNat)
 case atStart => exact ⟨0, by omega, rfl, rfl, hF.out⟩
 case round =>
  obtain ⟨k, hk, rfl, rfl, hq⟩ := hrel
  by_cases hlt : k < L.length
  ·obtain ⟨p, hp⟩ : ∃ p, L[k]? = some p := ⟨_, List.getElem?_eq_getElem hlt⟩
   obtain ⟨g, cap, hs, _, _, y0, y1⟩ := hc.out k p hp
   simp only [Value.slice.injEq, true_and] at hs
   obtain ⟨rfl, rfl⟩ := hs
   rw [fnd_step L s k p hp] at hq
   have d1 : decide ((k : Int) < (L.length : Int)) = true := decide_eq_true (by omega)
   have i1 : (0 : Int) ≤ (k : Int) := by omega
   have i2 : (k : Int) < (L.length : Int) := by omega
   have hel : (p.1.toList == s.toList) = decide (p.1.data.toList = s.data.toList) := by
    rw [eq_lit, ByteArray.toList_eq]
   obtain ⟨nm, pl⟩ := p
   dsimp only at y0 y1 hq hel
   clear hp
   by_cases he : nm.data.toList = s.data.toList
   ·rw [if_pos he] at hq
    subst hq
    rw [decide_eq_true he] at hel
    clear he
    go_wp2_with fail
    go_ret
    exact ⟨rfl, rfl⟩
   ·rw [if_neg he] at hq
    rw [decide_eq_false he] at hel
    clear he
    replace hq := Lib.hid hq
    go_wp2_with fail
    go_roundw
    case rel => exact ⟨k + 1, by omega, by go_num, trivial, hq.out⟩
    case measure => simp [intOf]; omega
  ·obtain rfl : k = L.length := by omega
   have d1 : decide ((L.length : Int) < (L.length : Int)) = false := decide_eq_false (by omega)
   rw [List.drop_length, fnd_nil] at hq
   subst hq
   go_wp2_with fail
   go_ret
   exact ⟨rfl, rfl⟩
end Go.Proofs.YtiknookfnameiaaGreatDoor

namespace Go.Proofs.YtiknookfnameiaaGreatDoor
open Go.RowKit WP
set_option linter.unusedSimpArgs false
theorem keyS (s : ByteArray) (hs : s.size ≤ 9223372036854775807) : keyOf Tryz.prog 9 (.string s) = some (.string s.data.toList) := Go.WideMaps.keyOf_string_mk Tryz.underlying9 hs
theorem zeroI (w : World) : (zeroValue 3).run Tryz.prog w = .ok (.int .i64 0) w := by kernel_rfl
theorem findL_add (L : List (ByteArray × Nat)) (s t : ByteArray) (p : Nat) : findL (L ++ [(s, p)]) t = (findL L t).or (if s.data.toList = t.data.toList then some p else none) := by
 unfold findL
 rw [List.find?_append]
 cases L.find? (fun q => q.1.data.toList == t.data.toList) with
 | some q => simp
 | none =>
  by_cases h : s.data.toList = t.data.toList
  ·rw [List.find?_cons_of_pos (by simpa using h), if_pos h]; rfl
  ·rw [List.find?_cons_of_neg (by simpa using h), if_neg h]; rfl
theorem MapIs.new (w : World) : MapIs (w.alloc (.map #[] 0)) w.heap.size [] :=
 ⟨0, .map [], World.ownsMap_made w _ _ _, Nat.le_refl _, ⟨_, rfl⟩, fun s => rfl, fun s p h => by simp [findL] at h⟩
theorem MapIs.look {w : World} {mb : Nat} {L : List (ByteArray × Nat)} (h : MapIs w mb L) (s : ByteArray) (hs : s.size ≤ 9223372036854775807) :
  ∃ c : Int, (∀ W : World, W.heap[mb]? = w.heap[mb]? → (Instr.lookup 74 (.map (some mb)) (.string s) true).run Tryz.prog W = .ok (.tuple #[.int .i64 c, .bool (findL L s).isSome]) W) ∧ ∀ p, findL L s = some p → c = (p : Int) := by
 obtain ⟨n, D, hown, hn, hD, hh, ha⟩ := h
 have K := Maps.string_keyed Tryz.underlying9
 obtain ⟨v, ps, _, hv⟩ := hown.look_ok K Tryz.underlying74 (zeroI w) (plainElem_int (H := Unit) Tryz.underlying3 (by decide)) (keyS s hs)
 obtain ⟨c, rfl, hc, _⟩ := plainElem_int_inv Tryz.underlying3 hv
 have hc' := congrArg Prod.fst hc
 simp only at hc'
 refine ⟨c, fun W hW => ?_, fun p hp => ?_⟩
 ·obtain ⟨es, clock, h1, h2⟩ := hown
  obtain ⟨v2, ps2, hr2, hv2⟩ := World.ownsMap.look_ok (w := W) ⟨es, clock, hW.trans h1, h2⟩ K Tryz.underlying74 (zeroI W) (plainElem_int (H := Unit) Tryz.underlying3 (by decide)) (keyS s hs)
  obtain ⟨c2, rfl, hc2, _⟩ := plainElem_int_inv Tryz.underlying3 hv2
  have hc2' := congrArg Prod.fst hc2
  simp only at hc2'
  rw [hc'] at hc2'
  simp only [DataW.lit.injEq, Lit.int.injEq, true_and] at hc2'
  rw [hr2, hh, ← hc2']
 ·rw [ha s p hp] at hc'
  simp only [DataW.lit.injEq, Lit.int.injEq, true_and] at hc'
  exact hc'.symm
theorem MapIs.put {w : World} {mb : Nat} {L : List (ByteArray × Nat)} (h : MapIs w mb L) (s : ByteArray) (p : Nat) (hs : s.size ≤ 9223372036854775807) (hp : p ≤ 4096) (hL : L.length ≤ 1048576) (hf : findL L s = none) :
  ∃ w', (Instr.mapUpdate 74 (.map (some mb)) (.string s) (.int .i64 (p : Int))).run Tryz.prog w = .ok () w' ∧ MapIs w' mb (L ++ [(s, p)]) ∧ w.grownBy w' (some mb) := by
 obtain ⟨n, D, hown, hn, hD, hh, ha⟩ := h
 have K := Maps.string_keyed Tryz.underlying9
 have hwf : (Lit.int .i64 (p : Int)).wf = true := by
  have e : wrap64 (p : Int) = (p : Int) := by unfold wrap64; omega
  rw [← e]; exact wrap64_wf _
 obtain ⟨w', hr, ho, hg⟩ := hown.update K Tryz.underlying74 (by show n < 9223372036854775807; omega) (keyS s hs) (plainElem_int (H := Unit) Tryz.underlying3 hwf)
 have hk : WideAt.IsKeyLit (.string s.data.toList) := trivial
 refine ⟨w', hr, ⟨n + 1, _, ho, by simp; omega, ?_, ?_, ?_⟩, hg⟩
 ·exact ho.isMap
 ·intro t
  rw [findL_add]
  by_cases e : t.data.toList = s.data.toList
  ·rw [e, Maps.has_put_same hD hk, if_pos rfl]
   cases findL L t <;> rfl
  ·rw [Maps.has_put_other (by simpa using e), hh, if_neg (fun h => e h.symm)]
   cases findL L t <;> rfl
 ·intro t q hq z
  rw [findL_add] at hq
  by_cases e : t.data.toList = s.data.toList
  ·have hft : findL L t = none := by
    unfold findL at hf ⊢
    rw [e]; exact hf
   rw [hft, if_pos e.symm] at hq
   simp only [Option.none_or, Option.some.injEq] at hq
   subst hq
   rw [e, Maps.atKey_put_same hD hk]
  ·rw [if_neg (fun h => e h.symm)] at hq
   have hq' : findL L t = some q := by
    cases hx : findL L t with
    | none => rw [hx] at hq; simp at hq
    | some y => rw [hx] at hq; simpa using hq
   rw [Maps.atKey_put_other (by simpa using e)]
   exact ha t q hq' z
set_option maxRecDepth 100000 in
theorem label_any {w : World} {R mb : Nat} {L : List (ByteArray × Nat)} (s : ByteArray) (col ln : Nat) (q : Bool) (hR : w.cell? ⟨R, 4, none⟩ = some (.map (some mb))) (hm : MapIs w mb L) (hs : s.size ≤ 9223372036854775807) :
  Calls Tryz.prog 116 #[ptr R, wV (s, q, col), .int .i64 (ln : Int)] w fun e w' => (match findL L s with
   | some p => e = .returned (.tuple #[.int .i64 (p : Int), .nilIface])
   | none => ∃ v, e = .returned (.tuple #[.int .i64 0, v]) ∧ FltAt w' v (64, ln, col)) ∧ Below w.heap.size w w' := by
 obtain ⟨c, hlk, hc⟩ := hm.look s hs
 obtain ⟨es, clock, hmb⟩ := hm.lt
 have hmlt := (Array.getElem?_eq_some_iff.1 hmb).1
 unfold wV
 dsimp only
 obtain ⟨w1, hw1⟩ : ∃ w1, w.alloc (.cells #[.string s, .bool q, .int .i64 (col : Int)] 152) = w1 := ⟨_, rfl⟩
 have b1 : Below w.heap.size w w1 := by rw [← hw1]; exact (Below.refl w.heap.size w).alloc (Nat.le_refl _) _
 have hB : w1.heap[w.heap.size]? = some (.cells #[.string s, .bool q, .int .i64 (col : Int)] 152 (0, 0)) := by rw [← hw1]; exact heap_alloc_new w _
 have hR1 : w1.cell? ⟨R, 4, none⟩ = some (.map (some mb)) := (b1.cell (World.block_lt_of_cell? _ _ hR)).trans hR
 have k0 : w1.cell? ⟨w.heap.size, 0, none⟩ = some (.string s) := cell_of_row _ _ 0 _ _ _ hB
 have k2 : w1.cell? ⟨w.heap.size, 2, none⟩ = some (.int .i64 (col : Int)) := cell_of_row _ _ 2 _ _ _ hB
 have hl1 := hlk w1.drew (b1.block _ hmlt)
 clear hlk hm hR hB hmb hmlt
 replace b1 := Lib.hid b1
 cases hf : findL L s with
 | some p =>
  rw [hf, hc p hf] at hl1
  simp only [Option.isSome_some] at hl1
  clear hc hf
  go_enter Tryz.func116, Tryz.ntmps116
  go_upto_region 1 with fail
  try rw [hw1]
  clear hw1
  go_region
  all_goals (try go_wp2_with fail)
  all_goals go_ret2
  all_goals exact ⟨rfl, b1.out.drew⟩
 | none =>
  rw [hf] at hl1
  simp only [Option.isSome_none] at hl1
  clear hc hf
  go_enter Tryz.func116, Tryz.ntmps116
  go_upto_region 1 with fail
  try rw [hw1]
  clear hw1
  go_region
  all_goals (try go_wp2_with fail)
  all_goals go_region
  all_goals (try go_wp2_with fail)
  all_goals go_ret2
  all_goals exact ⟨⟨_, rfl, ⟨_, rfl, heap_alloc_new w1 _⟩⟩, b1.out.trans ((((Below.refl w1.heap.size w1).alloc (Nat.le_refl _) _).drew.drew).mono b1.out.size)⟩
end Go.Proofs.YtiknookfnameiaaGreatDoor

namespace Go.Proofs.YtiknookfnameiaaGreatDoor
open Go.RowKit WP
set_option linter.unusedSimpArgs false
set_option linter.unusedVariables false
theorem enc_any (i : Ins) (w : World) (hT : Tabs w) (hm1 : -2147483648 ≤ i.imm) (hm2 : i.imm ≤ 2147483647) :
  Calls Tryz.prog 30 #[.agg (insC i)] w fun e w' => ∃ c : Int, e = .returned (.tuple #[.int .u32 (encF i), .int .i64 c]) ∧ Below w.heap.size w w' :=
 (encode_any i w hT hm1 hm2).mono fun e w' h => ⟨checkI i, h.2, h.1⟩
set_option maxRecDepth 100000 in
theorem lay_word (g p cap : Nat) (x : Int) (y : Value) (w : World) (hc : w.cell? ⟨g, p, none⟩ = some y) (hf : w.frozen? ⟨g, p, none⟩ = false) :
  Calls Tryz.prog 87 #[.slice (some ⟨g, p, none⟩) 1 cap, .int .u32 x] w fun e w' => e = .returned (.tuple #[]) ∧ w' = w.setCell ⟨g, p, none⟩ (.int .u32 x) := by
 go_enter Tryz.func87, Tryz.ntmps87
 go_wp2_with fail
 go_end0
 exact ⟨rfl, rfl⟩
theorem slice_words (g N cap p n : Nat) (hi : Int) (hn : hi = (p : Int) + (n : Int)) (h1 : 1 ≤ n) (hc : p + n ≤ cap) (W : World) :
  (Instr.slice 24 (.slice (some ⟨g, 0, none⟩) N cap) (some (.int .i64 (p : Int))) (some (.int .i64 hi)) none).run Tryz.prog W = .ok (.slice (some ⟨g, p, none⟩) n (cap - p)) W := by
 subst hn
 rw [run_slice_lh (P := Tryz.prog) (t := 24) (a := some ⟨g, 0, none⟩) (len := N) (cap := cap) (ht := by kernel_rfl) (kl := .i64) (kh := .i64) (l := (p : Int)) (h := (p : Int) + (n : Int)) (h0 := by omega) (h1 := by omega) (h2 := by omega)]
 have hs : (sizeOf (Tryz.prog.elem 24)).run Tryz.prog W = .ok 1 W := by kernel_rfl
 rw [hs]
 have e : ((p : Int) + (n : Int)).toNat = p + n := by omega
 simp only [Result.andThen, sliced, Int.toNat_natCast, e, Nat.mul_one, Option.map_some, add_zero']
 rw [if_neg (by omega), Nat.add_sub_cancel_left]
theorem mask16 (x : Int) (h0 : 0 ≤ x) (h1 : x < 4294967296) : bits .and .u32 x 65535 = x % 65536 := by
 have := bits_mask .u32 32 (by decide) (fun m a b => by rw [IntKind.wrap_u32]; omega) 16 (by decide) x h0 (by omega)
 have e : (2 ^ 16 - 1 : Int) = 65535 := by decide
 rw [e] at this
 rw [this]; rfl
theorem row_cell {B : Nat} {w0 w : World} {R : Nat} {base : Int} {ln : Nat} {st : Asm} {vl : Value} {mb : Nat} {vf : Value} {fs : List Value} {bs : List Nat} {ml : List (ByteArray × Nat)} {g cap : Nat} (h : RSt B w0 w R base ln st (.slice (some ⟨g, 0, none⟩) st.ws.length cap) vl mb vf fs bs ml) (p : Nat) (hp : p < st.ws.length) :
  (∃ y, w.cell? ⟨g, p, none⟩ = some y) ∧ w.frozen? ⟨g, p, none⟩ = false ∧ g < w.heap.size := by
 have hl : p < (wi st.ws).length := by rw [wi_len]; exact hp
 have hc := h.ws.cells (g := g) rfl p _ (List.getElem?_eq_getElem hl)
 rw [add_zero'] at hc
 refine ⟨⟨_, hc⟩, ?_, (h.ws.lt g rfl).2⟩
 rcases h.ws.2 with ⟨hv, _⟩ | ⟨g', cap', cur, hv, _, hg, _⟩
 ·simp at hv
 ·simp only [Value.slice.injEq, Option.some.injEq, Addr.mk.injEq, true_and, and_true] at hv
  obtain ⟨rfl, _⟩ := hv
  exact frozen_of_row _ _ _ _ _ hg
section
variable {B : Nat} {w0 w : World} {R : Nat} {base : Int} {ln : Nat} {st : Asm} {vl : Value} {mb : Nat} {vf : Value} {fs : List Value} {bs : List Nat} {ml : List (ByteArray × Nat)} {g cap : Nat}
set_option maxRecDepth 100000 in
set_option maxHeartbeats 1000000 in
theorem lay_li (h : RSt B w0 w R base ln st (.slice (some ⟨g, 0, none⟩) st.ws.length cap) vl mb vf fs bs ml) (hE : AEnv w0) (p cap' ba : Nat) (a x : Int) (hp : p + 2 ≤ st.ws.length) (x0 : 0 ≤ x) (x1 : x < 4294967296) (hba : w.heap[ba]? = some (.cells #[.int .i64 a] 3 (0, 0))) :
  Calls Tryz.prog 120 #[.slice (some ⟨g, p, none⟩) 2 cap', .int .u32 x, ptr ba] w fun e w' => e = .returned (.tuple #[]) ∧
   RSt B w0 w' R base ln ⟨(st.ws.set p (encF (movI 1 a (x % 65536)))).set (p + 1) (encF (movI 2 a (x / 65536))), st.labs, st.lat⟩ (.slice (some ⟨g, 0, none⟩) st.ws.length cap) vl mb vf fs bs ml ∧ Keep w w' ∧ w.heap.size ≤ w'.heap.size := by
 have hm := mask16 x x0 x1
 obtain ⟨lo, hlo⟩ : ∃ lo, x % 65536 = lo := ⟨_, rfl⟩
 obtain ⟨hi, hhi⟩ : ∃ hi, x / 65536 = hi := ⟨_, rfl⟩
 rw [hlo] at hm
 have l0 : 0 ≤ lo := by omega
 have l1 : lo < 2147483648 := by omega
 have u0 : 0 ≤ hi := by omega
 have u1 : hi < 2147483648 := by omega
 have sh : x / 2 ^ 16 = hi := by rw [← hhi]; rfl
 have hen1 := fun W hW => enc_any (movI 1 a lo) W hW (by show -2147483648 ≤ lo; omega) (by show lo ≤ 2147483647; omega)
 have hen2 := fun W hW => enc_any (movI 2 a hi) W hW (by show -2147483648 ≤ hi; omega) (by show hi ≤ 2147483647; omega)
 have i1 : insC (movI 1 a lo) = #[.int .i64 1, .int .i64 0, .int .i64 a, .int .i64 0, .int .i64 0, .int .i32 lo] := rfl
 have i2 : insC (movI 2 a hi) = #[.int .i64 2, .int .i64 0, .int .i64 a, .int .i64 0, .int .i64 0, .int .i32 hi] := rfl
 rw [i1] at hen1
 rw [i2] at hen2
 obtain ⟨X1, hX1⟩ : ∃ X, encF (movI 1 a lo) = X := ⟨_, rfl⟩
 obtain ⟨X2, hX2⟩ : ∃ X, encF (movI 2 a hi) = X := ⟨_, rfl⟩
 rw [hlo, hhi, hX1, hX2]
 rw [hX1] at hen1
 rw [hX2] at hen2
 have k0 : w.cell? ⟨ba, 0, none⟩ = some (.int .i64 a) := cell_of_row _ _ 0 _ _ _ hba
 have hT := (h.env hE).tabs
 clear i1 i2 hX1 hX2 hlo sh
 replace h := Lib.hid h; replace hen1 := Lib.hid hen1; replace hen2 := Lib.hid hen2; replace hT := Lib.hid hT; replace hba := Lib.hid hba
 go_enter Tryz.func120, Tryz.ntmps120
 go_wp2_with fail
 refine (hen1.out _ hT.out).mono ?_
 rintro e w1 ⟨c1, rfl, b1⟩
 have h1 := h.out.later b1
 obtain ⟨⟨y0, r0⟩, f0, glt⟩ := row_cell h1 p (by omega)
 have h2 := h1.lay p X1
 have hba2 := (Keep.grown h1.ws (capT_no (.inl rfl)) (h1.ws.stored p (.int .u32 X1)).2).at_ ((b1.block _ (Array.getElem?_eq_some_iff.1 hba.out).1).trans hba.out) (.inr (.inr (.inl rfl)))
 have hk := (Keep.below b1).trans (Keep.grown h1.ws (capT_no (.inl rfl)) (h1.ws.stored p (.int .u32 X1)).2)
 have k2 : (w1.setCell ⟨g, p, none⟩ (.int .u32 X1)).cell? ⟨ba, 0, none⟩ = some (.int .i64 a) := cell_of_row _ _ 0 _ _ _ hba2
 have hT2 := (h2.env hE).tabs
 have hs1 := b1.size
 clear h1 b1 hba2 k0 hT
 replace h2 := Lib.hid h2; replace hT2 := Lib.hid hT2; replace hk := Lib.hid hk
 go_wp2_with fail
 refine (hen2.out _ hT2.out).mono ?_
 rintro e w2 ⟨c2, rfl, b2⟩
 have h3 := h2.out.later b2
 have hl3 : (st.ws.set p X1).length = st.ws.length := by rw [List.length_set]
 have h3' : RSt B w0 w2 R base ln ⟨st.ws.set p X1, st.labs, st.lat⟩ (.slice (some ⟨g, 0, none⟩) (st.ws.set p X1).length cap) vl mb vf fs bs ml := by rw [hl3]; exact h3
 obtain ⟨⟨y1, r1⟩, f1, _⟩ := row_cell h3' (p + 1) (by show p + 1 < (st.ws.set p X1).length; rw [hl3]; omega)
 have h4 := h3'.lay (p + 1) X2
 have hk2 := (hk.out.trans (Keep.below b2)).trans (Keep.grown h3'.ws (capT_no (.inl rfl)) (h3'.ws.stored (p + 1) (.int .u32 X2)).2)
 have hs2 := b2.size
 have hss : w.heap.size ≤ (w2.setCell ⟨g, p + 1, none⟩ (.int .u32 X2)).heap.size := by simp only [World.setCell] at hs2 ⊢; simp at hs2 ⊢; omega
 rw [show (⟨st.ws.set p X1, st.labs, st.lat⟩ : Asm).ws.length = st.ws.length from hl3] at h4
 clear h2 h3 h3' b2 hk hT2
 replace h4 := Lib.hid h4; replace hk2 := Lib.hid hk2
 go_wp2_with fail
 go_end0
 exact ⟨rfl, h4.out, hk2.out, hss⟩
set_option maxRecDepth 100000 in
set_option maxHeartbeats 1000000 in
theorem lay_instr (h : RSt B w0 w R base ln st (.slice (some ⟨g, 0, none⟩) st.ws.length cap) vl mb vf fs bs ml) (hE : AEnv w0) (p b4 bp b10 : Nat) (i : Ins) (hp : p < st.ws.length) (hm1 : -2147483648 ≤ i.imm) (hm2 : i.imm ≤ 2147483647)
  (h4 : w.heap[b4]? = some (.cells #[ptr R] 68 (0, 0))) (hbp : w.heap[bp]? = some (.cells #[.int .i64 (p : Int)] 3 (0, 0))) (h10 : w.heap[b10]? = some (.cells (insC i) 92 (0, 0))) :
  Calls Tryz.prog 113 #[ptr b10, ptr b4, ptr bp] w fun e w' => e = .returned (.tuple #[]) ∧
   RSt B w0 w' R base ln ⟨st.ws.set p (encF i), st.labs, st.lat⟩ (.slice (some ⟨g, 0, none⟩) st.ws.length cap) vl mb vf fs bs ml ∧ Keep w w' ∧ w.heap.size ≤ w'.heap.size := by
 have hen := fun W hW => enc_any i W hW hm1 hm2
 obtain ⟨op, k, a, b, c, imm⟩ := i
 obtain ⟨X, hX⟩ : ∃ X, encF ⟨op, k, a, b, c, imm⟩ = X := ⟨_, rfl⟩
 rw [hX] at hen ⊢
 have i1 : insC ⟨op, k, a, b, c, imm⟩ = #[.int .i64 op, .int .i64 k, .int .i64 a, .int .i64 b, .int .i64 c, .int .i32 imm] := rfl
 rw [i1] at hen h10
 have hlt4 := (Array.getElem?_eq_some_iff.1 h4).1
 have hltp := (Array.getElem?_eq_some_iff.1 hbp).1
 have hlt10 := (Array.getElem?_eq_some_iff.1 h10).1
 have hltR := h.lt
 have ne : ∀ {j : Nat} {cs : Array Value} {t : TypeId}, w.heap[j]? = some (Obj.cells cs t (0, 0)) → t ≠ 22 → j ≠ g := fun hj ht e => own_ne h.ws hj ht (by rw [e]; rfl)
 have n4 := ne h4 (by decide)
 have np := ne hbp (by decide)
 have n10 := ne h10 (by decide)
 have nR := ne h.blk (by decide)
 have hS : ∀ W : World, (∀ j, j < w.heap.size → j ≠ g → W.heap[j]? = w.heap[j]?) → (fun w' : World => w'.cell? ⟨b4, 0, none⟩ = some (ptr R) ∧ w'.cell? ⟨R, 2, none⟩ = some (.slice (some ⟨g, 0, none⟩) st.ws.length cap) ∧ w'.cell? ⟨bp, 0, none⟩ = some (.int .i64 (p : Int)) ∧ w'.cell? ⟨b10, 0, none⟩ = some (.int .i64 op) ∧ w'.cell? ⟨b10, 1, none⟩ = some (.int .i64 k) ∧ w'.cell? ⟨b10, 2, none⟩ = some (.int .i64 a) ∧ w'.cell? ⟨b10, 3, none⟩ = some (.int .i64 b) ∧ w'.cell? ⟨b10, 4, none⟩ = some (.int .i64 c) ∧ w'.cell? ⟨b10, 5, none⟩ = some (.int .i32 imm)) W := fun W hW => by
  have e4 := (hW b4 hlt4 n4).trans h4
  have ep := (hW bp hltp np).trans hbp
  have e10 := (hW b10 hlt10 n10).trans h10
  have eR := (hW R hltR nR).trans h.blk
  exact ⟨cell_of_row _ _ 0 _ _ _ e4, cell_of_row _ _ 2 _ _ _ eR, cell_of_row _ _ 0 _ _ _ ep, cell_of_row _ _ 0 _ _ _ e10, cell_of_row _ _ 1 _ _ _ e10, cell_of_row _ _ 2 _ _ _ e10, cell_of_row _ _ 3 _ _ _ e10, cell_of_row _ _ 4 _ _ _ e10, cell_of_row _ _ 5 _ _ _ e10⟩
 have hrow : ∀ W, Below w.heap.size w W → (∃ y, W.cell? ⟨g, p, none⟩ = some y) ∧ W.frozen? ⟨g, p, none⟩ = false := fun W hW => by
  obtain ⟨a, b, _⟩ := row_cell (h.later hW) p hp
  exact ⟨a, b⟩
 have hT : ∀ W, Below w.heap.size w W → Tabs W := fun W hW => ((h.later hW).env hE).tabs
 have hend : ∀ W, Below w.heap.size w W → RSt B w0 (W.setCell ⟨g, p, none⟩ (.int .u32 X)) R base ln ⟨st.ws.set p X, st.labs, st.lat⟩ (.slice (some ⟨g, 0, none⟩) st.ws.length cap) vl mb vf fs bs ml ∧ Keep w (W.setCell ⟨g, p, none⟩ (.int .u32 X)) ∧ w.heap.size ≤ (W.setCell ⟨g, p, none⟩ (.int .u32 X)).heap.size := fun W hW => by
  have h1 := h.later hW
  refine ⟨h1.lay p X, (Keep.below hW).trans (Keep.grown h1.ws (capT_no (.inl rfl)) (h1.ws.stored p (.int .u32 X)).2), ?_⟩
  have := hW.size
  simpa [World.setCell] using this
 have hB : Below w.heap.size w w := Below.refl _ _
 have p0 : (0 : Int) ≤ (p : Int) := by omega
 have p1 : (p : Int) < (st.ws.length : Int) := by omega
 obtain ⟨n, hn⟩ : ∃ n, st.ws.length = n := ⟨_, rfl⟩
 rw [hn] at hS hend p1 ⊢
 clear hX i1 h4 hbp h10 ne h
 replace hS := Lib.hid hS; replace hrow := Lib.hid hrow; replace hT := Lib.hid hT; replace hend := Lib.hid hend; replace hen := Lib.hid hen; replace hn := Lib.hid hn
 go_enter Tryz.func113, Tryz.ntmps113
 go_upto_region 0 with fail
 go_region_held3 (fun w' : World => w'.cell? ⟨b4, 0, none⟩ = some (ptr R) ∧ w'.cell? ⟨R, 2, none⟩ = some (.slice (some ⟨g, 0, none⟩) n cap) ∧ w'.cell? ⟨bp, 0, none⟩ = some (.int .i64 (p : Int)) ∧ w'.cell? ⟨b10, 0, none⟩ = some (.int .i64 op) ∧ w'.cell? ⟨b10, 1, none⟩ = some (.int .i64 k) ∧ w'.cell? ⟨b10, 2, none⟩ = some (.int .i64 a) ∧ w'.cell? ⟨b10, 3, none⟩ = some (.int .i64 b) ∧ w'.cell? ⟨b10, 4, none⟩ = some (.int .i64 c) ∧ w'.cell? ⟨b10, 5, none⟩ = some (.int .i32 imm))
  (first | exact hS.out _ (fun j hj _ => hB.block j hj) | exact hS.out _ (fun j hj hn => (Below.heap_setCell _ _ _ _ hn).trans (hB.block j hj)))
  (first
  | (go_at_call 30
     refine (hen.out _ (hT.out _ (by first | with_reducible exact hB | with_reducible exact hB.drew))).mono ?_
     rintro e w1 ⟨c1, rfl, b1⟩
     replace hB := Below.trans (by first | with_reducible exact hB | with_reducible exact hB.drew) (b1.mono (by exact hB.size))
     obtain ⟨⟨y0, r0⟩, f0⟩ := hrow.out _ hB
     clear b1))
 all_goals (try go_wp2_with fail)
 all_goals go_end0
 all_goals exact ⟨rfl, hend.out _ hB⟩
end
end Go.Proofs.YtiknookfnameiaaGreatDoor
