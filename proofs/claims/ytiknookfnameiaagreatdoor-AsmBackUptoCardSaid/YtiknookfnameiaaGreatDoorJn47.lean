/- The contract of the reference's Print (printed by genAsS.py). The walk of AsmPrints. -/
import Derived.Test.YtiknookfnameiaaGreatDoorAsRJn
import Derived.Deep.CutRange
import Derived.Deep.RegionHeld3
namespace Go.Proofs
open Go.RowKit
namespace YtiknookfnameiaaGreatDoor
open WP
/-- the names while they are given: the first i places have theirs, the others a mark -/
def nm2 (B : List Bool) (n i : Nat) : List Value := (List.range n).map fun j => .string (strS (if j < i then nmAt B j else if B.getD j false then [108] else []))
theorem nm2_len (B : List Bool) (n i : Nat) : (nm2 B n i).length = n := by simp [nm2]
theorem nm2_get (B : List Bool) (n i j : Nat) (h : j < n) : (nm2 B n i)[j]? = some (.string (strS (if j < i then nmAt B j else if B.getD j false then [108] else []))) := by
  unfold nm2; rw [List.getElem?_map, List.getElem?_range h]; rfl
theorem nm2_at (B : List Bool) (n i : Nat) (h : i < n) : (nm2 B n i)[i]? = some (.string (strS (if B.getD i false then [108] else []))) := by
  rw [nm2_get B n i i h, if_neg (by omega)]
theorem nm2_start (n m : Nat) : nm2 (List.replicate m false) n 0 = List.replicate n (.string ⟨#[]⟩) := by
  unfold nm2
  rw [List.eq_replicate_iff]
  refine ⟨by simp, ?_⟩
  intro b hb
  obtain ⟨j, _, rfl⟩ := List.mem_map.1 hb
  have : (List.replicate m false).getD j false = false := by
    rw [List.getD_eq_getElem?_getD, List.getElem?_replicate]; split <;> rfl
  rw [if_neg (by omega), this, if_neg (by simp)]
  rfl
theorem nm2_mark (B : List Bool) (n t : Nat) (ht : t < B.length) : (nm2 B n 0).set t (.string (strS [108])) = nm2 (B.set t true) n 0 := by
  refine List.ext_getElem? fun j => ?_
  by_cases hj : j < n
  · rw [nm2_get (B.set t true) n 0 j hj, if_neg (show ¬ j < 0 by omega), List.getElem?_set]
    by_cases e : t = j
    · subst e
      rw [if_pos rfl, if_pos (by rw [nm2_len]; exact hj)]
      have : (B.set t true).getD t false = true := by rw [List.getD_eq_getElem?_getD, List.getElem?_set, if_pos rfl, if_pos ht]; rfl
      rw [this, if_pos rfl]
    · rw [if_neg e, nm2_get B n 0 j hj, if_neg (show ¬ j < 0 by omega)]
      have : (B.set t true).getD j false = B.getD j false := by rw [List.getD_eq_getElem?_getD, List.getElem?_set, if_neg e, ← List.getD_eq_getElem?_getD]
      rw [this]
  · rw [List.getElem?_eq_none (by rw [List.length_set, nm2_len]; omega), List.getElem?_eq_none (by rw [nm2_len]; omega)]
theorem nm2_step (B : List Bool) (n k : Nat) : (nm2 B n k).set k (.string (strS (nmAt B k))) = nm2 B n (k + 1) := by
  refine List.ext_getElem? fun j => ?_
  by_cases hj : j < n
  · rw [nm2_get B n (k + 1) j hj, List.getElem?_set]
    by_cases e : k = j
    · subst e
      rw [if_pos rfl, if_pos (by rw [nm2_len]; exact hj), if_pos (by omega)]
    · rw [if_neg e, nm2_get B n k j hj]
      by_cases h2 : j < k
      · rw [if_pos h2, if_pos (show j < k + 1 by omega)]
      · rw [if_neg h2, if_neg (show ¬ j < k + 1 by omega)]
  · rw [List.getElem?_eq_none (by rw [List.length_set, nm2_len]; omega), List.getElem?_eq_none (by rw [nm2_len]; omega)]
theorem nm2_skip (B : List Bool) (n k : Nat) (h : B.getD k false = false) : nm2 B n (k + 1) = nm2 B n k := by
  unfold nm2
  refine List.map_congr_left fun j _ => ?_
  by_cases e : j = k
  · subst e; rw [if_pos (by omega), if_neg (by omega), nm_no B j h, h, if_neg (by simp)]
  · by_cases h2 : j < k
    · rw [if_pos h2, if_pos (show j < k + 1 by omega)]
    · rw [if_neg h2, if_neg (show ¬ j < k + 1 by omega)]
theorem nm2_full (B : List Bool) (n j : Nat) (h : j < n) : (nm2 B n n)[j]? = some (.string (strS (nmAt B j))) := by rw [nm2_get B n n j h, if_pos h]
end YtiknookfnameiaaGreatDoor
end Go.Proofs

namespace Go.Proofs
open Go.RowKit
namespace YtiknookfnameiaaGreatDoor
open WP
set_option maxRecDepth 100000 in
theorem aline_any (x : Int) (w : World) (hT : Tabs w) (hP : Pow10P w) (h0 : 0 ≤ x) (h1 : x ≤ 4294967295) :
    Calls Tryz.prog 20 #[.int .u32 x] w fun e w' => Below w.heap.size w w' ∧ e = .returned (.string (strS (lineL x []))) := by
  have hc := lineP_any x [] w hT hP h0 h1 (by simp)
  rw [show strS ([] : List UInt8) = (⟨#[]⟩ : ByteArray) from rfl] at hc
  generalize strS (lineL x []) = S at *
  go_enter Tryz.func20, Tryz.ntmps20
  go_wp2_with (go_at_call 35; refine hc.mono ?_; rintro e w2 ⟨hb, rfl⟩)
  go_ret
  exact ⟨hb, rfl⟩
theorem anumbers_any (w : World) : Calls Tryz.prog 11 #[] w fun e w' => e = .returned (.bool true) ∧ w' = w := by
  go_enter Tryz.func11, Tryz.ntmps11
  go_wp2
  go_ret
  exact ⟨rfl, rfl⟩
/-- what both Prints answer -/
def prS (l : List UInt32) : ByteArray := if l.length ≤ 2048 then strS (printL l (l.length + 1)) else ⟨#[]⟩
def prE (l : List UInt32) : Int := if l.length ≤ 2048 then 0 else 66
theorem print_all (v : Value) (l : List UInt32) (base : Int) (w : World) (hT : Tabs w) (hP : Pow10P w) (hv : Rd w v (vw l)) :
    Calls Tryz.prog 19 #[v, .int .u32 base] w fun e w' => Below w.heap.size w w' ∧ e = .returned (.tuple #[.string (prS l), .int .i64 (prE l)]) := by
  unfold prS prE
  by_cases hn : l.length ≤ 2048
  · rw [if_pos hn, if_pos hn]; exact print_any v l base w hT hP hv hn
  · rw [if_neg hn, if_neg hn]
    obtain ⟨ao, cap, rfl, _⟩ := hv.words
    obtain ⟨n, hnn⟩ : ∃ n, l.length = n := ⟨_, rfl⟩
    rw [hnn] at hn ⊢
    have d0 : decide ((n : Int) > 2048) = true := decide_eq_true (by omega)
    go_enter Tryz.func19, Tryz.ntmps19
    go_wp2
    refine bodyPost_ret (v := .tuple #[.string ⟨#[]⟩, .int .i64 66]) (by simp [results, Tryz.results19, go_sem]) rfl ⟨Below.refl _ _, rfl⟩
section
variable {P : Program} (w : World)
theorem runP_append_rd (base : Nat) (t ty e : TypeId) (i : TypeInfo) (z : Value) (bytes : Nat) (ht : P.underlying t = some (.slice e)) (hi : P.info? e = some i) (hz : i.zero = some z)
    (hsize : i.size = 1) (hby : i.bytes = bytes) (hzs : z.cells.size = 1)
    (v : Value) (n : Nat) (xs : List Value) (hown : w.ownsRow base e 1 v n xs)
    (u : Value) (news : List Value) (hr : Rd w u news) (h1 : ∀ u ∈ news, u.oneCell' = true)
    (h63 : n + news.length ≤ maxLen) (hbytes : (n + news.length) * bytes ≤ 140737488355328) (hbase : base ≤ w.heap.size) :
    ∃ v' w', (Builtin.append_ #[t, t] ty #[v, u]).run P w = .ok v' w' ∧ w'.ownsRow base e 1 v' (n + news.length) (xs ++ news) ∧ Onto w v w' v' := by
  obtain ⟨ao, c, rfl, hnc, hcm, hr⟩ := hr
  rcases hr with rfl | ⟨b, off, rfl, hc⟩
  · cases ao with
    | none =>
      refine ⟨v, w, ?_, by simpa using hown, Onto.refl _ _⟩
      rcases hown.2 with ⟨rfl, rfl⟩ | ⟨g, cap, cur, rfl, hbg, hg, hnc', hcm', hcs, htake⟩
      · simp [Builtin.append_, run_underlying ht, sizeOf, typeInfo, hi, Builtin.lenOf, Builtin.firstCells]
      · simp [Builtin.append_, run_underlying ht, sizeOf, typeInfo, hi, Builtin.lenOf, Builtin.firstCells, hnc', storeCells]
    | some ad =>
      exact run_append_onto (P := P) w base t ty e i z 1 bytes ht hi hz hsize hby hzs (by omega) v n xs hown ad 0 c [] rfl (by intro j u hu; simp at hu) (by simp) h63 hbytes hbase
  · refine run_append_onto (P := P) w base t ty e i z 1 bytes ht hi hz hsize hby hzs (by omega) v n xs hown ⟨b, off, none⟩ news.length c news (by omega) (fun j u hu => ?_) h1 h63 hbytes hbase
    have hadd : (⟨b, off, none⟩ : Addr).add j = ⟨b, off + j, none⟩ := by unfold Addr.add; split <;> simp_all
    rw [hadd]; exact hc j u hu
theorem wpListP_append_rd {ops : Array Oper} {rest : List Oper} {o : Oper} {a : Act} {Q : Exit → Act → World → Prop} (hgd : o.guard = none) (s x : Operand) (t : TypeId)
    (ho : o.op = .call { callee := .builtin .append, args := #[s, x], argTypes := #[t, t] })
    (base : Nat) (e : TypeId) (i : TypeInfo) (z : Value) (bytes : Nat) (ht : P.underlying t = some (.slice e)) (hi : P.info? e = some i) (hz : i.zero = some z)
    (hsize : i.size = 1) (hby : i.bytes = bytes) (hzs : z.cells.size = 1)
    (v : Value) (n : Nat) (xs : List Value) (hs : a.eval s = v) (hown : w.ownsRow base e 1 v n xs)
    (u : Value) (news : List Value) (hx : a.eval x = u) (hr : Rd w u news) (h1 : ∀ u ∈ news, u.oneCell' = true)
    (h63 : n + news.length ≤ maxLen) (hbytes : (n + news.length) * bytes ≤ 140737488355328) (hbase : base ≤ w.heap.size)
    (h : ∀ v' w', w'.ownsRow base e 1 v' (n + news.length) (xs ++ news) → Onto w v w' v' → wpList P ops Q rest (a.put o.dst v') w') : wpList P ops Q (o :: rest) a w := by
  refine wpList_plain hgd fun K hK => ?_
  obtain ⟨v', w', hr, h2, h3⟩ := runP_append_rd (P := P) w base t o.type e i z bytes ht hi hz hsize hby hzs v n xs hown u news hr h1 h63 hbytes hbase
  unfold Oper.wp execOp
  simp only [ho, resolve, invoke, builtin, Sem.run_bind, Sem.run_pure, Result.andThen_ok, List.map_toArray, List.map_cons, List.map_nil, hs, hx, hr]
  exact hK _ _ (h v' w' h2 h3)
end
theorem infoU4 : (Tryz.prog.info? 22).map (fun i => (i.zero, i.size, i.bytes)) = some (some (.int .u32 0), 1, 4) := by kernel_rfl
theorem last_line : strS (lineL 1409351679 []) = (⟨#[98, 32, 97, 108, 32, 45, 49]⟩ : ByteArray) := by
  have h : lineL 1409351679 [] = [98, 32, 97, 108, 32, 45, 49] := by decide +kernel
  rw [h]; rfl
end YtiknookfnameiaaGreatDoor
end Go.Proofs
