/- AttestAll answers true for every text, policy and claim of bulk at most 1048576; the listed variables are tied to the program's text. -/
import Derived.Test.YtemanjahkohcpaaGreatDoorLAllJn
import Derived.Test.YtemanjahkohcpaaGreatDoorJn47
import Derived.Test.YtemanjahkohcpaaGreatDoorJn48
import Derived.Test.YtemanjahkohcpaaGreatDoorCards
import Derived.Test.YtemanjahkohcpaaGreatDoorTie
import Derived.Lay
import Derived.LaidMore
import Derived.Stop.Joined
import Derived.SevenTiedAt
import Derived.Deep.DeepHandedRow
import Derived.Deep.DeepWitnessRowRef
namespace Go.Proofs.YtemanjahkohcpaaGreatDoor.attestAll
open Go Go.ChangeShapes Go.WideShapes Go.ChangeAt Go.RowKit Go.Joins Go.Deep
open Go.ChangeMaps (open_string shut_string)
set_option linter.unusedVariables false
set_option maxRecDepth 100000
theorem met_tail {P : Program} {n : String} {d : DataW Unit} {l : List (String × DataW Unit)} {W : World} (h : laidMet P ((n, d) :: l) W) : laidMet P l W := by
  obtain ⟨ps, ⟨gx, tx, csx, fx, px, qx, hgx, htx, hvx, hdx, hl, ex⟩, hnd, hrows⟩ := h
  subst ex
  exact ⟨qx, hl, by simp only [List.nodup_append] at hnd; simp_all, fun b off hm => hrows b off (by simp [hm])⟩
theorem starE : "*" ++ "errors.errorString" = "*errors.errorString" := by decide
theorem hrowE (u : TypeId) (h : Tryz.prog.typeName? 3 u = some "*errors.errorString") : u = 198 :=
  typeName_ptr_named (nm := "errors.errorString") (by rw [starE]; kernel_rfl) (by kernel_rfl) (by decide) u (by rw [starE]; exact h)
theorem maxL_of {W : World} (h : W.ShapedOpen Tryz.prog) : ∃ m, MaxL W m := laysSplitM.s1_3 W h
theorem whys_of {W : World} (h : laidMet Tryz.prog Rows.attestAllRow.laid W) : ∃ aW aH aR, Whys W aW aH aR := by
  obtain ⟨a0, a1, a2, h0, h1, h2, b0, b1, b2, n1, n2, n3⟩ := laid_sentinels3 (P := Tryz.prog) (tp := 198) (te := 222) (ts := 9) (ti := 53) (met_tail (met_tail h))
    (g0 := 0) (g1 := 2) (g2 := 1) (by kernel_rfl) (by kernel_rfl) (by kernel_rfl) (by kernel_rfl) (by kernel_rfl) (by kernel_rfl)
    Tryz.underlying53 hrowE Tryz.underlying198 Tryz.underlying222 rfl rfl Tryz.underlying9 (by kernel_rfl) (by kernel_rfl)
  exact ⟨a0, a1, a2, h0, h1, h2, b0, b1, b2, n1, n2, n3⟩
theorem pol_len {H : Type} {enc : TypeId × Value → H} {w : World} {base : Nat} {spare : Nat → Bool} {held : Bool} {rv : Value} {o : Bool} {rs : List RuleD} {d : DataW H} {p : List MemPlace}
    (h : DataW.Trod enc Tryz.prog w base spare held 24 (.agg #[rv, .bool o]) d p) (hr : Rules w rv rs) : rs.length ≤ Rows.uptoBulk d := by
  obtain ⟨ao, cap, rfl, _⟩ := hr
  obtain ⟨fuel, hf⟩ := h
  simp only [Value.cells] at hf
  obtain ⟨y0, y1, n, hx, _, h0, _⟩ := trod_struct2 Tryz.underlying24 hf
  have e0 : Tryz.prog.cellsOf 22 = 1 := c34
  simp only [e0, List.drop_zero, List.take_succ_cons, List.take_zero] at h0
  simp only [Prod.mk.injEq] at hx
  obtain ⟨rfl, _⟩ := hx
  have hy : rs.length ≤ Rows.uptoBulk y0.1 := by
    rcases open_slice Tryz.underlying22 h0 with ⟨hcs, _⟩ | ⟨a, l, c, m, n', D, Pl, hcs, _, hl, hm, hmm, hx, hel⟩
    · simp at hcs; omega
    · simp at hcs
      obtain ⟨rfl, rfl, rfl⟩ := hcs
      rw [hx]
      simp only [Rows.uptoBulk]
      have hs2 := bulk_len ((List.range m).map D)
      have hlm : rs.length ≤ m := by rw [hmm]; split <;> omega
      simp only [List.length_map, List.length_range] at hs2
      first | omega | (have hs3 := bulk_len ((List.range rs.length).map D); simp only [List.length_map, List.length_range] at hs3; omega)
  simp only [Rows.uptoBulk, Rows.uptoBulkAll]
  omega
theorem contract (H : Type) (enc : TypeId × Value → H) (W : World) (base : Nat) (args : Array Value) (ds gs : List (DataW H)) (before : List MemPlace)
    (hval : ∀ (j : Nat) t v, Tryz.f3.params[j]? = some t → args[j]? = some v → Value.okWide Tryz.prog W .any base t v)
    (hW : DataW.Whole enc Tryz.prog Tryz.f3.params.toList Rows.attestAllSpec.vars false W args.toList ds gs before) (hk : Rows.uptoSmall H (ds ++ gs) = true)
    (hL : laidMetH Tryz.prog Rows.attestAllRow.laid W) (hsh : W.ShapedOpen Tryz.prog) :
    Calls Tryz.prog 3 args W fun e W' => ∃ v, e = .returned v ∧ Rows.attestAllSpec.post enc Tryz.prog Tryz.f3 false true false false W args v W' := by
  have hW' := hW
  obtain ⟨p, q, hA0, hV, rfl, hfz, hnd⟩ := hW
  have hA : DataW.TrodAll enc Tryz.prog W 0 (fun _ => true) true Tryz.f3.params.toList args.toList ds p := hA0
  rw [Tryz.params3] at hA hval
  obtain ⟨v0, vs0, d0, ds0, p0, q0, hargs, rfl, rfl, h0, r0⟩ := trodAll_cons hA
  obtain ⟨v1, vs1, d1, ds1, p1, q1, rfl, rfl, rfl, h1, r1⟩ := trodAll_cons r0
  obtain ⟨v2, vs2, d2, ds2, p2, q2, rfl, rfl, rfl, h2, r2⟩ := trodAll_cons r1
  obtain ⟨rfl, rfl, rfl⟩ := trodAll_nil r2
  obtain rfl : args = #[v0, v1, v2] := by cases args; simp_all
  obtain ⟨rfl, rfl⟩ := trodVars_none hV
  have k1 := h1
  have lt1 : ∀ x ∈ p1, x.block < W.heap.size := by obtain ⟨m, hm⟩ := k1; exact DataW.trod_lt m _ _ _ hm
  have k2 := h2
  have lt2 : ∀ x ∈ p2, x.block < W.heap.size := by obtain ⟨m, hm⟩ := k2; exact DataW.trod_lt m _ _ _ hm
  have hbound := bulk_bound hk
  obtain ⟨s, rfl, rfl, rfl, ws⟩ := open_string Tryz.underlying9 (hval 0 9 v0 rfl rfl) h0
  obtain ⟨rv, rs, other, rfl, hr⟩ := open_policy (hval 1 24 v1 rfl rfl) h1
  obtain ⟨sd, nc, me, da, tg, right, same, e1, e2, e3, e4, e5, rfl⟩ := open_claim (hval 2 30 v2 rfl rfl) h2
  have hpl := pol_len h1 hr
  simp only [List.append_nil, Rows.uptoBulkAll, bulk_string] at hbound
  rw [MakeChecks.laidMetH_plain _ _ _ (by kernel_rfl)] at hL
  have hL1 := Lib.laidMet.reads hL (.tail _ (.head _))
  obtain ⟨KL, hK⟩ := rounds_of hL1
  have hKr := roundsR_of hK hL1 (Lib.laidMet.reads hL (.tail _ (.tail _ (.head _))))
  obtain ⟨aW, aH, aR, hY⟩ := whys_of hL
  obtain ⟨m, hM⟩ := maxL_of hsh
  clear hA0
  refine (attest_walk s m aW aH aR KL sd nc me da tg right same rs other rv W hM hY (by omega) hK hKr e1 e2 e3 e4 e5 hr (by omega)).mono fun e W' ⟨he, bel⟩ => ?_
  subst he
  exact ⟨_, rfl, _, _, _, [], _, [], hW', trodAll_mk1 (shut_bool Tryz.underlying4 _), (trodAll_cons_mk (shut_string Tryz.underlying9 ws) (trodAll_cons_mk (Below.trod laidOut (by kernel_rfl) (of_decide_eq_true (by kernel_rfl)) k1 bel lt1) (trodAll_cons_mk (Below.trod laidOut (by kernel_rfl) (of_decide_eq_true (by kernel_rfl)) k2 bel lt2) trodAll_mk0))), rfl, bel.frame _, fun h => by cases h⟩
def zeros (n : Nat) : Array Value := (List.replicate n (Value.int .u32 0)).toArray
def args0 : Array Value := #[.string ⟨#[]⟩, .agg #[.slice none 0 0, .bool false], .agg (zeros 40 ++ #[.bool false, .bool false])]
theorem laid_met (os : Os) : laidMet Tryz.prog Rows.attestAllRow.laid ((World.laidAll Tryz.prog os Rows.attestAllRow.laid).forCall (fun _ _ => 0) ⟨#[], args0, []⟩).memory :=
  laidMet_laidAll _ (by kernel_rfl) (by kernel_rfl)
def z8 {H : Type} : DataW H := .agg (List.replicate 8 (.lit (.int .u32 0)))
theorem reads (os : Os) {H : Type} (enc : TypeId × Value → H) : ∃ places, DataW.whole enc Tryz.prog ((World.laidAll Tryz.prog os Rows.attestAllRow.laid).forCall (fun _ _ => 0) ⟨#[], args0, []⟩).memory Tryz.f3.params.toList Rows.attestAllSpec.vars false args0.toList 8 = some ([.lit (.string []), .agg [.nil, .lit (.bool false)], .agg [z8, z8, .agg [z8, z8, z8], .lit (.bool false), .lit (.bool false)]], [], places) :=
  ⟨[], by kernel_rfl⟩
theorem liftedUpto (os : Os) (started : os.Started) (H : Type) (enc : TypeId × Value → H) (F : Stop.Interp) :
    ReturnsInHanded {} Tryz.checked os 3 .any ((Rows.OpenSpec.upto Rows.attestAllSpec).preRow enc Tryz.prog Tryz.f3 Rows.attestAllUptoRow.domain false Rows.attestAllUptoRow.laid) (((Rows.OpenSpec.upto Rows.attestAllSpec).at F).post enc Tryz.prog Tryz.f3 false true false false) := by
  obtain ⟨places, hx⟩ := reads os enc
  refine returnsInHanded_of_row (C := Tryz.checked) (s := Rows.OpenSpec.upto Rows.attestAllSpec) own started (by kernel_rfl) Tryz.func3
    (witness_row_atRef (enc := enc) (C := Tryz.checked) false (World.laidAll Tryz.prog os Rows.attestAllRow.laid) args0 (World.laidAll_os _ _ _) (by kernel_rfl) (by kernel_rfl) (by kernel_rfl)
      (OpenSpec.preRow_of_cond 8 hx (by kernel_rfl) (fun k hk => by cases hk; kernel_rfl) (by kernel_rfl) (laid_met os))) ?_
  intro W base args ds gs before hval hW _ hcond _ hL hsh _
  exact contract H enc W base args ds gs before hval hW (hcond _ rfl) hL hsh
theorem saidUpto : Rows.AttestAllUptoSaid :=
  OpenClaim.holds_of_cond 3 Tryz.f3 rfl rfl rfl rfl rfl rfl rfl ⟨rfl, rfl, rfl, rfl, rfl⟩ rfl rfl rfl rfl rfl (by kernel_rfl) Tryz.func3 (by kernel_rfl)
    (of_decide_eq_true (by kernel_rfl)) (by unfold Func.isWrapper; first | (rw [if_pos (by decide +kernel)]; kernel_rfl) | (rw [if_neg (by decide +kernel)]; exact ⟨rfl, rfl⟩))
    (fun os started H enc _ F => by rw [OpenClaim.pre_eq_preRow]; exact liftedUpto os started H enc F)
theorem plain (f : FuncId) (fn : Func) (hf : Tryz.pinned.checked.prog.funcNamed "warden/wardenlaw16.AttestAll" = some f) (hfn : Tryz.pinned.checked.prog.funcs[f]? = some fn) :
    true = Tryz.pinned.checked.prog.looks [] ∧ ∀ (j : Nat) t, fn.params[j]? = some t → Tryz.pinned.checked.prog.wantsStandIn t = false := by
  obtain rfl : f = 3 := Option.some.inj ((show Tryz.prog.funcNamed "warden/wardenlaw16.AttestAll" = some 3 by kernel_rfl).symm.trans hf) |>.symm
  obtain rfl : fn = Tryz.f3 := (Option.some.inj (Tryz.func3.symm.trans hfn)).symm
  refine ⟨by kernel_rfl, fun j t ht => ?_⟩
  rw [Tryz.params3] at ht
  have hm : t ∈ [9, 24, 30] := by simpa using Array.mem_of_getElem? ht
  have hall : ([9, 24, 30].all fun u => !Tryz.prog.wantsStandIn u) = true := by kernel_rfl
  exact (show Tryz.prog.wantsStandIn t = false by simpa using List.all_eq_true.1 hall t hm)
theorem proved : Rows.AttestAllUptoCardSaid :=
  Claim7.holds_tied_plain_at .later [] _ _ _ _ saidUpto (fun _ h => by cases h) (by kernel_rfl) (fun _ h => by cases h) attestAllUpto_row_tie rfl ⟨rfl, rfl⟩ (by kernel_rfl) rfl plain (by kernel_rfl)
#print axioms proved
end Go.Proofs.YtemanjahkohcpaaGreatDoor.attestAll
