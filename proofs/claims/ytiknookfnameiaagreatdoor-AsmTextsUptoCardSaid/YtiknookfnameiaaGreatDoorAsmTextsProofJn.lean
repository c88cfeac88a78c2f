/- AsmTexts answers true for every text of bulk at most 1048576 at all bases; the listed variables are tied to the program's text. -/
import Derived.Test.YtiknookfnameiaaGreatDoorJn16
import Derived.Test.YtiknookfnameiaaGreatDoorRTxJn
import Derived.Test.YtiknookfnameiaaGreatDoorCards
import Derived.Test.YtiknookfnameiaaGreatDoorTie
import Derived.Lay
import Derived.LaidMore
import Derived.Stop.Joined
import Derived.SevenTiedAt
import Derived.Deep.DeepHandedRow
import Derived.Deep.DeepWitnessRowRef
namespace Go.Proofs.YtiknookfnameiaaGreatDoor
open Go.ChangeShapes Go.WideShapes Go.ChangeAt Go.RowKit Go.Joins Go.Deep
set_option maxRecDepth 100000 in
theorem rtabs2_of {W : World} (h1 : Lib.VarReads Tryz.prog W "warden/wardenref05.names" Rows.laid_warden_wardenref05_names) (h2 : Lib.VarReads Tryz.prog W "warden/wardenref05.shapes" Rows.laid_warden_wardenref05_shapes) (h3 : Lib.VarReads Tryz.prog W "warden/wardenref05.conds" Rows.laid_warden_wardenref05_conds) : RTabs W :=
 ⟨strs_of (n := 25) (t := 230) (by kernel_rfl) (by kernel_rfl) Tryz.underlying230 rfl h1, strs_of (n := 25) (t := 230) (by kernel_rfl) (by kernel_rfl) Tryz.underlying230 rfl h2, strs_of (n := 7) (t := 133) (by kernel_rfl) (by kernel_rfl) Tryz.underlying133 rfl h3⟩
end Go.Proofs.YtiknookfnameiaaGreatDoor
namespace Go.Proofs.YtiknookfnameiaaGreatDoor.asmTexts
open Go Go.ChangeShapes Go.WideShapes Go.ChangeAt Go.RowKit Go.Joins
open Go.ChangeMaps (open_string shut_string)
set_option linter.unusedVariables false
set_option maxRecDepth 100000
theorem env_of {W : World} (hL : laidMetH Tryz.prog Rows.asmTextsRow.laid W) : (AEnv W ∧ RTabs W) ∧ ErrT W := by
 have h' : laidMet Tryz.prog [("math/bits.deBruijn32tab", Rows.laid_math_bits_deBruijn32tab), ("math/bits.deBruijn64tab", Rows.laid_math_bits_deBruijn64tab), ("internal/strconv.uint64pow10", Rows.laid_internal_strconv_uint64pow10), ("unicode/utf8.acceptRanges", Rows.laid_unicode_utf8_acceptRanges), ("warden/wardenref05.shapes", Rows.laid_warden_wardenref05_shapes), ("warden/wardenref05.names", Rows.laid_warden_wardenref05_names), ("warden/wardenref05.conds", Rows.laid_warden_wardenref05_conds), ("warden/isa.uses", Rows.laid_warden_isa_uses), ("warden/isa.conds", Rows.laid_warden_isa_conds), ("strconv.ErrRange", Rows.laid_strconv_ErrRange), ("strconv.ErrSyntax", Rows.laid_strconv_ErrSyntax), ("unicode/utf8.first", Rows.laid_unicode_utf8_first)] W ∧ handlesMet Tryz.prog [("errors.errorType", Rows.laid_errors_errorType)] W := hL
 obtain ⟨h1, h2⟩ := h'
 exact ⟨⟨⟨⟨pow10_of (Lib.laidMet.reads h1 (.tail _ (.tail _ (.head _)))), errR_of (Lib.laidMet.reads h1 (.tail _ (.tail _ (.tail _ (.tail _ (.tail _ (.tail _ (.tail _ (.tail _ (.tail _ (.head _)))))))))))⟩, tabs_of (Lib.laidMet.reads h1 (.tail _ (.tail _ (.tail _ (.tail _ (.tail _ (.tail _ (.tail _ (.head _))))))))) (Lib.laidMet.reads h1 (.tail _ (.tail _ (.tail _ (.tail _ (.tail _ (.tail _ (.tail _ (.tail _ (.head _))))))))))⟩, rtabs2_of (Lib.laidMet.reads h1 (.tail _ (.tail _ (.tail _ (.tail _ (.tail _ (.head _))))))) (Lib.laidMet.reads h1 (.tail _ (.tail _ (.tail _ (.tail _ (.head _)))))) (Lib.laidMet.reads h1 (.tail _ (.tail _ (.tail _ (.tail _ (.tail _ (.tail _ (.head _))))))))⟩, errT_of h2⟩
theorem contract (H : Type) (enc : TypeId × Value → H) (W : World) (base : Nat) (args : Array Value) (ds gs : List (DataW H)) (before : List MemPlace)
  (hval : ∀ (j : Nat) t v, Tryz.f4.params[j]? = some t → args[j]? = some v → Value.okWide Tryz.prog W .any base t v)
  (hW : DataW.Whole enc Tryz.prog Tryz.f4.params.toList Rows.asmTextsSpec.vars false W args.toList ds gs before) (hk : Rows.uptoSmall H (ds ++ gs) = true)
  (hL : laidMetH Tryz.prog Rows.asmTextsRow.laid W) (hsh : W.ShapedOpen Tryz.prog) :
  Calls Tryz.prog 4 args W fun e W' => ∃ v, e = .returned v ∧ Rows.asmTextsSpec.post enc Tryz.prog Tryz.f4 false true false false W args v W' := by
 have hW' := hW
 obtain ⟨p, q, hA0, hV, rfl, hfz, hnd⟩ := hW
 have hA : DataW.TrodAll enc Tryz.prog W 0 (fun _ => true) true Tryz.f4.params.toList args.toList ds p := hA0
 rw [Tryz.params4] at hA hval
 obtain ⟨v0, vs0, d0, ds0, p0, q0, hargs, rfl, rfl, h0, r0⟩ := trodAll_cons hA
 obtain ⟨v1, vs1, d1, ds1, p1, q1, rfl, rfl, rfl, h1, r1⟩ := trodAll_cons r0
 obtain ⟨rfl, rfl, rfl⟩ := trodAll_nil r1
 obtain rfl : args = #[v0, v1] := by cases args; simp_all
 obtain ⟨rfl, rfl⟩ := trodVars_none hV
 have hbound := bulk_bound hk
 obtain ⟨s, rfl, rfl, rfl, ws⟩ := open_string Tryz.underlying9 (hval 0 9 v0 rfl rfl) h0
 obtain ⟨x, rfl, rfl, rfl, wx⟩ := open_int Tryz.underlying22 (hval 1 22 v1 rfl rfl) h1
 simp only [List.append_nil, Rows.uptoBulkAll, bulk_string] at hbound
 obtain ⟨⟨hE, hR⟩, hT⟩ := env_of hL
 obtain ⟨m, hM⟩ := maxLn_of hsh
 clear hA0
 obtain ⟨x0, x1⟩ := wf_u32_bd wx
 refine (texts_any s x m W hE hR hM hT (by omega) ⟨by omega, x0⟩).mono fun e W' ⟨he, bel⟩ => ?_
 subst he
 exact ⟨_, rfl, _, _, _, [], _, [], hW', trodAll_mk1 (shut_bool Tryz.underlying4 _), (trodAll_cons_mk (shut_string Tryz.underlying9 ws) (trodAll_cons_mk (shut_int Tryz.underlying22 wx) trodAll_mk0)), rfl, bel.frame _, fun h => by cases h⟩
def args0 : Array Value := #[.string ⟨#[]⟩, .int .u32 0]
theorem laid_met (os : Os) : laidMetH Tryz.prog Rows.asmTextsRow.laid ((startOf os Rows.asmTextsRow.laid).forCall (fun _ _ => 0) ⟨#[], args0, []⟩).memory :=
 startOf_met _ (by kernel_rfl) (by kernel_rfl) (by kernel_rfl)
theorem reads (os : Os) {H : Type} (enc : TypeId × Value → H) : ∃ places, DataW.whole enc Tryz.prog ((startOf os Rows.asmTextsRow.laid).forCall (fun _ _ => 0) ⟨#[], args0, []⟩).memory Tryz.f4.params.toList Rows.asmTextsSpec.vars false args0.toList 8 = some ([.lit (.string []), .lit (.int .u32 0)], [], places) :=
 ⟨[], by kernel_rfl⟩
theorem liftedUpto (os : Os) (started : os.Started) (H : Type) (enc : TypeId × Value → H) (F : Stop.Interp) :
  ReturnsInHanded {} Tryz.checked os 4 .any ((Rows.OpenSpec.upto Rows.asmTextsSpec).preRow enc Tryz.prog Tryz.f4 Rows.asmTextsUptoRow.domain false Rows.asmTextsUptoRow.laid) (((Rows.OpenSpec.upto Rows.asmTextsSpec).at F).post enc Tryz.prog Tryz.f4 false true false false) := by
 obtain ⟨places, hx⟩ := reads os enc
 refine returnsInHanded_of_row (C := Tryz.checked) (s := Rows.OpenSpec.upto Rows.asmTextsSpec) own started (by kernel_rfl) Tryz.func4
  (witness_row_atRef (enc := enc) (C := Tryz.checked) false (startOf os Rows.asmTextsRow.laid) args0 (startOf_os _ _) (by kernel_rfl) (by kernel_rfl) (by kernel_rfl)
   (OpenSpec.preRow_of_cond 8 hx (by kernel_rfl) (fun k hk => by cases hk; kernel_rfl) (by kernel_rfl) (laid_met os))) ?_
 intro W base args ds gs before hval hW _ hcond _ hL hsh _
 exact contract H enc W base args ds gs before hval hW (hcond _ rfl) hL hsh
theorem saidUpto : Rows.AsmTextsUptoSaid :=
 OpenClaim.holds_of_cond 4 Tryz.f4 rfl rfl rfl rfl rfl rfl rfl ⟨rfl, rfl, rfl, rfl, rfl⟩ rfl rfl rfl rfl rfl (by kernel_rfl) Tryz.func4 (by kernel_rfl)
  (of_decide_eq_true (by kernel_rfl)) (by unfold Func.isWrapper; first | (rw [if_pos (by decide +kernel)]; kernel_rfl) | (rw [if_neg (by decide +kernel)]; exact ⟨rfl, rfl⟩))
  (fun os started H enc _ F => by rw [OpenClaim.pre_eq_preRow]; exact liftedUpto os started H enc F)
theorem plain (f : FuncId) (fn : Func) (hf : Tryz.pinned.checked.prog.funcNamed "warden/wardenlaw06.AsmTexts" = some f) (hfn : Tryz.pinned.checked.prog.funcs[f]? = some fn) :
  true = Tryz.pinned.checked.prog.looks [] ∧ ∀ (j : Nat) t, fn.params[j]? = some t → Tryz.pinned.checked.prog.wantsStandIn t = false := by
 obtain rfl : f = 4 := Option.some.inj ((show Tryz.prog.funcNamed "warden/wardenlaw06.AsmTexts" = some 4 by kernel_rfl).symm.trans hf) |>.symm
 obtain rfl : fn = Tryz.f4 := (Option.some.inj (Tryz.func4.symm.trans hfn)).symm
 refine ⟨by kernel_rfl, fun j t ht => ?_⟩
 rw [Tryz.params4] at ht
 have hm : t ∈ [9, 22] := by
  have hm0 := Array.mem_of_getElem? ht
  simp only [List.mem_toArray, List.mem_cons, List.not_mem_nil, or_false] at hm0 ⊢
  rcases hm0 with h | h
  ·exact .inl h
  ·exact .inr h
 have hall : ([9, 22].all fun u => !Tryz.prog.wantsStandIn u) = true := by kernel_rfl
 exact (show Tryz.prog.wantsStandIn t = false by simpa using List.all_eq_true.1 hall t hm)
theorem proved : Rows.AsmTextsUptoCardSaid :=
 Claim7.holds_tied_plain_at .later [] _ _ _ _ saidUpto (fun _ h => by cases h) (by kernel_rfl) (fun _ h => by cases h) asmTextsUpto_row_tie rfl ⟨rfl, rfl⟩ (by kernel_rfl) rfl plain (by kernel_rfl)
#print axioms proved
end Go.Proofs.YtiknookfnameiaaGreatDoor.asmTexts
