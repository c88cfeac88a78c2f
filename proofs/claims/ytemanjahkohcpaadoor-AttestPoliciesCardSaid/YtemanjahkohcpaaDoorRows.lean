/-
  NARROWER THAN 'FOR EVERY INPUT', by the rows' own cells (each row's printed sentence says how): AttestMacs: laid · AttestJudges: laid · AttestBack: laid · AttestTags: laid · AttestPolicies: laid.
  DERIVED. THE GIVEN ROWS OF THIS SEAT. 5 by the template 'for every input the law returns true; each argument reads behind the call as it read before'; 0 by the template 'total and deterministic' (their statements: YtemanjahkohcpaaDoorTotals.lean).
  GIVEN WITH THE SEED: the statements are not yours to turn. If you find one false, say at which input.
  Laid BY PROGRAM, IN A SANDBOX (cutbox-rows.mjs): the forced cells as the released guide's own fill.sh prints them over the translation 744af32050f5a62d… (all of the seat's roots in one cut). By AI agents, Wed Nov 11 2026. No macro, syntax, notation, axiom, sorry.
-/
import Derived.Test.YtemanjahkohcpaaDoorChecked
import GoSem.PinnedTables
import GoSem.Claim
import GoSem.ClaimJoined
import GoSem.ClaimMapViews
import Derived.JoinedTies
import Derived.KernelRfl
namespace Go.Proofs.YtemanjahkohcpaaDoor
/- THE CELL 'sum', in the pinned program and in every row, IS THE sha256 OF THE DUMP (.gsa) THAT YtemanjahkohcpaaDoorProg.lean LOADS. Nothing in Lean hashes anything: it is a label: what it is worth is what the hold of that sum in a sandbox is worth. -/
noncomputable def Tryd.pinned : Pinned := { name := "ytemanjahkohcpaadoor", sum := "744af32050f5a62db4bd4eecd543b060324495d5b0f6f35475a28179d8c6bed0", checked := Tryd.checked }
namespace Rows
def none {H : Type} : Left H := { results := [], args := [] }

/- WHAT THE LISTED PACKAGE-LEVEL VARIABLES READ AS WHEN THE CALL BEGINS. Each datum BY PROGRAM (the guide's laid-datum.mjs) off the statement by which the dump's own 'gosem.cut.vars' lays the variable. In a bare row this is a premise. The card (YtemanjahkohcpaaDoorCards.lean) ties it to the program's text. -/
def laid_warden_sha_rounds {H : Type} : DataW H := .agg [.lit (.int .u32 1116352408), .lit (.int .u32 1899447441), .lit (.int .u32 3049323471), .lit (.int .u32 3921009573), .lit (.int .u32 961987163), .lit (.int .u32 1508970993), .lit (.int .u32 2453635748), .lit (.int .u32 2870763221), .lit (.int .u32 3624381080), .lit (.int .u32 310598401), .lit (.int .u32 607225278), .lit (.int .u32 1426881987), .lit (.int .u32 1925078388), .lit (.int .u32 2162078206), .lit (.int .u32 2614888103), .lit (.int .u32 3248222580), .lit (.int .u32 3835390401), .lit (.int .u32 4022224774), .lit (.int .u32 264347078), .lit (.int .u32 604807628), .lit (.int .u32 770255983), .lit (.int .u32 1249150122), .lit (.int .u32 1555081692), .lit (.int .u32 1996064986), .lit (.int .u32 2554220882), .lit (.int .u32 2821834349), .lit (.int .u32 2952996808), .lit (.int .u32 3210313671), .lit (.int .u32 3336571891), .lit (.int .u32 3584528711), .lit (.int .u32 113926993), .lit (.int .u32 338241895), .lit (.int .u32 666307205), .lit (.int .u32 773529912), .lit (.int .u32 1294757372), .lit (.int .u32 1396182291), .lit (.int .u32 1695183700), .lit (.int .u32 1986661051), .lit (.int .u32 2177026350), .lit (.int .u32 2456956037), .lit (.int .u32 2730485921), .lit (.int .u32 2820302411), .lit (.int .u32 3259730800), .lit (.int .u32 3345764771), .lit (.int .u32 3516065817), .lit (.int .u32 3600352804), .lit (.int .u32 4094571909), .lit (.int .u32 275423344), .lit (.int .u32 430227734), .lit (.int .u32 506948616), .lit (.int .u32 659060556), .lit (.int .u32 883997877), .lit (.int .u32 958139571), .lit (.int .u32 1322822218), .lit (.int .u32 1537002063), .lit (.int .u32 1747873779), .lit (.int .u32 1955562222), .lit (.int .u32 2024104815), .lit (.int .u32 2227730452), .lit (.int .u32 2361852424), .lit (.int .u32 2428436474), .lit (.int .u32 2756734187), .lit (.int .u32 3204031479), .lit (.int .u32 3329325298)]
def laid_unicode_utf8_acceptRanges {H : Type} : DataW H := .agg [.agg [.lit (.int .u8 128), .lit (.int .u8 191)], .agg [.lit (.int .u8 160), .lit (.int .u8 191)], .agg [.lit (.int .u8 128), .lit (.int .u8 159)], .agg [.lit (.int .u8 144), .lit (.int .u8 191)], .agg [.lit (.int .u8 128), .lit (.int .u8 143)], .agg [.lit (.int .u8 0), .lit (.int .u8 0)], .agg [.lit (.int .u8 0), .lit (.int .u8 0)], .agg [.lit (.int .u8 0), .lit (.int .u8 0)], .agg [.lit (.int .u8 0), .lit (.int .u8 0)], .agg [.lit (.int .u8 0), .lit (.int .u8 0)], .agg [.lit (.int .u8 0), .lit (.int .u8 0)], .agg [.lit (.int .u8 0), .lit (.int .u8 0)], .agg [.lit (.int .u8 0), .lit (.int .u8 0)], .agg [.lit (.int .u8 0), .lit (.int .u8 0)], .agg [.lit (.int .u8 0), .lit (.int .u8 0)], .agg [.lit (.int .u8 0), .lit (.int .u8 0)]]
def laid_warden_attest_errHex {H : Type} : DataW H := .iface "*errors.errorString" (.ptr (.agg [.lit (.string [110, 111, 116, 32, 115, 105, 120, 116, 121, 45, 102, 111, 117, 114, 32, 100, 105, 103, 105, 116, 115])]))
/-- One of Go's own tables, pinned by name: the form's constant. -/
def laid_unicode_utf8_first : DataW Unit := Go.Pinned.utf8First
def laid_warden_wardenref02_K {H : Type} : DataW H := .agg [.lit (.int .u32 1116352408), .lit (.int .u32 1899447441), .lit (.int .u32 3049323471), .lit (.int .u32 3921009573), .lit (.int .u32 961987163), .lit (.int .u32 1508970993), .lit (.int .u32 2453635748), .lit (.int .u32 2870763221), .lit (.int .u32 3624381080), .lit (.int .u32 310598401), .lit (.int .u32 607225278), .lit (.int .u32 1426881987), .lit (.int .u32 1925078388), .lit (.int .u32 2162078206), .lit (.int .u32 2614888103), .lit (.int .u32 3248222580), .lit (.int .u32 3835390401), .lit (.int .u32 4022224774), .lit (.int .u32 264347078), .lit (.int .u32 604807628), .lit (.int .u32 770255983), .lit (.int .u32 1249150122), .lit (.int .u32 1555081692), .lit (.int .u32 1996064986), .lit (.int .u32 2554220882), .lit (.int .u32 2821834349), .lit (.int .u32 2952996808), .lit (.int .u32 3210313671), .lit (.int .u32 3336571891), .lit (.int .u32 3584528711), .lit (.int .u32 113926993), .lit (.int .u32 338241895), .lit (.int .u32 666307205), .lit (.int .u32 773529912), .lit (.int .u32 1294757372), .lit (.int .u32 1396182291), .lit (.int .u32 1695183700), .lit (.int .u32 1986661051), .lit (.int .u32 2177026350), .lit (.int .u32 2456956037), .lit (.int .u32 2730485921), .lit (.int .u32 2820302411), .lit (.int .u32 3259730800), .lit (.int .u32 3345764771), .lit (.int .u32 3516065817), .lit (.int .u32 3600352804), .lit (.int .u32 4094571909), .lit (.int .u32 275423344), .lit (.int .u32 430227734), .lit (.int .u32 506948616), .lit (.int .u32 659060556), .lit (.int .u32 883997877), .lit (.int .u32 958139571), .lit (.int .u32 1322822218), .lit (.int .u32 1537002063), .lit (.int .u32 1747873779), .lit (.int .u32 1955562222), .lit (.int .u32 2024104815), .lit (.int .u32 2227730452), .lit (.int .u32 2361852424), .lit (.int .u32 2428436474), .lit (.int .u32 2756734187), .lit (.int .u32 3204031479), .lit (.int .u32 3329325298)]
def laid_warden_attest_errWords {H : Type} : DataW H := .iface "*errors.errorString" (.ptr (.agg [.lit (.string [110, 111, 32, 115, 117, 99, 104, 32, 119, 111, 114, 100, 115])]))
def laid_warden_attest_errRules {H : Type} : DataW H := .iface "*errors.errorString" (.ptr (.agg [.lit (.string [116, 111, 111, 32, 109, 97, 110, 121, 32, 114, 117, 108, 101, 115])]))

/-- 'wardenlaw16.AttestMacs': WHATEVER THE INPUT: true; the input reads as it did. -/
def attestMacsSpec : ChangeSpec := { name := "attestMacs", fn := fun _ => fun
  | [d1, d2, d3, d4] => { results := [.lit (.bool true)], args := [d1, d2, d3, d4] }
  | _ => none }
def attestMacsRow : OpenClaim := { program := "ytemanjahkohcpaadoor", sum := "744af32050f5a62db4bd4eecd543b060324495d5b0f6f35475a28179d8c6bed0", func := "warden/wardenlaw16.AttestMacs", spec := "attestMacs", named := ["warden/sha.rounds"], apart := false, laid := [("warden/sha.rounds", laid_warden_sha_rounds)] }
def AttestMacsSaid : Prop := attestMacsRow.holds Tryd.pinned (OpenSpec.ofChange attestMacsSpec)

/-- ITS FALSE NEIGHBOUR: 'it returns false'. Refute it at one input. -/
def attestMacsWrong : ChangeSpec := { name := "attestMacs", fn := fun _ => fun
  | [d1, d2, d3, d4] => { results := [.lit (.bool false)], args := [d1, d2, d3, d4] }
  | _ => none }
def AttestMacsWrongFalsely : Prop := attestMacsRow.holds Tryd.pinned (OpenSpec.ofChange attestMacsWrong)

/-- 'wardenlaw16.AttestJudges': WHATEVER THE INPUT: true; the input reads as it did. -/
def attestJudgesSpec : ChangeSpec := { name := "attestJudges", fn := fun _ => fun
  | [d1, d2, d3] => { results := [.lit (.bool true)], args := [d1, d2, d3] }
  | _ => none }
def attestJudgesRow : OpenClaim := { program := "ytemanjahkohcpaadoor", sum := "744af32050f5a62db4bd4eecd543b060324495d5b0f6f35475a28179d8c6bed0", func := "warden/wardenlaw16.AttestJudges", spec := "attestJudges", named := ["warden/sha.rounds"], apart := false, laid := [("warden/sha.rounds", laid_warden_sha_rounds)] }
def AttestJudgesSaid : Prop := attestJudgesRow.holds Tryd.pinned (OpenSpec.ofChange attestJudgesSpec)

/-- ITS FALSE NEIGHBOUR: 'it returns false'. Refute it at one input. -/
def attestJudgesWrong : ChangeSpec := { name := "attestJudges", fn := fun _ => fun
  | [d1, d2, d3] => { results := [.lit (.bool false)], args := [d1, d2, d3] }
  | _ => none }
def AttestJudgesWrongFalsely : Prop := attestJudgesRow.holds Tryd.pinned (OpenSpec.ofChange attestJudgesWrong)

/-- 'wardenlaw16.AttestBack': WHATEVER THE INPUT: true; the input reads as it did. -/
def attestBackSpec : ChangeSpec := { name := "attestBack", fn := fun _ => fun
  | [d1, d2, d3, d4] => { results := [.lit (.bool true)], args := [d1, d2, d3, d4] }
  | _ => none }
def attestBackRow : OpenClaim := { program := "ytemanjahkohcpaadoor", sum := "744af32050f5a62db4bd4eecd543b060324495d5b0f6f35475a28179d8c6bed0", func := "warden/wardenlaw16.AttestBack", spec := "attestBack", inPlace := ["internal/abi.NoEscape", "internal/bytealg.CountString", "internal/bytealg.IndexByteString", "internal/bytealg.IndexString"], named := ["unicode/utf8.first", "unicode/utf8.acceptRanges", "internal/bytealg.MaxLen", "warden/attest.errHex"], apart := false, laid := [("unicode/utf8.acceptRanges", laid_unicode_utf8_acceptRanges), ("warden/attest.errHex", laid_warden_attest_errHex), ("unicode/utf8.first", laid_unicode_utf8_first)] }
def AttestBackSaid : Prop := attestBackRow.holds Tryd.pinned (OpenSpec.ofChange attestBackSpec)

/-- ITS FALSE NEIGHBOUR: 'it returns false'. Refute it at one input. -/
def attestBackWrong : ChangeSpec := { name := "attestBack", fn := fun _ => fun
  | [d1, d2, d3, d4] => { results := [.lit (.bool false)], args := [d1, d2, d3, d4] }
  | _ => none }
def AttestBackWrongFalsely : Prop := attestBackRow.holds Tryd.pinned (OpenSpec.ofChange attestBackWrong)

/-- 'wardenlaw16.AttestTags': WHATEVER THE INPUT: true; the input reads as it did. -/
def attestTagsSpec : ChangeSpec := { name := "attestTags", fn := fun _ => fun
  | [d1, d2] => { results := [.lit (.bool true)], args := [d1, d2] }
  | _ => none }
def attestTagsRow : OpenClaim := { program := "ytemanjahkohcpaadoor", sum := "744af32050f5a62db4bd4eecd543b060324495d5b0f6f35475a28179d8c6bed0", func := "warden/wardenlaw16.AttestTags", spec := "attestTags", inPlace := ["internal/bytealg.CountString", "internal/bytealg.IndexByteString", "internal/bytealg.IndexString", "internal/abi.NoEscape"], named := ["warden/sha.rounds", "warden/wardenref02.K", "unicode/utf8.first", "unicode/utf8.acceptRanges", "internal/bytealg.MaxLen", "warden/attest.errHex"], apart := false, laid := [("unicode/utf8.acceptRanges", laid_unicode_utf8_acceptRanges), ("warden/sha.rounds", laid_warden_sha_rounds), ("warden/wardenref02.K", laid_warden_wardenref02_K), ("warden/attest.errHex", laid_warden_attest_errHex), ("unicode/utf8.first", laid_unicode_utf8_first)] }
def AttestTagsSaid : Prop := attestTagsRow.holds Tryd.pinned (OpenSpec.ofChange attestTagsSpec)

/-- ITS FALSE NEIGHBOUR: 'it returns false'. Refute it at one input. -/
def attestTagsWrong : ChangeSpec := { name := "attestTags", fn := fun _ => fun
  | [d1, d2] => { results := [.lit (.bool false)], args := [d1, d2] }
  | _ => none }
def AttestTagsWrongFalsely : Prop := attestTagsRow.holds Tryd.pinned (OpenSpec.ofChange attestTagsWrong)

/-- 'wardenlaw16.AttestPolicies': WHATEVER THE INPUT: true; the input reads as it did. -/
def attestPoliciesSpec : ChangeSpec := { name := "attestPolicies", fn := fun _ => fun
  | [d1, d2] => { results := [.lit (.bool true)], args := [d1, d2] }
  | _ => none }
def attestPoliciesRow : OpenClaim := { program := "ytemanjahkohcpaadoor", sum := "744af32050f5a62db4bd4eecd543b060324495d5b0f6f35475a28179d8c6bed0", func := "warden/wardenlaw16.AttestPolicies", spec := "attestPolicies", inPlace := ["internal/abi.NoEscape", "internal/bytealg.CountString", "internal/bytealg.IndexByteString", "internal/bytealg.IndexString", "internal/reflectlite.TypeOf"], unfollowed := true, recurses := true, named := ["unicode/utf8.first", "unicode/utf8.acceptRanges", "internal/bytealg.MaxLen", "warden/attest.errWords", "warden/attest.errRules", "warden/attest.errHex"], apart := false, laid := [("unicode/utf8.acceptRanges", laid_unicode_utf8_acceptRanges), ("warden/attest.errWords", laid_warden_attest_errWords), ("warden/attest.errHex", laid_warden_attest_errHex), ("warden/attest.errRules", laid_warden_attest_errRules), ("unicode/utf8.first", laid_unicode_utf8_first)] }
def AttestPoliciesSaid : Prop := attestPoliciesRow.holds Tryd.pinned (OpenSpec.ofChange attestPoliciesSpec)

/-- ITS FALSE NEIGHBOUR: 'it returns false'. Refute it at one input. -/
def attestPoliciesWrong : ChangeSpec := { name := "attestPolicies", fn := fun _ => fun
  | [d1, d2] => { results := [.lit (.bool false)], args := [d1, d2] }
  | _ => none }
def AttestPoliciesWrongFalsely : Prop := attestPoliciesRow.holds Tryd.pinned (OpenSpec.ofChange attestPoliciesWrong)

/- THE SECOND FORM. 'bulk': how many values and letters a reading holds, each counted each time it is reached (what is shared counts as often as it is met; a slice's spare places count too). A statement '..UptoSaid' is the law's where the arguments, and the package variables that the reading takes, are together of bulk at most 1048576: NARROWER than '..Said'. Prove '..Said' where nothing that the law and all that it calls make is longer than what came in: it says more and counts as full. Else prove '..UptoSaid'. A law counts once. -/
mutual
def uptoBulk {H : Type} : DataW H → Nat
  | .lit (.string bytes) => bytes.length + 1
  | .lit _ => 1
  | .nil => 1
  | .ptr d => uptoBulk d + 1
  | .slice elems spare => uptoBulkAll elems + uptoBulkAll spare + 1
  | .agg parts => uptoBulkAll parts + 1
  | .iface _ d => uptoBulk d + 1
  | .map entries => uptoBulkEntries entries + 1
  | .held _ => 1
def uptoBulkAll {H : Type} : List (DataW H) → Nat
  | [] => 0
  | d :: r => uptoBulk d + uptoBulkAll r
def uptoBulkEntries {H : Type} : List (Lit × DataW H) → Nat
  | [] => 0
  | x :: r => uptoBulkEntry x + uptoBulkEntries r
def uptoBulkEntry {H : Type} : Lit × DataW H → Nat
  | (.string bytes, d) => bytes.length + uptoBulk d + 1
  | (_, d) => uptoBulk d + 1
 end
def uptoSmall : (H : Type) → List (DataW H) → Bool := fun _ ds => decide (uptoBulkAll ds ≤ 1048576)
def OpenSpec.upto (s : _root_.Go.ChangeSpec) : _root_.Go.OpenSpec := { _root_.Go.OpenSpec.ofChange s with cond := some uptoSmall }

/-- 'wardenlaw16.AttestMacs', WHERE WHAT IT READS IS OF BULK AT MOST 1048576: true; the input reads as it did. -/
def attestMacsUptoRow : OpenClaim := { program := "ytemanjahkohcpaadoor", sum := "744af32050f5a62db4bd4eecd543b060324495d5b0f6f35475a28179d8c6bed0", func := "warden/wardenlaw16.AttestMacs", spec := "attestMacs", named := ["warden/sha.rounds"], apart := false, laid := [("warden/sha.rounds", laid_warden_sha_rounds)], narrowed := true }
def AttestMacsUptoSaid : Prop := attestMacsUptoRow.holds Tryd.pinned (OpenSpec.upto attestMacsSpec)

/-- 'wardenlaw16.AttestJudges', WHERE WHAT IT READS IS OF BULK AT MOST 1048576: true; the input reads as it did. -/
def attestJudgesUptoRow : OpenClaim := { program := "ytemanjahkohcpaadoor", sum := "744af32050f5a62db4bd4eecd543b060324495d5b0f6f35475a28179d8c6bed0", func := "warden/wardenlaw16.AttestJudges", spec := "attestJudges", named := ["warden/sha.rounds"], apart := false, laid := [("warden/sha.rounds", laid_warden_sha_rounds)], narrowed := true }
def AttestJudgesUptoSaid : Prop := attestJudgesUptoRow.holds Tryd.pinned (OpenSpec.upto attestJudgesSpec)

/-- 'wardenlaw16.AttestBack', WHERE WHAT IT READS IS OF BULK AT MOST 1048576: true; the input reads as it did. -/
def attestBackUptoRow : OpenClaim := { program := "ytemanjahkohcpaadoor", sum := "744af32050f5a62db4bd4eecd543b060324495d5b0f6f35475a28179d8c6bed0", func := "warden/wardenlaw16.AttestBack", spec := "attestBack", inPlace := ["internal/abi.NoEscape", "internal/bytealg.CountString", "internal/bytealg.IndexByteString", "internal/bytealg.IndexString"], named := ["unicode/utf8.first", "unicode/utf8.acceptRanges", "internal/bytealg.MaxLen", "warden/attest.errHex"], apart := false, laid := [("unicode/utf8.acceptRanges", laid_unicode_utf8_acceptRanges), ("warden/attest.errHex", laid_warden_attest_errHex), ("unicode/utf8.first", laid_unicode_utf8_first)], narrowed := true }
def AttestBackUptoSaid : Prop := attestBackUptoRow.holds Tryd.pinned (OpenSpec.upto attestBackSpec)

/-- 'wardenlaw16.AttestTags', WHERE WHAT IT READS IS OF BULK AT MOST 1048576: true; the input reads as it did. -/
def attestTagsUptoRow : OpenClaim := { program := "ytemanjahkohcpaadoor", sum := "744af32050f5a62db4bd4eecd543b060324495d5b0f6f35475a28179d8c6bed0", func := "warden/wardenlaw16.AttestTags", spec := "attestTags", inPlace := ["internal/bytealg.CountString", "internal/bytealg.IndexByteString", "internal/bytealg.IndexString", "internal/abi.NoEscape"], named := ["warden/sha.rounds", "warden/wardenref02.K", "unicode/utf8.first", "unicode/utf8.acceptRanges", "internal/bytealg.MaxLen", "warden/attest.errHex"], apart := false, laid := [("unicode/utf8.acceptRanges", laid_unicode_utf8_acceptRanges), ("warden/sha.rounds", laid_warden_sha_rounds), ("warden/wardenref02.K", laid_warden_wardenref02_K), ("warden/attest.errHex", laid_warden_attest_errHex), ("unicode/utf8.first", laid_unicode_utf8_first)], narrowed := true }
def AttestTagsUptoSaid : Prop := attestTagsUptoRow.holds Tryd.pinned (OpenSpec.upto attestTagsSpec)

/-- 'wardenlaw16.AttestPolicies', WHERE WHAT IT READS IS OF BULK AT MOST 1048576: true; the input reads as it did. -/
def attestPoliciesUptoRow : OpenClaim := { program := "ytemanjahkohcpaadoor", sum := "744af32050f5a62db4bd4eecd543b060324495d5b0f6f35475a28179d8c6bed0", func := "warden/wardenlaw16.AttestPolicies", spec := "attestPolicies", inPlace := ["internal/abi.NoEscape", "internal/bytealg.CountString", "internal/bytealg.IndexByteString", "internal/bytealg.IndexString", "internal/reflectlite.TypeOf"], unfollowed := true, recurses := true, named := ["unicode/utf8.first", "unicode/utf8.acceptRanges", "internal/bytealg.MaxLen", "warden/attest.errWords", "warden/attest.errRules", "warden/attest.errHex"], apart := false, laid := [("unicode/utf8.acceptRanges", laid_unicode_utf8_acceptRanges), ("warden/attest.errWords", laid_warden_attest_errWords), ("warden/attest.errHex", laid_warden_attest_errHex), ("warden/attest.errRules", laid_warden_attest_errRules), ("unicode/utf8.first", laid_unicode_utf8_first)], narrowed := true }
def AttestPoliciesUptoSaid : Prop := attestPoliciesUptoRow.holds Tryd.pinned (OpenSpec.upto attestPoliciesSpec)

end Rows
end Go.Proofs.YtemanjahkohcpaaDoor
