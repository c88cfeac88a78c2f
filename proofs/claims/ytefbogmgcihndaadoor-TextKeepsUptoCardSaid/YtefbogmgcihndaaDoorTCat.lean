/- The two contracts of the function that text's Words defers: where Words panics with a place, where it returns. -/
import Derived.Test.YtefbogmgcihndaaDoorTQuo
import Derived.Defers
import Derived.Recover
namespace Go.Proofs.YtefbogmgcihndaaDoor
open Go.RowKit WP
theorem assert_broken (v : Value) (t : TypeId) (w : World) : (Instr.typeAssert (.iface 70 v) t 70 true).run Tryd.prog w = .ok (.tuple #[v, .bool true]) w := by kernel_rfl
set_option maxRecDepth 100000 in
theorem catch_idle (p0 p1 p2 : Addr) (w : World) :
    CallsD Tryd.prog 28 #[.pointer (some p0), .pointer (some p1), .pointer (some p2)] .returning w fun e u' w' => e = .returned (.tuple #[]) ∧ u' = .returning ∧ w' = w := by
  refine callsD_of_wpS Tryd.func28 rfl fun c₀ cs hu => ?_
  apply wpS_seq
  apply wpS_region
  simp [wpOpsS, go_sem, recoverD, hu, Tryd.ntmps28, Exit.thenS]
  refine wpS_of_wp ?_
  go_wp2
  cases c₀
  simp_all [bodyPostS, results, Tryd.results28]
set_option maxRecDepth 100000 in
theorem catch_broken (b : Nat) (i : Int) (x0 x1 x2 : Value) (older : List PanicEntry) (w : World)
    (h0 : w.cell? ⟨b, 0, none⟩ = some x0) (h1 : w.cell? ⟨b + 1, 0, none⟩ = some x1) (h2 : w.cell? ⟨b + 1 + 1, 0, none⟩ = some x2)
    (f0 : w.frozen? ⟨b, 0, none⟩ = false) (f1 : w.frozen? ⟨b + 1, 0, none⟩ = false) (f2 : w.frozen? ⟨b + 1 + 1, 0, none⟩ = false) (hi : 0 ≤ i) (hi' : i ≤ 9223372036854775806) :
    CallsD Tryd.prog 28 #[.pointer (some ⟨b, 0, none⟩), .pointer (some ⟨b + 1, 0, none⟩), .pointer (some ⟨b + 1 + 1, 0, none⟩)] (.panicking ({ v := .iface 70 (.int .i64 i), recovered := false } :: older)) w fun e u' w' => e = .returned (.tuple #[]) ∧ u' = .panicking ({ v := .iface 70 (.int .i64 i), recovered := true } :: older) ∧ w' = ((w.setCell ⟨b, 0, none⟩ (.slice none 0 0)).setCell ⟨b + 1, 0, none⟩ (.int .i64 (i + 1))).setCell ⟨b + 1 + 1, 0, none⟩ (.int .i64 40) := by
  refine callsD_of_wpS Tryd.func28 rfl fun c₀ cs hu => ?_
  apply wpS_seq
  apply wpS_region
  simp [wpOpsS, go_sem, recoverD, hu, Tryd.ntmps28, Exit.thenS]
  refine wpS_of_wp ?_
  have hta := assert_broken (.int .i64 i)
  change Code.wp _ _ _ { tmps := #[(.pointer (some ⟨b, 0, none⟩)), (.pointer (some ⟨b + 1, 0, none⟩)), (.pointer (some ⟨b + 1 + 1, 0, none⟩)), undef, undef, undef, .iface 70 (.int .i64 i), undef, undef, undef, undef, undef, undef, undef], defers := [] } w
  go_wp2
  all_goals refine ⟨rfl, _, rfl, .tuple #[], ?_, rfl, rfl, rfl⟩
  all_goals simp [results, Tryd.results28]
end Go.Proofs.YtefbogmgcihndaaDoor
