/- errors.Is by its contracts: nil, a sentinel, another sentinel, a told that wraps one. (After the kit's worked text on errors.Is.) -/
import Derived.Test.YtemanjahkohcpaaDoorProg
import Derived.Test.YtemanjahkohcpaaDoorBase
import Derived.LaidEql
import Derived.Stop.Asserts
import Derived.RowKitTokens
import Derived.Handy
namespace Go.Proofs.YtemanjahkohcpaaDoor
open Go.RowKit Go.Extern.Stop Go.Stop Go.Extern
theorem isType : ∃ (n : Nat) (F G : Array Value → Sem Value), (∀ (args : Array Value) (w : World), (callFunc 91 args).run Tryd.prog w = ((F args).run Tryd.prog w).andThen fun v w' => .ok (.value v) w') ∧
    (∀ (args : Array Value) (w : World), (callFunc 134 args).run Tryd.prog w = ((G args).run Tryd.prog w).andThen fun v w' => .ok (.value v) w') ∧
    (∀ (v : Value) (w : World), (F #[.iface 183 v]).run Tryd.prog w = .ok (.iface 167 (.agg #[.pointer (some ⟨n, 183, none⟩)])) w) ∧
    (∀ w : World, (G #[.agg #[.pointer (some ⟨n, 183, none⟩)]]).run Tryd.prog w = .ok (.bool true) w) :=
  ⟨Tryd.prog.globals.size, Extern.ReflectliteType.typeOf, Extern.ReflectliteType.method fun t => do Extern.Rtype.noPackHeld "Comparable" t; pure (.bool (← typeInfo t).comparable),
    fun args w => run_callFunc_extern Tryd.func91 (by kernel_rfl) (by kernel_rfl) (by kernel_rfl) (by kernel_rfl) args w,
    fun args w => run_callFunc_extern Tryd.func134 (by kernel_rfl) (by kernel_rfl) (by kernel_rfl) (by kernel_rfl) args w,
    fun v w => by kernel_rfl, fun w => by kernel_rfl⟩
theorem isComp : (Tryd.prog.info? 183).map (·.comparable) = some true := by kernel_rfl
theorem isSize : (Tryd.prog.info? 207).map (·.size) = some 1 := by kernel_rfl
theorem noIsE (v : Value) (xT : TypeId) (w : World) : (Instr.typeAssert (.iface 183 v) xT 169 true).run Tryd.prog w = .ok (.tuple #[.nilIface, .bool false]) w := run_typeAssert_lacksB Tryd.underlying169 (by kernel_rfl) (by kernel_rfl) v xT w
theorem noUnwrapE (v : Value) (xT : TypeId) (w : World) : (Instr.typeAssert (.iface 183 v) xT 171 true).run Tryd.prog w = .ok (.tuple #[.nilIface, .bool false]) w := run_typeAssert_lacksB Tryd.underlying171 (by kernel_rfl) (by kernel_rfl) v xT w
theorem noUnwrapsE (v : Value) (xT : TypeId) (w : World) : (Instr.typeAssert (.iface 183 v) xT 173 true).run Tryd.prog w = .ok (.tuple #[.nilIface, .bool false]) w := run_typeAssert_lacksB Tryd.underlying173 (by kernel_rfl) (by kernel_rfl) v xT w
theorem noIsT (v : Value) (xT : TypeId) (w : World) : (Instr.typeAssert (.iface 121 v) xT 169 true).run Tryd.prog w = .ok (.tuple #[.nilIface, .bool false]) w := run_typeAssert_lacksB Tryd.underlying169 (by kernel_rfl) (by kernel_rfl) v xT w
theorem hasUnwrapT (v : Value) (xT : TypeId) (w : World) : (Instr.typeAssert (.iface 121 v) xT 171 true).run Tryd.prog w = .ok (.tuple #[.iface 121 v, .bool true]) w := run_typeAssert_hasB Tryd.underlying171 (by kernel_rfl) v xT w
theorem is_same (a : Addr) (w : World) :
    Calls Tryd.prog 72 #[.iface 183 (.pointer (some a)), .iface 183 (.pointer (some a))] w fun e w' => e = .returned (.bool true) ∧ w' = w := by
  obtain ⟨i, hi, hcmp⟩ := Option.map_eq_some_iff.1 isComp
  obtain ⟨j, hj, hjs⟩ := Option.map_eq_some_iff.1 isSize
  obtain ⟨gN, F, G, hT, hC, tT, cT⟩ := isType
  have heq := run_eql_iface_ptr_same (P := Tryd.prog) w a Tryd.underlying87 Tryd.underlying183 hi hcmp hj
  go_enter Tryd.func72, Tryd.ntmps72
  go_wp2
  refine wp_loop_rounds 1 ?_
  rw [rounds_succ]
  go_wp2
  go_ret
  exact ⟨rfl, rfl⟩
theorem is_nil (b : Addr) (w : World) :
    Calls Tryd.prog 72 #[.nilIface, .iface 183 (.pointer (some b))] w fun e w' => e = .returned (.bool false) ∧ w' = w := by
  have hn := run_eql_iface_nil_left (P := Tryd.prog) w 183 (.pointer (some b)) Tryd.underlying87
  go_enter Tryd.func72, Tryd.ntmps72
  go_wp2
  go_ret
  exact ⟨rfl, rfl⟩
theorem is_other (a b : Addr) (ca cb : Array Value) (ta tb : TypeId) (w : World) (hne : a ≠ b) (ha : w.heap[a.block]? = some (.cells ca ta (0, 0))) (hb : w.heap[b.block]? = some (.cells cb tb (0, 0))) :
    Calls Tryd.prog 72 #[.iface 183 (.pointer (some a)), .iface 183 (.pointer (some b))] w fun e w' => e = .returned (.bool false) ∧ w' = w := by
  obtain ⟨i, hi, hcmp⟩ := Option.map_eq_some_iff.1 isComp
  obtain ⟨j, hj, hjs⟩ := Option.map_eq_some_iff.1 isSize
  obtain ⟨gN, F, G, hT, hC, tT, cT⟩ := isType
  have nE := noIsE
  have uE := noUnwrapE
  have vE := noUnwrapsE
  have heq := run_eql_iface_ptr_other (P := Tryd.prog) w Tryd.underlying87 Tryd.underlying183 hi hcmp hj (by rw [hjs]; decide) hne ha hb
  go_enter Tryd.func72, Tryd.ntmps72
  go_wp2
  refine wp_loop_rounds 1 ?_
  rw [rounds_succ]
  go_wp2
  go_ret
  exact ⟨rfl, rfl⟩
theorem is_told_same (g : Nat) (b : Addr) (w : World) (h1 : w.cell? ⟨g, 1, none⟩ = some (.iface 183 (.pointer (some b)))) :
    Calls Tryd.prog 72 #[.iface 121 (.pointer (some ⟨g, 0, none⟩)), .iface 183 (.pointer (some b))] w fun e w' => e = .returned (.bool true) ∧ w' = w := by
  obtain ⟨i, hi, hcmp⟩ := Option.map_eq_some_iff.1 isComp
  obtain ⟨j, hj, hjs⟩ := Option.map_eq_some_iff.1 isSize
  obtain ⟨gN, F, G, hT, hC, tT, cT⟩ := isType
  have nT := noIsT
  have uT := hasUnwrapT
  have heq := run_eql_iface_ptr_same (P := Tryd.prog) w b Tryd.underlying87 Tryd.underlying183 hi hcmp hj
  have hty := run_eql_iface_types (P := Tryd.prog) 121 183 (.pointer (some ⟨g, 0, none⟩)) (.pointer (some b)) Tryd.underlying87 (by decide) w
  go_enter Tryd.func72, Tryd.ntmps72
  go_wp2
  refine wp_loop_rounds 2 ?_
  rw [rounds_succ]
  go_wp2
  rw [rounds_succ]
  go_wp2
  go_ret
  exact ⟨rfl, rfl⟩
theorem is_told_other (g : Nat) (b a : Addr) (ca cb : Array Value) (ta tb : TypeId) (w : World) (h1 : w.cell? ⟨g, 1, none⟩ = some (.iface 183 (.pointer (some a)))) (hne : a ≠ b) (ha : w.heap[a.block]? = some (.cells ca ta (0, 0))) (hb : w.heap[b.block]? = some (.cells cb tb (0, 0))) :
    Calls Tryd.prog 72 #[.iface 121 (.pointer (some ⟨g, 0, none⟩)), .iface 183 (.pointer (some b))] w fun e w' => e = .returned (.bool false) ∧ w' = w := by
  obtain ⟨i, hi, hcmp⟩ := Option.map_eq_some_iff.1 isComp
  obtain ⟨j, hj, hjs⟩ := Option.map_eq_some_iff.1 isSize
  obtain ⟨gN, F, G, hT, hC, tT, cT⟩ := isType
  have nE := noIsE
  have uE := noUnwrapE
  have vE := noUnwrapsE
  have nT := noIsT
  have uT := hasUnwrapT
  have heq := run_eql_iface_ptr_other (P := Tryd.prog) w Tryd.underlying87 Tryd.underlying183 hi hcmp hj (by rw [hjs]; decide) hne ha hb
  have hty := run_eql_iface_types (P := Tryd.prog) 121 183 (.pointer (some ⟨g, 0, none⟩)) (.pointer (some b)) Tryd.underlying87 (by decide) w
  go_enter Tryd.func72, Tryd.ntmps72
  go_wp2
  refine wp_loop_rounds 2 ?_
  rw [rounds_succ]
  go_wp2
  rw [rounds_succ]
  go_wp2
  go_ret
  exact ⟨rfl, rfl⟩
end Go.Proofs.YtemanjahkohcpaaDoor
