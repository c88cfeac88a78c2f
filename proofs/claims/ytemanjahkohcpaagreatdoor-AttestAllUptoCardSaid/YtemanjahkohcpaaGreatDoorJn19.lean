/- The contract of the reference's Decide. errors.Is by its contracts: nil, a sentinel, another sentinel, a told that wraps one. (After the kit's worked text on errors.Is.) The contracts of attest's refused and says. -/
import Derived.Test.YtemanjahkohcpaaGreatDoorJn09
import Derived.Test.YtemanjahkohcpaaGreatDoorJn12
import Derived.BigQuiet
import Derived.Deep.DrawnRows
import Derived.Test.YtemanjahkohcpaaGreatDoorProg
import Derived.Test.YtemanjahkohcpaaGreatDoorBase
import Derived.LaidEql
import Derived.Stop.Asserts
import Derived.RowKitTokens
import Derived.Handy
import Derived.Deep.RegionHeld3
namespace Go.Proofs.YtemanjahkohcpaaGreatDoor
open Go.RowKit WP
attribute [local go_sem ↓] Go.wp_at_zero Go.wp_at_succ
theorem infoRRu : (Tryz.prog.info? 64).map (·.size) = some 10 := by kernel_rfl
theorem cells_words {w : World} {g o : Nat} {l : List UInt32} (h : w.rangeAt g o (vw l)) (l8 : l.length = 8) :
    w.cell? ⟨g, o, none⟩ = some (.int .u32 (wAt l 0)) ∧ w.cell? ⟨g, o + 1, none⟩ = some (.int .u32 (wAt l 1)) ∧ w.cell? ⟨g, o + 2, none⟩ = some (.int .u32 (wAt l 2)) ∧ w.cell? ⟨g, o + 3, none⟩ = some (.int .u32 (wAt l 3)) ∧
    w.cell? ⟨g, o + 4, none⟩ = some (.int .u32 (wAt l 4)) ∧ w.cell? ⟨g, o + 5, none⟩ = some (.int .u32 (wAt l 5)) ∧ w.cell? ⟨g, o + 6, none⟩ = some (.int .u32 (wAt l 6)) ∧ w.cell? ⟨g, o + 7, none⟩ = some (.int .u32 (wAt l 7)) :=
  ⟨rangeCell o l 0 h l8 (by omega), rangeCell o l 1 h l8 (by omega), rangeCell o l 2 h l8 (by omega), rangeCell o l 3 h l8 (by omega), rangeCell o l 4 h l8 (by omega), rangeCell o l 5 h l8 (by omega), rangeCell o l 6 h l8 (by omega), rangeCell o l 7 h l8 (by omega)⟩
theorem cells_rule {w : World} {g o : Nat} {r : RuleD} (h : w.rangeAt g o (ruleC r)) (l8 : r.me.length = 8) :
    w.cell? ⟨g, o, none⟩ = some (.bool r.allow) ∧ w.cell? ⟨g, o + 1, none⟩ = some (.string r.name) ∧ w.cell? ⟨g, o + 2, none⟩ = some (.int .u32 (wAt r.me 0)) ∧ w.cell? ⟨g, o + 3, none⟩ = some (.int .u32 (wAt r.me 1)) ∧ w.cell? ⟨g, o + 4, none⟩ = some (.int .u32 (wAt r.me 2)) ∧ w.cell? ⟨g, o + 5, none⟩ = some (.int .u32 (wAt r.me 3)) ∧
    w.cell? ⟨g, o + 6, none⟩ = some (.int .u32 (wAt r.me 4)) ∧ w.cell? ⟨g, o + 7, none⟩ = some (.int .u32 (wAt r.me 5)) ∧ w.cell? ⟨g, o + 8, none⟩ = some (.int .u32 (wAt r.me 6)) ∧ w.cell? ⟨g, o + 9, none⟩ = some (.int .u32 (wAt r.me 7)) := by
  have h2 : w.rangeAt g (o + 2) (vw r.me) := by
    intro j u hu
    have := h (2 + j) u (by rw [Nat.add_comm 2 j]; simpa [ruleC] using hu)
    rw [Nat.add_assoc]; exact this
  obtain ⟨a0, a1, a2, a3, a4, a5, a6, a7⟩ := cells_words h2 l8
  exact ⟨h 0 _ rfl, h 1 _ rfl, a0, a1, a2, a3, a4, a5, a6, a7⟩
set_option maxRecDepth 100000 in
set_option maxHeartbeats 2000000 in
theorem rdecide_any (rs : List RuleD) (other : Bool) (me : List UInt32) (v : Value) (w : World) (hr : Rules w v rs) (lm : me.length = 8) :
    Calls Tryz.prog 41 #[.agg #[v, .bool other], .agg (vw me).toArray] w fun e w' => e = .returned (.tuple #[.bool (decF rs other me).1, .string (decF rs other me).2]) ∧ Below w.heap.size w w' := by
  have hr0 := hr
  obtain ⟨ao, cap, rfl, n1, n2, l8, hcs⟩ := hr
  obtain ⟨w1, hw1⟩ : ∃ w1, (w.alloc (.cells #[.slice ao rs.length cap, .bool other] 36)).alloc (.cells (vw me).toArray 26) = w1 := ⟨_, rfl⟩
  have aM : Arr w1 (w.heap.size + 1) 26 me := by
    rw [← hw1]
    have := Arr.new (w.alloc (.cells #[.slice ao rs.length cap, .bool other] 36)) 26 me
    simpa using this
  have hp : w1.heap[w.heap.size]? = some (.cells #[.slice ao rs.length cap, .bool other] 36) := by
    rw [← hw1, heap_alloc_old _ _ (by simp)]; exact heap_alloc_new w _
  have hb1 : Below w.heap.size w w1 := by rw [← hw1]; exact ((Below.refl _ _).alloc (Nat.le_refl _) _).alloc (by simp) _
  have hp0 : w1.cell? ⟨w.heap.size, 0, none⟩ = some (.slice ao rs.length cap) := by rw [cell_of_row w1 _ 0 _ _ _ hp]; rfl
  have hp1 : w1.cell? ⟨w.heap.size, 1, none⟩ = some (.bool other) := by rw [cell_of_row w1 _ 1 _ _ _ hp]; rfl
  obtain ⟨n, hn⟩ : ∃ n, rs.length = n := ⟨_, rfl⟩
  have hlp : w.heap.size < w1.heap.size := (Array.getElem?_eq_some_iff.1 hp).1
  have hlm := aM.lt
  rw [hn] at n1 hp0 hw1 ⊢
  replace hn := Lib.hid hn; replace l8 := Lib.hid l8; replace hcs := Lib.hid hcs; replace aM := Lib.hid aM; replace hb1 := Lib.hid hb1; replace hr0 := Lib.hid hr0
  clear hp
  go_enter Tryz.func41, Tryz.ntmps41
  go_upto_region 1 with fail
  clear hw1
  go_wp2_with fail
  go_loopw [6] (fun i wr => ∃ k : Nat, k ≤ n ∧ i = .int .i64 (k : Int) ∧ decF (rs.drop k) other me = decF rs other me ∧ Below w1.heap.size w1 wr) (fun i _ => n - (intOf i).toNat)
  case atStart => exact ⟨0, by omega, rfl, by simp, Below.refl _ _⟩
  case round =>
    obtain ⟨wo, rfl⟩ : ∃ wo, wo = wr := ⟨wr, rfl⟩
    obtain ⟨k, hk, rfl, hd, hb⟩ := hrel
    by_cases hlt : k < n
    · have hkr : k < rs.length := by rw [hn.out]; exact hlt
      obtain ⟨r, hri⟩ : ∃ r, rs[k]? = some r := ⟨_, List.getElem?_eq_getElem hkr⟩
      have lr : r.me.length = 8 := l8.out r (List.mem_of_getElem? hri)
      have hdk := decF_drop rs other me k r hri
      obtain ⟨b, off, rfl, hbl, hcl⟩ := hcs.out.resolve_left (by intro h; rw [h] at hkr; simp at hkr)
      have hb0 := hb1.out.trans (hb.mono hb1.out.size)
      have hrk : wo.rangeAt b (off + k * 10) (ruleC r) := rangeAt_kept (hcl k r hri) (hb0.block b hbl)
      have lrc := ruleC_len r lr
      have aMo := aM.out.below hb
      have i1 : (0 : Int) ≤ (k : Int) := by omega
      have i2 : (k : Int) < (n : Int) := by omega
      have cR := cells_rule hrk lr
      have m0 := aMo.cell 0 (by omega); have m1 := aMo.cell 1 (by omega); have m2 := aMo.cell 2 (by omega); have m3 := aMo.cell 3 (by omega); have m4 := aMo.cell 4 (by omega); have m5 := aMo.cell 5 (by omega); have m6 := aMo.cell 6 (by omega); have m7 := aMo.cell 7 (by omega)
      have hP0 := (hb.block _ hlp)
      have hq0 : wo.cell? ⟨w.heap.size, 0, none⟩ = some (.slice (some ⟨b, off, none⟩) n cap) := by rw [← hp0]; simp only [World.cell?]; rw [hP0]
      obtain ⟨r0, r1, r2, r3, r4, r5, r6, r7, r8, r9⟩ := cR
      clear hcl hri hkr hrk hP0 lrc
      replace hb0 := Lib.hid hb0; replace hb := Lib.hid hb; replace hd := Lib.hid hd; replace hdk := Lib.hid hdk; replace aMo := Lib.hid aMo
      by_cases hm : r.me = me
      · have hE : ∀ w' : World, (Op.equalIn 10000 26 (.agg (vw r.me).toArray) (.agg (vw me).toArray)).run Tryz.prog w' = .ok true w' := fun w' => by
          rw [eq_words r.me me w' lr lm, decide_eq_true hm]
        rw [vw_lit8 r.me lr, vw_lit8 me lm] at hE
        have hF : decF rs other me = (r.allow, r.name) := by rw [← hd.out, hdk.out, if_pos hm]
        replace hF := Lib.hid hF
        replace hm := Lib.hid hm
        go_upto_region 4 with fail
        go_quiet (fail)
        go_wp2_with fail
        go_quiet (fail)
        go_wp2_with fail
        go_ret2
        exact ⟨by rw [hF.out]; rfl, below_drewN (below_drewN (hb1.out.trans (hb.out.mono hb1.out.size)) _) _⟩
      · have hE : ∀ w' : World, (Op.equalIn 10000 26 (.agg (vw r.me).toArray) (.agg (vw me).toArray)).run Tryz.prog w' = .ok false w' := fun w' => by
          rw [eq_words r.me me w' lr lm, decide_eq_false hm]
        rw [vw_lit8 r.me lr, vw_lit8 me lm] at hE
        have hF : decF (rs.drop (k + 1)) other me = decF rs other me := by rw [← hd.out, hdk.out, if_neg hm]
        replace hF := Lib.hid hF
        replace hm := Lib.hid hm
        go_upto_region 4 with fail
        go_quiet (fail)
        go_wp2_with fail
        go_roundw
        case rel => exact ⟨k + 1, by omega, by go_num, hF.out, below_drewN hb.out _⟩
        case measure => simp [intOf]; omega
    · obtain rfl : k = n := by omega
      have hF : decF rs other me = (other, ⟨#[]⟩) := by rw [← hd, ← hn.out, List.drop_length]; rfl
      have hP0 := (hb.block _ hlp)
      have hq1 : wo.cell? ⟨w.heap.size, 1, none⟩ = some (.bool other) := by rw [← hp1]; simp only [World.cell?]; rw [hP0]
      have hq0 : wo.cell? ⟨w.heap.size, 0, none⟩ = some (.slice ao k cap) := by rw [← hp0]; simp only [World.cell?]; rw [hP0]
      clear hP0
      replace hb := Lib.hid hb; replace hF := Lib.hid hF; replace hd := Lib.hid hd
      go_wp2_with fail
      go_ret2
      exact ⟨by rw [hF.out]; rfl, hb1.out.trans (hb.out.mono hb1.out.size)⟩
end Go.Proofs.YtemanjahkohcpaaGreatDoor

namespace Go.Proofs.YtemanjahkohcpaaGreatDoor
open Go.RowKit Go.Extern.Stop Go.Stop Go.Extern
theorem isType : ∃ (n : Nat) (F G : Array Value → Sem Value), (∀ (args : Array Value) (w : World), (callFunc 50 args).run Tryz.prog w = ((F args).run Tryz.prog w).andThen fun v w' => .ok (.value v) w') ∧
    (∀ (args : Array Value) (w : World), (callFunc 143 args).run Tryz.prog w = ((G args).run Tryz.prog w).andThen fun v w' => .ok (.value v) w') ∧
    (∀ (v : Value) (w : World), (F #[.iface 198 v]).run Tryz.prog w = .ok (.iface 137 (.agg #[.pointer (some ⟨n, 198, none⟩)])) w) ∧
    (∀ w : World, (G #[.agg #[.pointer (some ⟨n, 198, none⟩)]]).run Tryz.prog w = .ok (.bool true) w) :=
  ⟨Tryz.prog.globals.size, Extern.ReflectliteType.typeOf, Extern.ReflectliteType.method fun t => do Extern.Rtype.noPackHeld "Comparable" t; pure (.bool (← typeInfo t).comparable),
    fun args w => run_callFunc_extern Tryz.func50 (by kernel_rfl) (by kernel_rfl) (by kernel_rfl) (by kernel_rfl) args w,
    fun args w => run_callFunc_extern Tryz.func143 (by kernel_rfl) (by kernel_rfl) (by kernel_rfl) (by kernel_rfl) args w,
    fun v w => by kernel_rfl, fun w => by kernel_rfl⟩
theorem isComp : (Tryz.prog.info? 198).map (·.comparable) = some true := by kernel_rfl
theorem isSize : (Tryz.prog.info? 222).map (·.size) = some 1 := by kernel_rfl
theorem noIsE (v : Value) (xT : TypeId) (w : World) : (Instr.typeAssert (.iface 198 v) xT 139 true).run Tryz.prog w = .ok (.tuple #[.nilIface, .bool false]) w := run_typeAssert_lacksB Tryz.underlying139 (by kernel_rfl) (by kernel_rfl) v xT w
theorem noUnwrapE (v : Value) (xT : TypeId) (w : World) : (Instr.typeAssert (.iface 198 v) xT 141 true).run Tryz.prog w = .ok (.tuple #[.nilIface, .bool false]) w := run_typeAssert_lacksB Tryz.underlying141 (by kernel_rfl) (by kernel_rfl) v xT w
theorem noUnwrapsE (v : Value) (xT : TypeId) (w : World) : (Instr.typeAssert (.iface 198 v) xT 143 true).run Tryz.prog w = .ok (.tuple #[.nilIface, .bool false]) w := run_typeAssert_lacksB Tryz.underlying143 (by kernel_rfl) (by kernel_rfl) v xT w
theorem noIsT (v : Value) (xT : TypeId) (w : World) : (Instr.typeAssert (.iface 78 v) xT 139 true).run Tryz.prog w = .ok (.tuple #[.nilIface, .bool false]) w := run_typeAssert_lacksB Tryz.underlying139 (by kernel_rfl) (by kernel_rfl) v xT w
theorem hasUnwrapT (v : Value) (xT : TypeId) (w : World) : (Instr.typeAssert (.iface 78 v) xT 141 true).run Tryz.prog w = .ok (.tuple #[.iface 78 v, .bool true]) w := run_typeAssert_hasB Tryz.underlying141 (by kernel_rfl) v xT w
theorem is_same (a : Addr) (w : World) :
    Calls Tryz.prog 30 #[.iface 198 (.pointer (some a)), .iface 198 (.pointer (some a))] w fun e w' => e = .returned (.bool true) ∧ w' = w := by
  obtain ⟨i, hi, hcmp⟩ := Option.map_eq_some_iff.1 isComp
  obtain ⟨j, hj, hjs⟩ := Option.map_eq_some_iff.1 isSize
  obtain ⟨gN, F, G, hT, hC, tT, cT⟩ := isType
  have heq := run_eql_iface_ptr_same (P := Tryz.prog) w a Tryz.underlying53 Tryz.underlying198 hi hcmp hj
  go_enter Tryz.func30, Tryz.ntmps30
  go_wp2
  refine wp_loop_rounds 1 ?_
  rw [rounds_succ]
  go_wp2
  go_ret
  exact ⟨rfl, rfl⟩
theorem is_nil (b : Addr) (w : World) :
    Calls Tryz.prog 30 #[.nilIface, .iface 198 (.pointer (some b))] w fun e w' => e = .returned (.bool false) ∧ w' = w := by
  have hn := run_eql_iface_nil_left (P := Tryz.prog) w 198 (.pointer (some b)) Tryz.underlying53
  go_enter Tryz.func30, Tryz.ntmps30
  go_wp2
  go_ret
  exact ⟨rfl, rfl⟩
theorem is_other (a b : Addr) (ca cb : Array Value) (ta tb : TypeId) (w : World) (hne : a ≠ b) (ha : w.heap[a.block]? = some (.cells ca ta (0, 0))) (hb : w.heap[b.block]? = some (.cells cb tb (0, 0))) :
    Calls Tryz.prog 30 #[.iface 198 (.pointer (some a)), .iface 198 (.pointer (some b))] w fun e w' => e = .returned (.bool false) ∧ w' = w := by
  obtain ⟨i, hi, hcmp⟩ := Option.map_eq_some_iff.1 isComp
  obtain ⟨j, hj, hjs⟩ := Option.map_eq_some_iff.1 isSize
  obtain ⟨gN, F, G, hT, hC, tT, cT⟩ := isType
  have nE := noIsE
  have uE := noUnwrapE
  have vE := noUnwrapsE
  have heq := run_eql_iface_ptr_other (P := Tryz.prog) w Tryz.underlying53 Tryz.underlying198 hi hcmp hj (by rw [hjs]; decide) hne ha hb
  go_enter Tryz.func30, Tryz.ntmps30
  go_wp2
  refine wp_loop_rounds 1 ?_
  rw [rounds_succ]
  go_wp2
  go_ret
  exact ⟨rfl, rfl⟩
theorem is_told_same (g : Nat) (b : Addr) (w : World) (h1 : w.cell? ⟨g, 1, none⟩ = some (.iface 198 (.pointer (some b)))) :
    Calls Tryz.prog 30 #[.iface 78 (.pointer (some ⟨g, 0, none⟩)), .iface 198 (.pointer (some b))] w fun e w' => e = .returned (.bool true) ∧ w' = w := by
  obtain ⟨i, hi, hcmp⟩ := Option.map_eq_some_iff.1 isComp
  obtain ⟨j, hj, hjs⟩ := Option.map_eq_some_iff.1 isSize
  obtain ⟨gN, F, G, hT, hC, tT, cT⟩ := isType
  have nT := noIsT
  have uT := hasUnwrapT
  have heq := run_eql_iface_ptr_same (P := Tryz.prog) w b Tryz.underlying53 Tryz.underlying198 hi hcmp hj
  have hty := run_eql_iface_types (P := Tryz.prog) 78 198 (.pointer (some ⟨g, 0, none⟩)) (.pointer (some b)) Tryz.underlying53 (by decide) w
  go_enter Tryz.func30, Tryz.ntmps30
  go_wp2
  refine wp_loop_rounds 2 ?_
  rw [rounds_succ]
  go_wp2
  rw [rounds_succ]
  go_wp2
  go_ret
  exact ⟨rfl, rfl⟩
theorem is_told_other (g : Nat) (b a : Addr) (ca cb : Array Value) (ta tb : TypeId) (w : World) (h1 : w.cell? ⟨g, 1, none⟩ = some (.iface 198 (.pointer (some a)))) (hne : a ≠ b) (ha : w.heap[a.block]? = some (.cells ca ta (0, 0))) (hb : w.heap[b.block]? = some (.cells cb tb (0, 0))) :
    Calls Tryz.prog 30 #[.iface 78 (.pointer (some ⟨g, 0, none⟩)), .iface 198 (.pointer (some b))] w fun e w' => e = .returned (.bool false) ∧ w' = w := by
  obtain ⟨i, hi, hcmp⟩ := Option.map_eq_some_iff.1 isComp
  obtain ⟨j, hj, hjs⟩ := Option.map_eq_some_iff.1 isSize
  obtain ⟨gN, F, G, hT, hC, tT, cT⟩ := isType
  have nE := noIsE
  have uE := noUnwrapE
  have vE := noUnwrapsE
  have nT := noIsT
  have uT := hasUnwrapT
  have heq := run_eql_iface_ptr_other (P := Tryz.prog) w Tryz.underlying53 Tryz.underlying198 hi hcmp hj (by rw [hjs]; decide) hne ha hb
  have hty := run_eql_iface_types (P := Tryz.prog) 78 198 (.pointer (some ⟨g, 0, none⟩)) (.pointer (some b)) Tryz.underlying53 (by decide) w
  go_enter Tryz.func30, Tryz.ntmps30
  go_wp2
  refine wp_loop_rounds 2 ?_
  rw [rounds_succ]
  go_wp2
  rw [rounds_succ]
  go_wp2
  go_ret
  exact ⟨rfl, rfl⟩
end Go.Proofs.YtemanjahkohcpaaGreatDoor

namespace Go.Proofs.YtemanjahkohcpaaGreatDoor
open Go.RowKit
theorem cell_same {w w' : World} {g o : Nat} (he : w'.heap[g]? = w.heap[g]?) : w'.cell? ⟨g, o, none⟩ = w.cell? ⟨g, o, none⟩ := by
  simp only [World.cell?, he]
/-- the three reasons, each in its variable -/
structure Whys (w : World) (aW aH aR : Addr) : Prop where
  vW : w.cell? ⟨0, 0, none⟩ = some (.iface 198 (.pointer (some aW)))
  vH : w.cell? ⟨2, 0, none⟩ = some (.iface 198 (.pointer (some aH)))
  vR : w.cell? ⟨1, 0, none⟩ = some (.iface 198 (.pointer (some aR)))
  bW : ∃ c t, w.heap[aW.block]? = some (.cells c t (0, 0))
  bH : ∃ c t, w.heap[aH.block]? = some (.cells c t (0, 0))
  bR : ∃ c t, w.heap[aR.block]? = some (.cells c t (0, 0))
  wh : aW ≠ aH
  wr : aW ≠ aR
  hr : aH ≠ aR
theorem cell_below {w w' : World} {b o : Nat} {v : Value} (h : w.cell? ⟨b, o, none⟩ = some v) (hb : Below w.heap.size w w') : w'.cell? ⟨b, o, none⟩ = some v := by
  rw [cell_same (hb.block b (World.block_lt_of_cell? w _ h))]; exact h
theorem blk_below {w w' : World} {b : Nat} (h : ∃ c t, w.heap[b]? = some (.cells c t (0, 0))) (hb : Below w.heap.size w w') : ∃ c t, w'.heap[b]? = some (.cells c t (0, 0)) := by
  obtain ⟨c, t, h⟩ := h
  exact ⟨c, t, (hb.block b (Array.getElem?_eq_some_iff.1 h).1).trans h⟩
theorem Whys.below {w w' : World} {aW aH aR : Addr} (h : Whys w aW aH aR) (hb : Below w.heap.size w w') : Whys w' aW aH aR :=
  ⟨cell_below h.vW hb, cell_below h.vH hb, cell_below h.vR hb, blk_below h.bW hb, blk_below h.bH hb, blk_below h.bR hb, h.wh, h.wr, h.hr⟩
/-- a refusal -/
def Bad (w : World) (aW aH aR : Addr) (v : Value) : Prop :=
  v = .iface 198 (.pointer (some aW)) ∨ v = .iface 198 (.pointer (some aR)) ∨
    ∃ g, v = .iface 78 (.pointer (some ⟨g, 0, none⟩)) ∧ (w.cell? ⟨g, 1, none⟩ = some (.iface 198 (.pointer (some aW))) ∨ w.cell? ⟨g, 1, none⟩ = some (.iface 198 (.pointer (some aH))))
theorem Bad.below {w w' : World} {aW aH aR : Addr} {v : Value} (h : Bad w aW aH aR v) (hb : Below w.heap.size w w') : Bad w' aW aH aR v := by
  rcases h with h | h | ⟨g, h, hc⟩
  · exact .inl h
  · exact .inr (.inl h)
  · exact .inr (.inr ⟨g, h, hc.imp (fun h => cell_below h hb) (fun h => cell_below h hb)⟩)
theorem refused_nil (aW aH aR : Addr) (w : World) (h : Whys w aW aH aR) :
    Calls Tryz.prog 16 #[.nilIface] w fun e w' => e = .returned (.bool false) ∧ w' = w := by
  obtain ⟨vW, vH, vR, -⟩ := h
  go_enter Tryz.func16, Tryz.ntmps16
  go_wp2_with fail
  refine (is_nil aW _).mono ?_
  rintro e w1 ⟨rfl, rfl⟩
  go_wp2_with fail
  refine (is_nil aH _).mono ?_
  rintro e w2 ⟨rfl, rfl⟩
  go_wp2_with fail
  refine (is_nil aR _).mono ?_
  rintro e w3 ⟨rfl, rfl⟩
  go_wp2_with fail
  go_ret
  exact ⟨rfl, rfl⟩
theorem refused_bad (aW aH aR : Addr) (v : Value) (w : World) (h : Whys w aW aH aR) (hv : Bad w aW aH aR v) :
    Calls Tryz.prog 16 #[v] w fun e w' => e = .returned (.bool true) ∧ w' = w := by
  obtain ⟨vW, vH, vR, ⟨cW, tW, bW⟩, ⟨cH, tH, bH⟩, ⟨cR, tR, bR⟩, wh, wr, hr⟩ := h
  replace bW := Lib.hid bW; replace bH := Lib.hid bH; replace bR := Lib.hid bR
  rcases hv with rfl | rfl | ⟨g, rfl, hc | hc⟩
  · go_enter Tryz.func16, Tryz.ntmps16
    go_wp2_with fail
    refine (is_same aW _).mono ?_
    rintro e w1 ⟨rfl, rfl⟩
    go_wp2_with fail
    go_ret
    exact ⟨rfl, rfl⟩
  · go_enter Tryz.func16, Tryz.ntmps16
    go_wp2_with fail
    refine (is_other aR aW _ _ _ _ _ wr.symm bR.out bW.out).mono ?_
    rintro e w1 ⟨rfl, rfl⟩
    go_wp2_with fail
    refine (is_other aR aH _ _ _ _ _ hr.symm bR.out bH.out).mono ?_
    rintro e w2 ⟨rfl, rfl⟩
    go_wp2_with fail
    refine (is_same aR _).mono ?_
    rintro e w3 ⟨rfl, rfl⟩
    go_wp2_with fail
    go_ret
    exact ⟨rfl, rfl⟩
  · replace hc := Lib.hid hc
    go_enter Tryz.func16, Tryz.ntmps16
    go_wp2_with fail
    refine (is_told_same g aW _ hc.out).mono ?_
    rintro e w1 ⟨rfl, rfl⟩
    go_wp2_with fail
    go_ret
    exact ⟨rfl, rfl⟩
  · replace hc := Lib.hid hc
    go_enter Tryz.func16, Tryz.ntmps16
    go_wp2_with fail
    refine (is_told_other g aW aH _ _ _ _ _ hc.out wh.symm bH.out bW.out).mono ?_
    rintro e w1 ⟨rfl, rfl⟩
    go_wp2_with fail
    refine (is_told_same g aH _ hc.out).mono ?_
    rintro e w2 ⟨rfl, rfl⟩
    go_wp2_with fail
    go_ret
    exact ⟨rfl, rfl⟩
/-- allow, deny -/
def allowB : ByteArray := ⟨#[97, 108, 108, 111, 119]⟩
def denyB : ByteArray := ⟨#[100, 101, 110, 121]⟩
def otherB : ByteArray := ⟨#[111, 116, 104, 101, 114]⟩
theorem toList_eq (s : ByteArray) (l : List UInt8) : (s.toList == l) = decide (s = ⟨l.toArray⟩) := by
  rw [ByteArray.toList_eq]
  by_cases h : s.data.toList = l
  · have h' : s = ⟨l.toArray⟩ := by rw [← h]
    rw [decide_eq_true h', h, beq_self_eq_true]
  · have h' : ¬ s = ⟨l.toArray⟩ := fun e => h (by rw [e])
    rw [decide_eq_false h', beq_eq_false_iff_ne]; exact h
theorem says_yes (s : ByteArray) (w : World) (h : s = allowB ∨ s = denyB) :
    Calls Tryz.prog 27 #[.string s] w fun e w' => e = .returned (.tuple #[.bool (decide (s = allowB)), .nilIface]) ∧ w' = w := by
  rcases h with rfl | rfl
  · rw [decide_eq_true rfl]
    unfold allowB
    go_enter Tryz.func27, Tryz.ntmps27
    go_wp2_with fail
    go_ret2
    exact ⟨rfl, rfl⟩
  · rw [decide_eq_false (by decide)]
    unfold denyB
    go_enter Tryz.func27, Tryz.ntmps27
    go_wp2_with fail
    go_ret2
    exact ⟨rfl, rfl⟩
set_option maxHeartbeats 1000000 in
theorem says_no (s : ByteArray) (aW aH aR : Addr) (w : World) (hw : Whys w aW aH aR) (h1 : s ≠ allowB) (h2 : s ≠ denyB) :
    Calls Tryz.prog 27 #[.string s] w fun e w' => Below w.heap.size w w' ∧ ∃ v, Bad w' aW aH aR v ∧ e = .returned (.tuple #[.bool false, v]) := by
  have hE : w.cell? ⟨0, 0, none⟩ = some (.iface 198 (.pointer (some aW))) := hw.vW
  have q1 : (s.toList == [97, 108, 108, 111, 119]) = false := by rw [toList_eq, decide_eq_false]; exact h1
  have q2 : (s.toList == [100, 101, 110, 121]) = false := by rw [toList_eq, decide_eq_false]; exact h2
  have n1 : (s.toList != [97, 108, 108, 111, 119]) = true := by unfold bne; rw [q1]; rfl
  have n2 : (s.toList != [100, 101, 110, 121]) = true := by unfold bne; rw [q2]; rfl
  have cA : (w.alloc (.cells #[.string s, .iface 198 (.pointer (some aW))] 80)).cell? ⟨0, 0, none⟩ = some (.iface 198 (.pointer (some aW))) := by
    rw [cell_same (heap_alloc_old w _ (World.block_lt_of_cell? w _ hE))]; exact hE
  have bA : Below w.heap.size w (w.alloc (.cells #[.string s, .iface 198 (.pointer (some aW))] 80)) := (Below.refl _ _).alloc (Nat.le_refl _) _
  have cB : (w.alloc (.cells #[.string s, .iface 198 (.pointer (some aW))] 80)).cell? ⟨w.heap.size, 1, none⟩ = some (.iface 198 (.pointer (some aW))) := by
    rw [cell_of_row _ _ 1 _ _ _ (heap_alloc_new w _)]; rfl
  clear hw h1 h2
  replace bA := Lib.hid bA; replace cB := Lib.hid cB
  go_enter Tryz.func27, Tryz.ntmps27
  go_wp2_with fail
  go_region_held3 (fun w' => w'.cell? ⟨0, 0, none⟩ = some (.iface 198 (.pointer (some aW))))
    (first | exact hE | exact cA | assumption)
    (fail)
  all_goals
    go_wp2_with fail
    go_ret2
    exact ⟨bA.out.drew, _, .inr (.inr ⟨_, rfl, .inl cB.out⟩), rfl⟩
end Go.Proofs.YtemanjahkohcpaaGreatDoor
