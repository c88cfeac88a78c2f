/- AsmMoves' plain law: a base moves addresses alone; lines of remarks ahead move a fault's line alone; a fault's number is none that says well. AsmMoves' walk. The contracts of the reference's instructions: Shape, Name, CondName, has, within. The contract of the reference's Check of an instruction. The reference's Encode; its Decode of what is no instruction (printed by genRId.py). The reference's Decode, some shapes (printed by genRId.py). The reference's Decode, some shapes (printed by genRId.py). The reference's Decode, some shapes (printed by genRId.py). The reference's Decode (printed by genRId.py). The contracts of target and line, of the program and of the reference. -/
import Derived.Test.YtiknookfnameiaaGreatDoorJn14
import Derived.Test.YtiknookfnameiaaGreatDoorJn35
import Derived.Test.YtiknookfnameiaaGreatDoorJn02
import Derived.Test.YtiknookfnameiaaGreatDoorJn37
import Derived.BigQuiet
import Derived.Deep.QuietTactic
import Derived.Test.YtiknookfnameiaaGreatDoorJn27
import Derived.Deep.Cut
import Derived.Deep.CutRange
import Derived.Deep.RegionWith
import Derived.Test.YtiknookfnameiaaGreatDoorJn40
namespace Go.Proofs.YtiknookfnameiaaGreatDoor
open WP
def preL : List UInt8 := [35, 32, 120, 58, 32, 121, 10, 32, 9, 10]
/-- a reading, its lines shifted -/
def shRd (d : Nat) : (List Int × List (ByteArray × Nat)) ⊕ Flt → (List Int × List (ByteArray × Nat)) ⊕ Flt
  | .inl x => .inl x
  | .inr f => .inr (shF d f)
/-- the faults' numbers -/
def FOk (f : Flt) : Prop := 1 ≤ f.1 ∧ f.1 ≤ 66
/-- .. and their line -/
def FOn (ln : Nat) (f : Flt) : Prop := FOk f ∧ f.2.1 = ln
def LOk (N : Nat) (st : Asm) : Prop := ∀ x ∈ st.lat, x.line ≤ N
theorem LOk.more {N : Nat} {st : Asm} (h : LOk N st) (ws : List Int) (labs : List (ByteArray × Nat)) (L : List Lat) (hL : ∀ x ∈ L, x.line ≤ N) : LOk N ⟨ws, labs, st.lat ++ L⟩ := by
  intro x hx
  rcases List.mem_append.1 hx with hx | hx
  · exact h x hx
  · exact hL x hx
end Go.Proofs.YtiknookfnameiaaGreatDoor

namespace Go.Proofs.YtiknookfnameiaaGreatDoor
open Go.RowKit WP
set_option linter.unusedSimpArgs false
set_option linter.unusedVariables false
def preS : ByteArray := ⟨#[35, 32, 120, 58, 32, 121, 10, 32, 9, 10]⟩
end Go.Proofs.YtiknookfnameiaaGreatDoor

namespace Go.Proofs
namespace YtiknookfnameiaaGreatDoor
open Go.RowKit WP
/-- the reference's tables -/
structure RTabs (w : World) : Prop where
  names : StrAt w 3 1 0 nameT
  shapes : StrAt w 4 1 0 shapeT
  conds : StrAt w 7 1 0 condT
theorem RTabs.later {w w' : World} (h : RTabs w) (hb : Below w.heap.size w w') : RTabs w' :=
  ⟨h.names.later h.names.1 hb, h.shapes.later h.shapes.1 hb, h.conds.later h.conds.1 hb⟩
end YtiknookfnameiaaGreatDoor
end Go.Proofs

namespace Go.Proofs
namespace YtiknookfnameiaaGreatDoor
open Go.RowKit WP
def rinsC (i : Ins) : Array Value := #[.int .i64 i.op, .int .i64 i.k, .int .i64 i.a, .int .i64 i.b, .int .i64 i.c, .int .i64 i.imm]
end YtiknookfnameiaaGreatDoor
end Go.Proofs

namespace Go.Proofs
namespace YtiknookfnameiaaGreatDoor
open Go.RowKit WP
theorem rread_bd (x : Int) (h0 : 0 ≤ x) (h1 : x ≤ 4294967295) : (0 ≤ (rreadI x).op ∧ (rreadI x).op < 64) ∧ (0 ≤ (rreadI x).a ∧ (rreadI x).a < 16) ∧ (0 ≤ (rreadI x).b ∧ (rreadI x).b < 16) ∧ (0 ≤ (rreadI x).c ∧ (rreadI x).c < 16) ∧ (0 ≤ (rreadI x).k ∧ (rreadI x).k < 8) ∧ (-32768 ≤ (rreadI x).imm ∧ (rreadI x).imm ≤ 65535) := by
  unfold rreadI
  simp only
  refine ⟨by omega, ?_, ?_, ?_, ?_, ?_⟩ <;> (repeat' split) <;> omega
end YtiknookfnameiaaGreatDoor
end Go.Proofs

namespace Go.Proofs
namespace YtiknookfnameiaaGreatDoor
open Go.RowKit WP
end YtiknookfnameiaaGreatDoor
end Go.Proofs

namespace Go.Proofs
namespace YtiknookfnameiaaGreatDoor
open Go.RowKit WP
end YtiknookfnameiaaGreatDoor
end Go.Proofs

namespace Go.Proofs
namespace YtiknookfnameiaaGreatDoor
open Go.RowKit WP
end YtiknookfnameiaaGreatDoor
end Go.Proofs

namespace Go.Proofs
namespace YtiknookfnameiaaGreatDoor
open Go.RowKit WP
end YtiknookfnameiaaGreatDoor
end Go.Proofs

namespace Go.Proofs
open Go.RowKit
namespace YtiknookfnameiaaGreatDoor
open WP
/-- of every word: the program's reading and the document's are one -/
theorem dec_same (x : Int) (h0 : 0 ≤ x) (h1 : x ≤ 4294967295) : rgoodI x = goodI x ∧ rdecI x = decI x := by
  exact ⟨(good_eq x h0 (by omega)).symm, (dec_eq x h0 (by omega)).symm⟩
def tgtV (x : Int) (p : Nat) : Int := if goodI x = true ∧ ((decI x).op = 21 ∨ (decI x).op = 22) then (p : Int) + 1 + (decI x).imm else 0
theorem tgt_yes {x : Int} {p n t : Nat} (h : tgtO x p n = some t) : tgtV x p = t := by
  unfold tgtO at h
  split at h
  · rename_i hc
    simp only [Option.some.injEq] at h
    unfold tgtV
    rw [if_pos ⟨hc.1, hc.2.1⟩]; omega
  · cases h
theorem decI_bd (x : Int) (h0 : 0 ≤ x) (h1 : x ≤ 4294967295) : (0 ≤ (decI x).op ∧ (decI x).op < 64) ∧ (0 ≤ (decI x).a ∧ (decI x).a < 16) ∧ (0 ≤ (decI x).b ∧ (decI x).b < 16) ∧ (0 ≤ (decI x).c ∧ (decI x).c < 16) ∧ (0 ≤ (decI x).k ∧ (decI x).k < 8) ∧ (-32768 ≤ (decI x).imm ∧ (decI x).imm ≤ 65535) := by
  rw [← (dec_same x h0 h1).2]
  unfold rdecI
  split
  · exact rread_bd x h0 h1
  · unfold ins0; simp
set_option maxRecDepth 100000 in
set_option maxHeartbeats 1000000 in
theorem target_any (x : Int) (p n : Nat) (w : World) (hT : Tabs w) (h0 : 0 ≤ x) (h1 : x ≤ 4294967295) (hp : p ≤ 4096) (_hn : n ≤ 4096) :
    Calls Tryz.prog 32 #[.int .u32 x, .int .i64 p, .int .i64 n] w fun e w' => Below w.heap.size w w' ∧ e = .returned (.tuple #[.int .i64 (tgtV x p), .bool (tgtO x p n).isSome]) := by
  have hdc := decode_any x w hT h0 h1
  have bd := (decI_bd x h0 h1).2.2.2.2.2
  obtain ⟨TV, hTV⟩ : ∃ y, tgtV x p = y := ⟨_, rfl⟩
  obtain ⟨TB, hTB⟩ : ∃ y, (tgtO x p n).isSome = y := ⟨_, rfl⟩
  rw [hTV, hTB]
  unfold tgtV at hTV
  unfold tgtO at hTB
  obtain ⟨G, hG⟩ : ∃ G, goodI x = G := ⟨_, rfl⟩
  obtain ⟨D, hD⟩ : ∃ D, decI x = D := ⟨_, rfl⟩
  rw [hG, hD] at hTV hTB hdc
  rw [hD] at bd
  obtain ⟨op, k, a, b, c, imm⟩ := D
  simp only [insC] at hdc hTV hTB bd
  clear hG hD
  rcases G with _ | _
  · rw [if_neg (by simp)] at hTV hTB
    have eb : TB = false := hTB.symm
    subst eb; subst hTV
    clear hTB
    go_enter Tryz.func32, Tryz.ntmps32
    go_wp2_with (go_at_call 31; refine hdc.mono ?_; rintro e w2 ⟨hb, rfl⟩)
    refine bodyPost_ret (v := .tuple #[.int .i64 0, .bool false]) (by simp [results, Tryz.results32, go_sem]) rfl ⟨hb.alloc hb.size _, rfl⟩
  · by_cases h21 : op = 21
    · subst h21
      rw [if_pos (by simp)] at hTV
      have e1 : TB = (decide (0 ≤ (p : Int) + 1 + imm) && decide ((p : Int) + 1 + imm ≤ n)) := by
        rw [← hTB]
        by_cases q1 : 0 ≤ (p : Int) + 1 + imm
        · by_cases q2 : (p : Int) + 1 + imm ≤ n <;> simp [q1, q2]
        · simp [q1]
      clear hTB
      by_cases q1 : 0 ≤ (p : Int) + 1 + imm
      · have d1 : decide ((p : Int) + 1 + imm ≥ 0) = true := decide_eq_true q1
        rw [decide_eq_true q1, Bool.true_and] at e1
        subst e1; subst hTV
        go_enter Tryz.func32, Tryz.ntmps32
        go_wp2_with (go_at_call 31; refine hdc.mono ?_; rintro e w2 ⟨hb, rfl⟩)
        refine bodyPost_ret (v := .tuple #[.int .i64 ((p : Int) + 1 + imm), .bool (decide ((p : Int) + 1 + imm ≤ n))]) (by simp [results, Tryz.results32, go_sem]) rfl ⟨hb.alloc hb.size _, rfl⟩
      · have d1 : decide ((p : Int) + 1 + imm ≥ 0) = false := decide_eq_false q1
        rw [decide_eq_false q1, Bool.false_and] at e1
        subst e1; subst hTV
        go_enter Tryz.func32, Tryz.ntmps32
        go_wp2_with (go_at_call 31; refine hdc.mono ?_; rintro e w2 ⟨hb, rfl⟩)
        refine bodyPost_ret (v := .tuple #[.int .i64 ((p : Int) + 1 + imm), .bool false]) (by simp [results, Tryz.results32, go_sem]) rfl ⟨hb.alloc hb.size _, rfl⟩
    · have n21 : (op != 21) = true := by simp [h21]
      by_cases h22 : op = 22
      · subst h22
        rw [if_pos (by simp)] at hTV
        have e1 : TB = (decide (0 ≤ (p : Int) + 1 + imm) && decide ((p : Int) + 1 + imm ≤ n)) := by
          rw [← hTB]
          by_cases q1 : 0 ≤ (p : Int) + 1 + imm
          · by_cases q2 : (p : Int) + 1 + imm ≤ n <;> simp [q1, q2]
          · simp [q1]
        clear hTB
        by_cases q1 : 0 ≤ (p : Int) + 1 + imm
        · have d1 : decide ((p : Int) + 1 + imm ≥ 0) = true := decide_eq_true q1
          rw [decide_eq_true q1, Bool.true_and] at e1
          subst e1; subst hTV
          go_enter Tryz.func32, Tryz.ntmps32
          go_wp2_with (go_at_call 31; refine hdc.mono ?_; rintro e w2 ⟨hb, rfl⟩)
          refine bodyPost_ret (v := .tuple #[.int .i64 ((p : Int) + 1 + imm), .bool (decide ((p : Int) + 1 + imm ≤ n))]) (by simp [results, Tryz.results32, go_sem]) rfl ⟨hb.alloc hb.size _, rfl⟩
        · have d1 : decide ((p : Int) + 1 + imm ≥ 0) = false := decide_eq_false q1
          rw [decide_eq_false q1, Bool.false_and] at e1
          subst e1; subst hTV
          go_enter Tryz.func32, Tryz.ntmps32
          go_wp2_with (go_at_call 31; refine hdc.mono ?_; rintro e w2 ⟨hb, rfl⟩)
          refine bodyPost_ret (v := .tuple #[.int .i64 ((p : Int) + 1 + imm), .bool false]) (by simp [results, Tryz.results32, go_sem]) rfl ⟨hb.alloc hb.size _, rfl⟩
      · have n22 : (op != 22) = true := by simp [h22]
        rw [if_neg (by simp [h21, h22])] at hTV hTB
        have eb : TB = false := hTB.symm
        subst eb; subst hTV
        clear hTB
        go_enter Tryz.func32, Tryz.ntmps32
        go_wp2_with (go_at_call 31; refine hdc.mono ?_; rintro e w2 ⟨hb, rfl⟩)
        refine bodyPost_ret (v := .tuple #[.int .i64 0, .bool false]) (by simp [results, Tryz.results32, go_sem]) rfl ⟨hb.alloc hb.size _, rfl⟩
/-- the reference's answer: the place, or -1 -/
def rtgt (x : Int) (p n : Nat) : Int := match tgtO x p n with | some t => (t : Int) | none => -1
end YtiknookfnameiaaGreatDoor
end Go.Proofs
