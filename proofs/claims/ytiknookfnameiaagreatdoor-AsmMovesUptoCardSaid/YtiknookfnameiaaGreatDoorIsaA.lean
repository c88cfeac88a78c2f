/- The contracts of the instructions' tables: is, Shape, Name, CondName. -/
import Derived.Test.YtiknookfnameiaaGreatDoorIsaP
namespace Go.Proofs
namespace YtiknookfnameiaaGreatDoor
open Go.RowKit WP
/-- a table of strings, each so many cells wide -/
def StrAt (w : World) (g st off : Nat) (L : List (List UInt8)) : Prop := g < w.heap.size ∧ ∀ i, i < L.length → w.cell? ⟨g, i * st + off, none⟩ = some (.string ⟨(L.getD i []).toArray⟩)
theorem StrAt.later {w w' : World} {g st off : Nat} {L : List (List UInt8)} {B : Nat} (h : StrAt w g st off L) (hg : g < B) (hb : Below B w w') : StrAt w' g st off L :=
  ⟨Nat.lt_of_lt_of_le h.1 hb.size, fun i hi => (hb.cell (p := ⟨g, i * st + off, none⟩) hg).trans (h.2 i hi)⟩
/-- the program's two tables -/
structure Tabs (w : World) : Prop where
  names : StrAt w 2 2 0 nameT
  shapes : StrAt w 2 2 1 shapeT
  conds : StrAt w 0 1 0 condT
theorem Tabs.later {w w' : World} (h : Tabs w) (hb : Below w.heap.size w w') : Tabs w' :=
  ⟨h.names.later h.names.1 hb, h.shapes.later h.shapes.1 hb, h.conds.later h.conds.1 hb⟩
def strS (l : List UInt8) : ByteArray := ⟨l.toArray⟩
theorem is_any (op : Int) (w : World) :
    Calls Tryz.prog 74 #[.int .i64 op] w fun e w' => e = .returned (.bool (decide (1 ≤ op ∧ op < 25))) ∧ w' = w := by
  by_cases h1 : 1 ≤ op
  · by_cases h2 : op < 25
    · rw [decide_eq_true (⟨h1, h2⟩ : 1 ≤ op ∧ op < 25)]
      have d1 : decide (1 ≤ op) = true := decide_eq_true h1
      have d2 : decide (op < 25) = true := decide_eq_true h2
      go_enter Tryz.func74, Tryz.ntmps74
      go_wp2; go_ret; exact ⟨rfl, rfl⟩
    · rw [decide_eq_false (fun h => h2 h.2 : ¬ (1 ≤ op ∧ op < 25))]
      have d1 : decide (1 ≤ op) = true := decide_eq_true h1
      have d2 : decide (op < 25) = false := decide_eq_false h2
      go_enter Tryz.func74, Tryz.ntmps74
      go_wp2; go_ret; exact ⟨rfl, rfl⟩
  · rw [decide_eq_false (fun h => h1 h.1 : ¬ (1 ≤ op ∧ op < 25))]
    have d1 : decide (1 ≤ op) = false := decide_eq_false h1
    go_enter Tryz.func74, Tryz.ntmps74
    go_wp2; go_ret; exact ⟨rfl, rfl⟩
theorem off_range (op : Int) (h : ¬ (1 ≤ op ∧ op < 25)) : shapeI op = [] ∧ nameI op = [] := by
  by_cases h1 : 1 ≤ op
  · have : 25 ≤ op.toNat := by omega
    constructor
    · unfold shapeI; rw [List.getD_eq_getElem?_getD, List.getElem?_eq_none (by show 25 ≤ _; exact this)]; rfl
    · unfold nameI; rw [List.getD_eq_getElem?_getD, List.getElem?_eq_none (by show 25 ≤ _; exact this)]; rfl
  · have : op.toNat = 0 := by omega
    unfold shapeI nameI
    rw [this]; exact ⟨rfl, rfl⟩
set_option maxRecDepth 100000 in
theorem shape_any (op : Int) (w : World) (hT : Tabs w) :
    Calls Tryz.prog 51 #[.int .i64 op] w fun e w' => e = .returned (.string (strS (shapeI op))) ∧ w' = w := by
  by_cases h : 1 ≤ op ∧ op < 25
  · obtain ⟨n, rfl⟩ := Int.eq_ofNat_of_zero_le (show 0 ≤ op by omega)
    have hc := hT.shapes.2 n (by show n < 25; omega)
    have hn : n < 25 := by omega
    have e : (⟨(shapeT.getD n []).toArray⟩ : ByteArray) = strS (shapeI n) := rfl
    rw [e] at hc
    generalize strS (shapeI n) = S at *
    have hd : decide (1 ≤ (n : Int) ∧ (n : Int) < 25) = true := decide_eq_true h
    clear h hT e
    go_enter Tryz.func51, Tryz.ntmps51
    go_wp2_with (go_at_call 74; refine (is_any _ _).mono ?_; rintro e w' ⟨rfl, rfl⟩; rw [hd])
    go_ret; exact ⟨rfl, rfl⟩
  · have hs := (off_range op h).1
    rw [hs]
    have hd : decide (1 ≤ op ∧ op < 25) = false := decide_eq_false h
    clear h hT hs
    go_enter Tryz.func51, Tryz.ntmps51
    go_wp2_with (go_at_call 74; refine (is_any _ _).mono ?_; rintro e w' ⟨rfl, rfl⟩; rw [hd])
    go_ret; exact ⟨rfl, rfl⟩
set_option maxRecDepth 100000 in
theorem name_of (op : Int) (w : World) (hT : Tabs w) :
    Calls Tryz.prog 55 #[.int .i64 op] w fun e w' => e = .returned (.string (strS (nameI op))) ∧ w' = w := by
  by_cases h : 1 ≤ op ∧ op < 25
  · obtain ⟨n, rfl⟩ := Int.eq_ofNat_of_zero_le (show 0 ≤ op by omega)
    have hc := hT.names.2 n (by show n < 25; omega)
    rw [Nat.add_zero] at hc
    have hn : n < 25 := by omega
    have e : (⟨(nameT.getD n []).toArray⟩ : ByteArray) = strS (nameI n) := rfl
    rw [e] at hc
    generalize strS (nameI n) = S at *
    have hd : decide (1 ≤ (n : Int) ∧ (n : Int) < 25) = true := decide_eq_true h
    clear h hT e
    go_enter Tryz.func55, Tryz.ntmps55
    go_wp2_with (go_at_call 74; refine (is_any _ _).mono ?_; rintro e w' ⟨rfl, rfl⟩; rw [hd])
    go_ret; exact ⟨rfl, rfl⟩
  · have hs := (off_range op h).2
    rw [hs]
    have hd : decide (1 ≤ op ∧ op < 25) = false := decide_eq_false h
    clear h hT hs
    go_enter Tryz.func55, Tryz.ntmps55
    go_wp2_with (go_at_call 74; refine (is_any _ _).mono ?_; rintro e w' ⟨rfl, rfl⟩; rw [hd])
    go_ret; exact ⟨rfl, rfl⟩
set_option maxRecDepth 100000 in
/-- of a condition that there is -/
theorem cond_of (n : Nat) (w : World) (hn : n < 7) (hT : Tabs w) :
    Calls Tryz.prog 29 #[.int .i64 n] w fun e w' => e = .returned (.string (strS (condI n))) ∧ w' = w := by
  have hc := hT.conds.2 n (by show n < 7; omega)
  rw [Nat.add_zero, Nat.mul_one] at hc
  have e : (⟨(condT.getD n []).toArray⟩ : ByteArray) = strS (condI n) := by unfold condI strS; rw [if_pos (by omega)]; rfl
  rw [e] at hc
  generalize strS (condI n) = S at *
  clear hT e
  go_enter Tryz.func29, Tryz.ntmps29
  go_wp2
  go_ret; exact ⟨rfl, rfl⟩
end YtiknookfnameiaaGreatDoor
end Go.Proofs
