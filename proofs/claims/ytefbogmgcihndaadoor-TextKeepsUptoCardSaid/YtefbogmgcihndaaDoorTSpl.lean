/- strings.Split by the library's contract; plain laws of a text cut at its ends. -/
import Derived.Test.YtefbogmgcihndaaDoorBase
import Derived.Test.YtefbogmgcihndaaDoorLaySp
import Derived.Ground.NamesProg
import Derived.WalkKit
import Derived.Shelf.Strings.Split
namespace Go.Proofs
open Go.RowKit Go.Shelf
namespace YtefbogmgcihndaaDoor
open Go
set_option maxRecDepth 100000
abbrev MaxL (w : World) (m : Int) : Prop := w.cell? ⟨5, 0, none⟩ = some (.int .i64 m)
theorem split_any (s sep : ByteArray) (m : Int) (w : World) (hs : s.size < 4294967281) (hm : MaxL w m) (h1 : 1 ≤ sep.size) :
    Calls Tryd.prog 55 #[.string s, .string sep] w fun e w' =>
      e = .returned (.slice (some ⟨w.heap.size, 0, none⟩) (Lib.countB s sep + 1) (Lib.countB s sep + 1)) ∧ w' = w.alloc (.cells ((Lib.splitB sep 0 (Lib.countB s sep) s).map Value.string).toArray 9) :=
  Any.strings_Split laysSplit (by kernel_rfl) s sep m w hs hm h1
theorem index_at (c : UInt8) (r : List UInt8) : ∀ a : List UInt8, c ∉ a → Lib.index (a ++ c :: r) [c] = (a.length : Int)
  | [], _ => by rw [Lib.index_one]; simp [Lib.indexByte]
  | b :: a, h => by
    simp only [List.mem_cons, not_or] at h
    have ih := index_at c r a h.2
    rw [Lib.index_one] at ih ⊢
    have hb : (b == c) = false := by simp; exact fun e => h.1 e.symm
    simp only [List.cons_append, Lib.indexByte, hb, ih]
    have h1 : ((a.length : Int) == -1) = false := by simp
    simp [h1]
theorem index_none (c : UInt8) : ∀ a : List UInt8, c ∉ a → Lib.index a [c] = -1
  | [], _ => by rw [Lib.index_one]; rfl
  | b :: a, h => by
    simp only [List.mem_cons, not_or] at h
    have ih := index_none c a h.2
    rw [Lib.index_one] at ih ⊢
    have hb : (b == c) = false := by simp; exact fun e => h.1 e.symm
    simp [Lib.indexByte, hb, ih]
theorem splitK_at (c : UInt8) (k : Nat) (a r : List UInt8) (h : c ∉ a) : Lib.splitK [c] 0 (k + 1) (a ++ c :: r) = a :: Lib.splitK [c] 0 k r := by
  have hi := index_at c r a h
  have h1 : (((a.length : Nat) : Int) == -1) = false := by simp
  have e : Lib.splitK [c] 0 (k + 1) (a ++ c :: r) = if Lib.index (a ++ c :: r) [c] == -1 then [a ++ c :: r] else (a ++ c :: r).take ((Lib.index (a ++ c :: r) [c]).toNat + 0) :: Lib.splitK [c] 0 k ((a ++ c :: r).drop ((Lib.index (a ++ c :: r) [c]).toNat + [c].length)) := rfl
  rw [e, hi, h1]
  simp only [Bool.false_eq_true, if_false, Int.toNat_natCast, Nat.add_zero, List.length_singleton]
  rw [List.take_left, show a.length + 1 = (a ++ [c]).length by simp, show a ++ c :: r = (a ++ [c]) ++ r by simp, List.drop_left]
def linesOf (s : ByteArray) : List ByteArray := Lib.splitB ⟨#[10]⟩ 0 (Lib.countB s ⟨#[10]⟩) s
theorem linesOf_len (s : ByteArray) : (linesOf s).length = Lib.countB s ⟨#[10]⟩ + 1 := Lib.splitB_all ⟨#[10]⟩ (by decide) 0 _ s rfl
end YtefbogmgcihndaaDoor
end Go.Proofs
