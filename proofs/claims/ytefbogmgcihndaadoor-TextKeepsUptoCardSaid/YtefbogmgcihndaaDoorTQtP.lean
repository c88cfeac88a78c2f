/- The quoted form of bytes: plain laws. -/
import Derived.Test.YtefbogmgcihndaaDoorTQuo
namespace Go.Proofs.YtefbogmgcihndaaDoor
open Go.RowKit WP
def dgB (d : Nat) : UInt8 := if d < 10 then UInt8.ofNat (48 + d) else UInt8.ofNat (87 + d)
/-- a byte in a quoted form -/
def qb (c : UInt8) : List UInt8 := if plainI (c.toNat : Int) = true then [c] else [92, 120, dgB (c.toNat / 16), dgB (c.toNat % 16)]
def quoteL (b : List UInt8) : List UInt8 := 34 :: (b.flatMap qb ++ [34])
theorem length_qb (c : UInt8) : (qb c).length ≤ 4 := by unfold qb; split <;> simp
theorem length_qbs : ∀ b : List UInt8, (b.flatMap qb).length ≤ 4 * b.length
  | [] => by simp
  | c :: b => by
    have := length_qbs b
    have := length_qb c
    simp only [List.flatMap_cons, List.length_append, List.length_cons]; omega
def qpre (b : List UInt8) (k : Nat) : List UInt8 := 34 :: (b.take k).flatMap qb
theorem qpre_len (b : List UInt8) (k : Nat) : (qpre b k).length ≤ 4 * k + 1 := by
  have := length_qbs (b.take k)
  have h2 : (b.take k).length ≤ k := by rw [List.length_take]; omega
  simp only [qpre, List.length_cons]; omega
theorem qpre_succ (b : List UInt8) (k : Nat) (h : k < b.length) : qpre b (k + 1) = qpre b k ++ qb (b.getD k 0) := by
  unfold qpre
  rw [List.take_succ_eq_append_getElem h, List.flatMap_append]
  simp [h]
theorem qpre_all (b : List UInt8) : qpre b b.length ++ [34] = quoteL b := by
  unfold qpre quoteL
  rw [List.take_length]; rfl
end Go.Proofs.YtefbogmgcihndaaDoor
