/- One call of a script, as it came in. -/
import Derived.Test.YtefbogmgcihndaaDoorTCols
namespace Go.Proofs.YtefbogmgcihndaaDoor
open Go.RowKit WP
theorem rd_nil (w : World) : Rd w (.slice none 0 0) [] := ⟨none, 0, rfl, Nat.le_refl _, by decide, .inl rfl⟩
/-- one call of a script, as it came in -/
structure OpIn (w : World) (S : ByteArray) (bv : Value) (B : List UInt8) (u : Nat) (z : Int) (rv : Value) (V : Nat → Value) (C : Nat → List ByteArray) (n : Nat) : Prop where
  hS : S.size ≤ 1048576
  hB : Rd w bv (vb B)
  hBl : B.length ≤ 1048576
  hu : u < 4294967296
  hz0 : -2147483648 ≤ z
  hz1 : z ≤ 2147483647
  hG : Grid w rv V C n
  hn : n ≤ 1048576
  sum : ((List.range n).map fun i => (C i).length).sum ≤ 1048576
  len : ∀ i, i < n → (C i).length ≤ 1048576 ∧ ∀ j, (nthB (C i) j).size ≤ 1048576
theorem OpIn.later {w w' : World} {S : ByteArray} {bv : Value} {B : List UInt8} {u : Nat} {z : Int} {rv : Value} {V : Nat → Value} {C : Nat → List ByteArray} {n : Nat} (h : OpIn w S bv B u z rv V C n) (hb : Below w.heap.size w w') : OpIn w' S bv B u z rv V C n :=
  ⟨h.hS, h.hB.mono hb, h.hBl, h.hu, h.hz0, h.hz1, h.hG.later hb, h.hn, h.sum, h.len⟩
def opV (k : Int) (S : ByteArray) (pad : Int) (bv : Value) (u : Nat) (z : Int) (rv : Value) : Array Value := #[.int .i64 k, .string S, .int .i64 pad, bv, .int .u32 (u : Int), .int .i32 z, rv]
/-- one call of a script: its fields -/
structure OpD where
  k : Int
  S : ByteArray
  pad : Int
  bv : Value
  B : List UInt8
  u : Nat
  z : Int
  rv : Value
  V : Nat → Value
  C : Nat → List ByteArray
  n : Nat
/-- .. in its seven cells -/
structure OpAt (w : World) (blk at_ : Nat) (d : OpD) : Prop where
  c0 : w.cell? ⟨blk, at_, none⟩ = some (.int .i64 d.k)
  c1 : w.cell? ⟨blk, at_ + 1, none⟩ = some (.string d.S)
  c2 : w.cell? ⟨blk, at_ + 2, none⟩ = some (.int .i64 d.pad)
  c3 : w.cell? ⟨blk, at_ + 3, none⟩ = some d.bv
  c4 : w.cell? ⟨blk, at_ + 4, none⟩ = some (.int .u32 (d.u : Int))
  c5 : w.cell? ⟨blk, at_ + 5, none⟩ = some (.int .i32 d.z)
  c6 : w.cell? ⟨blk, at_ + 6, none⟩ = some d.rv
  ok : OpIn w d.S d.bv d.B d.u d.z d.rv d.V d.C d.n
theorem OpAt.later {w w' : World} {blk at_ : Nat} {d : OpD} (h : OpAt w blk at_ d) (hb : Below w.heap.size w w') : OpAt w' blk at_ d :=
  ⟨(hb.cell (World.block_lt_of_cell? _ _ h.c0)).trans h.c0, (hb.cell (World.block_lt_of_cell? _ _ h.c1)).trans h.c1, (hb.cell (World.block_lt_of_cell? _ _ h.c2)).trans h.c2, (hb.cell (World.block_lt_of_cell? _ _ h.c3)).trans h.c3, (hb.cell (World.block_lt_of_cell? _ _ h.c4)).trans h.c4, (hb.cell (World.block_lt_of_cell? _ _ h.c5)).trans h.c5, (hb.cell (World.block_lt_of_cell? _ _ h.c6)).trans h.c6, h.ok.later hb⟩
end Go.Proofs.YtefbogmgcihndaaDoor
