/- What the world keeps of the library's tables; a drawn region whose callees only make memory. -/
import Derived.Test.YtefbogmgcihndaaGreatDoorTNuD
import Derived.BigQuiet
namespace Go.Proofs.YtefbogmgcihndaaGreatDoor
open Go.RowKit WP
structure Pk (w : World) : Prop where
  p : Pow10 w
  e : ErrVar w "strconv.ErrRange"
theorem Pk.later {w w' : World} (h : Pk w) (hb : Below w.heap.size w w') : Pk w' := ⟨pow10_later h.p hb, h.e.later hb⟩
/-- a world grown out of w -/
structure GrownOf (w : World) where
  w' : World
  h : Below w.heap.size w w'
/-- a drawn region whose operations read no memory and whose callees only make memory: one walk in the order of the text -/
theorem wp_region_grown {P : Program} {id : Nat} {Q : Exit → Act → World → Prop} {a : Act} {w : World} {l : List Oper} (hm : P.follows .mixedOrders = true) (hB : Region.lexB .any l.toArray = true)
    (h : wpQuiet P l.toArray (fun w' => ∃ g : GrownOf w, w' = g.w') (fun a' => ∀ w', (∃ g : GrownOf w, w' = g.w') → Q .normal a' w') l a) : (Code.region id l.toArray true).wp P Q a w :=
  wp_region_quiet (C := fun w' => ∃ g : GrownOf w, w' = g.w') hm hB ⟨⟨_, Below.drew (Below.refl _ _)⟩, rfl⟩ (by simpa using h)
end Go.Proofs.YtefbogmgcihndaaGreatDoor
