/- The contracts of attest's refused and says. -/
import Derived.Test.YtemanjahkohcpaaDoorEIs
import Derived.Deep.RegionHeld3
import Derived.BigQuiet
namespace Go.Proofs.YtemanjahkohcpaaDoor
open Go.RowKit
theorem cell_same {w w' : World} {g o : Nat} (he : w'.heap[g]? = w.heap[g]?) : w'.cell? ⟨g, o, none⟩ = w.cell? ⟨g, o, none⟩ := by
  simp only [World.cell?, he]
/-- the three reasons, each in its variable -/
structure Whys (w : World) (aW aH aR : Addr) : Prop where
  vW : w.cell? ⟨1, 0, none⟩ = some (.iface 183 (.pointer (some aW)))
  vH : w.cell? ⟨0, 0, none⟩ = some (.iface 183 (.pointer (some aH)))
  vR : w.cell? ⟨2, 0, none⟩ = some (.iface 183 (.pointer (some aR)))
  bW : ∃ c t, w.heap[aW.block]? = some (.cells c t (0, 0))
  bH : ∃ c t, w.heap[aH.block]? = some (.cells c t (0, 0))
  bR : ∃ c t, w.heap[aR.block]? = some (.cells c t (0, 0))
  wh : aW ≠ aH
  wr : aW ≠ aR
  hr : aH ≠ aR
theorem cell_below {w w' : World} {b o : Nat} {v : Value} (h : w.cell? ⟨b, o, none⟩ = some v) (hb : Below w.heap.size w w') : w'.cell? ⟨b, o, none⟩ = some v := by
  rw [cell_same (hb.block b (World.block_lt_of_cell? w _ h))]; exact h
theorem blk_below {w w' : World} {b : Nat} (h : ∃ c t, w.heap[b]? = some (.cells c t (0, 0))) (hb : Below w.heap.size w w') : ∃ c t, w'.heap[b]? = some (.cells c t (0, 0)) := by
  obtain ⟨c, t, h⟩ := h
  exact ⟨c, t, (hb.block b (Array.getElem?_eq_some_iff.1 h).1).trans h⟩
theorem Whys.below {w w' : World} {aW aH aR : Addr} (h : Whys w aW aH aR) (hb : Below w.heap.size w w') : Whys w' aW aH aR :=
  ⟨cell_below h.vW hb, cell_below h.vH hb, cell_below h.vR hb, blk_below h.bW hb, blk_below h.bH hb, blk_below h.bR hb, h.wh, h.wr, h.hr⟩
/-- a refusal -/
def Bad (w : World) (aW aH aR : Addr) (v : Value) : Prop :=
  v = .iface 183 (.pointer (some aW)) ∨ v = .iface 183 (.pointer (some aR)) ∨
    ∃ g, v = .iface 121 (.pointer (some ⟨g, 0, none⟩)) ∧ (w.cell? ⟨g, 1, none⟩ = some (.iface 183 (.pointer (some aW))) ∨ w.cell? ⟨g, 1, none⟩ = some (.iface 183 (.pointer (some aH))))
theorem Bad.below {w w' : World} {aW aH aR : Addr} {v : Value} (h : Bad w aW aH aR v) (hb : Below w.heap.size w w') : Bad w' aW aH aR v := by
  rcases h with h | h | ⟨g, h, hc⟩
  · exact .inl h
  · exact .inr (.inl h)
  · exact .inr (.inr ⟨g, h, hc.imp (fun h => cell_below h hb) (fun h => cell_below h hb)⟩)
theorem refused_nil (aW aH aR : Addr) (w : World) (h : Whys w aW aH aR) :
    Calls Tryd.prog 50 #[.nilIface] w fun e w' => e = .returned (.bool false) ∧ w' = w := by
  obtain ⟨vW, vH, vR, -⟩ := h
  go_enter Tryd.func50, Tryd.ntmps50
  go_wp2_with fail
  refine (is_nil aW _).mono ?_
  rintro e w1 ⟨rfl, rfl⟩
  go_wp2_with fail
  refine (is_nil aH _).mono ?_
  rintro e w2 ⟨rfl, rfl⟩
  go_wp2_with fail
  refine (is_nil aR _).mono ?_
  rintro e w3 ⟨rfl, rfl⟩
  go_wp2_with fail
  go_ret
  exact ⟨rfl, rfl⟩
theorem refused_bad (aW aH aR : Addr) (v : Value) (w : World) (h : Whys w aW aH aR) (hv : Bad w aW aH aR v) :
    Calls Tryd.prog 50 #[v] w fun e w' => e = .returned (.bool true) ∧ w' = w := by
  obtain ⟨vW, vH, vR, ⟨cW, tW, bW⟩, ⟨cH, tH, bH⟩, ⟨cR, tR, bR⟩, wh, wr, hr⟩ := h
  replace bW := Lib.hid bW; replace bH := Lib.hid bH; replace bR := Lib.hid bR
  rcases hv with rfl | rfl | ⟨g, rfl, hc | hc⟩
  · go_enter Tryd.func50, Tryd.ntmps50
    go_wp2_with fail
    refine (is_same aW _).mono ?_
    rintro e w1 ⟨rfl, rfl⟩
    go_wp2_with fail
    go_ret
    exact ⟨rfl, rfl⟩
  · go_enter Tryd.func50, Tryd.ntmps50
    go_wp2_with fail
    refine (is_other aR aW _ _ _ _ _ wr.symm bR.out bW.out).mono ?_
    rintro e w1 ⟨rfl, rfl⟩
    go_wp2_with fail
    refine (is_other aR aH _ _ _ _ _ hr.symm bR.out bH.out).mono ?_
    rintro e w2 ⟨rfl, rfl⟩
    go_wp2_with fail
    refine (is_same aR _).mono ?_
    rintro e w3 ⟨rfl, rfl⟩
    go_wp2_with fail
    go_ret
    exact ⟨rfl, rfl⟩
  · replace hc := Lib.hid hc
    go_enter Tryd.func50, Tryd.ntmps50
    go_wp2_with fail
    refine (is_told_same g aW _ hc.out).mono ?_
    rintro e w1 ⟨rfl, rfl⟩
    go_wp2_with fail
    go_ret
    exact ⟨rfl, rfl⟩
  · replace hc := Lib.hid hc
    go_enter Tryd.func50, Tryd.ntmps50
    go_wp2_with fail
    refine (is_told_other g aW aH _ _ _ _ _ hc.out wh.symm bH.out bW.out).mono ?_
    rintro e w1 ⟨rfl, rfl⟩
    go_wp2_with fail
    refine (is_told_same g aH _ hc.out).mono ?_
    rintro e w2 ⟨rfl, rfl⟩
    go_wp2_with fail
    go_ret
    exact ⟨rfl, rfl⟩
/-- allow, deny -/
def allowB : ByteArray := ⟨#[97, 108, 108, 111, 119]⟩
def denyB : ByteArray := ⟨#[100, 101, 110, 121]⟩
def otherB : ByteArray := ⟨#[111, 116, 104, 101, 114]⟩
theorem toList_eq (s : ByteArray) (l : List UInt8) : (s.toList == l) = decide (s = ⟨l.toArray⟩) := by
  rw [ByteArray.toList_eq]
  by_cases h : s.data.toList = l
  · have h' : s = ⟨l.toArray⟩ := by rw [← h]
    rw [decide_eq_true h', h, beq_self_eq_true]
  · have h' : ¬ s = ⟨l.toArray⟩ := fun e => h (by rw [e])
    rw [decide_eq_false h', beq_eq_false_iff_ne]; exact h
theorem says_yes (s : ByteArray) (w : World) (h : s = allowB ∨ s = denyB) :
    Calls Tryd.prog 71 #[.string s] w fun e w' => e = .returned (.tuple #[.bool (decide (s = allowB)), .nilIface]) ∧ w' = w := by
  rcases h with rfl | rfl
  · rw [decide_eq_true rfl]
    unfold allowB
    go_enter Tryd.func71, Tryd.ntmps71
    go_wp2_with fail
    go_ret2
    exact ⟨rfl, rfl⟩
  · rw [decide_eq_false (by decide)]
    unfold denyB
    go_enter Tryd.func71, Tryd.ntmps71
    go_wp2_with fail
    go_ret2
    exact ⟨rfl, rfl⟩
set_option maxHeartbeats 1000000 in
theorem says_no (s : ByteArray) (aW aH aR : Addr) (w : World) (hw : Whys w aW aH aR) (h1 : s ≠ allowB) (h2 : s ≠ denyB) :
    Calls Tryd.prog 71 #[.string s] w fun e w' => Below w.heap.size w w' ∧ ∃ v, Bad w' aW aH aR v ∧ e = .returned (.tuple #[.bool false, v]) := by
  have hE : w.cell? ⟨1, 0, none⟩ = some (.iface 183 (.pointer (some aW))) := hw.vW
  have q1 : (s.toList == [97, 108, 108, 111, 119]) = false := by rw [toList_eq, decide_eq_false]; exact h1
  have q2 : (s.toList == [100, 101, 110, 121]) = false := by rw [toList_eq, decide_eq_false]; exact h2
  have n1 : (s.toList != [97, 108, 108, 111, 119]) = true := by unfold bne; rw [q1]; rfl
  have n2 : (s.toList != [100, 101, 110, 121]) = true := by unfold bne; rw [q2]; rfl
  have cA : (w.alloc (.cells #[.string s, .iface 183 (.pointer (some aW))] 123)).cell? ⟨1, 0, none⟩ = some (.iface 183 (.pointer (some aW))) := by
    rw [cell_same (heap_alloc_old w _ (World.block_lt_of_cell? w _ hE))]; exact hE
  have bA : Below w.heap.size w (w.alloc (.cells #[.string s, .iface 183 (.pointer (some aW))] 123)) := (Below.refl _ _).alloc (Nat.le_refl _) _
  have cB : (w.alloc (.cells #[.string s, .iface 183 (.pointer (some aW))] 123)).cell? ⟨w.heap.size, 1, none⟩ = some (.iface 183 (.pointer (some aW))) := by
    rw [cell_of_row _ _ 1 _ _ _ (heap_alloc_new w _)]; rfl
  clear hw h1 h2
  replace bA := Lib.hid bA; replace cB := Lib.hid cB
  go_enter Tryd.func71, Tryd.ntmps71
  go_wp2_with fail
  go_region_held3 (fun w' => w'.cell? ⟨1, 0, none⟩ = some (.iface 183 (.pointer (some aW))))
    (first | exact hE | exact cA | assumption)
    (fail)
  all_goals
    go_wp2_with fail
    go_ret2
    exact ⟨bA.out.drew, _, .inr (.inr ⟨_, rfl, .inl cB.out⟩), rfl⟩
end Go.Proofs.YtemanjahkohcpaaDoor
