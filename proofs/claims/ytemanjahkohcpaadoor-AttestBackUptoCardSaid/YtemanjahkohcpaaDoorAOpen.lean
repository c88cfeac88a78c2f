/- What an attest statement lays out: arrays of eight words, the listed round words. -/
import Derived.Test.YtemanjahkohcpaaDoorOpen
import Derived.Test.YtemanjahkohcpaaDoorABlock
import Derived.Lib.LaidU8
import Derived.MakeChecks
namespace Go.Proofs.YtemanjahkohcpaaDoor
open Go.ChangeShapes Go.WideShapes Go.ChangeAt Go.RowKit Go.Joins
theorem cellsU : Tryd.prog.cellsOf 22 = 1 := by kernel_rfl
theorem cellsE : Tryd.prog.cellsOf 23 = 8 := by kernel_rfl
theorem ints_list {H : Type} {enc : TypeId × Value → H} {P : Program} {w : World} {base : Nat} {spare : Nat → Bool} {held : Bool} {t e : TypeId} {k : IntKind} {n fuel : Nat} {cs : List Value} {z : DataW H × List MemPlace}
    (ht : P.underlying t = some (.array n e)) (he : P.underlying e = some (.int k)) (hce : P.cellsOf e = 1) (hl : cs.length = n) (hf : DataW.trod enc P w base spare held fuel t cs = some z) :
    ∃ xs : List Int, xs.length = n ∧ cs = xs.map (Value.int k) ∧ ∀ x ∈ xs, (Lit.int k x).wf = true := by
  obtain ⟨ys, m, _, _, hl', hn, hi⟩ := DataW.trod_array ht hf
  rw [hce] at hi
  have key : ∀ (l : List Value) (zs : List (DataW H × List MemPlace)), l.length = zs.length → (∀ i, i < l.length → DataW.trod enc P w base spare held m e ((l.drop (i * 1)).take 1) = zs[i]?) →
      ∃ xs : List Int, xs.length = l.length ∧ l = xs.map (Value.int k) ∧ ∀ x ∈ xs, (Lit.int k x).wf = true := by
    intro l
    induction l with
    | nil => intro zs _ _; exact ⟨[], rfl, rfl, by simp⟩
    | cons c l ih =>
      intro zs hlz hz
      cases zs with
      | nil => simp at hlz
      | cons z zs =>
        obtain ⟨xs, h1, h2, h3⟩ := ih zs (by simpa using hlz) (fun i hil => by
          have := hz (i + 1) (by simpa using hil)
          simpa using this)
        have h0 := hz 0 (by simp)
        simp at h0
        obtain ⟨x, hx, _, wx⟩ := DataW.trod_int he h0
        simp at hx
        exact ⟨x :: xs, by simp [h1], by simp [hx, h2], by intro y hy; rcases List.mem_cons.1 hy with rfl | hy; exact wx; exact h3 y hy⟩
  obtain ⟨xs, h1, h2, h3⟩ := key cs ys (by rw [hl, hn]) (fun i hil => hi i (by omega))
  exact ⟨xs, by rw [h1, hl], h2, h3⟩
theorem ofI_words (xs : List Int) (h : ∀ x ∈ xs, (Lit.int .u32 x).wf = true) : vw (xs.map ofI) = xs.map (Value.int .u32) := by
  unfold vw
  rw [List.map_map]
  refine List.map_congr_left fun x hx => ?_
  have := wf_u32_bd (h x hx)
  simp only [Function.comp]
  rw [ofI_val x this.1 this.2]
set_option maxRecDepth 100000 in
/-- eight words, by value -/
theorem open_arr8 {H : Type} {enc : TypeId × Value → H} {w : World} {base : Nat} {spare : Nat → Bool} {held : Bool} {r : Reach} {b0 : Nat} {v : Value} {d : DataW H} {p : List MemPlace}
    (hv : Value.okWide Tryd.prog w r b0 23 v) (h : DataW.Trod enc Tryd.prog w base spare held 23 v d p) :
    ∃ l : List UInt32, l.length = 8 ∧ v = .agg (vw l).toArray := by
  obtain ⟨xs, h1, rfl, h3⟩ := open_ints_arr Tryd.underlying23 Tryd.underlying22 cellsE cellsU hv h
  exact ⟨xs.map ofI, by simpa using h1, by rw [ofI_words xs h3]⟩
theorem gRounds : Tryd.prog.globalNamed "warden/sha.rounds" = some 3 := by kernel_rfl
theorem tRounds : (Tryd.prog.globals[3]?).map (·.type) = some 138 := by kernel_rfl
theorem c64 : Tryd.prog.cellsOf 138 = 64 := by kernel_rfl
theorem rounds_of {W : World} {d : DataW Unit} (h : Lib.VarReads Tryd.prog W "warden/sha.rounds" d) : ∃ KL, Rounds W KL := by
  obtain ⟨g, t, cs, fuel, p, hg, ht, hv, hd⟩ := h
  obtain rfl := Option.some.inj (gRounds.symm.trans hg)
  obtain rfl := Option.some.inj (tRounds.symm.trans ht)
  have hl : cs.toList.length = Tryd.prog.cellsOf 138 := by
    obtain ⟨ys, m, _, _, h1, _, _⟩ := DataW.trod_array Tryd.underlying138 hd
    exact h1
  obtain ⟨xs, h1, h2, h3⟩ := ints_list (k := .u32) Tryd.underlying138 Tryd.underlying22 cellsU (by rw [hl]; exact c64) hd
  have hc : ∀ i, i < 64 → W.cell? ⟨3, i, none⟩ = some (.int .u32 (wAt (xs.map ofI) i)) := fun i hi => by
    rw [World.var?_cell hg hv i, ← Array.getElem?_toList, h2, ← ofI_words xs h3]
    exact vw_get _ i (by rw [List.length_map]; omega)
  exact ⟨xs.map ofI, World.block_lt_of_cell? W _ (hc 0 (by decide)), hc⟩
end Go.Proofs.YtemanjahkohcpaaDoor
