/- Arguments opened: bounds of numbers; arrays of integers; slices of words and of bytes; strings. Over the seat's program. What an attest statement lays out: arrays of eight words, the listed round words. The reference's round constants are those of the program. What the row's listed variables give the walk of AttestPolicies: three reasons, apart from one another. -/
import Derived.Test.YtemanjahkohcpaaGreatDoorRows
import Derived.Test.YtemanjahkohcpaaGreatDoorBase
import Derived.ProofKit
import Derived.OpenShut
import Derived.ShutString
import Derived.ChangeOld
import Derived.Below
import Derived.Lib.SmallJoins
import Derived.Test.YtemanjahkohcpaaGreatDoorABlockJn
import Derived.Lib.LaidU8
import Derived.MakeChecks
import Derived.Test.YtemanjahkohcpaaGreatDoorRBlkJn
import Derived.Test.YtemanjahkohcpaaGreatDoorJn19
import Derived.Stop.LaidTwo
namespace Go.Proofs.YtemanjahkohcpaaGreatDoor
open Go.ChangeShapes Go.WideShapes Go.ChangeAt Go.RowKit Go.Joins

theorem own : ownKnob Tryz.prog.godebug = none := by kernel_rfl
theorem laidOut : laidOutB Tryz.prog = true := by kernel_rfl
theorem wf_u32_bd {x : Int} (h : (Lit.int .u32 x).wf = true) : 0 ≤ x ∧ x ≤ 4294967295 := by
  simp [Lit.wf, IntKind.min, IntKind.max, IntKind.signed, IntKind.bits] at h; omega
theorem wf_u8_bd {x : Int} (h : (Lit.int .u8 x).wf = true) : 0 ≤ x ∧ x ≤ 255 := by
  simp [Lit.wf, IntKind.min, IntKind.max, IntKind.signed, IntKind.bits] at h; omega
theorem wf_i32_bd {x : Int} (h : (Lit.int .i32 x).wf = true) : -2147483648 ≤ x ∧ x ≤ 2147483647 := by
  simp [Lit.wf, IntKind.min, IntKind.max, IntKind.signed, IntKind.bits] at h; omega
theorem wf_i64_bd {x : Int} (h : (Lit.int .i64 x).wf = true) : -9223372036854775808 ≤ x ∧ x ≤ 9223372036854775807 := by
  simp [Lit.wf, IntKind.min, IntKind.max, IntKind.signed, IntKind.bits] at h; omega

/-- an array of integers, by value -/
theorem open_ints_arr {H : Type} {enc : TypeId × Value → H} {P : Program} {w : World} {base : Nat} {spare : Nat → Bool} {held : Bool} {r : Reach} {b0 : Nat} {t e : TypeId} {k : IntKind} {n : Nat} {v : Value} {d : DataW H} {p : List MemPlace}
    (ht : P.underlying t = some (.array n e)) (he : P.underlying e = some (.int k)) (hc : P.cellsOf t = n) (hce : P.cellsOf e = 1)
    (hv : Value.okWide P w r b0 t v) (h : DataW.Trod enc P w base spare held t v d p) :
    ∃ xs : List Int, xs.length = n ∧ v = .agg (xs.map (Value.int k)).toArray ∧ ∀ x ∈ xs, (Lit.int k x).wf = true := by
  simp only [Value.okWide, ht] at hv
  obtain ⟨cs, rfl, hsz, _⟩ := hv
  obtain ⟨fuel, hf⟩ := h
  obtain ⟨ys, m, _, _, hl, hn, hi⟩ := DataW.trod_array ht hf
  simp only [Value.cells] at hi hl
  rw [hce] at hi
  have key : ∀ (l : List Value) (zs : List (DataW H × List MemPlace)), l.length = zs.length → (∀ i, i < l.length → DataW.trod enc P w base spare held m e ((l.drop (i * 1)).take 1) = zs[i]?) →
      ∃ xs : List Int, xs.length = l.length ∧ l = xs.map (Value.int k) ∧ ∀ x ∈ xs, (Lit.int k x).wf = true := by
    intro l
    induction l with
    | nil => intro zs _ _; exact ⟨[], rfl, rfl, by simp⟩
    | cons c l ih =>
      intro zs hlz hz
      cases zs with
      | nil => simp at hlz
      | cons z zs =>
        obtain ⟨xs, h1, h2, h3⟩ := ih zs (by simpa using hlz) (fun i hil => by
          have := hz (i + 1) (by simpa using hil)
          simpa using this)
        have h0 := hz 0 (by simp)
        simp at h0
        obtain ⟨x, hx, _, wx⟩ := DataW.trod_int he h0
        simp at hx
        exact ⟨x :: xs, by simp [h1], by simp [hx, h2], by intro y hy; rcases List.mem_cons.1 hy with rfl | hy; exact wx; exact h3 y hy⟩
  have hln : cs.toList.length = ys.length := by rw [hn, ← hc, ← hsz]; simp
  obtain ⟨xs, h1, h2, h3⟩ := key cs.toList ys hln (fun i hil => hi i (by rw [← hn, ← hln]; exact hil))
  refine ⟨xs, by rw [h1, hln, hn], ?_, h3⟩
  rw [← h2]

/-! ### what the bound gives -/
theorem bulk_one {H : Type} (d : DataW H) : 1 ≤ Rows.uptoBulk d := by
  cases d with
  | lit l => cases l <;> simp [Rows.uptoBulk]
  | nil => simp [Rows.uptoBulk]
  | ptr d => simp [Rows.uptoBulk]
  | slice elems spare => simp [Rows.uptoBulk]
  | agg parts => simp [Rows.uptoBulk]
  | iface t d => simp [Rows.uptoBulk]
  | map entries => simp [Rows.uptoBulk]
  | held h => simp [Rows.uptoBulk]
theorem bulk_len {H : Type} (l : List (DataW H)) : l.length ≤ Rows.uptoBulkAll l := by
  induction l with
  | nil => simp [Rows.uptoBulkAll]
  | cons x r ih => have := bulk_one x; simp only [Rows.uptoBulkAll, List.length_cons]; omega
theorem bulk_string {H : Type} (s : ByteArray) : Rows.uptoBulk (DataW.lit (H := H) (.string s.data.toList)) = s.size + 1 := by
  simp only [Rows.uptoBulk]
  rw [Array.length_toList]; rfl
theorem bulk_bound {H : Type} {l : List (DataW H)} (hk : Rows.uptoSmall H l = true) : Rows.uptoBulkAll l ≤ 1048576 := of_decide_eq_true hk

/-! ### a slice of integers that came in -/
theorem open_int_slice {H : Type} {enc : TypeId × Value → H} {P : Program} {w : World} {base : Nat} {spare : Nat → Bool} {held : Bool} {r : Reach} {b0 : Nat} {t e : TypeId} {k : IntKind} {v : Value} {d : DataW H} {p : List MemPlace}
    (ht : P.underlying t = some (.slice e)) (he : P.underlying e = some (.int k)) (hc : P.cellsOf e = 1)
    (hv : Value.okWide P w r b0 t v) (h : DataW.Trod enc P w base spare held t v d p) :
    ∃ xs : List Int, Rd w v (xs.map (Value.int k)) ∧ (∀ x ∈ xs, (Lit.int k x).wf = true) ∧ xs.length ≤ Rows.uptoBulk d := by
  obtain ⟨ao, len, cap, rfl⟩ := okWide_slice ht hv
  obtain ⟨fuel, hf⟩ := h
  rcases open_ints ht he hc hf with ⟨hcs, _⟩ | ⟨a, l, c, zs, hcs, _, hl, hm, hz, hx, hcell, hwz⟩
  · simp [Value.cells] at hcs
    obtain ⟨rfl, rfl, rfl⟩ := hcs
    exact ⟨[], ⟨none, 0, rfl, Nat.le_refl _, by decide, .inl rfl⟩, by simp, by simp⟩
  · simp [Value.cells] at hcs
    obtain ⟨rfl, rfl, rfl⟩ := hcs
    simp only [Prod.mk.injEq] at hx
    obtain ⟨rfl, _⟩ := hx
    have hlz : len ≤ zs.length := by rw [hz]; split <;> omega
    have hlen : (zs.take len).length = len := by rw [List.length_take]; omega
    refine ⟨zs.take len, ?_, fun x hx => hwz x (List.mem_of_mem_take hx), ?_⟩
    · refine ⟨some a, cap, by rw [List.length_map, hlen], by rw [List.length_map, hlen]; exact hl, hm, ?_⟩
      by_cases h0 : len = 0
      · left; subst h0; simp
      · right
        have h1 := hcell 0 (by omega)
        have hadd0 : a.add 0 = a := by simp [Addr.add]
        rw [hadd0] at h1
        obtain ⟨b, off, spot⟩ := a
        cases spot with
        | some sp => exfalso; revert h1; simp only [World.cell?]; split <;> simp
        | none =>
          refine ⟨b, off, rfl, fun j u hu => ?_⟩
          have hj : j < len := by
            have := (List.getElem?_eq_some_iff.1 hu).1
            rw [List.length_map, hlen] at this; exact this
          have h2 := hcell j (by omega)
          have hadd : (⟨b, off, none⟩ : Addr).add j = ⟨b, off + j, none⟩ := by unfold Addr.add; split <;> simp_all
          rw [hadd] at h2
          rw [h2, ← hu, List.getElem?_map, List.getElem?_take, if_pos hj, List.getElem?_eq_getElem (by omega)]
          simp [List.getD, show j < zs.length by omega]
    · simp only [Rows.uptoBulk]
      have := bulk_len (lits (H := H) k (zs.take len))
      have e : (lits (H := H) k (zs.take len)).length = len := by simp [lits]; omega
      rw [hlen]; omega
theorem open_words {H : Type} {enc : TypeId × Value → H} {P : Program} {w : World} {base : Nat} {spare : Nat → Bool} {held : Bool} {r : Reach} {b0 : Nat} {t e : TypeId} {v : Value} {d : DataW H} {p : List MemPlace}
    (ht : P.underlying t = some (.slice e)) (he : P.underlying e = some (.int .u32)) (hc : P.cellsOf e = 1)
    (hv : Value.okWide P w r b0 t v) (h : DataW.Trod enc P w base spare held t v d p) :
    ∃ l : List UInt32, Rd w v (vw l) ∧ l.length ≤ Rows.uptoBulk d := by
  obtain ⟨xs, h1, h2, h3⟩ := open_int_slice ht he hc hv h
  refine ⟨xs.map ofI, ?_, by simpa using h3⟩
  have e : vw (xs.map ofI) = xs.map (Value.int .u32) := by
    unfold vw
    rw [List.map_map]
    refine List.map_congr_left fun x hx => ?_
    have := wf_u32_bd (h2 x hx)
    simp only [Function.comp]
    rw [ofI_val x this.1 this.2]
  rw [e]; exact h1
def ofB (x : Int) : UInt8 := UInt8.ofNat x.toNat
theorem ofB_val (x : Int) (h1 : 0 ≤ x) (h2 : x ≤ 255) : (((ofB x).toNat : Nat) : Int) = x := by
  unfold ofB; rw [UInt8.toNat_ofNat_of_lt' (by show _ < 256; omega)]; omega
theorem open_bytes {H : Type} {enc : TypeId × Value → H} {P : Program} {w : World} {base : Nat} {spare : Nat → Bool} {held : Bool} {r : Reach} {b0 : Nat} {t e : TypeId} {v : Value} {d : DataW H} {p : List MemPlace}
    (ht : P.underlying t = some (.slice e)) (he : P.underlying e = some (.int .u8)) (hc : P.cellsOf e = 1)
    (hv : Value.okWide P w r b0 t v) (h : DataW.Trod enc P w base spare held t v d p) :
    ∃ l : List UInt8, Rd w v (vb l) ∧ l.length ≤ Rows.uptoBulk d := by
  obtain ⟨xs, h1, h2, h3⟩ := open_int_slice ht he hc hv h
  refine ⟨xs.map ofB, ?_, by simpa using h3⟩
  have e : vb (xs.map ofB) = xs.map (Value.int .u8) := by
    unfold vb
    rw [List.map_map]
    refine List.map_congr_left fun x hx => ?_
    have := wf_u8_bd (h2 x hx)
    simp only [Function.comp]
    rw [ofB_val x this.1 this.2]
  rw [e]; exact h1
end Go.Proofs.YtemanjahkohcpaaGreatDoor

namespace Go.Proofs.YtemanjahkohcpaaGreatDoor
open Go.ChangeShapes Go.WideShapes Go.ChangeAt Go.RowKit Go.Joins
theorem cellsU : Tryz.prog.cellsOf 25 = 1 := by kernel_rfl
theorem cellsE : Tryz.prog.cellsOf 26 = 8 := by kernel_rfl
theorem ints_list {H : Type} {enc : TypeId × Value → H} {P : Program} {w : World} {base : Nat} {spare : Nat → Bool} {held : Bool} {t e : TypeId} {k : IntKind} {n fuel : Nat} {cs : List Value} {z : DataW H × List MemPlace}
    (ht : P.underlying t = some (.array n e)) (he : P.underlying e = some (.int k)) (hce : P.cellsOf e = 1) (hl : cs.length = n) (hf : DataW.trod enc P w base spare held fuel t cs = some z) :
    ∃ xs : List Int, xs.length = n ∧ cs = xs.map (Value.int k) ∧ ∀ x ∈ xs, (Lit.int k x).wf = true := by
  obtain ⟨ys, m, _, _, hl', hn, hi⟩ := DataW.trod_array ht hf
  rw [hce] at hi
  have key : ∀ (l : List Value) (zs : List (DataW H × List MemPlace)), l.length = zs.length → (∀ i, i < l.length → DataW.trod enc P w base spare held m e ((l.drop (i * 1)).take 1) = zs[i]?) →
      ∃ xs : List Int, xs.length = l.length ∧ l = xs.map (Value.int k) ∧ ∀ x ∈ xs, (Lit.int k x).wf = true := by
    intro l
    induction l with
    | nil => intro zs _ _; exact ⟨[], rfl, rfl, by simp⟩
    | cons c l ih =>
      intro zs hlz hz
      cases zs with
      | nil => simp at hlz
      | cons z zs =>
        obtain ⟨xs, h1, h2, h3⟩ := ih zs (by simpa using hlz) (fun i hil => by
          have := hz (i + 1) (by simpa using hil)
          simpa using this)
        have h0 := hz 0 (by simp)
        simp at h0
        obtain ⟨x, hx, _, wx⟩ := DataW.trod_int he h0
        simp at hx
        exact ⟨x :: xs, by simp [h1], by simp [hx, h2], by intro y hy; rcases List.mem_cons.1 hy with rfl | hy; exact wx; exact h3 y hy⟩
  obtain ⟨xs, h1, h2, h3⟩ := key cs ys (by rw [hl, hn]) (fun i hil => hi i (by omega))
  exact ⟨xs, by rw [h1, hl], h2, h3⟩
theorem ofI_words (xs : List Int) (h : ∀ x ∈ xs, (Lit.int .u32 x).wf = true) : vw (xs.map ofI) = xs.map (Value.int .u32) := by
  unfold vw
  rw [List.map_map]
  refine List.map_congr_left fun x hx => ?_
  have := wf_u32_bd (h x hx)
  simp only [Function.comp]
  rw [ofI_val x this.1 this.2]
set_option maxRecDepth 100000 in
/-- eight words, by value -/
theorem open_arr8 {H : Type} {enc : TypeId × Value → H} {w : World} {base : Nat} {spare : Nat → Bool} {held : Bool} {r : Reach} {b0 : Nat} {v : Value} {d : DataW H} {p : List MemPlace}
    (hv : Value.okWide Tryz.prog w r b0 26 v) (h : DataW.Trod enc Tryz.prog w base spare held 26 v d p) :
    ∃ l : List UInt32, l.length = 8 ∧ v = .agg (vw l).toArray := by
  obtain ⟨xs, h1, rfl, h3⟩ := open_ints_arr Tryz.underlying26 Tryz.underlying25 cellsE cellsU hv h
  exact ⟨xs.map ofI, by simpa using h1, by rw [ofI_words xs h3]⟩
theorem gRounds : Tryz.prog.globalNamed "warden/sha.rounds" = some 7 := by kernel_rfl
theorem tRounds : (Tryz.prog.globals[7]?).map (·.type) = some 187 := by kernel_rfl
theorem c64 : Tryz.prog.cellsOf 187 = 64 := by kernel_rfl
theorem rounds_of {W : World} {d : DataW Unit} (h : Lib.VarReads Tryz.prog W "warden/sha.rounds" d) : ∃ KL, Rounds W KL := by
  obtain ⟨g, t, cs, fuel, p, hg, ht, hv, hd⟩ := h
  obtain rfl := Option.some.inj (gRounds.symm.trans hg)
  obtain rfl := Option.some.inj (tRounds.symm.trans ht)
  have hl : cs.toList.length = Tryz.prog.cellsOf 187 := by
    obtain ⟨ys, m, _, _, h1, _, _⟩ := DataW.trod_array Tryz.underlying187 hd
    exact h1
  obtain ⟨xs, h1, h2, h3⟩ := ints_list (k := .u32) Tryz.underlying187 Tryz.underlying25 cellsU (by rw [hl]; exact c64) hd
  have hc : ∀ i, i < 64 → W.cell? ⟨7, i, none⟩ = some (.int .u32 (wAt (xs.map ofI) i)) := fun i hi => by
    rw [World.var?_cell hg hv i, ← Array.getElem?_toList, h2, ← ofI_words xs h3]
    exact vw_get _ i (by rw [List.length_map]; omega)
  exact ⟨xs.map ofI, World.block_lt_of_cell? W _ (hc 0 (by decide)), hc⟩
end Go.Proofs.YtemanjahkohcpaaGreatDoor

namespace Go.Proofs.YtemanjahkohcpaaGreatDoor
open Go Go.ChangeShapes Go.WideShapes Go.ChangeAt Go.RowKit Go.Joins
theorem words_same {H : Type} {enc : TypeId × Value → H} {w : World} {b1 b2 f1 f2 : Nat} {s1 s2 : Nat → Bool} {held1 held2 : Bool} {cs1 cs2 : List Value} {d : DataW H} {p1 p2 : List MemPlace} (h1 : DataW.trod enc Tryz.prog w b1 s1 held1 f1 187 cs1 = some (d, p1)) (h2 : DataW.trod enc Tryz.prog w b2 s2 held2 f2 187 cs2 = some (d, p2)) : cs1 = cs2 := by
  obtain ⟨xs, m1, _, e1, l1, n1, g1⟩ := DataW.trod_array Tryz.underlying187 h1
  obtain ⟨ys, m2, _, e2, l2, n2, g2⟩ := DataW.trod_array Tryz.underlying187 h2
  simp only [Prod.mk.injEq] at e1 e2
  have hd : xs.map (·.1) = ys.map (·.1) := by
    have := e1.1.symm.trans e2.1
    simpa using this
  rw [c64] at l1 l2
  rw [cellsU] at g1 g2
  apply List.ext_getElem?
  intro i
  by_cases hi : i < 64
  · have a1 := g1 i hi
    have a2 := g2 i hi
    rw [List.getElem?_eq_getElem (by omega)] at a1 a2
    obtain ⟨u, c1, q1, _⟩ := DataW.trod_int Tryz.underlying25 a1
    obtain ⟨v, c2, q2, _⟩ := DataW.trod_int Tryz.underlying25 a2
    have hx : (xs.map (·.1))[i]? = (ys.map (·.1))[i]? := by rw [hd]
    rw [List.getElem?_map, List.getElem?_map, List.getElem?_eq_getElem (by omega), List.getElem?_eq_getElem (by omega), q1, q2] at hx
    have huv : u = v := by simpa using hx
    have k1 : cs1[i]? = some (.int .u32 u) := by
      have := congrArg (fun l => l[0]?) c1
      simpa [List.getElem?_take, List.getElem?_drop] using this
    have k2 : cs2[i]? = some (.int .u32 v) := by
      have := congrArg (fun l => l[0]?) c2
      simpa [List.getElem?_take, List.getElem?_drop] using this
    rw [k1, k2, huv]
  · rw [List.getElem?_eq_none (by omega), List.getElem?_eq_none (by omega)]
theorem gK : Tryz.prog.globalNamed "warden/wardenref02.K" = some 6 := by kernel_rfl
theorem tK : (Tryz.prog.globals[6]?).map (·.type) = some 187 := by kernel_rfl
theorem roundsR_of {W : World} {KL : List UInt32} {d : DataW Unit} (hK : Rounds W KL) (h1 : Lib.VarReads Tryz.prog W "warden/sha.rounds" d) (h2 : Lib.VarReads Tryz.prog W "warden/wardenref02.K" d) : RoundsR W KL := by
  obtain ⟨g, t, cs1, f1, p1, hg1, ht1, hv1, hd1⟩ := h1
  obtain rfl := Option.some.inj (gRounds.symm.trans hg1)
  obtain rfl := Option.some.inj (tRounds.symm.trans ht1)
  obtain ⟨g2, t2, cs2, f2, p2, hg2, ht2, hv2, hd2⟩ := h2
  obtain rfl := Option.some.inj (gK.symm.trans hg2)
  obtain rfl := Option.some.inj (tK.symm.trans ht2)
  have e := words_same hd1 hd2
  have hc : ∀ i, i < 64 → W.cell? ⟨6, i, none⟩ = some (.int .u32 (wAt KL i)) := fun i hi => by
    rw [World.var?_cell hg2 hv2 i, ← Array.getElem?_toList, ← e, Array.getElem?_toList, ← World.var?_cell hg1 hv1 i]
    exact hK.2 i hi
  exact ⟨World.block_lt_of_cell? W _ (hc 0 (by decide)), hc⟩
end Go.Proofs.YtemanjahkohcpaaGreatDoor

namespace Go.Proofs.YtemanjahkohcpaaGreatDoor
open Go.RowKit
theorem laid_sentinels3 {P : Program} {nx n0 n1 n2 nm : String} {dx : DataW Unit} {text0 text1 text2 : List UInt8} {r : List (String × DataW Unit)} {W : World} {g0 g1 g2 : Nat} {ti tp te ts : TypeId} {ms : Array (String × TypeId)} {f : Field}
    (h : laidMet P ((nx, dx) :: (n0, .iface nm (.ptr (.agg [.lit (.string text0)]))) :: (n1, .iface nm (.ptr (.agg [.lit (.string text1)]))) :: (n2, .iface nm (.ptr (.agg [.lit (.string text2)]))) :: r) W)
    (hg0 : P.globalNamed n0 = some g0) (ht0 : (P.globals[g0]?).map (·.type) = some ti) (hg1 : P.globalNamed n1 = some g1) (ht1 : (P.globals[g1]?).map (·.type) = some ti) (hg2 : P.globalNamed n2 = some g2) (ht2 : (P.globals[g2]?).map (·.type) = some ti)
    (hi : P.underlying ti = some (.interface ms)) (hrow : ∀ u, P.typeName? 3 u = some nm → u = tp)
    (hp : P.underlying tp = some (.pointer te)) (he : P.underlying te = some (.struct #[f])) (hft : f.type = ts) (hfo : f.offset = 0) (hs : P.underlying ts = some .string) (hc : P.cellsOf te = 1) (hcs : P.cellsOf ts = 1) :
    ∃ a0 a1 a2 : Addr, W.cell? ⟨g0, 0, none⟩ = some (.iface tp (.pointer (some a0))) ∧ W.cell? ⟨g1, 0, none⟩ = some (.iface tp (.pointer (some a1))) ∧ W.cell? ⟨g2, 0, none⟩ = some (.iface tp (.pointer (some a2))) ∧
      (∃ c t, W.heap[a0.block]? = some (.cells c t (0, 0))) ∧ (∃ c t, W.heap[a1.block]? = some (.cells c t (0, 0))) ∧ (∃ c t, W.heap[a2.block]? = some (.cells c t (0, 0))) ∧ a0 ≠ a1 ∧ a0 ≠ a2 ∧ a1 ≠ a2 := by
  obtain ⟨ps, ⟨gx, tx, csx, fx, px, qx, hgx, htx, hvx, hdx, ⟨g0', t0', cs0, f0, p0, q0, hg0', ht0', hv0, hd0, ⟨g1', t1', cs1, f1, p1, q1, hg1', ht1', hv1, hd1, ⟨g2', t2', cs2, f2, p2, q2, hg2', ht2', hv2, hd2, _, e2⟩, e1⟩, e0⟩, ex⟩, hnd, hrows⟩ := h
  obtain rfl := Option.some.inj (hg0.symm.trans hg0')
  obtain rfl := Option.some.inj (hg1.symm.trans hg1')
  obtain rfl := Option.some.inj (hg2.symm.trans hg2')
  obtain rfl := Option.some.inj (ht0.symm.trans ht0')
  obtain rfl := Option.some.inj (ht1.symm.trans ht1')
  obtain rfl := Option.some.inj (ht2.symm.trans ht2')
  subst e2
  subst e1
  subst e0
  subst ex
  obtain ⟨l0⟩ := cs0
  obtain ⟨l1⟩ := cs1
  obtain ⟨l2⟩ := cs2
  have ok0 : ∀ u v, l0 = [.iface u v] → Value.okWide P W .any 0 u v := fun u v e => by
    subst e
    exact (hrows g0 0 (by simp [MemPlace.row])).2 u v (by simpa using World.var?_cell hg0' hv0 0)
  have ok1 : ∀ u v, l1 = [.iface u v] → Value.okWide P W .any 0 u v := fun u v e => by
    subst e
    exact (hrows g1 0 (by simp [MemPlace.row])).2 u v (by simpa using World.var?_cell hg1' hv1 0)
  have ok2 : ∀ u v, l2 = [.iface u v] → Value.okWide P W .any 0 u v := fun u v e => by
    subst e
    exact (hrows g2 0 (by simp [MemPlace.row])).2 u v (by simpa using World.var?_cell hg2' hv2 0)
  obtain ⟨a0, s0, rfl, hc0, hs0, hz0, rfl⟩ := errorString_of_trod hi hrow hp he hft hfo hs hc hcs hd0 ok0
  obtain ⟨a1, s1, rfl, hc1, hs1, hz1, rfl⟩ := errorString_of_trod hi hrow hp he hft hfo hs hc hcs hd1 ok1
  obtain ⟨a2, s2, rfl, hc2, hs2, hz2, rfl⟩ := errorString_of_trod hi hrow hp he hft hfo hs hc hcs hd2 ok2
  obtain ⟨c0, t0, hb0⟩ := (hrows a0.block a0.off (by simp [MemPlace.row])).1
  obtain ⟨c1, t1, hb1⟩ := (hrows a1.block a1.off (by simp [MemPlace.row])).1
  obtain ⟨c2, t2, hb2⟩ := (hrows a2.block a2.off (by simp [MemPlace.row])).1
  refine ⟨a0, a1, a2, by simpa using World.var?_cell hg0' hv0 0, by simpa using World.var?_cell hg1' hv1 0, by simpa using World.var?_cell hg2' hv2 0, ⟨c0, t0, hb0⟩, ⟨c1, t1, hb1⟩, ⟨c2, t2, hb2⟩, ?_, ?_, ?_⟩
  all_goals
    rintro rfl
    simp [MemPlace.row, List.nodup_append] at hnd
end Go.Proofs.YtemanjahkohcpaaGreatDoor
