/- The contract of asm's faultOf. Arguments opened: bounds of numbers; arrays of integers; slices of words and of bytes; strings. Over the seat's program. -/
import Derived.Test.YtiknookfnameiaaGreatDoorJn20
import Derived.Test.YtiknookfnameiaaGreatDoorRows
import Derived.Test.YtiknookfnameiaaGreatDoorJn00
import Derived.ProofKit
import Derived.OpenShut
import Derived.ShutString
import Derived.ChangeOld
import Derived.Below
import Derived.Lib.SmallJoins
namespace Go.Proofs.YtiknookfnameiaaGreatDoor
open Go.RowKit WP
set_option linter.unusedSimpArgs false
set_option linter.unusedVariables false
/-- errors' own variable -/
def ErrT (w : World) : Prop := w.cell? ⟨1, 0, none⟩ = some (.iface 190 (.agg #[.pointer (some ⟨14, 70, none⟩)]))
theorem ErrT.later {w w' : World} (h : ErrT w) (hb : Below w.heap.size w w') : ErrT w' := by
  unfold ErrT at h ⊢
  rw [← h]
  unfold World.cell?
  rw [hb.block _ (World.block_lt_of_cell? w _ h)]
def fltV (f : Flt) : Value := .agg #[.int .i64 f.1, .int .i64 (f.2.1 : Int), .int .i64 (f.2.2 : Int)]
theorem results_one {P : Program} {fn : Func} {t : Tmp} {ty : TypeId} (h : fn.results = #[.cell t ty]) {tmps : Array Value} {w : World} {g : Nat} {cs : Array Value} {T : TypeId} {d : TypeDesc}
    (hp : tmps.getD t undef = .pointer (some ⟨g, 0, none⟩)) (hc : w.heap[g]? = some (.cells cs T (0, 0))) (hu : P.underlying ty = some d) (hd : d.isRow = true) (hi : (P.info? ty).map (·.size) = some cs.size) : (results fn tmps).run P w = .ok (.agg cs) w := by
  have hr : w.rangeAt g 0 cs.toList := fun j u hu => by
    rw [Nat.zero_add, cell_of_row _ _ _ _ _ _ hc]; simpa using hu
  have hv := run_loadVar_mid (P := P) w g 0 ty cs.toList d hr hu hd (by simpa using hi)
  have hp' : tmps[t]?.getD undef = .pointer (some ⟨g, 0, none⟩) := by simpa [Array.getD_eq_getD_getElem?] using hp
  simp [results, h, hp', hv, asAddr]
theorem infoFlt : (Tryz.prog.info? 27).map (·.size) = some 3 := by kernel_rfl
theorem as_flt (g t : Nat) (old : Value) (w : World) (hE : ErrT w) (ht : w.heap[t]? = some (.cells #[old] 110 (0, 0))) :
    Calls Tryz.prog 41 #[.iface 110 (ptr g), .iface 120 (ptr t)] w fun e w' => e = .returned (.bool true) ∧ w'.cell? ⟨t, 0, none⟩ = some (ptr g) ∧ w.grownBy w' (some t) := by
  refine (as_hit ⟨g, 0, none⟩ ⟨t, 0, none⟩ old w hE (cell_of_row _ _ _ _ _ _ ht) (frozen_of_row _ _ _ _ _ ht)).mono ?_
  rintro e w' ⟨rfl, rfl⟩
  have hlt := (Array.getElem?_eq_some_iff.1 ht).1
  obtain ⟨w4, hw4⟩ : ∃ w4, (((w.alloc (.cells #[ptr t] 120)).alloc (.cells #[.pointer (some ⟨14, 120, none⟩), .pointer (some ⟨w.heap.size, 0, none⟩), .int .u64 150] 160)).alloc (.cells #[.pointer (some ⟨14, 120, none⟩), .pointer (some ⟨w.heap.size, 0, none⟩), .int .u64 150] 160)).alloc (.cells #[ptr g] 110) = w4 := ⟨_, rfl⟩
  have b4 : Below w.heap.size w w4 := by rw [← hw4]; exact ((((Below.refl _ _).alloc (Nat.le_refl _) _).alloc (by simp) _).alloc (by simp; omega) _).alloc (by simp; omega) _
  have ht4 := (b4.block t hlt).trans ht
  rw [hw4]
  have hs := heap_setCell_same w4 t 0 _ _ (ptr g) ht4
  refine ⟨rfl, cell_of_row _ _ _ _ _ _ hs, ?_⟩
  refine ⟨b4.os, b4.tape, b4.output, by simpa using b4.size, fun k hk hne => ?_⟩
  exact (Below.heap_setCell w4 ⟨t, 0, none⟩ _ k (fun e => hne (by rw [show k = t from e]))).trans (b4.block k hk)
set_option maxRecDepth 100000 in
theorem fault_any (v : Value) (f : Flt) (w : World) (hE : ErrT w) (hf : FltAt w v f) :
    Calls Tryz.prog 24 #[v] w fun e w' => e = .returned (fltV f) ∧ Below w.heap.size w w' := by
  obtain ⟨g, rfl, hg⟩ := hf
  obtain ⟨f1, f2, f3⟩ := f
  simp only at hg
  unfold fltV
  dsimp only
  obtain ⟨w2, hw2⟩ : ∃ w2, (w.alloc (.cells #[.int .i64 0, .int .i64 0, .int .i64 0] 27)).alloc (.cells #[.pointer none] 110) = w2 := ⟨_, rfl⟩
  have b2 : Below w.heap.size w w2 := by rw [← hw2]; exact ((Below.refl _ _).alloc (Nat.le_refl _) _).alloc (by simp) _
  have hR : w2.heap[w.heap.size]? = some (.cells #[.int .i64 0, .int .i64 0, .int .i64 0] 27 (0, 0)) := by rw [← hw2, heap_alloc_old _ _ (by simp)]; exact heap_alloc_new w _
  have hT : w2.heap[w.heap.size + 1]? = some (.cells #[.pointer none] 110 (0, 0)) := by
    rw [← hw2]
    have := heap_alloc_new (w.alloc (.cells #[.int .i64 0, .int .i64 0, .int .i64 0] 27)) (.cells #[.pointer none] 110)
    rwa [show (w.alloc (.cells #[.int .i64 0, .int .i64 0, .int .i64 0] 27)).heap.size = w.heap.size + 1 by simp] at this
  have hgl := (Array.getElem?_eq_some_iff.1 hg).1
  have hg2 := (b2.block g hgl).trans hg
  have has := as_flt g (w.heap.size + 1) (.pointer none) w2 (hE.later b2) hT
  replace b2 := Lib.hid b2; replace hR := Lib.hid hR; replace hT := Lib.hid hT; replace has := Lib.hid has; replace hg2 := Lib.hid hg2
  clear hg hE
  go_enter Tryz.func24, Tryz.ntmps24
  go_upto_region 2 with fail
  try (change Code.wp _ _ _ _ ((w.alloc (.cells #[.int .i64 0, .int .i64 0, .int .i64 0] 27)).alloc (.cells #[.pointer none] 110)); rw [hw2])
  clear hw2
  go_wp2_with fail
  refine has.out.mono ?_
  rintro e w3 ⟨rfl, hc, hgr⟩
  have lt2 := (Array.getElem?_eq_some_iff.1 hT.out).1
  have hR3 := (hgr.block w.heap.size (by omega) (by simp)).trans hR.out
  have hg3 := (hgr.block g (by omega) (by simp; omega)).trans hg2.out
  have c0 : w3.cell? ⟨g, 0, none⟩ = some (.int .i64 f1) := cell_of_row _ _ _ _ _ _ hg3
  have c1 : w3.cell? ⟨g, 1, none⟩ = some (.int .i64 (f2 : Int)) := cell_of_row _ _ _ _ _ _ hg3
  have c2 : w3.cell? ⟨g, 2, none⟩ = some (.int .i64 (f3 : Int)) := cell_of_row _ _ _ _ _ _ hg3
  have r0 : w3.cell? ⟨w.heap.size, 0, none⟩ = some (.int .i64 0) := cell_of_row _ _ _ _ _ _ hR3
  have r1 : w3.cell? ⟨w.heap.size, 1, none⟩ = some (.int .i64 0) := cell_of_row _ _ _ _ _ _ hR3
  have r2 : w3.cell? ⟨w.heap.size, 2, none⟩ = some (.int .i64 0) := cell_of_row _ _ _ _ _ _ hR3
  have q0 : w3.frozen? ⟨w.heap.size, 0, none⟩ = false := frozen_of_row _ _ _ _ _ hR3
  have q1 : w3.frozen? ⟨w.heap.size, 1, none⟩ = false := frozen_of_row _ _ _ _ _ hR3
  have q2 : w3.frozen? ⟨w.heap.size, 2, none⟩ = false := frozen_of_row _ _ _ _ _ hR3
  have h1 := heap_setCell_same w3 w.heap.size 0 _ _ (.int .i64 f1) hR3
  have h2 := heap_setCell_same _ w.heap.size 1 _ _ (.int .i64 (f2 : Int)) h1
  have h3 := heap_setCell_same _ w.heap.size 2 _ _ (.int .i64 (f3 : Int)) h2
  have bel : Below w.heap.size w w3 := b2.out.trans ⟨hgr.os, hgr.tape, hgr.output, hgr.size, fun k hk => hgr.block k (by omega) (by simp; omega)⟩
  have bN := ((bel.setCell (p := ⟨w.heap.size, 0, none⟩) (Nat.le_refl _) (.int .i64 f1)).setCell (p := ⟨w.heap.size, 1, none⟩) (Nat.le_refl _) (.int .i64 (f2 : Int))).setCell (p := ⟨w.heap.size, 2, none⟩) (Nat.le_refl _) (.int .i64 (f3 : Int))
  replace h1 := Lib.hid h1; replace h2 := Lib.hid h2; replace h3 := Lib.hid h3; replace bN := Lib.hid bN; replace hR3 := Lib.hid hR3; replace hg3 := Lib.hid hg3; replace hgr := Lib.hid hgr; replace bel := Lib.hid bel
  clear has hg2 b2 hR hT
  go_wp2_with fail
  refine bodyPost_ret (results_one rfl rfl h3.out Tryz.underlying27 rfl infoFlt) rfl ⟨rfl, bN.out⟩
end Go.Proofs.YtiknookfnameiaaGreatDoor

namespace Go.Proofs.YtiknookfnameiaaGreatDoor
open Go.ChangeShapes Go.WideShapes Go.ChangeAt Go.RowKit Go.Joins

theorem own : ownKnob Tryz.prog.godebug = none := by kernel_rfl
theorem laidOut : laidOutB Tryz.prog = true := by kernel_rfl
theorem wf_u32_bd {x : Int} (h : (Lit.int .u32 x).wf = true) : 0 ≤ x ∧ x ≤ 4294967295 := by
  simp [Lit.wf, IntKind.min, IntKind.max, IntKind.signed, IntKind.bits] at h; omega
theorem wf_u8_bd {x : Int} (h : (Lit.int .u8 x).wf = true) : 0 ≤ x ∧ x ≤ 255 := by
  simp [Lit.wf, IntKind.min, IntKind.max, IntKind.signed, IntKind.bits] at h; omega
theorem wf_i32_bd {x : Int} (h : (Lit.int .i32 x).wf = true) : -2147483648 ≤ x ∧ x ≤ 2147483647 := by
  simp [Lit.wf, IntKind.min, IntKind.max, IntKind.signed, IntKind.bits] at h; omega
theorem wf_i64_bd {x : Int} (h : (Lit.int .i64 x).wf = true) : -9223372036854775808 ≤ x ∧ x ≤ 9223372036854775807 := by
  simp [Lit.wf, IntKind.min, IntKind.max, IntKind.signed, IntKind.bits] at h; omega

/-- an array of integers, by value -/
theorem open_ints_arr {H : Type} {enc : TypeId × Value → H} {P : Program} {w : World} {base : Nat} {spare : Nat → Bool} {held : Bool} {r : Reach} {b0 : Nat} {t e : TypeId} {k : IntKind} {n : Nat} {v : Value} {d : DataW H} {p : List MemPlace}
    (ht : P.underlying t = some (.array n e)) (he : P.underlying e = some (.int k)) (hc : P.cellsOf t = n) (hce : P.cellsOf e = 1)
    (hv : Value.okWide P w r b0 t v) (h : DataW.Trod enc P w base spare held t v d p) :
    ∃ xs : List Int, xs.length = n ∧ v = .agg (xs.map (Value.int k)).toArray ∧ ∀ x ∈ xs, (Lit.int k x).wf = true := by
  simp only [Value.okWide, ht] at hv
  obtain ⟨cs, rfl, hsz, _⟩ := hv
  obtain ⟨fuel, hf⟩ := h
  obtain ⟨ys, m, _, _, hl, hn, hi⟩ := DataW.trod_array ht hf
  simp only [Value.cells] at hi hl
  rw [hce] at hi
  have key : ∀ (l : List Value) (zs : List (DataW H × List MemPlace)), l.length = zs.length → (∀ i, i < l.length → DataW.trod enc P w base spare held m e ((l.drop (i * 1)).take 1) = zs[i]?) →
      ∃ xs : List Int, xs.length = l.length ∧ l = xs.map (Value.int k) ∧ ∀ x ∈ xs, (Lit.int k x).wf = true := by
    intro l
    induction l with
    | nil => intro zs _ _; exact ⟨[], rfl, rfl, by simp⟩
    | cons c l ih =>
      intro zs hlz hz
      cases zs with
      | nil => simp at hlz
      | cons z zs =>
        obtain ⟨xs, h1, h2, h3⟩ := ih zs (by simpa using hlz) (fun i hil => by
          have := hz (i + 1) (by simpa using hil)
          simpa using this)
        have h0 := hz 0 (by simp)
        simp at h0
        obtain ⟨x, hx, _, wx⟩ := DataW.trod_int he h0
        simp at hx
        exact ⟨x :: xs, by simp [h1], by simp [hx, h2], by intro y hy; rcases List.mem_cons.1 hy with rfl | hy; exact wx; exact h3 y hy⟩
  have hln : cs.toList.length = ys.length := by rw [hn, ← hc, ← hsz]; simp
  obtain ⟨xs, h1, h2, h3⟩ := key cs.toList ys hln (fun i hil => hi i (by rw [← hn, ← hln]; exact hil))
  refine ⟨xs, by rw [h1, hln, hn], ?_, h3⟩
  rw [← h2]

/-! ### what the bound gives -/
theorem bulk_one {H : Type} (d : DataW H) : 1 ≤ Rows.uptoBulk d := by
  cases d with
  | lit l => cases l <;> simp [Rows.uptoBulk]
  | nil => simp [Rows.uptoBulk]
  | ptr d => simp [Rows.uptoBulk]
  | slice elems spare => simp [Rows.uptoBulk]
  | agg parts => simp [Rows.uptoBulk]
  | iface t d => simp [Rows.uptoBulk]
  | map entries => simp [Rows.uptoBulk]
  | held h => simp [Rows.uptoBulk]
theorem bulk_len {H : Type} (l : List (DataW H)) : l.length ≤ Rows.uptoBulkAll l := by
  induction l with
  | nil => simp [Rows.uptoBulkAll]
  | cons x r ih => have := bulk_one x; simp only [Rows.uptoBulkAll, List.length_cons]; omega
theorem bulk_string {H : Type} (s : ByteArray) : Rows.uptoBulk (DataW.lit (H := H) (.string s.data.toList)) = s.size + 1 := by
  simp only [Rows.uptoBulk]
  rw [Array.length_toList]; rfl
theorem bulk_bound {H : Type} {l : List (DataW H)} (hk : Rows.uptoSmall H l = true) : Rows.uptoBulkAll l ≤ 1048576 := of_decide_eq_true hk

/-! ### a slice of integers that came in -/
theorem open_int_slice {H : Type} {enc : TypeId × Value → H} {P : Program} {w : World} {base : Nat} {spare : Nat → Bool} {held : Bool} {r : Reach} {b0 : Nat} {t e : TypeId} {k : IntKind} {v : Value} {d : DataW H} {p : List MemPlace}
    (ht : P.underlying t = some (.slice e)) (he : P.underlying e = some (.int k)) (hc : P.cellsOf e = 1)
    (hv : Value.okWide P w r b0 t v) (h : DataW.Trod enc P w base spare held t v d p) :
    ∃ xs : List Int, Rd w v (xs.map (Value.int k)) ∧ (∀ x ∈ xs, (Lit.int k x).wf = true) ∧ xs.length ≤ Rows.uptoBulk d := by
  obtain ⟨ao, len, cap, rfl⟩ := okWide_slice ht hv
  obtain ⟨fuel, hf⟩ := h
  rcases open_ints ht he hc hf with ⟨hcs, _⟩ | ⟨a, l, c, zs, hcs, _, hl, hm, hz, hx, hcell, hwz⟩
  · simp [Value.cells] at hcs
    obtain ⟨rfl, rfl, rfl⟩ := hcs
    exact ⟨[], ⟨none, 0, rfl, Nat.le_refl _, by decide, .inl rfl⟩, by simp, by simp⟩
  · simp [Value.cells] at hcs
    obtain ⟨rfl, rfl, rfl⟩ := hcs
    simp only [Prod.mk.injEq] at hx
    obtain ⟨rfl, _⟩ := hx
    have hlz : len ≤ zs.length := by rw [hz]; split <;> omega
    have hlen : (zs.take len).length = len := by rw [List.length_take]; omega
    refine ⟨zs.take len, ?_, fun x hx => hwz x (List.mem_of_mem_take hx), ?_⟩
    · refine ⟨some a, cap, by rw [List.length_map, hlen], by rw [List.length_map, hlen]; exact hl, hm, ?_⟩
      by_cases h0 : len = 0
      · left; subst h0; simp
      · right
        have h1 := hcell 0 (by omega)
        have hadd0 : a.add 0 = a := by simp [Addr.add]
        rw [hadd0] at h1
        obtain ⟨b, off, spot⟩ := a
        cases spot with
        | some sp => exfalso; revert h1; simp only [World.cell?]; split <;> simp
        | none =>
          refine ⟨b, off, rfl, fun j u hu => ?_⟩
          have hj : j < len := by
            have := (List.getElem?_eq_some_iff.1 hu).1
            rw [List.length_map, hlen] at this; exact this
          have h2 := hcell j (by omega)
          have hadd : (⟨b, off, none⟩ : Addr).add j = ⟨b, off + j, none⟩ := by unfold Addr.add; split <;> simp_all
          rw [hadd] at h2
          rw [h2, ← hu, List.getElem?_map, List.getElem?_take, if_pos hj, List.getElem?_eq_getElem (by omega)]
          simp [List.getD, show j < zs.length by omega]
    · simp only [Rows.uptoBulk]
      have := bulk_len (lits (H := H) k (zs.take len))
      have e : (lits (H := H) k (zs.take len)).length = len := by simp [lits]; omega
      rw [hlen]; omega
theorem open_words {H : Type} {enc : TypeId × Value → H} {P : Program} {w : World} {base : Nat} {spare : Nat → Bool} {held : Bool} {r : Reach} {b0 : Nat} {t e : TypeId} {v : Value} {d : DataW H} {p : List MemPlace}
    (ht : P.underlying t = some (.slice e)) (he : P.underlying e = some (.int .u32)) (hc : P.cellsOf e = 1)
    (hv : Value.okWide P w r b0 t v) (h : DataW.Trod enc P w base spare held t v d p) :
    ∃ l : List UInt32, Rd w v (vw l) ∧ l.length ≤ Rows.uptoBulk d := by
  obtain ⟨xs, h1, h2, h3⟩ := open_int_slice ht he hc hv h
  refine ⟨xs.map ofI, ?_, by simpa using h3⟩
  have e : vw (xs.map ofI) = xs.map (Value.int .u32) := by
    unfold vw
    rw [List.map_map]
    refine List.map_congr_left fun x hx => ?_
    have := wf_u32_bd (h2 x hx)
    simp only [Function.comp]
    rw [ofI_val x this.1 this.2]
  rw [e]; exact h1
def ofB (x : Int) : UInt8 := UInt8.ofNat x.toNat
theorem ofB_val (x : Int) (h1 : 0 ≤ x) (h2 : x ≤ 255) : (((ofB x).toNat : Nat) : Int) = x := by
  unfold ofB; rw [UInt8.toNat_ofNat_of_lt' (by show _ < 256; omega)]; omega
theorem open_bytes {H : Type} {enc : TypeId × Value → H} {P : Program} {w : World} {base : Nat} {spare : Nat → Bool} {held : Bool} {r : Reach} {b0 : Nat} {t e : TypeId} {v : Value} {d : DataW H} {p : List MemPlace}
    (ht : P.underlying t = some (.slice e)) (he : P.underlying e = some (.int .u8)) (hc : P.cellsOf e = 1)
    (hv : Value.okWide P w r b0 t v) (h : DataW.Trod enc P w base spare held t v d p) :
    ∃ l : List UInt8, Rd w v (vb l) ∧ l.length ≤ Rows.uptoBulk d := by
  obtain ⟨xs, h1, h2, h3⟩ := open_int_slice ht he hc hv h
  refine ⟨xs.map ofB, ?_, by simpa using h3⟩
  have e : vb (xs.map ofB) = xs.map (Value.int .u8) := by
    unfold vb
    rw [List.map_map]
    refine List.map_congr_left fun x hx => ?_
    have := wf_u8_bd (h2 x hx)
    simp only [Function.comp]
    rw [ofB_val x this.1 this.2]
  rw [e]; exact h1
end Go.Proofs.YtiknookfnameiaaGreatDoor
