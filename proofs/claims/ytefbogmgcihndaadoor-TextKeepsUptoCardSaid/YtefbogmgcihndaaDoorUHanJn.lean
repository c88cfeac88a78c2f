/- The contract of the law's handed: bytes and rows that are handed in stay, and are answered as they are when their owner has turned them. -/
import Derived.Test.YtefbogmgcihndaaDoorJn41
import Derived.Test.YtefbogmgcihndaaDoorTQte
import Derived.Test.YtefbogmgcihndaaDoorTColGJn
import Derived.Test.YtefbogmgcihndaaDoorTRcoJn
import Derived.Test.YtefbogmgcihndaaDoorTRqu
import Derived.Test.YtefbogmgcihndaaDoorTOpD
namespace Go.Proofs.YtefbogmgcihndaaDoor
open Go.RowKit WP
attribute [local go_sem ↓] Go.wp_at_zero Go.wp_at_succ
theorem rawL_vb_take (l : List UInt8) : (vb (rawL l 300)).take l.length = vb l := by unfold rawL vb; rw [List.map_append, List.take_left']; simp
/-- the rows that were lent, read as a grid -/
theorem Rows.grid {base B cb n : Nat} {w : World} {x y : Value} {us : List Value} {C : Nat → List ByteArray} (h : Rows base w (.slice (some ⟨B, 0, none⟩) (n + 2) cb) us x y C) (hn : us.length = n) :
    Grid w (.slice (some ⟨B, 0, none⟩) n cb) (fun i => us.getD i undef) C n := by
  have e : (List.range n).map (fun i => us.getD i undef) = us := by
    apply List.ext_getElem
    · simp [hn]
    · intro i h1 h2
      simp [List.getD_eq_getElem?_getD, List.getElem?_eq_getElem h2]
  have hrow := h.row
  rw [hn] at hrow
  refine ⟨?_, fun i hi => ?_⟩
  · rw [e]
    have hr := (Rd.of_own hrow)
    have := hr.take n (by omega)
    rwa [List.take_left' hn] at this
  · have : us.getD i undef = us[i] := by simp [List.getD_eq_getElem?_getD, List.getElem?_eq_getElem (show i < us.length by omega)]
    rw [this]
    exact Rd.of_own (h.lent i (by omega)).own
theorem own_len {w : World} {B s n m cap : Nat} {e : TypeId} {ao : Option Addr} {xs : List Value} (h : w.ownsRow B e s (.slice ao m cap) n xs) : m = n := by
  rcases h.2 with ⟨hv, hn⟩ | ⟨g, cap', cur, hv, _⟩
  · simp only [Value.slice.injEq] at hv; omega
  · simp only [Value.slice.injEq] at hv; exact hv.2.1
/-- the rows as their owner has them -/
structure RO (base : Nat) (w : World) (b : Value) (us : List Value) (x y : Value) (C : Nat → List ByteArray) : Prop where
  row : w.ownsRow base 39 1 b (us.length + 2) (us ++ [x, y])
  own : ∀ i (h : i < us.length), w.ownsRow base 9 1 us[i] (C i).length (vs (C i))
  far : us.Pairwise Far
  off : ∀ u ∈ us, Far u b
theorem Rows.ro {base : Nat} {w : World} {b x y : Value} {us : List Value} {C : Nat → List ByteArray} (h : Rows base w b us x y C) : RO base w b us x y C :=
  ⟨h.row, fun i hi => (h.lent i hi).own, h.far, h.off⟩
theorem RO.touch {S : List Value} {base : Nat} {w w' : World} {b x y : Value} {us : List Value} {C : Nat → List ByteArray} (h : RO base w b us x y C) (ht : Touch S w w') (hf : ∀ u ∈ us, ∀ s ∈ S, Far u s) (hb : ∀ s ∈ S, Far b s) : RO base w' b us x y C :=
  ⟨ht.own h.row hb, fun i hi => ht.own (h.own i hi) (hf _ (List.getElem_mem hi)), h.far, h.off⟩
def putC (C : Nat → List ByteArray) (k : Nat) (A : ByteArray) : Nat → List ByteArray := fun i => if i = k then (C k).set 0 A else C i
theorem RO.set {base : Nat} {w : World} {b x y : Value} {us : List Value} {C : Nat → List ByteArray} (h : RO base w b us x y C) (k : Nat) (hk : k < us.length) (A : ByteArray) {g n cap : Nat} (hu : us[k] = .slice (some ⟨g, 0, none⟩) n cap) :
    RO base (w.setCell ⟨g, 0, none⟩ (.string A)) b us x y (putC C k A) ∧ w.grownBy (w.setCell ⟨g, 0, none⟩ (.string A)) (some g) := by
  have ho := h.own k hk
  rw [hu] at ho
  obtain rfl : n = (C k).length := by
    have := own_len ho
    exact this
  have hst := ho.stored 0 (.string A)
  have hn : us[k].ownBlock = some g := by rw [hu]; rfl
  have ht : Touch [us[k]] w (w.setCell ⟨g, 0, none⟩ (.string A)) := Touch.grown (v := us[k]) (by rw [hn]; exact hst.2) (by simp)
  refine ⟨⟨ht.own h.row fun s hs => by rw [List.mem_singleton.1 hs]; exact (h.off _ (List.getElem_mem hk)).symm, fun i hi => ?_, h.far, h.off⟩, hst.2⟩
  unfold putC
  by_cases e : i = k
  · subst e
    rw [if_pos rfl, List.length_set, hu]
    have e2 : vs ((C i).set 0 A) = (vs (C i)).set 0 (.string A) := by unfold vs; rw [List.map_set]
    rw [e2]
    exact hst.1
  · rw [if_neg e]
    refine ht.own (h.own i hi) fun s hs => ?_
    rw [List.mem_singleton.1 hs]
    rcases Nat.lt_or_gt_of_ne e with hlt | hgt
    · exact List.pairwise_iff_getElem.1 h.far i k hi hk hlt
    · exact (List.pairwise_iff_getElem.1 h.far k i hk hi hgt).symm
theorem RO.grid {base B cb n : Nat} {w : World} {x y : Value} {us : List Value} {C : Nat → List ByteArray} (h : RO base w (.slice (some ⟨B, 0, none⟩) (n + 2) cb) us x y C) (hn : us.length = n) :
    Grid w (.slice (some ⟨B, 0, none⟩) n cb) (fun i => us.getD i undef) C n := by
  have e : (List.range n).map (fun i => us.getD i undef) = us := by
    apply List.ext_getElem
    · simp [hn]
    · intro i h1 h2
      simp [List.getD_eq_getElem?_getD, List.getElem?_eq_getElem h2]
  have hrow := h.row
  rw [hn] at hrow
  refine ⟨?_, fun i hi => ?_⟩
  · rw [e]
    have hr := (Rd.of_own hrow)
    have := hr.take n (by omega)
    rwa [List.take_left' hn] at this
  · have : us.getD i undef = us[i] := by simp [List.getD_eq_getElem?_getD, List.getElem?_eq_getElem (show i < us.length by omega)]
    rw [this]
    exact Rd.of_own (h.own i (by omega))
theorem vb_set (L : List UInt8) (i : Nat) (z : Int) (h1 : 0 ≤ z) (h2 : z ≤ 255) : (vb L).set i (.int .u8 z) = vb (L.set i (UInt8.ofNat z.toNat)) := by
  unfold vb
  rw [List.map_set]
  congr 2
  simp; omega
/-- what the two loops keep -/
structure HI (w : World) (B1 B2 n : Nat) (p b bvv rvv x y : Value) (us : List Value) (wr : World) (L : List UInt8) (C : Nat → List ByteArray) : Prop where
  op : wr.ownsRow B1 5 1 p (n + 300) (vb L)
  hL : L.length = n + 300
  ro : RO B2 wr b us x y C
  c3 : wr.cell? ⟨w.heap.size, 3, none⟩ = some bvv
  c6 : wr.cell? ⟨w.heap.size, 6, none⟩ = some rvv
  hb : Below w.heap.size w wr
theorem RO.lt {base : Nat} {w : World} {b x y : Value} {us : List Value} {C : Nat → List ByteArray} (h : RO base w b us x y C) : ∀ u ∈ us, ∀ k, u.ownBlock = some k → base ≤ k := by
  intro u hu k hk
  obtain ⟨i, hi, rfl⟩ := List.getElem_of_mem hu
  exact ((h.own i hi).lt k hk).1
theorem HI.setp {w wr : World} {B1 B2 n g pc k : Nat} {b bvv rvv x y : Value} {us : List Value} {L : List UInt8} {C : Nat → List ByteArray} (h : HI w B1 B2 n (.slice (some ⟨g, 0, none⟩) (n + 300) pc) b bvv rvv x y us wr L C) (z : Int) (h1 : 0 ≤ z) (h2 : z ≤ 255) (hg : g < B2) (hB : w.heap.size < B1) :
    HI w B1 B2 n (.slice (some ⟨g, 0, none⟩) (n + 300) pc) b bvv rvv x y us (wr.setCell ⟨g, k, none⟩ (.int .u8 z)) (L.set k (UInt8.ofNat z.toNat)) C := by
  have hst := h.op.stored k (.int .u8 z)
  rw [vb_set L k z h1 h2] at hst
  have hgB : B1 ≤ g := (h.op.lt g rfl).1
  have ht : Touch [.slice (some ⟨g, 0, none⟩) (n + 300) pc] wr (wr.setCell ⟨g, k, none⟩ (.int .u8 z)) := Touch.grown (v := .slice (some ⟨g, 0, none⟩) (n + 300) pc) hst.2 (by simp)
  have hfar : ∀ v : Value, (∀ k, v.ownBlock = some k → B2 ≤ k) → ∀ s ∈ [Value.slice (some ⟨g, 0, none⟩) (n + 300) pc], Far v s := fun v hv s hs k k1 k2 => by
    rw [List.mem_singleton.1 hs] at k2; simp only [Value.ownBlock, Option.some.injEq] at k2; have := hv k k1; omega
  have hc : ∀ v ∈ [Value.slice (some ⟨g, 0, none⟩) (n + 300) pc], v.ownBlock ≠ some w.heap.size := fun v hv e => by rw [List.mem_singleton.1 hv] at e; simp only [Value.ownBlock, Option.some.injEq] at e; omega
  exact ⟨hst.1, by rw [List.length_set]; exact h.hL, h.ro.touch ht (fun u hu => hfar u (h.ro.lt u hu)) (hfar b fun k hk => (h.ro.row.lt k hk).1), ht.cell h.c3 hc, ht.cell h.c6 hc, h.hb.grown hst.2 h.hb.size (by intro k hk; simp at hk; omega)⟩
theorem HI.setr {w wr : World} {B1 B2 n g m cap pc k : Nat} {po : Option Addr} {b bvv rvv x y : Value} {us : List Value} {L : List UInt8} {C : Nat → List ByteArray} (h : HI w B1 B2 n (.slice po (n + 300) pc) b bvv rvv x y us wr L C) (A : ByteArray) (hk : k < us.length) (hu : us[k] = .slice (some ⟨g, 0, none⟩) m cap) (hp : ∀ k, Value.ownBlock (.slice po (n + 300) pc) = some k → k < B2) (hB : w.heap.size < B2) :
    HI w B1 B2 n (.slice po (n + 300) pc) b bvv rvv x y us (wr.setCell ⟨g, 0, none⟩ (.string A)) L (putC C k A) := by
  have hst := h.ro.set k hk A hu
  have hgB : B2 ≤ g := h.ro.lt us[k] (List.getElem_mem hk) g (by rw [hu]; rfl)
  have ht : Touch [.slice (some ⟨g, 0, none⟩) m cap] wr (wr.setCell ⟨g, 0, none⟩ (.string A)) := Touch.grown (v := .slice (some ⟨g, 0, none⟩) m cap) hst.2 (by simp)
  have hc : ∀ v ∈ [Value.slice (some ⟨g, 0, none⟩) m cap], v.ownBlock ≠ some w.heap.size := fun v hv e => by rw [List.mem_singleton.1 hv] at e; simp only [Value.ownBlock, Option.some.injEq] at e; omega
  exact ⟨ht.own h.op fun s hs k k1 k2 => by rw [List.mem_singleton.1 hs] at k2; simp only [Value.ownBlock, Option.some.injEq] at k2; have := hp k k1; omega, h.hL, hst.1, ht.cell h.c3 hc, ht.cell h.c6 hc, h.hb.grown hst.2 h.hb.size (by intro k hk; simp at hk; omega)⟩
theorem HI.later {w wr wn : World} {B1 B2 n : Nat} {p b bvv rvv x y : Value} {us : List Value} {L : List UInt8} {C : Nat → List ByteArray} (h : HI w B1 B2 n p b bvv rvv x y us wr L C) (hb : Below wr.heap.size wr wn) : HI w B1 B2 n p b bvv rvv x y us wn L C :=
  ⟨own_below h.op hb, h.hL, h.ro.touch (Touch.of_below (S := []) hb) (by simp) (by simp), (hb.cell (World.block_lt_of_cell? _ _ h.c3)).trans h.c3, (hb.cell (World.block_lt_of_cell? _ _ h.c6)).trans h.c6, h.hb.trans (hb.mono h.hb.size)⟩
set_option maxRecDepth 100000 in
set_option maxHeartbeats 8000000 in
theorem handed_any (d : OpD) (w : World) (hO : OpIn w d.S d.bv d.B d.u d.z d.rv d.V d.C d.n) :
    Calls Tryd.prog 15 #[.agg (opV d.k d.S d.pad d.bv d.u d.z d.rv)] w fun e w' => e = .returned (.bool true) ∧ Below w.heap.size w w' := by
  obtain ⟨dk, dS, dpad, dbv, dB, du, dz, drv, dV, dC, dn⟩ := d
  dsimp only at hO ⊢
  obtain ⟨hS, hBb, hBl, hu, hz0, hz1, hG, hn, hsum, hlen⟩ := hO
  obtain ⟨ao, co, rfl, _, _, _⟩ := id hBb
  obtain ⟨ag, cg, rfl, _, _, hg3⟩ := hG.form
  rw [length_vb] at hBb ⊢
  clear hg3
  unfold opV
  generalize hxu : (du : Int) = xu at *
  replace hBb := Lib.hid hBb; replace hG := Lib.hid hG; replace hlen := Lib.hid hlen; replace hsum := Lib.hid hsum
  go_enter Tryd.func15, Tryd.ntmps15
  go_upto_region 1 with fail
  obtain ⟨w1, hw1⟩ : ∃ w1, w.alloc (Obj.cells #[Value.int IntKind.i64 dk, Value.string dS, Value.int IntKind.i64 dpad, Value.slice ao dB.length co, Value.int IntKind.u32 xu, Value.int IntKind.i32 dz, Value.slice ag dn cg] 54) = w1 := ⟨_, rfl⟩
  have x3 : w1.cell? ⟨w.heap.size, 3, none⟩ = some (.slice ao dB.length co) := by rw [← hw1]; exact lit_new rfl rfl
  have x6 : w1.cell? ⟨w.heap.size, 6, none⟩ = some (.slice ag dn cg) := by rw [← hw1]; exact lit_new rfl rfl
  have hb1 : Below w.heap.size w w1 := by rw [← hw1]; exact (Below.refl _ _).alloc (Nat.le_refl _) _
  have s1 : w.heap.size < w1.heap.size := by rw [← hw1]; simp
  have cls : ∀ W, Below w1.heap.size w1 W → W.cell? ⟨w.heap.size, 3, none⟩ = some (.slice ao dB.length co) ∧ W.cell? ⟨w.heap.size, 6, none⟩ = some (.slice ag dn cg) := fun W hW => ⟨(hW.cell (p := ⟨w.heap.size, 3, none⟩) s1).trans x3, (hW.cell (p := ⟨w.heap.size, 6, none⟩) s1).trans x6⟩
  have rdB : ∀ W, Below w1.heap.size w1 W → Rd W (.slice ao dB.length co) (vb dB) := fun W hW => (hBb.out.mono hb1).mono hW
  have grd : ∀ W, Below w1.heap.size w1 W → Grid W (.slice ag dn cg) dV dC dn := fun W hW => (hG.out.later hb1).later hW
  rw [hw1]
  clear hw1 hBb hG
  replace cls := Lib.hid cls; replace rdB := Lib.hid rdB; replace grd := Lib.hid grd; replace hb1 := Lib.hid hb1
  go_wp2_with fail
  refine (lent_any _ dB _ (rdB.out _ (Below.refl _ _)) (by omega)).mono ?_
  rintro e w2 ⟨pv, rfl, op2, b2⟩
  have hB2 := Lib.hid b2
  obtain ⟨y3, y6⟩ := cls.out _ b2
  have s2 := b2.size
  obtain ⟨po, pc, rfl, pc1, pc2⟩ := own_shape op2
  replace op2 := Lib.hid op2
  clear x3 x6 b2
  go_wp2_with fail
  refine (rows_any _ dV dC dn _ (grd.out _ hB2.out) hn (fun i hi => (hlen.out i hi).1)).mono ?_
  rintro e w3 ⟨bv, us, rx, ry, rfl, hus, hRw, b3⟩
  have s3 := b3.size
  have hB3 := Lib.hid (hB2.out.trans (b3.mono s2))
  obtain ⟨z3, z6⟩ := cls.out _ hB3.out
  have op3 := Lib.hid (own_below op2.out b3)
  obtain ⟨ob, cb, rfl, cb1, cb2⟩ := own_shape hRw.row
  rw [hus] at cb1
  obtain ⟨Bb, _, hv, hBb1, hBb2⟩ := hRw.row.form (by omega)
  simp only [Value.slice.injEq, true_and] at hv
  obtain ⟨rfl, rfl⟩ := hv
  have hpl : ∀ k, Value.ownBlock (.slice po (dB.length + 300) pc) = some k → k < w2.heap.size := fun k hk => (op2.out.lt k hk).2
  replace hpl := Lib.hid hpl
  replace hus := Lib.hid hus
  rw [hus.out] at hRw ⊢
  replace hRw := Lib.hid hRw
  clear y3 y6 b3 op2 hB2
  have c1 : (dB.length : Int) ≤ (pc : Int) := by omega
  have c2 : (dn : Int) ≤ (cb : Int) := by omega
  have p0 : (0 : Int) ≤ (dB.length : Int) := by omega
  have p1 : (0 : Int) ≤ (dn : Int) := by omega
  have rp3 : Rd w3 (.slice po dB.length pc) (vb dB) := by
    have := (Rd.of_own op3.out).take dB.length (by omega)
    rwa [rawL_vb_take] at this
  have gr3 := hRw.out.grid hus.out
  replace rp3 := Lib.hid rp3; replace gr3 := Lib.hid gr3
  go_wp2_with fail
  refine (quote_any _ dB _ rp3.out (by omega)).mono ?_
  rintro e w4 ⟨rfl, b4⟩
  have s4 := b4.size
  have hB4 := Lib.hid (hB3.out.trans (b4.mono (by omega)))
  obtain ⟨y3, y6⟩ := cls.out _ hB4.out
  have op4 := Lib.hid (own_below op3.out b4)
  have hRw4 := Lib.hid (hRw.out.later b4)
  have gr4 := Lib.hid (gr3.out.later b4)
  clear z3 z6 b4 op3 hRw gr3 rp3 hB3
  go_wp2_with fail
  refine (columnsG_any _ _ dC dn _ gr4.out 1048576 1048576 hsum.out hn (fun i hi => ⟨(hlen.out i hi).1, fun j _ => (hlen.out i hi).2 j⟩) (by decide) (by decide)).mono ?_
  rintro e w5 ⟨rfl, b5⟩
  have s5 := b5.size
  have hB5 := hB4.out.trans (b5.mono (by omega))
  obtain ⟨z3, z6⟩ := cls.out _ hB5
  have op5 := own_below op4.out b5
  have hRw5 := hRw4.out.later b5
  have hB : Below w5.heap.size w5 w5 := Below.refl _ _
  have hSof : ∀ W, Below w5.heap.size w5 W → W.cell? ⟨w.heap.size, 3, none⟩ = some (.slice ao dB.length co) ∧ W.cell? ⟨w.heap.size, 6, none⟩ = some (.slice ag dn cg) := fun W hW => cls.out _ (hB5.trans (hW.mono (by omega)))
  have rdB5 : ∀ W, Below w5.heap.size w5 W → Rd W (.slice ao dB.length co) (vb dB) := fun W hW => rdB.out _ (hB5.trans (hW.mono (by omega)))
  have grd5 : ∀ W, Below w5.heap.size w5 W → Grid W (.slice ag dn cg) dV dC dn := fun W hW => grd.out _ (hB5.trans (hW.mono (by omega)))
  have rp5 : ∀ W, Below w5.heap.size w5 W → Rd W (.slice po (dB.length + 300) pc) (vb (rawL dB 300)) := fun W hW => by
    have h := (Rd.of_own op5).mono hW
    exact h
  have hRw6 : ∀ W, Below w5.heap.size w5 W → Rows w2.heap.size W (.slice (some ⟨Bb, 0, none⟩) (dn + 2) cb) us rx ry dC := fun W hW => hRw5.later hW
  replace hB5 := Lib.hid hB5; replace op5 := Lib.hid op5; replace hRw5 := Lib.hid hRw5; replace hSof := Lib.hid hSof; replace rdB5 := Lib.hid rdB5; replace grd5 := Lib.hid grd5; replace rp5 := Lib.hid rp5; replace hRw6 := Lib.hid hRw6
  clear y3 y6 b5 op4 hRw4 gr4 hB4
  have sb : w5.heap.size ≤ w5.heap.size := Nat.le_refl _
  go_upto_region 5 with fail
  go_cut [54] from 27 to 54 (fun c wx => c = .bool false ∧ Below w5.heap.size w5 wx)
  case first =>
    have hcv1 := conv_bytes (P := Tryd.prog) (rp5.out _ (Below.refl _ _)) 24 5 9 Tryd.underlying24 Tryd.underlying5 Tryd.underlying9
    go_region_with (first
        | (go_at_call 39
           refine (rquote_any _ dB _ (rdB5.out _ (by first | with_reducible exact hB | with_reducible exact hB.drew)) (by omega)).mono ?_
           rintro e w6 ⟨rfl, b6⟩
           replace hB : Below w5.heap.size w5 w6 := Below.trans (by first | with_reducible exact hB | with_reducible exact hB.drew) (b6.mono (by first | omega | (simp; done) | (simp; omega)))
           have sb := hB.size
           obtain ⟨z3, z6⟩ := hSof.out _ hB
           clear b6)
        | (go_at_call 40
           refine (rcolumns_any _ dV dC dn _ (grd5.out _ (by first | with_reducible exact hB | with_reducible exact hB.drew)) 1048576 1048576 hsum.out hn (fun i hi => ⟨(hlen.out i hi).1, fun j => (hlen.out i hi).2 j⟩) (by decide) (by decide)).mono ?_
           rintro e w7 ⟨rfl, b7⟩
           replace hB : Below w5.heap.size w5 w7 := Below.trans (by first | with_reducible exact hB | with_reducible exact hB.drew) (b7.mono (by first | omega | (simp; done) | (simp; omega)))
           have sb := hB.size
           obtain ⟨z3, z6⟩ := hSof.out _ hB
           have hcv1 := conv_bytes (P := Tryd.prog) (rp5.out _ hB) 24 5 9 Tryd.underlying24 Tryd.underlying5 Tryd.underlying9
           clear b7)
        | (go_at_call 37
           refine (lent_any _ dB _ (rdB5.out _ (by first | with_reducible exact hB | with_reducible exact hB.drew)) (by omega)).mono ?_
           rintro e w8 ⟨lv, rfl, ol, b8⟩
           replace hB : Below w5.heap.size w5 w8 := Below.trans (by first | with_reducible exact hB | with_reducible exact hB.drew) (b8.mono (by first | omega | (simp; done) | (simp; omega)))
           have sb := hB.size
           obtain ⟨z3, z6⟩ := hSof.out _ hB
           have hcv1 := conv_bytes (P := Tryd.prog) (rp5.out _ hB) 24 5 9 Tryd.underlying24 Tryd.underlying5 Tryd.underlying9
           have hcv2 := conv_bytes (P := Tryd.prog) (Rd.of_own ol) 24 5 9 Tryd.underlying24 Tryd.underlying5 Tryd.underlying9
           obtain ⟨lo, lc, rfl, _, _⟩ := own_shape ol
           clear b8 ol)
        | (go_at_call 41
           refine (unchanged_any _ _ rx ry us dV dC dn w2.heap.size _ (hRw6.out _ (by first | with_reducible exact hB | with_reducible exact hB.drew)) hus.out (grd5.out _ (by first | with_reducible exact hB | with_reducible exact hB.drew)) (fun i hi => (hlen.out i hi).1) hn).mono ?_
           rintro e w9 ⟨rfl, b9⟩
           replace hB : Below w5.heap.size w5 w9 := Below.trans (by first | with_reducible exact hB | with_reducible exact hB.drew) (b9.mono (by first | omega | (simp; done) | (simp; omega)))
           have sb := hB.size
           obtain ⟨z3, z6⟩ := hSof.out _ hB
           clear b9)
        | fail)
    all_goals
      go_wp2_with fail
      go_meet
      case rel => exact ⟨rfl, hB⟩
  case rest =>
    obtain ⟨rfl, hBc⟩ := hcut
    have hI : HI w w1.heap.size w2.heap.size dB.length (.slice po (dB.length + 300) pc) (.slice (some ⟨Bb, 0, none⟩) (dn + 2) cb) (.slice ao dB.length co) (.slice ag dn cg) rx ry us wc (rawL dB 300) dC :=
      HI.later (wr := w5) ⟨op5.out, by rw [rawL_len], hRw5.out.ro, z3, z6, hb1.out.trans (hB5.out.mono (by omega))⟩ hBc
    clear hSof rdB5 grd5 rp5 hRw6 hB z3 z6 cls rdB grd hBc op5 hRw5
    replace hI := Lib.hid hI
    go_wp2_with fail
    go_loopw [7] (fun j wr => ∃ (k : Nat) (L : List UInt8), j = .int .i64 k ∧ k ≤ dB.length + 4 ∧ HI w w1.heap.size w2.heap.size dB.length (.slice po (dB.length + 300) pc) (.slice (some ⟨Bb, 0, none⟩) (dn + 2) cb) (.slice ao dB.length co) (.slice ag dn cg) rx ry us wr L dC) (fun j _ => dB.length + 5 - (intOf j).toNat)
    case atStart => exact ⟨0, _, rfl, by omega, hI.out⟩
    case round =>
      obtain ⟨k, L, rfl, hk, hJ⟩ := hrel
      have c3 := hJ.c3
      have c6 := hJ.c6
      by_cases hlt : k < dB.length
      · obtain ⟨g, _, hv, g1, g2⟩ := hJ.op.form (by omega)
        simp only [Value.slice.injEq, true_and] at hv
        obtain ⟨rfl, rfl⟩ := hv
        have hcq := (hJ.op.cellAt k (by omega)).trans (vb_get L k (by have := hJ.hL; omega))
        have hfq := hJ.op.frozenAt k
        have hgB := hpl.out g rfl
        obtain ⟨q1, q2⟩ := bAt_bd L k
        obtain ⟨bb, hbb⟩ : ∃ bb, bAt L k = bb := ⟨_, rfl⟩
        rw [hbb] at hcq q1 q2
        have d1 : decide ((k : Int) < (dB.length : Int)) = true := decide_eq_true (by omega)
        have i1 : (0 : Int) ≤ (k : Int) := by omega
        have i2 : (k : Int) < (dB.length : Int) + 300 := by omega
        replace hJ := Lib.hid hJ
        go_wp2_with fail
        have z1 := bits_lo_u8 .xor bb 1
        have z2 := bits_hi_u8 .xor bb 1
        exact ⟨⟨k + 5, _, by simp, by omega, hJ.out.setp _ z1 z2 hgB (by omega)⟩, by simp [intOf]; omega⟩
      · have d1 : decide ((k : Int) < (dB.length : Int)) = false := decide_eq_false (by omega)
        replace hJ := Lib.hid hJ
        go_wp2_with fail
        go_loopw [8] (fun j wr => ∃ (i : Nat) (C : Nat → List ByteArray), j = .int .i64 i ∧ i ≤ dn ∧ (∀ i, i < dn → (C i).length = (dC i).length ∧ ∀ j, (nthB (C i) j).size ≤ 1048576) ∧ HI w w1.heap.size w2.heap.size dB.length (.slice po (dB.length + 300) pc) (.slice (some ⟨Bb, 0, none⟩) (dn + 2) cb) (.slice ao dB.length co) (.slice ag dn cg) rx ry us wr L C) (fun j _ => dn - (intOf j).toNat)
        case atStart => exact ⟨0, dC, rfl, by omega, fun i hi => ⟨rfl, (hlen.out i hi).2⟩, hJ.out⟩
        case round =>
          obtain ⟨i, C, rfl, hi, hC, hK⟩ := hrel
          have c3 := hK.c3
          have c6 := hK.c6
          replace hJ := Lib.hid hJ
          replace hC := Lib.hid hC
          by_cases hli : i < dn
          · have hil : i < us.length := by rw [hus.out]; exact hli
            have hrw := hK.ro.row
            rw [hus.out] at hrw
            have hci := (hrw.cellAt i (by omega)).trans (show (us ++ [rx, ry])[i]? = some us[i] by rw [List.getElem?_append_left hil, List.getElem?_eq_getElem hil])
            have hoi := hK.ro.own i hil
            obtain ⟨oi, ci, hui, e1, e2⟩ := own_shape hoi
            have hll := (hC.out i hli).1
            have d2 : decide ((i : Int) < (dn : Int)) = true := decide_eq_true (by omega)
            have i1 : (0 : Int) ≤ (i : Int) := by omega
            have i2 : (i : Int) < (dn : Int) + 2 := by omega
            rw [hui] at hci
            by_cases hz : (C i).length = 0
            · rw [hz] at hci e1
              replace hK := Lib.hid hK; replace hoi := Lib.hid hoi
              go_wp2_with fail
              exact ⟨⟨i + 1, C, by simp, by omega, hC.out, hK.out⟩, by simp [intOf]; omega⟩
            · obtain ⟨g, cg', hv, g1, g2⟩ := hoi.form (by omega)
              rw [hui] at hv
              simp only [Value.slice.injEq, true_and] at hv
              obtain ⟨rfl, rfl⟩ := hv
              rw [hui] at hoi
              have hcq := (hoi.cellAt 0 (by omega)).trans (vs_get (C i) 0 (by omega))
              have hfq := hoi.frozenAt 0
              have d3 : decide ((0 : Int) < ((C i).length : Int)) = true := decide_eq_true (by omega)
              have hfin := hK.setr ⟨#[97, 110, 111, 116, 104, 101, 114]⟩ hil hui hpl.out (by omega)
              have i3 : (0 : Int) < ((C i).length : Int) := by omega
              have hbd : ∀ t, t < dn → (putC C i ⟨#[97, 110, 111, 116, 104, 101, 114]⟩ t).length = (dC t).length ∧ ∀ j, (nthB (putC C i ⟨#[97, 110, 111, 116, 104, 101, 114]⟩ t) j).size ≤ 1048576 := fun t ht => by
                unfold putC
                by_cases e : t = i
                · subst e
                  rw [if_pos rfl, List.length_set]
                  refine ⟨hll, fun j => ?_⟩
                  unfold nthB
                  rw [List.getD_eq_getElem?_getD, List.getElem?_set]
                  by_cases e0 : 0 = j
                  · rw [if_pos e0, if_pos (by omega)]; show ByteArray.size _ ≤ _; decide
                  · rw [if_neg e0]
                    have := (hC.out t ht).2 j
                    unfold nthB at this
                    rw [List.getD_eq_getElem?_getD] at this
                    exact this
                · rw [if_neg e]; exact hC.out t ht
              obtain ⟨nl, hnl⟩ : ∃ nl, (C i).length = nl := ⟨_, rfl⟩
              rw [hnl] at hci d3 e1 i3
              obtain ⟨S0, hS0⟩ : ∃ S0, nthB (C i) 0 = S0 := ⟨_, rfl⟩
              rw [hS0] at hcq
              replace hK := Lib.hid hK; replace hoi := Lib.hid hoi; replace hfin := Lib.hid hfin; replace hbd := Lib.hid hbd
              clear hll hz hnl hui
              go_wp2_with fail
              exact ⟨⟨i + 1, _, by simp, by omega, hbd.out, hfin.out⟩, by simp [intOf]; omega⟩
          · obtain rfl : i = dn := by omega
            have d2 : decide ((i : Int) < (i : Int)) = false := decide_eq_false (by omega)
            have hI2 := hK
            have hll : L.length = dB.length + 300 := hK.hL
            have htk : (L.take dB.length).length = dB.length := by rw [List.length_take]; omega
            have hrp : ∀ W, Below wr.heap.size wr W → Rd W (.slice po dB.length pc) (vb (L.take dB.length)) := fun W hW => by
              have h := ((Rd.of_own hK.op).take dB.length (by omega)).mono hW
              have e : (vb L).take dB.length = vb (L.take dB.length) := by unfold vb; rw [List.map_take]
              rw [e] at h; exact h
            have hgr : ∀ W, Below wr.heap.size wr W → Grid W (.slice (some ⟨Bb, 0, none⟩) i cb) (fun i => us.getD i undef) C i := fun W hW => (hK.ro.grid hus.out).later hW
            have hsm : ((List.range i).map fun t => (C t).length).sum ≤ 1048576 := by
              have e : ((List.range i).map fun t => (C t).length) = (List.range i).map fun t => (dC t).length := List.map_congr_left fun t ht => (hC.out t (List.mem_range.1 ht)).1
              rw [e]; exact hsum.out
            have hln : ∀ t, t < i → (C t).length ≤ 1048576 ∧ ∀ j, (nthB (C t) j).size ≤ 1048576 := fun t ht => ⟨by rw [(hC.out t ht).1]; exact (hlen.out t ht).1, (hC.out t ht).2⟩
            have hSof : ∀ W, Below wr.heap.size wr W → W.cell? ⟨w.heap.size, 3, none⟩ = some (.slice ao dB.length co) ∧ W.cell? ⟨w.heap.size, 6, none⟩ = some (.slice ag i cg) := fun W hW =>
              ⟨(hW.cell (World.block_lt_of_cell? _ _ c3)).trans c3, (hW.cell (World.block_lt_of_cell? _ _ c6)).trans c6⟩
            have hB : Below wr.heap.size wr wr := Below.refl _ _
            have sb : wr.heap.size ≤ wr.heap.size := Nat.le_refl _
            have hbw := hK.hb
            have sbw := hbw.size
            replace hbw := Lib.hid hbw
            replace hK := Lib.hid hK; replace hrp := Lib.hid hrp; replace hgr := Lib.hid hgr; replace hSof := Lib.hid hSof; replace hsm := Lib.hid hsm; replace hln := Lib.hid hln; replace htk := Lib.hid htk; replace hll := Lib.hid hll
            clear hI2
            go_upto_region 16 with fail
            go_region_held3 (fun w' => w'.cell? ⟨w.heap.size, 3, none⟩ = some (.slice ao dB.length co) ∧ w'.cell? ⟨w.heap.size, 6, none⟩ = some (.slice ag i cg))
              (exact hSof.out _ (by first | with_reducible exact hB | with_reducible exact hB.drew))
              (first
              | (go_at_call 9
                 refine (quote_any _ (L.take dB.length) _ (hrp.out _ (by first | with_reducible exact hB | with_reducible exact hB.drew)) (by rw [htk.out]; omega)).mono ?_
                 rintro e w11 ⟨rfl, bx⟩
                 replace hB : Below wr.heap.size wr w11 := Below.trans (by first | with_reducible exact hB | with_reducible exact hB.drew) (bx.mono (by first | omega | (simp; done) | (simp; omega)))
                 have sb := hB.size
                 clear bx)
              | (go_at_call 39
                 refine (rquote_any _ (L.take dB.length) _ (hrp.out _ (by first | with_reducible exact hB | with_reducible exact hB.drew)) (by rw [htk.out]; omega)).mono ?_
                 rintro e w12 ⟨rfl, bx⟩
                 replace hB : Below wr.heap.size wr w12 := Below.trans (by first | with_reducible exact hB | with_reducible exact hB.drew) (bx.mono (by first | omega | (simp; done) | (simp; omega)))
                 have sb := hB.size
                 clear bx)
              | (go_at_call 13
                 refine (columnsG_any _ _ C i _ (hgr.out _ (by first | with_reducible exact hB | with_reducible exact hB.drew)) 1048576 1048576 hsm.out hn (fun t ht => ⟨(hln.out t ht).1, fun j _ => (hln.out t ht).2 j⟩) (by decide) (by decide)).mono ?_
                 rintro e w13 ⟨rfl, bx⟩
                 replace hB : Below wr.heap.size wr w13 := Below.trans (by first | with_reducible exact hB | with_reducible exact hB.drew) (bx.mono (by first | omega | (simp; done) | (simp; omega)))
                 have sb := hB.size
                 clear bx)
              | (go_at_call 40
                 refine (rcolumns_any _ _ C i _ (hgr.out _ (by first | with_reducible exact hB | with_reducible exact hB.drew)) 1048576 1048576 hsm.out hn (fun t ht => ⟨(hln.out t ht).1, fun j => (hln.out t ht).2 j⟩) (by decide) (by decide)).mono ?_
                 rintro e w14 ⟨rfl, bx⟩
                 replace hB : Below wr.heap.size wr w14 := Below.trans (by first | with_reducible exact hB | with_reducible exact hB.drew) (bx.mono (by first | omega | (simp; done) | (simp; omega)))
                 have sb := hB.size
                 clear bx)
              | fail)
            all_goals
              go_wp2_with fail
              go_ret
              exact ⟨rfl, hbw.out.trans (hB.mono sbw)⟩
end Go.Proofs.YtefbogmgcihndaaDoor
