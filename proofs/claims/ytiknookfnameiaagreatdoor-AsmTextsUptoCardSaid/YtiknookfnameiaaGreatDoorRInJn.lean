/- The contract of the document's instruction: the piece of an instruction's statement. -/
import Derived.Test.YtiknookfnameiaaGreatDoorJn25
namespace Go.Proofs.YtiknookfnameiaaGreatDoor
open Go.RowKit WP
set_option linter.unusedSimpArgs false
set_option linter.unusedVariables false
theorem pie_ones (nm : ByteArray) (ln col : Nat) : (#[Value.int .i64 0, .int .i64 0, .int .i64 0, .int .i64 0, .int .u32 0, .string nm, .int .i64 (ln : Int), .int .i64 (col : Int)]).all (·.oneCell') = true := by simp [Value.oneCell']
set_option maxRecDepth 100000 in
set_option maxHeartbeats 4000000 in
theorem rinstr_any (op : Nat) (v : Value) (ws : List W) (ln : Nat) (w : World) (hT : RTabs w) (ho : 1 ≤ op ∧ op < 25) (hv : RWs w v ws) (hz : ∀ x ∈ ws, x.1.size ≤ 140737488355328) :
  Calls Tryz.prog 97 #[.int .i64 op, v, .int .i64 ln] w fun e w' => RInsRes w w' e (rinstrF op ws ln) := by
 rw [rinstr_P]
 obtain ⟨R, hR⟩ : ∃ R, rfieldsF (shapeI op) ws 0 ({ ins0 with op := op }, eB, 0) = R := ⟨_, rfl⟩
 rw [hR]
 have hsh := fun W hW => rshape_any (op : Int) W hW
 have hlet := shape_let op
 have hlen := shape_len (op : Int)
 have hfd := fun i c s W hs hW hc => rfield_any i c s W hs hW hc
 have hen := fun i W hW ho ha hb hc hk hm => rencode_any i W hW ho ha hb hc hk hm
 obtain ⟨L, hL⟩ : ∃ L, shapeI (op : Int) = L := ⟨_, rfl⟩
 rw [hL] at hR hsh hlet hlen
 clear hL
 obtain ⟨n, hn⟩ : ∃ n, ws.length = n := ⟨_, rfl⟩
 have hvv := hv
 obtain ⟨ao, cap, rfl, hc1, hc2, hcx⟩ := hvv
 clear hcx
 rw [hn] at hc1 hv ⊢
 have hsz : (strS L).size = L.length := by simp [strS, ByteArray.size]
 replace hR := Lib.hid hR; replace hsh := Lib.hid hsh; replace hlet := Lib.hid hlet; replace hfd := Lib.hid hfd; replace hen := Lib.hid hen; replace hv := Lib.hid hv; replace hz := Lib.hid hz; replace hT := Lib.hid hT; replace hn := Lib.hid hn
 go_enter Tryz.func97, Tryz.ntmps97
 go_upto_region 2 with fail
 obtain ⟨w1, hw1, b1, q0, q1, hs1⟩ := two_blocks w pieZ #[.int .i64 (op : Int), .int .i64 0, .int .i64 0, .int .i64 0, .int .i64 0, .int .i64 0] 125 128
 rw [hw1]
 clear hw1
 have hT1 := hT.out.later b1
 replace b1 := Lib.hid b1; replace q0 := Lib.hid q0; replace q1 := Lib.hid q1; replace hT1 := Lib.hid hT1
 go_wp2_with fail
 refine (hsh.out _ hT1.out).mono ?_
 rintro e wq ⟨rfl, hwq⟩
 obtain rfl := hwq.symm
 clear hsh hT1
 go_upto_region 4 with fail
 obtain ⟨w2, hw2⟩ : ∃ w2, w1.alloc (.cells #[.int .i64 0, .int .i64 0, .int .i64 0, .int .i64 0, .int .u32 0, .string ⟨#[]⟩, .int .i64 (ln : Int), .int .i64 0] 125) = w2 := ⟨_, rfl⟩
 have p2 : w2.heap[w.heap.size + 2]? = some (.cells (pieA ⟨0, 0, 0, 0, 0, eB, ln, 0⟩) 125 (0, 0)) := by
  rw [← hw2, ← hs1]; exact heap_alloc_new w1 _
 have b2 : Below w.heap.size w w2 := by rw [← hw2]; exact b1.out.alloc b1.out.size _
 have p0 : w2.heap[w.heap.size]? = some (.cells pieZ 125 (0, 0)) := by rw [← hw2, Below.heap_alloc _ _ _ (by omega)]; exact q0.out
 have p1 : w2.heap[w.heap.size + 1]? = some (.cells (rinsC { ins0 with op := op }) 128 (0, 0)) := by rw [← hw2, Below.heap_alloc _ _ _ (by omega)]; exact q1.out
 have hs2 : w2.heap.size = w.heap.size + 3 := by rw [← hw2]; simp [hs1]
 rw [hw2]
 clear hw2 q0 q1 b1 hs1
 replace b2 := Lib.hid b2; replace p0 := Lib.hid p0; replace p1 := Lib.hid p1; replace p2 := Lib.hid p2; replace hs2 := Lib.hid hs2
 go_wp2_with fail
 go_loopw [11] (fun kv wr => ∃ (k : Nat) (i : Ins) (nm : ByteArray) (col : Nat), k ≤ L.length ∧ kv = .int .i64 (k : Int) ∧ wr.heap[w.heap.size]? = some (.cells pieZ 125 (0, 0)) ∧ wr.heap[w.heap.size + 1]? = some (.cells (rinsC i) 128 (0, 0)) ∧ wr.heap[w.heap.size + 2]? = some (.cells (pieA ⟨0, 0, 0, 0, 0, nm, ln, col⟩) 125 (0, 0)) ∧ Below w.heap.size w wr ∧ rfieldsF (L.drop k) (ws.drop k) k (i, nm, col) = R ∧ InsB op i ∧ (nm.size = 0 → col = 0)) (fun kv _ => L.length - (intOf kv).toNat)
 case atStart => exact ⟨0, _, eB, 0, by omega, rfl, p0.out, p1.out, p2.out, b2.out, hR.out, ⟨rfl, by simp [ins0], by simp [ins0], by simp [ins0], by simp [ins0], by simp [ins0]⟩, fun _ => rfl⟩
 case round =>
  clear p0 p1 p2 b2 hR
  obtain ⟨wv, rfl⟩ : ∃ wv, wv = wr := ⟨wr, rfl⟩
  obtain ⟨k, i, nm, col, hk, rfl, p0, p1, p2, bv, hq, hib, hnc⟩ := hrel
  replace hnc := Lib.hid hnc
  have hsv := bv.size
  by_cases hlt : k < L.length ∧ k < n
  ·obtain ⟨h1, h2⟩ := hlt
   obtain ⟨c, hc⟩ : ∃ c, L[k]? = some c := ⟨_, List.getElem?_eq_getElem h1⟩
   obtain ⟨x, hx⟩ : ∃ x, ws[k]? = some x := ⟨_, List.getElem?_eq_getElem (by rw [hn.out]; exact h2)⟩
   rw [rfields_step L ws k _ c x hc hx] at hq
   obtain ⟨b, off, cp, hsl, hc3, hc4, y0, y1, y2⟩ := (hv.out.later (bv.mono (by omega))).get k x hx
   simp only [Value.slice.injEq] at hsl
   obtain ⟨rfl, hnn, rfl⟩ := hsl
   clear hnn
   have hbw : b < w.heap.size := by
    obtain ⟨b2, off2, cp2, hsl2, _, _, z0, _, _⟩ := hv.out.get k x hx
    have hlt0 := World.block_lt_of_cell? w _ z0
    simp only [Value.slice.injEq, Option.some.injEq, Addr.mk.injEq] at hsl2
    rw [hsl2.1.1]; exact hlt0
   replace hbw := Lib.hid hbw
   obtain ⟨hk2, hg⟩ := str_at hc
   have hcl := hlet.out c (List.mem_of_getElem? hc)
   have hxs := hz.out x (List.mem_of_getElem? hx)
   have d1 : decide ((k : Int) < ((strS L).size : Int)) = true := decide_eq_true (by omega)
   have d2 : decide ((k : Int) < (n : Int)) = true := decide_eq_true (by omega)
   have i1 : (0 : Int) ≤ (k : Int) := by omega
   have i2 : (k : Int) < (n : Int) := by omega
   obtain ⟨op', k', a', b', c', m'⟩ := i
   simp only [rinsC] at p1
   have e0 : wv.cell? ⟨w.heap.size + 1, 0, none⟩ = some (.int .i64 op') := cell_of_row _ _ 0 _ _ _ p1
   have e1 : wv.cell? ⟨w.heap.size + 1, 1, none⟩ = some (.int .i64 k') := cell_of_row _ _ 1 _ _ _ p1
   have e2 : wv.cell? ⟨w.heap.size + 1, 2, none⟩ = some (.int .i64 a') := cell_of_row _ _ 2 _ _ _ p1
   have e3 : wv.cell? ⟨w.heap.size + 1, 3, none⟩ = some (.int .i64 b') := cell_of_row _ _ 3 _ _ _ p1
   have e4 : wv.cell? ⟨w.heap.size + 1, 4, none⟩ = some (.int .i64 c') := cell_of_row _ _ 4 _ _ _ p1
   have e5 : wv.cell? ⟨w.heap.size + 1, 5, none⟩ = some (.int .i64 m') := cell_of_row _ _ 5 _ _ _ p1
   have lt1 := (Array.getElem?_eq_some_iff.1 p1).1
   have lt2 := World.block_lt_of_cell? wv _ y0
   have hSx : ∀ W, Below wv.heap.size wv W → Below wv.heap.size wv W ∧ W.cell? ⟨w.heap.size + 1, 0, none⟩ = some (.int .i64 op') ∧ W.cell? ⟨w.heap.size + 1, 1, none⟩ = some (.int .i64 k') ∧ W.cell? ⟨w.heap.size + 1, 2, none⟩ = some (.int .i64 a') ∧ W.cell? ⟨w.heap.size + 1, 3, none⟩ = some (.int .i64 b') ∧ W.cell? ⟨w.heap.size + 1, 4, none⟩ = some (.int .i64 c') ∧ W.cell? ⟨w.heap.size + 1, 5, none⟩ = some (.int .i64 m') ∧ W.cell? ⟨b, off + k * 3, none⟩ = some (.string x.1) := fun W hW =>
    ⟨hW, (hW.cell lt1).trans e0, (hW.cell lt1).trans e1, (hW.cell lt1).trans e2, (hW.cell lt1).trans e3, (hW.cell lt1).trans e4, (hW.cell lt1).trans e5, (hW.cell lt2).trans y0⟩
   have hk1 := hSx _ (Below.refl _ _).drew
   have hk2' : ∀ (W : World) (o : Obj), (Below wv.heap.size wv W ∧ W.cell? ⟨w.heap.size + 1, 0, none⟩ = some (.int .i64 op') ∧ W.cell? ⟨w.heap.size + 1, 1, none⟩ = some (.int .i64 k') ∧ W.cell? ⟨w.heap.size + 1, 2, none⟩ = some (.int .i64 a') ∧ W.cell? ⟨w.heap.size + 1, 3, none⟩ = some (.int .i64 b') ∧ W.cell? ⟨w.heap.size + 1, 4, none⟩ = some (.int .i64 c') ∧ W.cell? ⟨w.heap.size + 1, 5, none⟩ = some (.int .i64 m') ∧ W.cell? ⟨b, off + k * 3, none⟩ = some (.string x.1)) → (Below wv.heap.size wv (W.alloc o) ∧ (W.alloc o).cell? ⟨w.heap.size + 1, 0, none⟩ = some (.int .i64 op') ∧ (W.alloc o).cell? ⟨w.heap.size + 1, 1, none⟩ = some (.int .i64 k') ∧ (W.alloc o).cell? ⟨w.heap.size + 1, 2, none⟩ = some (.int .i64 a') ∧ (W.alloc o).cell? ⟨w.heap.size + 1, 3, none⟩ = some (.int .i64 b') ∧ (W.alloc o).cell? ⟨w.heap.size + 1, 4, none⟩ = some (.int .i64 c') ∧ (W.alloc o).cell? ⟨w.heap.size + 1, 5, none⟩ = some (.int .i64 m') ∧ (W.alloc o).cell? ⟨b, off + k * 3, none⟩ = some (.string x.1)) := fun W o h => hSx _ (h.1.alloc h.1.size _)
   have hk3 : ∀ (W W' : World), (Below wv.heap.size wv W ∧ W.cell? ⟨w.heap.size + 1, 0, none⟩ = some (.int .i64 op') ∧ W.cell? ⟨w.heap.size + 1, 1, none⟩ = some (.int .i64 k') ∧ W.cell? ⟨w.heap.size + 1, 2, none⟩ = some (.int .i64 a') ∧ W.cell? ⟨w.heap.size + 1, 3, none⟩ = some (.int .i64 b') ∧ W.cell? ⟨w.heap.size + 1, 4, none⟩ = some (.int .i64 c') ∧ W.cell? ⟨w.heap.size + 1, 5, none⟩ = some (.int .i64 m') ∧ W.cell? ⟨b, off + k * 3, none⟩ = some (.string x.1)) → Below W.heap.size W W' → (Below wv.heap.size wv W' ∧ W'.cell? ⟨w.heap.size + 1, 0, none⟩ = some (.int .i64 op') ∧ W'.cell? ⟨w.heap.size + 1, 1, none⟩ = some (.int .i64 k') ∧ W'.cell? ⟨w.heap.size + 1, 2, none⟩ = some (.int .i64 a') ∧ W'.cell? ⟨w.heap.size + 1, 3, none⟩ = some (.int .i64 b') ∧ W'.cell? ⟨w.heap.size + 1, 4, none⟩ = some (.int .i64 c') ∧ W'.cell? ⟨w.heap.size + 1, 5, none⟩ = some (.int .i64 m') ∧ W'.cell? ⟨b, off + k * 3, none⟩ = some (.string x.1)) := fun W W' h hb => hSx _ (h.1.trans (hb.mono h.1.size))
   have hk4 : ∀ (W : World) (g : Nat) (v0 v1 v2 v3 v4 v5 : Value), (Below wv.heap.size wv W ∧ W.cell? ⟨w.heap.size + 1, 0, none⟩ = some (.int .i64 op') ∧ W.cell? ⟨w.heap.size + 1, 1, none⟩ = some (.int .i64 k') ∧ W.cell? ⟨w.heap.size + 1, 2, none⟩ = some (.int .i64 a') ∧ W.cell? ⟨w.heap.size + 1, 3, none⟩ = some (.int .i64 b') ∧ W.cell? ⟨w.heap.size + 1, 4, none⟩ = some (.int .i64 c') ∧ W.cell? ⟨w.heap.size + 1, 5, none⟩ = some (.int .i64 m') ∧ W.cell? ⟨b, off + k * 3, none⟩ = some (.string x.1)) → wv.heap.size ≤ g → (Below wv.heap.size wv ((((((W.setCell ⟨g, 0, none⟩ v0).setCell ⟨g, 1, none⟩ v1).setCell ⟨g, 2, none⟩ v2).setCell ⟨g, 3, none⟩ v3).setCell ⟨g, 4, none⟩ v4).setCell ⟨g, 5, none⟩ v5) ∧ ((((((W.setCell ⟨g, 0, none⟩ v0).setCell ⟨g, 1, none⟩ v1).setCell ⟨g, 2, none⟩ v2).setCell ⟨g, 3, none⟩ v3).setCell ⟨g, 4, none⟩ v4).setCell ⟨g, 5, none⟩ v5).cell? ⟨w.heap.size + 1, 0, none⟩ = some (.int .i64 op') ∧ ((((((W.setCell ⟨g, 0, none⟩ v0).setCell ⟨g, 1, none⟩ v1).setCell ⟨g, 2, none⟩ v2).setCell ⟨g, 3, none⟩ v3).setCell ⟨g, 4, none⟩ v4).setCell ⟨g, 5, none⟩ v5).cell? ⟨w.heap.size + 1, 1, none⟩ = some (.int .i64 k') ∧ ((((((W.setCell ⟨g, 0, none⟩ v0).setCell ⟨g, 1, none⟩ v1).setCell ⟨g, 2, none⟩ v2).setCell ⟨g, 3, none⟩ v3).setCell ⟨g, 4, none⟩ v4).setCell ⟨g, 5, none⟩ v5).cell? ⟨w.heap.size + 1, 2, none⟩ = some (.int .i64 a') ∧ ((((((W.setCell ⟨g, 0, none⟩ v0).setCell ⟨g, 1, none⟩ v1).setCell ⟨g, 2, none⟩ v2).setCell ⟨g, 3, none⟩ v3).setCell ⟨g, 4, none⟩ v4).setCell ⟨g, 5, none⟩ v5).cell? ⟨w.heap.size + 1, 3, none⟩ = some (.int .i64 b') ∧ ((((((W.setCell ⟨g, 0, none⟩ v0).setCell ⟨g, 1, none⟩ v1).setCell ⟨g, 2, none⟩ v2).setCell ⟨g, 3, none⟩ v3).setCell ⟨g, 4, none⟩ v4).setCell ⟨g, 5, none⟩ v5).cell? ⟨w.heap.size + 1, 4, none⟩ = some (.int .i64 c') ∧ ((((((W.setCell ⟨g, 0, none⟩ v0).setCell ⟨g, 1, none⟩ v1).setCell ⟨g, 2, none⟩ v2).setCell ⟨g, 3, none⟩ v3).setCell ⟨g, 4, none⟩ v4).setCell ⟨g, 5, none⟩ v5).cell? ⟨w.heap.size + 1, 5, none⟩ = some (.int .i64 m') ∧ ((((((W.setCell ⟨g, 0, none⟩ v0).setCell ⟨g, 1, none⟩ v1).setCell ⟨g, 2, none⟩ v2).setCell ⟨g, 3, none⟩ v3).setCell ⟨g, 4, none⟩ v4).setCell ⟨g, 5, none⟩ v5).cell? ⟨b, off + k * 3, none⟩ = some (.string x.1)) := fun W g v0 v1 v2 v3 v4 v5 h hg =>
    hSx _ ((((((h.1.setCell (p := ⟨g, 0, none⟩) hg _).setCell (p := ⟨g, 1, none⟩) hg _).setCell (p := ⟨g, 2, none⟩) hg _).setCell (p := ⟨g, 3, none⟩) hg _).setCell (p := ⟨g, 4, none⟩) hg _).setCell (p := ⟨g, 5, none⟩) hg _)
   have hk5 : ∀ o : Obj, Below wv.heap.size wv (wv.alloc o).drew ∧ (wv.alloc o).drew.cell? ⟨w.heap.size + 1, 0, none⟩ = some (.int .i64 op') ∧ (wv.alloc o).drew.cell? ⟨w.heap.size + 1, 1, none⟩ = some (.int .i64 k') ∧ (wv.alloc o).drew.cell? ⟨w.heap.size + 1, 2, none⟩ = some (.int .i64 a') ∧ (wv.alloc o).drew.cell? ⟨w.heap.size + 1, 3, none⟩ = some (.int .i64 b') ∧ (wv.alloc o).drew.cell? ⟨w.heap.size + 1, 4, none⟩ = some (.int .i64 c') ∧ (wv.alloc o).drew.cell? ⟨w.heap.size + 1, 5, none⟩ = some (.int .i64 m') ∧ (wv.alloc o).drew.cell? ⟨b, off + k * 3, none⟩ = some (.string x.1) := fun o => hSx _ ((Below.refl _ _).alloc (Nat.le_refl _) _).drew
   have hTS : ∀ W, (Below wv.heap.size wv W ∧ W.cell? ⟨w.heap.size + 1, 0, none⟩ = some (.int .i64 op') ∧ W.cell? ⟨w.heap.size + 1, 1, none⟩ = some (.int .i64 k') ∧ W.cell? ⟨w.heap.size + 1, 2, none⟩ = some (.int .i64 a') ∧ W.cell? ⟨w.heap.size + 1, 3, none⟩ = some (.int .i64 b') ∧ W.cell? ⟨w.heap.size + 1, 4, none⟩ = some (.int .i64 c') ∧ W.cell? ⟨w.heap.size + 1, 5, none⟩ = some (.int .i64 m') ∧ W.cell? ⟨b, off + k * 3, none⟩ = some (.string x.1)) → RTabs W := fun W hW => hT.out.later ((bv.mono (Nat.le_refl _)).trans (hW.1.mono hsv))
   clear hSx
   replace hk1 := Lib.hid hk1; replace hk2' := Lib.hid hk2'; replace hk3 := Lib.hid hk3; replace hk4 := Lib.hid hk4; replace hk5 := Lib.hid hk5; replace hTS := Lib.hid hTS; replace p0 := Lib.hid p0; replace p1 := Lib.hid p1; replace p2 := Lib.hid p2; replace bv := Lib.hid bv; replace hq := Lib.hid hq; replace hib := Lib.hid hib; replace hcl := Lib.hid hcl; replace hc := Lib.hid hc; replace hx := Lib.hid hx; replace hxs := Lib.hid hxs
   clear hk
   go_upto_region 7 with fail
   go_cut [12, 13, 14] from 33 to 46 (fun x12 x13 x14 wx => ∃ (g : Nat) (j : Ins) (nm2 : ByteArray), x12 = ptr g ∧ x13 = .string nm2 ∧ x14 = .bool (rfieldF ⟨op', k', a', b', c', m'⟩ c x.1).isSome ∧ wx.heap[g]? = some (.cells (rinsC j) 128 (0, 0)) ∧ wv.heap.size ≤ g ∧ Below wv.heap.size wv wx ∧ (∀ y, rfieldF ⟨op', k', a', b', c', m'⟩ c x.1 = some y → j = y.1 ∧ nm2 = y.2))
   case first =>
    rename_i J0 K0 aJ aK
    have hc0 := fun W (hW : Below wv.heap.size wv W ∧ W.cell? ⟨w.heap.size + 1, 0, none⟩ = some (.int .i64 op') ∧ W.cell? ⟨w.heap.size + 1, 1, none⟩ = some (.int .i64 k') ∧ W.cell? ⟨w.heap.size + 1, 2, none⟩ = some (.int .i64 a') ∧ W.cell? ⟨w.heap.size + 1, 3, none⟩ = some (.int .i64 b') ∧ W.cell? ⟨w.heap.size + 1, 4, none⟩ = some (.int .i64 c') ∧ W.cell? ⟨w.heap.size + 1, 5, none⟩ = some (.int .i64 m') ∧ W.cell? ⟨b, off + k * 3, none⟩ = some (.string x.1)) => hfd.out ⟨op', k', a', b', c', m'⟩ c x.1 W hxs.out (hTS.out W hW) hcl.out
    simp only [rinsC] at hc0
    replace hc0 := Lib.hid hc0
    go_region_held3 (fun W => Below wv.heap.size wv W ∧ W.cell? ⟨w.heap.size + 1, 0, none⟩ = some (.int .i64 op') ∧ W.cell? ⟨w.heap.size + 1, 1, none⟩ = some (.int .i64 k') ∧ W.cell? ⟨w.heap.size + 1, 2, none⟩ = some (.int .i64 a') ∧ W.cell? ⟨w.heap.size + 1, 3, none⟩ = some (.int .i64 b') ∧ W.cell? ⟨w.heap.size + 1, 4, none⟩ = some (.int .i64 c') ∧ W.cell? ⟨w.heap.size + 1, 5, none⟩ = some (.int .i64 m') ∧ W.cell? ⟨b, off + k * 3, none⟩ = some (.string x.1))
     (with_reducible (first | exact hk1.out | exact hk5.out _ | exact hw5.out | exact hw6.out | exact hw7.out | exact hw8.out))
     (first | (go_at_call 124; refine (hc0.out _ (by assumption)).mono ?_; rintro e w5 ⟨⟨jo, jk, ja, jb, jc, jm⟩, nm2, rfl, hj, hb5⟩; have hw5 := Lib.hid (hk3.out _ _ (by assumption) hb5); have hw6 := Lib.hid (hk4.out w5 wv.heap.size (.int .i64 jo) (.int .i64 jk) (.int .i64 ja) (.int .i64 jb) (.int .i64 jc) (.int .i64 jm) hw5.out (Nat.le_refl _)); have hw7 := Lib.hid (hk2'.out w5 (.cells #[.int .i64 jo, .int .i64 jk, .int .i64 ja, .int .i64 jb, .int .i64 jc, .int .i64 jm] 128) hw5.out); have hw8 := Lib.hid (hk2'.out w5 (.cells #[.int .i64 0, .int .i64 0, .int .i64 0, .int .i64 0, .int .i64 0, .int .i64 0] 128) hw5.out); simp only [rinsC]; replace hj := Lib.hid hj; try (have hz5 := kept_zero' hb5; have z0 := cell_of_row _ _ 0 _ _ _ hz5; have z1 := cell_of_row _ _ 1 _ _ _ hz5; have z2 := cell_of_row _ _ 2 _ _ _ hz5; have z3 := cell_of_row _ _ 3 _ _ _ hz5; have z4 := cell_of_row _ _ 4 _ _ _ hz5; have z5 := cell_of_row _ _ 5 _ _ _ hz5; have zf : ∀ q, w5.frozen? ⟨wv.heap.size, q, none⟩ = false := fun q => frozen_of_row _ _ q _ _ hz5)))
    all_goals
     simp only [Exit.then]
     refine aK _ _ (Met.intro (aJ _ _ ?_))
     (repeat apply Exists.intro)
     refine ⟨?_, rfl⟩
     first
      | (have hx5 := hz5
         refine ⟨wv.heap.size, ⟨jo, jk, ja, jb, jc, jm⟩, nm2, rfl, rfl, rfl, ?_, Nat.le_refl _, ?_, hj.out⟩
         ·exact six_heap hx5 (.int .i64 jo) (.int .i64 jk) (.int .i64 ja) (.int .i64 jb) (.int .i64 jc) (.int .i64 jm)
         ·exact hw6.out.1)
      | (refine ⟨w5.heap.size, ⟨jo, jk, ja, jb, jc, jm⟩, nm2, rfl, rfl, rfl, ?_, ?_, ?_, hj.out⟩
         ·exact heap_alloc_new w5 _
         ·exact hw5.out.1.size
         ·exact hw7.out.1)
   case rest =>
    obtain ⟨g, j, nm2, rfl, rfl, rfl, hgj, hgl, bc, hj⟩ := hcut
    clear hk1 hk2' hk3 hk4 hk5 hTS e0 e1 e2 e3 e4 e5
    have B0 : Below w.heap.size w wc := bv.out.trans (bc.mono hsv)
    have P0 := (bc.block _ (Array.getElem?_eq_some_iff.1 p0.out).1).trans p0.out
    have P1 := (bc.block _ (Array.getElem?_eq_some_iff.1 p1.out).1).trans p1.out
    have P2 := (bc.block _ (Array.getElem?_eq_some_iff.1 p2.out).1).trans p2.out
    have Y1 := (bc.cell (World.block_lt_of_cell? wv _ y1)).trans y1
    have Y2 := (bc.cell (World.block_lt_of_cell? wv _ y2)).trans y2
    clear y0 y1 y2 p0 p1 p2
    obtain ⟨O, hO⟩ : ∃ O, rfieldF ⟨op', k', a', b', c', m'⟩ c x.1 = O := ⟨_, rfl⟩
    have hq' := hq.out
    clear hq
    have hq := hq'
    clear hq'
    dsimp only at hq
    rw [hO] at hq hj ⊢
    unfold pieA at P2
    dsimp only at P2
    have t0 : wc.cell? ⟨w.heap.size + 2, 0, none⟩ = some (.int .i64 0) := cell_of_row _ _ 0 _ _ _ P2
    have t1 : wc.cell? ⟨w.heap.size + 2, 1, none⟩ = some (.int .i64 0) := cell_of_row _ _ 1 _ _ _ P2
    have t2 : wc.cell? ⟨w.heap.size + 2, 2, none⟩ = some (.int .i64 0) := cell_of_row _ _ 2 _ _ _ P2
    have t3 : wc.cell? ⟨w.heap.size + 2, 3, none⟩ = some (.int .i64 0) := cell_of_row _ _ 3 _ _ _ P2
    have t4 : wc.cell? ⟨w.heap.size + 2, 4, none⟩ = some (.int .u32 0) := cell_of_row _ _ 4 _ _ _ P2
    have t5 : wc.cell? ⟨w.heap.size + 2, 5, none⟩ = some (.string nm) := cell_of_row _ _ 5 _ _ _ P2
    have t6 : wc.cell? ⟨w.heap.size + 2, 6, none⟩ = some (.int .i64 (ln : Int)) := cell_of_row _ _ 6 _ _ _ P2
    have t7 : wc.cell? ⟨w.heap.size + 2, 7, none⟩ = some (.int .i64 (col : Int)) := cell_of_row _ _ 7 _ _ _ P2
    replace hj := Lib.hid hj; replace P0 := Lib.hid P0; replace P1 := Lib.hid P1; replace P2 := Lib.hid P2; replace B0 := Lib.hid B0; replace bc := Lib.hid bc; replace hgj := Lib.hid hgj; replace hsz := Lib.hid hsz
    clear hx hcl hxs hc hg d1 d2 hc3 hc4 lt1 lt2 hgl hk2
    obtain ⟨xs, xq, xc⟩ := x
    dsimp only at Y1 Y2 hq hO
    replace hO := Lib.hid hO
    cases xq with
    | true =>
     rw [if_pos rfl] at hq
     dsimp only at hq
     subst hq
     clear hj
     generalize O.isSome = os
     cases os
     ·go_wp2_with (refine wpList_store_whole rfl 125 _ _ rfl w.heap.size #[.int .i64 0, .int .i64 0, .int .i64 0, .int .i64 0, .int .u32 0, .string nm, .int .i64 (ln : Int), .int .i64 (col : Int)] rfl rfl 125 _ P0.out infoPie rfl (pie_ones nm ln col) ?_; intro w5 h5 g5; replace h5 := Lib.hid h5; replace g5 := Lib.hid g5)
      exact bodyPost_ret (v := .tuple #[.agg (pieA ⟨0, 0, 0, 0, 0, nm, ln, col⟩), .int .i64 k]) (results_fst rfl rfl rfl h5.out Tryz.underlying125 rfl infoPie) rfl ⟨⟨0, 0, 0, 0, 0, nm, ln, col⟩, k, rfl, B0.out.grown g5.out B0.out.size (fun q hq => by cases hq; exact Nat.le_refl _), rfl⟩
     ·go_wp2_with (refine wpList_store_whole rfl 125 _ _ rfl w.heap.size #[.int .i64 0, .int .i64 0, .int .i64 0, .int .i64 0, .int .u32 0, .string nm, .int .i64 (ln : Int), .int .i64 (col : Int)] rfl rfl 125 _ P0.out infoPie rfl (pie_ones nm ln col) ?_; intro w5 h5 g5; replace h5 := Lib.hid h5; replace g5 := Lib.hid g5)
      exact bodyPost_ret (v := .tuple #[.agg (pieA ⟨0, 0, 0, 0, 0, nm, ln, col⟩), .int .i64 k]) (results_fst rfl rfl rfl h5.out Tryz.underlying125 rfl infoPie) rfl ⟨⟨0, 0, 0, 0, 0, nm, ln, col⟩, k, rfl, B0.out.grown g5.out B0.out.size (fun q hq => by cases hq; exact Nat.le_refl _), rfl⟩
    | false =>
     rw [if_neg (by decide)] at hq
     cases O with
     | none =>
      dsimp only at hq
      subst hq
      simp only [Option.isSome_none]
      go_wp2_with (refine wpList_store_whole rfl 125 _ _ rfl w.heap.size #[.int .i64 0, .int .i64 0, .int .i64 0, .int .i64 0, .int .u32 0, .string nm, .int .i64 (ln : Int), .int .i64 (col : Int)] rfl rfl 125 _ P0.out infoPie rfl (pie_ones nm ln col) ?_; intro w5 h5 g5; replace h5 := Lib.hid h5; replace g5 := Lib.hid g5)
      exact bodyPost_ret (v := .tuple #[.agg (pieA ⟨0, 0, 0, 0, 0, nm, ln, col⟩), .int .i64 k]) (results_fst rfl rfl rfl h5.out Tryz.underlying125 rfl infoPie) rfl ⟨⟨0, 0, 0, 0, 0, nm, ln, col⟩, k, rfl, B0.out.grown g5.out B0.out.size (fun q hq => by cases hq; exact Nat.le_refl _), rfl⟩
     | some y =>
      dsimp only at hq
      obtain ⟨⟨jo, jk, ja, jb, jc, jm⟩, nz⟩ := y
      obtain ⟨rfl, rfl⟩ := hj.out _ rfl
      have hgc := hgj.out
      simp only [rinsC] at hgc
      have g0 : wc.cell? ⟨g, 0, none⟩ = some (.int .i64 jo) := cell_of_row _ _ 0 _ _ _ hgc
      have g1 : wc.cell? ⟨g, 1, none⟩ = some (.int .i64 jk) := cell_of_row _ _ 1 _ _ _ hgc
      have g2 : wc.cell? ⟨g, 2, none⟩ = some (.int .i64 ja) := cell_of_row _ _ 2 _ _ _ hgc
      have g3 : wc.cell? ⟨g, 3, none⟩ = some (.int .i64 jb) := cell_of_row _ _ 3 _ _ _ hgc
      have g4 : wc.cell? ⟨g, 4, none⟩ = some (.int .i64 jc) := cell_of_row _ _ 4 _ _ _ hgc
      have g5 : wc.cell? ⟨g, 5, none⟩ = some (.int .i64 jm) := cell_of_row _ _ 5 _ _ _ hgc
      clear hgc t0 t1 t2 t3 t4 t5 t6 t7 hj hgj
      dsimp only at hq
      have hib2 := rfield_bd hib.out hO.out
      replace hq := Lib.hid hq; replace hib2 := Lib.hid hib2
      simp only [Option.isSome_some]
      go_upto_region 11 with (refine wpList_store_whole rfl 128 _ _ rfl (w.heap.size + 1) #[.int .i64 jo, .int .i64 jk, .int .i64 ja, .int .i64 jb, .int .i64 jc, .int .i64 jm] rfl rfl 128 _ P1.out infoRIns rfl (ins_ones jo jk ja jb jc jm) ?_; intro w5 h5 e5; replace h5 := Lib.hid h5; replace e5 := Lib.hid e5)
      have B5 : Below w.heap.size w w5 := B0.out.grown e5.out B0.out.size (fun q hq => by cases hq; exact Nat.le_succ _)
      have N0 := (e5.out.block w.heap.size (Array.getElem?_eq_some_iff.1 P0.out).1 (by simp)).trans P0.out
      have N2 := (e5.out.block (w.heap.size + 2) (Array.getElem?_eq_some_iff.1 P2.out).1 (by simp)).trans P2.out
      have Z2 : w5.cell? ⟨b, off + k * 3 + 2, none⟩ = some (.int .i64 (xc : Int)) := (World.cell?_of_block (e5.out.block b (World.block_lt_of_cell? wc _ Y2) (by have := hbw.out; simp; omega))).trans Y2
      clear g0 g1 g2 g3 g4 g5 Y1 Y2 P0 P1 P2
      have Z3 : (w5.setCell ⟨w.heap.size + 2, 5, none⟩ (.string nm2)).cell? ⟨b, off + k * 3 + 2, none⟩ = some (.int .i64 (xc : Int)) := (World.cell?_of_block (Below.heap_setCell w5 _ _ b (by have := hbw.out; simp; omega))).trans Z2
      have q5 : w5.cell? ⟨w.heap.size + 2, 5, none⟩ = some (.string nm) := cell_of_row _ _ 5 _ _ _ N2
      have q7 : w5.cell? ⟨w.heap.size + 2, 7, none⟩ = some (.int .i64 (col : Int)) := cell_of_row _ _ 7 _ _ _ N2
      have qf : ∀ q, w5.frozen? ⟨w.heap.size + 2, q, none⟩ = false := fun q => frozen_of_row _ _ q _ _ N2
      have hel := eq_lit [] nm2
      replace N0 := Lib.hid N0; replace N2 := Lib.hid N2; replace B5 := Lib.hid B5
      by_cases hz0 : nm2.size = 0
      ·have hzl : nm2.data.toList = [] := List.eq_nil_of_length_eq_zero (by rw [size_list]; exact hz0)
       rw [decide_eq_true hzl] at hel
       have hq2 := hq.out
       rw [if_pos hz0] at hq2
       clear hq hzl hz0 hO
       replace hq2 := Lib.hid hq2
       go_wp2_with fail
       go_roundw
       case rel => exact ⟨k + 1, ⟨jo, jk, ja, jb, jc, jm⟩, nm, col, by omega, by go_num, N0.out, h5.out, N2.out, B5.out, hq2.out, hib2.out, hnc.out⟩
       case measure => simp [intOf]; omega
      ·have hzl : ¬ nm2.data.toList = [] := fun h => hz0 (by rw [← size_list, h]; rfl)
       rw [decide_eq_false hzl] at hel
       have hq2 := hq.out
       rw [if_neg hz0] at hq2
       replace hz0 := Lib.hid hz0
       clear hq hzl hO
       replace hq2 := Lib.hid hq2
       go_wp2_with fail
       go_roundw
       case rel =>
        refine ⟨k + 1, ⟨jo, jk, ja, jb, jc, jm⟩, nm2, xc, by omega, by go_num, ?_, ?_, ?_, ?_, hq2.out, hib2.out, fun h => absurd h hz0.out⟩
        ·rw [heap_setCell_other _ _ _ _ (by simp), heap_setCell_other _ _ _ _ (by simp)]; exact N0.out
        ·rw [heap_setCell_other _ _ _ _ (by simp), heap_setCell_other _ _ _ _ (by simp)]; exact h5.out
        ·exact set_cell (set_cell N2.out 5 (.string nm2) rfl) 7 (.int .i64 (xc : Int)) rfl
        ·exact (B5.out.setCell (p := ⟨w.heap.size + 2, 5, none⟩) (Nat.le_add_right _ 2) _).setCell (p := ⟨w.heap.size + 2, 7, none⟩) (Nat.le_add_right _ 2) _
       case measure => simp [intOf]; omega
  ·rw [rfields_end L ws k _ (by rw [hn.out]; exact hlt)] at hq
   subst hq
   obtain ⟨io, ik, ia, ib, ic, im⟩ := i
   unfold pieA at p2
   dsimp only at p2
   simp only [rinsC] at p1
   have hib1 := hib
   have hop : (0 : Int) ≤ io ∧ io < 64 := by have := hib1.o; simp only at this; omega
   have hTv : RTabs wv := hT.out.later (bv.mono (Nat.le_refl _))
   have hen1 := hen.out ⟨io, ik, ia, ib, ic, im⟩ wv hTv hop hib1.a hib1.b hib1.c hib1.k hib1.m
   rw [renc_eq ⟨io, ik, ia, ib, ic, im⟩ hop hib1.a hib1.b hib1.c hib1.k hib1.m] at hen1
   obtain ⟨K, hK⟩ : ∃ K, rcheckI ⟨io, ik, ia, ib, ic, im⟩ = K := ⟨_, rfl⟩
   obtain ⟨V, hV⟩ : ∃ V, encF ⟨io, ik, ia, ib, ic, im⟩ = V := ⟨_, rfl⟩
   rw [hK, hV] at hen1
   simp only [rinsC] at hen1
   have e0 : wv.cell? ⟨w.heap.size + 1, 0, none⟩ = some (.int .i64 io) := cell_of_row _ _ 0 _ _ _ p1
   have e1 : wv.cell? ⟨w.heap.size + 1, 1, none⟩ = some (.int .i64 ik) := cell_of_row _ _ 1 _ _ _ p1
   have e2 : wv.cell? ⟨w.heap.size + 1, 2, none⟩ = some (.int .i64 ia) := cell_of_row _ _ 2 _ _ _ p1
   have e3 : wv.cell? ⟨w.heap.size + 1, 3, none⟩ = some (.int .i64 ib) := cell_of_row _ _ 3 _ _ _ p1
   have e4 : wv.cell? ⟨w.heap.size + 1, 4, none⟩ = some (.int .i64 ic) := cell_of_row _ _ 4 _ _ _ p1
   have e5 : wv.cell? ⟨w.heap.size + 1, 5, none⟩ = some (.int .i64 im) := cell_of_row _ _ 5 _ _ _ p1
   have t0 : wv.cell? ⟨w.heap.size + 2, 0, none⟩ = some (.int .i64 0) := cell_of_row _ _ 0 _ _ _ p2
   have t1 : wv.cell? ⟨w.heap.size + 2, 1, none⟩ = some (.int .i64 0) := cell_of_row _ _ 1 _ _ _ p2
   have t2 : wv.cell? ⟨w.heap.size + 2, 2, none⟩ = some (.int .i64 0) := cell_of_row _ _ 2 _ _ _ p2
   have t5 : wv.cell? ⟨w.heap.size + 2, 5, none⟩ = some (.string nm) := cell_of_row _ _ 5 _ _ _ p2
   have tf : ∀ q, wv.frozen? ⟨w.heap.size + 2, q, none⟩ = false := fun q => frozen_of_row _ _ q _ _ p2
   have hel := eq_lit [] nm
   have hd : (k < L.length ∧ ¬ (k < n) ∧ decide ((k : Int) < ((strS L).size : Int)) = true ∧ decide ((k : Int) < (n : Int)) = false) ∨ (¬ (k < L.length) ∧ decide ((k : Int) < ((strS L).size : Int)) = false) := by
    by_cases h1 : k < L.length
    ·exact .inl ⟨h1, by omega, decide_eq_true (by omega), decide_eq_false (by omega)⟩
    ·exact .inr ⟨h1, decide_eq_false (by omega)⟩
   clear hib hib1 hK hTv hop hlt hk
   replace hen1 := Lib.hid hen1; replace hV := Lib.hid hV; replace p0 := Lib.hid p0; replace p1 := Lib.hid p1; replace p2 := Lib.hid p2; replace bv := Lib.hid bv
   clear hlet hfd hen hT hz hv hn
   by_cases hz0 : nm.size = 0
   ·have hzl : nm.data.toList = [] := List.eq_nil_of_length_eq_zero (by rw [size_list]; exact hz0)
    rw [decide_eq_true hzl] at hel
    have hp : pieceF ln (⟨io, ik, ia, ib, ic, im⟩, nm, col) = ⟨0, 0, 0, 0, V, eB, ln, 0⟩ := by
     unfold pieceF; rw [if_pos hz0, hV.out]
    obtain rfl : col = 0 := hnc.out hz0
    obtain rfl : nm = eB := by
     cases nm with | mk d => cases d with | mk dl => simp only at hzl; subst hzl; rfl
    replace hp := Lib.hid hp
    clear hzl hz0
    rcases hd with ⟨k1, k2, d1, d2⟩ | ⟨k1, d1⟩
    all_goals
     go_wp2_with fail
     refine hen1.out.mono ?_
     rintro e w5 ⟨b5, rfl⟩
     have P0 := (b5.block _ (Array.getElem?_eq_some_iff.1 p0.out).1).trans p0.out
     have P2 := (b5.block _ (Array.getElem?_eq_some_iff.1 p2.out).1).trans p2.out
     have B5 := bv.out.trans (b5.mono hsv)
     have t4 : w5.cell? ⟨w.heap.size + 2, 4, none⟩ = some (.int .u32 0) := cell_of_row _ _ 4 _ _ _ P2
     have f4 : w5.frozen? ⟨w.heap.size + 2, 4, none⟩ = false := frozen_of_row _ _ 4 _ _ P2
     have Q2 : (w5.setCell ⟨w.heap.size + 2, 4, none⟩ (.int .u32 V)).heap[w.heap.size + 2]? = some (.cells #[.int .i64 0, .int .i64 0, .int .i64 0, .int .i64 0, .int .u32 V, .string eB, .int .i64 (ln : Int), .int .i64 ((0 : Nat) : Int)] 125 (0, 0)) := set_cell P2 4 (.int .u32 V) rfl
     have Q0 : (w5.setCell ⟨w.heap.size + 2, 4, none⟩ (.int .u32 V)).heap[w.heap.size]? = some (.cells pieZ 125 (0, 0)) := by rw [heap_setCell_other _ _ _ _ (by simp)]; exact P0
     have B6 := B5.setCell (p := ⟨w.heap.size + 2, 4, none⟩) (Nat.le_add_right _ 2) (.int .u32 V)
     clear e0 e1 e2 e3 e4 e5 t0 t1 t2 t5 b5 B5 P0 hen1 p0 p1 p2 bv
     replace Q2 := Lib.hid Q2; replace Q0 := Lib.hid Q0; replace B6 := Lib.hid B6; replace P2 := Lib.hid P2
     go_upto_region 20 with fail
     obtain ⟨w6, hw6⟩ : ∃ w6, w5.setCell ⟨w.heap.size + 2, 4, none⟩ (.int .u32 V) = w6 := ⟨_, rfl⟩
     rw [hw6] at Q2 Q0 B6 ⊢
     clear hw6 t4 f4
     have s0 := cell_of_row _ _ 0 _ _ _ Q2.out
     have s1 := cell_of_row _ _ 1 _ _ _ Q2.out
     have s2 := cell_of_row _ _ 2 _ _ _ Q2.out
     have s3 := cell_of_row _ _ 3 _ _ _ Q2.out
     have s4 := cell_of_row _ _ 4 _ _ _ Q2.out
     have s5 := cell_of_row _ _ 5 _ _ _ Q2.out
     have s6 := cell_of_row _ _ 6 _ _ _ Q2.out
     have s7 := cell_of_row _ _ 7 _ _ _ Q2.out
     simp only [List.getElem?_toArray, List.getElem?_cons_zero, List.getElem?_cons_succ] at s0 s1 s2 s3 s4 s5 s6 s7
     go_wp2_with (refine wpList_store_whole rfl 125 _ _ rfl w.heap.size #[.int .i64 0, .int .i64 0, .int .i64 0, .int .i64 0, .int .u32 V, .string eB, .int .i64 (ln : Int), .int .i64 ((0 : Nat) : Int)] rfl rfl 125 _ Q0.out infoPie rfl (by simp [Value.oneCell']) ?_; intro w7 h7 g7; replace h7 := Lib.hid h7; replace g7 := Lib.hid g7)
     exact bodyPost_ret (v := .tuple #[.agg (pieA ⟨0, 0, 0, 0, V, eB, ln, 0⟩), .int .i64 (-1)]) (results_fst rfl rfl rfl h7.out Tryz.underlying125 rfl infoPie) rfl ⟨⟨0, 0, 0, 0, V, eB, ln, 0⟩, -1, rfl, B6.out.grown g7.out B6.out.size (fun q hq => by cases hq; exact Nat.le_refl _), hp.out.symm, rfl⟩
   ·have hzl : ¬ nm.data.toList = [] := fun h => hz0 (by rw [← size_list, h]; rfl)
    rw [decide_eq_false hzl] at hel
    have hp : pieceF ln (⟨io, ik, ia, ib, ic, im⟩, nm, col) = ⟨4, io, ik, 0, 0, nm, ln, col⟩ := by
     unfold pieceF; rw [if_neg hz0]
    replace hp := Lib.hid hp
    clear hzl hz0
    rcases hd with ⟨k1, k2, d1, d2⟩ | ⟨k1, d1⟩
    all_goals
     have Q2 : (((wv.setCell ⟨w.heap.size + 2, 0, none⟩ (.int .i64 4)).setCell ⟨w.heap.size + 2, 1, none⟩ (.int .i64 io)).setCell ⟨w.heap.size + 2, 2, none⟩ (.int .i64 ik)).heap[w.heap.size + 2]? = some (.cells #[.int .i64 4, .int .i64 io, .int .i64 ik, .int .i64 0, .int .u32 0, .string nm, .int .i64 (ln : Int), .int .i64 (col : Int)] 125 (0, 0)) := set_cell (set_cell (set_cell p2.out 0 (.int .i64 4) rfl) 1 (.int .i64 io) rfl) 2 (.int .i64 ik) rfl
     have Q0 : (((wv.setCell ⟨w.heap.size + 2, 0, none⟩ (.int .i64 4)).setCell ⟨w.heap.size + 2, 1, none⟩ (.int .i64 io)).setCell ⟨w.heap.size + 2, 2, none⟩ (.int .i64 ik)).heap[w.heap.size]? = some (.cells pieZ 125 (0, 0)) := by
      rw [heap_setCell_other _ _ _ _ (by simp), heap_setCell_other _ _ _ _ (by simp), heap_setCell_other _ _ _ _ (by simp)]; exact p0.out
     have B6 := ((bv.out.setCell (p := ⟨w.heap.size + 2, 0, none⟩) (Nat.le_add_right _ 2) (.int .i64 4)).setCell (p := ⟨w.heap.size + 2, 1, none⟩) (Nat.le_add_right _ 2) (.int .i64 io)).setCell (p := ⟨w.heap.size + 2, 2, none⟩) (Nat.le_add_right _ 2) (.int .i64 ik)
     replace Q2 := Lib.hid Q2; replace Q0 := Lib.hid Q0; replace B6 := Lib.hid B6
     go_upto_region 18 with fail
     obtain ⟨w6, hw6⟩ : ∃ w6, ((wv.setCell ⟨w.heap.size + 2, 0, none⟩ (.int .i64 4)).setCell ⟨w.heap.size + 2, 1, none⟩ (.int .i64 io)).setCell ⟨w.heap.size + 2, 2, none⟩ (.int .i64 ik) = w6 := ⟨_, rfl⟩
     rw [hw6] at Q2 Q0 B6 ⊢
     clear hw6 e0 e1 e2 e3 e4 e5 t0 t1 t2 t5 tf hen1 p0 p1 p2 bv
     have s0 := cell_of_row _ _ 0 _ _ _ Q2.out
     have s1 := cell_of_row _ _ 1 _ _ _ Q2.out
     have s2 := cell_of_row _ _ 2 _ _ _ Q2.out
     have s3 := cell_of_row _ _ 3 _ _ _ Q2.out
     have s4 := cell_of_row _ _ 4 _ _ _ Q2.out
     have s5 := cell_of_row _ _ 5 _ _ _ Q2.out
     have s6 := cell_of_row _ _ 6 _ _ _ Q2.out
     have s7 := cell_of_row _ _ 7 _ _ _ Q2.out
     simp only [List.getElem?_toArray, List.getElem?_cons_zero, List.getElem?_cons_succ] at s0 s1 s2 s3 s4 s5 s6 s7
     go_wp2_with (refine wpList_store_whole rfl 125 _ _ rfl w.heap.size #[.int .i64 4, .int .i64 io, .int .i64 ik, .int .i64 0, .int .u32 0, .string nm, .int .i64 (ln : Int), .int .i64 (col : Int)] rfl rfl 125 _ Q0.out infoPie rfl (by simp [Value.oneCell']) ?_; intro w7 h7 g7; replace h7 := Lib.hid h7; replace g7 := Lib.hid g7)
     exact bodyPost_ret (v := .tuple #[.agg (pieA ⟨4, io, ik, 0, 0, nm, ln, col⟩), .int .i64 (-1)]) (results_fst rfl rfl rfl h7.out Tryz.underlying125 rfl infoPie) rfl ⟨⟨4, io, ik, 0, 0, nm, ln, col⟩, -1, rfl, B6.out.grown g7.out B6.out.size (fun q hq => by cases hq; exact Nat.le_refl _), hp.out.symm, rfl⟩
end Go.Proofs.YtiknookfnameiaaGreatDoor
