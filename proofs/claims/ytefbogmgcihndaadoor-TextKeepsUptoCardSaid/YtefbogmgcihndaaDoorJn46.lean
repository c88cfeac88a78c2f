/- The contract of the law's stays: an entry that bears its mark. An entry of the book is stored: seven cells at once. The contract of the law's head: it always says yes. -/
import Derived.Test.YtefbogmgcihndaaDoorUHolJn
import Derived.Test.YtefbogmgcihndaaDoorUBok
import Derived.Test.YtefbogmgcihndaaDoorTTen
namespace Go.Proofs.YtefbogmgcihndaaDoor
open Go.RowKit WP
theorem rep_get {n r : Nat} {x : Value} (h : r < n) : (List.replicate n x)[r]? = some x := by simp [h]
set_option maxRecDepth 100000 in
set_option maxHeartbeats 8000000 in
theorem stays_any (t : Ent) (w : World) (h : EntRead w t) :
    Calls Tryd.prog 18 #[.agg t.cells.toArray] w fun e w' => e = .returned (.bool true) ∧ Below w.heap.size w w' := by
  obtain ⟨m, n, q, p, h0, h1, h2, h3, h4, h5, h6⟩ := h.at_
  obtain ⟨l, ml, v, mv, b, mb, k⟩ := t
  dsimp only at h0 h1 h2 h3 h4 h5 h6
  subst h0
  show Calls _ _ #[.agg #[l, ml, v, mv, b, mb, .int .u8 (m.toNat : Int)]] _ _
  obtain ⟨o1, c1, rfl, a1, a2⟩ := h1.shape
  obtain ⟨o2, c2, rfl, a3, a4⟩ := h2.shape
  obtain ⟨o3, c3, rfl, a5, a6⟩ := h3.shape
  obtain ⟨o4, c4, rfl, a7, a8⟩ := h4.shape
  obtain ⟨o5, c5, rfl, a9, b1⟩ := h5.shape
  obtain ⟨o6, c6, rfl, b2, b3⟩ := h6.shape
  have hmt := m.toNat_lt
  have hcv := hcvM m (w.alloc (.cells #[.slice o1 n c1, .slice o2 (n + 1) c2, .slice o3 q c3, .slice o4 (q + 1) c4, .slice o5 p c5, .slice o6 (p + 1) c6, .int .u8 (m.toNat : Int)] 50))
  rw [show (w.alloc (.cells #[.slice o1 n c1, .slice o2 (n + 1) c2, .slice o3 q c3, .slice o4 (q + 1) c4, .slice o5 p c5, .slice o6 (p + 1) c6, .int .u8 (m.toNat : Int)] 50)).heap.size = w.heap.size + 1 by simp] at hcv
  replace h1 := Lib.hid h1; replace h2 := Lib.hid h2; replace h3 := Lib.hid h3; replace h4 := Lib.hid h4; replace h5 := Lib.hid h5; replace h6 := Lib.hid h6
  go_enter Tryd.func18, Tryd.ntmps18
  go_wp2_with fail
  obtain ⟨w1, hw1⟩ : ∃ w1, ((w.alloc (Obj.cells #[.slice o1 n c1, .slice o2 (n + 1) c2, .slice o3 q c3, .slice o4 (q + 1) c4, .slice o5 p c5, .slice o6 (p + 1) c6, .int .u8 (m.toNat : Int)] 50)).alloc (Obj.cells #[Value.int IntKind.u8 109, Value.int IntKind.u8 (m.toNat : Int)] 5)).alloc
      (Obj.cells #[Value.string (markS m), Value.bool false, Value.int IntKind.i64 (m.toNat : Int)] 30) = w1 := ⟨_, rfl⟩
  have d0 : w1.cell? ⟨w.heap.size, 0, none⟩ = some (.slice o1 n c1) := by rw [← hw1]; exact cell_alloc_up (cell_alloc_up (lit_new rfl rfl))
  have d1 : w1.cell? ⟨w.heap.size, 1, none⟩ = some (.slice o2 (n + 1) c2) := by rw [← hw1]; exact cell_alloc_up (cell_alloc_up (lit_new rfl rfl))
  have d2 : w1.cell? ⟨w.heap.size, 2, none⟩ = some (.slice o3 q c3) := by rw [← hw1]; exact cell_alloc_up (cell_alloc_up (lit_new rfl rfl))
  have d3 : w1.cell? ⟨w.heap.size, 3, none⟩ = some (.slice o4 (q + 1) c4) := by rw [← hw1]; exact cell_alloc_up (cell_alloc_up (lit_new rfl rfl))
  have d4 : w1.cell? ⟨w.heap.size, 4, none⟩ = some (.slice o5 p c5) := by rw [← hw1]; exact cell_alloc_up (cell_alloc_up (lit_new rfl rfl))
  have d5 : w1.cell? ⟨w.heap.size, 5, none⟩ = some (.slice o6 (p + 1) c6) := by rw [← hw1]; exact cell_alloc_up (cell_alloc_up (lit_new rfl rfl))
  have d6 : w1.cell? ⟨w.heap.size, 6, none⟩ = some (.int .u8 (m.toNat : Int)) := by rw [← hw1]; exact cell_alloc_up (cell_alloc_up (lit_new rfl rfl))
  have x0 : w1.cell? ⟨w.heap.size + 1 + 1, 0, none⟩ = some (.string (markS m)) := by rw [← hw1]; exact lit_new (by simp) rfl
  have x1 : w1.cell? ⟨w.heap.size + 1 + 1, 1, none⟩ = some (.bool false) := by rw [← hw1]; exact lit_new (by simp) rfl
  have x2 : w1.cell? ⟨w.heap.size + 1 + 1, 2, none⟩ = some (.int .i64 (m.toNat : Int)) := by rw [← hw1]; exact lit_new (by simp) rfl
  have hb1 : Below w.heap.size w w1 := by rw [← hw1]; exact (((Below.refl _ _).alloc (Nat.le_refl _) _).alloc (by simp) _).alloc (by simp; omega) _
  have g1 := h1.out.later hb1
  have g2 := h2.out.later hb1
  have g3 := h3.out.later hb1
  have g4 := h4.out.later hb1
  have g5 := h5.out.later hb1
  have g6 := h6.out.later hb1
  have ne1 : ((m.toNat : Int) != (m.toNat : Int)) = false := by simp
  rw [hw1]
  clear hw1 hcv h1 h2 h3 h4 h5 h6 h
  replace g1 := Lib.hid g1; replace g2 := Lib.hid g2; replace g3 := Lib.hid g3; replace g4 := Lib.hid g4; replace g5 := Lib.hid g5; replace g6 := Lib.hid g6; replace hb1 := Lib.hid hb1
  go_loopw [5] (fun j wx => ∃ r : Nat, r ≤ n + 1 ∧ j = .int .i64 r ∧ ∃ dn, wx = w1.drewN dn) (fun j _ => n + 1 - (intOf j).toNat)
  case atStart => exact ⟨0, by omega, rfl, 0, rfl⟩
  case round =>
    obtain ⟨r, hr, rfl, dn, rfl⟩ := hrel
    by_cases hq1 : r < n + 1
    · obtain ⟨b2, _, hv, _, _, _, y2⟩ := g2.out.cellAt (by omega)
      simp only [Value.slice.injEq, true_and] at hv
      obtain ⟨rfl, rfl⟩ := hv
      have z2 := y2 r (.string (markS m)) (rep_get (by omega))
      by_cases hq2 : r < n
      · obtain ⟨b1', _, hv, _, _, _, y1⟩ := g1.out.cellAt (by omega)
        simp only [Value.slice.injEq, true_and] at hv
        obtain ⟨rfl, rfl⟩ := hv
        have z1 := y1 r (.string (markS m)) (rep_get (by omega))
        have t1 : decide ((r : Int) < (n : Int)) = true := decide_eq_true (by omega)
        clear y1 y2
        go_wp2_with fail
        go_roundw
        case rel => exact ⟨r + 1, by omega, by go_num, dn, rfl⟩
        case measure => simp [intOf]; omega
      · have t1 : decide ((r : Int) < (n : Int)) = false := decide_eq_false (by omega)
        clear y2
        go_wp2_with fail
        go_roundw
        case rel => exact ⟨r + 1, by omega, by go_num, dn, rfl⟩
        case measure => simp [intOf]; omega
    · obtain rfl : r = n + 1 := by omega
      push_cast
      go_wp2_with fail
      go_loopw [6] (fun j wx => ∃ r : Nat, r ≤ q + 1 ∧ j = .int .i64 r ∧ ∃ dn, wx = w1.drewN dn) (fun j _ => q + 1 - (intOf j).toNat)
      case atStart => exact ⟨0, by omega, rfl, dn, rfl⟩
      case round =>
        obtain ⟨r, hr, rfl, dn, rfl⟩ := hrel
        by_cases hq1 : r < q + 1
        · obtain ⟨b2, _, hv, _, _, _, y2⟩ := g4.out.cellAt (by omega)
          simp only [Value.slice.injEq, true_and] at hv
          obtain ⟨rfl, rfl⟩ := hv
          obtain ⟨e0, e1, e2⟩ := ww_get3 (List.replicate (q + 1) (markS m, false, m.toNat)) r (by simp; omega)
          rw [List.getElem_replicate] at e0 e1 e2
          have z0 := y2 _ _ e0
          have z1 := y2 _ _ e1
          have z2 := y2 _ _ e2
          dsimp only at z0 z1 z2
          have i1 : (0 : Int) ≤ (r : Int) := by omega
          have i2 : (r : Int) < ((q + 1 : Nat) : Int) := by omega
          have i2' : (r : Int) < (q : Int) + 1 := by omega
          by_cases hq2 : r < q
          · obtain ⟨b1', _, hv, _, _, _, y1⟩ := g3.out.cellAt (by omega)
            simp only [Value.slice.injEq, true_and] at hv
            obtain ⟨rfl, rfl⟩ := hv
            obtain ⟨e0, e1, e2⟩ := ww_get3 (List.replicate q (markS m, false, m.toNat)) r (by simp; omega)
            rw [List.getElem_replicate] at e0 e1 e2
            have v0 := y1 _ _ e0
            have v1 := y1 _ _ e1
            have v2 := y1 _ _ e2
            dsimp only at v0 v1 v2
            have t1 : decide ((r : Int) < (q : Int)) = true := decide_eq_true (by omega)
            have i3 : (r : Int) < (q : Int) := by omega
            clear y1 y2 e0 e1 e2
            go_wp2_with fail
            go_quiet (fail)
            go_wp2_with fail
            go_roundw
            case rel => exact ⟨r + 1, by omega, by go_num, dn + nq, rfl⟩
            case measure => simp [intOf]; omega
          · have t1 : decide ((r : Int) < (q : Int)) = false := decide_eq_false (by omega)
            clear y2 e0 e1 e2
            go_wp2_with fail
            go_quiet (fail)
            go_wp2_with fail
            go_roundw
            case rel => exact ⟨r + 1, by omega, by go_num, dn + nq, rfl⟩
            case measure => simp [intOf]; omega
        · obtain rfl : r = q + 1 := by omega
          push_cast
          go_wp2_with fail
          go_loopw [7] (fun j wx => ∃ r : Nat, r ≤ p + 1 ∧ j = .int .i64 r ∧ ∃ dn, wx = w1.drewN dn) (fun j _ => p + 1 - (intOf j).toNat)
          case atStart => exact ⟨0, by omega, rfl, dn, rfl⟩
          case round =>
            obtain ⟨r, hr, rfl, dn, rfl⟩ := hrel
            by_cases hq1 : r < p + 1
            · obtain ⟨b2, _, hv, _, _, _, y2⟩ := g6.out.cellAt (by omega)
              simp only [Value.slice.injEq, true_and] at hv
              obtain ⟨rfl, rfl⟩ := hv
              have z2 := y2 r (.int .u8 (m.toNat : Int)) (rep_get (by omega))
              have i1 : (0 : Int) ≤ (r : Int) := by omega
              have i2' : (r : Int) < (p : Int) + 1 := by omega
              by_cases hq2 : r < p
              · obtain ⟨b1', _, hv, _, _, _, y1⟩ := g5.out.cellAt (by omega)
                simp only [Value.slice.injEq, true_and] at hv
                obtain ⟨rfl, rfl⟩ := hv
                have z1 := y1 r (.int .u8 (m.toNat : Int)) (rep_get (by omega))
                have t1 : decide ((r : Int) < (p : Int)) = true := decide_eq_true (by omega)
                have i3 : (r : Int) < (p : Int) := by omega
                clear y1 y2
                go_wp2_with fail
                go_quiet (fail)
                go_wp2_with fail
                go_roundw
                case rel => exact ⟨r + 1, by omega, by go_num, dn + nq, rfl⟩
                case measure => simp [intOf]; omega
              · have t1 : decide ((r : Int) < (p : Int)) = false := decide_eq_false (by omega)
                clear y2
                go_wp2_with fail
                go_quiet (fail)
                go_wp2_with fail
                go_roundw
                case rel => exact ⟨r + 1, by omega, by go_num, dn + nq, rfl⟩
                case measure => simp [intOf]; omega
            · obtain rfl : r = p + 1 := by omega
              go_wp2_with fail
              go_ret
              exact ⟨rfl, below_drewN hb1.out _⟩
end Go.Proofs.YtefbogmgcihndaaDoor

namespace Go.Proofs.YtefbogmgcihndaaDoor
open Go.RowKit WP
theorem set7 (P Q : List Value) (n : Nat) (hP : P.length = n) (a0 a1 a2 a3 a4 a5 a6 b0 b1 b2 b3 b4 b5 b6 : Value) :
    (((((((P ++ ([a0, a1, a2, a3, a4, a5, a6] ++ Q)).set n b0).set (n + 1) b1).set (n + 2) b2).set (n + 3) b3).set (n + 4) b4).set (n + 5) b5).set (n + 6) b6 = P ++ ([b0, b1, b2, b3, b4, b5, b6] ++ Q) := by
  subst hP
  simp [List.set_append_right]
def setEnt (w : World) (B at_ : Nat) (t : Ent) : World :=
  ((((((w.setCell ⟨B, at_, none⟩ t.l).setCell ⟨B, at_ + 1, none⟩ t.ml).setCell ⟨B, at_ + 2, none⟩ t.w).setCell ⟨B, at_ + 3, none⟩ t.mw).setCell ⟨B, at_ + 4, none⟩ t.b).setCell ⟨B, at_ + 5, none⟩ t.mb).setCell ⟨B, at_ + 6, none⟩ (.int .u8 t.k)
theorem store7 {w : World} {base : Nat} {ty : TypeId} {B q cap i : Nat} {D T : List Ent} {t : Ent} (h : w.ownsRow base ty 7 (.slice (some ⟨B, 0, none⟩) q cap) q (rowsOf (D ++ t :: T))) (hi : D.length = i) (t' : Ent) :
    (setEnt w B (i * 7) t').ownsRow base ty 7 (.slice (some ⟨B, 0, none⟩) q cap) q (rowsOf (D ++ t' :: T)) ∧ Touch [.slice (some ⟨B, 0, none⟩) q cap] w (setEnt w B (i * 7) t') := by
  have s0 := h.stored (i * 7) t'.l
  have s1 := s0.1.stored (i * 7 + 1) t'.ml
  have s2 := s1.1.stored (i * 7 + 2) t'.w
  have s3 := s2.1.stored (i * 7 + 3) t'.mw
  have s4 := s3.1.stored (i * 7 + 4) t'.b
  have s5 := s4.1.stored (i * 7 + 5) t'.mb
  have s6 := s5.1.stored (i * 7 + 6) (.int .u8 t'.k)
  have e : ∀ x : Ent, rowsOf (D ++ x :: T) = rowsOf D ++ (x.cells ++ rowsOf T) := fun x => by rw [rowsOf_append]; unfold rowsOf; rw [List.flatMap_cons]
  have hs := set7 (rowsOf D) (rowsOf T) (i * 7) (by rw [rowsOf_len, hi]) t.l t.ml t.w t.mw t.b t.mb (.int .u8 t.k) t'.l t'.ml t'.w t'.mw t'.b t'.mb (.int .u8 t'.k)
  have hf := s6.1
  rw [show (((((((rowsOf (D ++ t :: T)).set (i * 7) t'.l).set (i * 7 + 1) t'.ml).set (i * 7 + 2) t'.w).set (i * 7 + 3) t'.mw).set (i * 7 + 4) t'.b).set (i * 7 + 5) t'.mb).set (i * 7 + 6) (.int .u8 t'.k) = rowsOf (D ++ t' :: T) by rw [e, e]; exact hs] at hf
  have k : ∀ {W W' : World}, W.grownBy W' (Value.slice (some ⟨B, 0, none⟩) q cap).ownBlock → Touch [.slice (some ⟨B, 0, none⟩) q cap] W W' := fun hg => Touch.grown hg (List.mem_singleton_self _)
  exact ⟨hf, (((((k s0.2).trans (k s1.2)).trans (k s2.2)).trans (k s3.2)).trans (k s4.2)).trans (k s5.2) |>.trans (k s6.2)⟩
theorem frozen7 {w : World} {base : Nat} {ty : TypeId} {B q cap : Nat} {xs : List Value} (h : w.ownsRow base ty 7 (.slice (some ⟨B, 0, none⟩) q cap) q xs) (j : Nat) : w.frozen? ⟨B, j, none⟩ = false := h.frozenAt j
theorem ent_after {w : World} {base : Nat} {ty : TypeId} {B q cap i : Nat} {D T : List Ent} {t : Ent} (h : w.ownsRow base ty 7 (.slice (some ⟨B, 0, none⟩) q cap) q (rowsOf (D ++ t :: T))) (hi : D.length = i) : EntAt w B (i * 7) t := by
  have hq : (D ++ t :: T).length = q := by have := h.1; rw [rowsOf_len] at this; omega
  have hl : i < (D ++ t :: T).length := by simp; omega
  have hg : (D ++ t :: T)[i] = t := by subst hi; simp
  have key : ∀ c, c < 7 → w.cell? ⟨B, i * 7 + c, none⟩ = (t).cells[c]? := fun c hc => (h.cellAt (i * 7 + c) (by omega)).trans ((rowsOf_get _ i hl c hc).trans (by rw [hg]))
  exact ⟨key 0 (by decide), key 1 (by decide), key 2 (by decide), key 3 (by decide), key 4 (by decide), key 5 (by decide), key 6 (by decide)⟩
theorem Near.drew1 {w : World} {a b : Value} (h : Near w.drew a b) : Near w a b := h
/-- what stands behind the hold of an entry, ahead of the store and behind it -/
theorem after_hold {base : Nat} {ty : TypeId} {wr w7 : World} {B q cap i : Nat} {Dn Td : List Ent} {t : Ent} {ml mv mb : Value} {k : Int} (h4 : Book4 base ty wr (.slice (some ⟨B, 0, none⟩) q cap) Dn (t :: Td)) (hi : Dn.length = i) (hl : (Dn ++ t :: Td).length = q)
    (hR : EntRead w7 ⟨t.l, ml, t.w, mv, t.b, mb, k⟩) (T7 : Touch [t.l, t.w, t.b] wr.drew w7) (m1 : Near wr.drew t.l ml) (m2 : Near wr.drew t.w mv) (m3 : Near wr.drew t.b mb) :
    (w7.cell? ⟨B, i * 7, none⟩ = some t.l ∧ w7.cell? ⟨B, i * 7 + 1, none⟩ = some t.ml ∧ w7.cell? ⟨B, i * 7 + 2, none⟩ = some t.w ∧ w7.cell? ⟨B, i * 7 + 3, none⟩ = some t.mw ∧ w7.cell? ⟨B, i * 7 + 4, none⟩ = some t.b ∧ w7.cell? ⟨B, i * 7 + 5, none⟩ = some t.mb ∧ w7.cell? ⟨B, i * 7 + 6, none⟩ = some (.int .u8 t.k)) ∧
    (∀ j, w7.frozen? ⟨B, j, none⟩ = false) ∧
    ((((((((w7.setCell ⟨B, i * 7, none⟩ t.l).setCell ⟨B, i * 7 + 1, none⟩ ml).setCell ⟨B, i * 7 + 2, none⟩ t.w).setCell ⟨B, i * 7 + 3, none⟩ mv).setCell ⟨B, i * 7 + 4, none⟩ t.b).setCell ⟨B, i * 7 + 5, none⟩ mb).setCell ⟨B, i * 7 + 6, none⟩ (.int .u8 k)).cell? ⟨B, i * 7, none⟩ = some t.l ∧
     (((((((w7.setCell ⟨B, i * 7, none⟩ t.l).setCell ⟨B, i * 7 + 1, none⟩ ml).setCell ⟨B, i * 7 + 2, none⟩ t.w).setCell ⟨B, i * 7 + 3, none⟩ mv).setCell ⟨B, i * 7 + 4, none⟩ t.b).setCell ⟨B, i * 7 + 5, none⟩ mb).setCell ⟨B, i * 7 + 6, none⟩ (.int .u8 k)).cell? ⟨B, i * 7 + 2, none⟩ = some t.w ∧
     (((((((w7.setCell ⟨B, i * 7, none⟩ t.l).setCell ⟨B, i * 7 + 1, none⟩ ml).setCell ⟨B, i * 7 + 2, none⟩ t.w).setCell ⟨B, i * 7 + 3, none⟩ mv).setCell ⟨B, i * 7 + 4, none⟩ t.b).setCell ⟨B, i * 7 + 5, none⟩ mb).setCell ⟨B, i * 7 + 6, none⟩ (.int .u8 k)).cell? ⟨B, i * 7 + 4, none⟩ = some t.b) ∧
    (Book4 base ty (((((((w7.setCell ⟨B, i * 7, none⟩ t.l).setCell ⟨B, i * 7 + 1, none⟩ ml).setCell ⟨B, i * 7 + 2, none⟩ t.w).setCell ⟨B, i * 7 + 3, none⟩ mv).setCell ⟨B, i * 7 + 4, none⟩ t.b).setCell ⟨B, i * 7 + 5, none⟩ mb).setCell ⟨B, i * 7 + 6, none⟩ (.int .u8 k)) (.slice (some ⟨B, 0, none⟩) q cap) (Dn ++ [⟨t.l, ml, t.w, mv, t.b, mb, k⟩]) Td ∧
      Below base wr (((((((w7.setCell ⟨B, i * 7, none⟩ t.l).setCell ⟨B, i * 7 + 1, none⟩ ml).setCell ⟨B, i * 7 + 2, none⟩ t.w).setCell ⟨B, i * 7 + 3, none⟩ mv).setCell ⟨B, i * 7 + 4, none⟩ t.b).setCell ⟨B, i * 7 + 5, none⟩ mb).setCell ⟨B, i * 7 + 6, none⟩ (.int .u8 k))) := by
  obtain ⟨hOwn, _, _, _, g1, g2, g3⟩ := h4.mid
  have hrow := h4.row
  rw [hl] at hrow
  have hB : Below wr.heap.size wr wr.drew := (Below.refl _ _).drew
  have nb : ∀ u ∈ [t.l, t.w, t.b], u.ownBlock ≠ some B := by
    intro u hu e
    simp only [List.mem_cons, List.not_mem_nil, or_false] at hu
    rcases hu with rfl | rfl | rfl
    · exact g1 B e rfl
    · exact g2 B e rfl
    · exact g3 B e rfl
  have ow7 : w7.ownsRow base ty 7 (.slice (some ⟨B, 0, none⟩) q cap) q (rowsOf (Dn ++ t :: Td)) := T7.own (own_below hrow hB) (fun s hs k k1 k2 => nb s hs (by rw [k2, ← k1]; rfl))
  have hE := ent_after ow7 hi
  have hSt := store7 ow7 hi ⟨t.l, ml, t.w, mv, t.b, mb, k⟩
  have hAt := ent_after hSt.1 hi
  have hl' : (Dn ++ (⟨t.l, ml, t.w, mv, t.b, mb, k⟩ : Ent) :: Td).length = q := by simpa using hl
  have hstep := h4.step T7.drew1 hR rfl rfl rfl m1.drew1 m2.drew1 m3.drew1 hSt.2 (by rw [hl']; exact hSt.1)
  have hbase : base ≤ B ∧ B < wr.heap.size := hrow.lt B rfl
  have hbl : Below base wr w7 := by
    have := Touch.below (B := base) T7.drew1 (by omega) (fun v hv k hk => by
      simp only [List.mem_cons, List.not_mem_nil, or_false] at hv
      exact (hOwn.lt v hv k hk).1)
    exact this
  have hb2 : Below base w7 (setEnt w7 B (i * 7) ⟨t.l, ml, t.w, mv, t.b, mb, k⟩) := hSt.2.below (by have := T7.drew1.size; omega) (fun v hv k hk => by rw [List.mem_singleton.1 hv] at hk; simp only [Value.ownBlock, Option.some.injEq] at hk; omega)
  exact ⟨⟨hE.c0, hE.c1, hE.c2, hE.c3, hE.c4, hE.c5, hE.c6⟩, fun j => frozen7 ow7 j, ⟨hAt.c0, hAt.c2, hAt.c4⟩, hstep, hbl.trans hb2⟩
end Go.Proofs.YtefbogmgcihndaaDoor

namespace Go.Proofs.YtefbogmgcihndaaDoor
open Go.RowKit WP
theorem numbers_yes (w : World) : Calls Tryd.prog 26 #[] w fun e w' => e = .returned (.bool true) ∧ w' = w := by
  go_enter Tryd.func26, Tryd.ntmps26
  go_wp2
  go_ret
  exact ⟨rfl, rfl⟩
set_option maxRecDepth 100000 in
theorem tens_ten (w : World) (h : Pow10 w) : Calls Tryd.prog 11 #[.int .u32 10] w fun e w' => e = .returned (.string ⟨#[49, 48]⟩) ∧ Below w.heap.size w w' := by
  have h1 := tens_any 10 (by decide) w h
  rw [Lib.decDigits_two (by decide) (by decide)] at h1
  exact h1
set_option maxRecDepth 100000 in
set_option maxHeartbeats 4000000 in
theorem head_yes (w : World) (h : Pow10 w) : Calls Tryd.prog 7 #[] w fun e w' => e = .returned (.bool true) ∧ Below w.heap.size w w' := by
  have hF : wordsF ⟨#[97, 32, 34, 98, 34]⟩ = .inl [(⟨#[97]⟩, false, 1), (⟨#[98]⟩, true, 3)] := by kernel_rfl
  go_enter Tryd.func7, Tryd.ntmps7
  go_wp2_with fail
  refine (words_any _ _ (by decide)).mono ?_
  rintro e w1 ⟨hb, hr⟩
  rw [hF] at hr
  obtain ⟨v, rfl, ho⟩ := hr
  obtain ⟨g, cap, rfl, q1, q2⟩ := ho.form (by simp)
  have c3 := (ho.cellAt 3 (by simp)).trans (show _ = some (.string ⟨#[98]⟩) from rfl)
  have c4 := (ho.cellAt 4 (by simp)).trans (show _ = some (.bool true) from rfl)
  have c5 := (ho.cellAt 5 (by simp)).trans (show _ = some (.int .i64 3) from rfl)
  have hp := Lib.hid (pow10_later h hb)
  clear hF ho
  have hb := Lib.hid hb
  go_wp2_with (first | (go_at_call 26; refine (numbers_yes _).mono ?_; rintro e w2 ⟨rfl, hw⟩; rw [hw]; clear hw w2) | (go_at_call 11; refine (tens_ten _ hp.out).mono ?_; rintro e w2 ⟨rfl, hb2⟩))
  go_ret
  exact ⟨rfl, hb.out.trans (hb2.mono hb.out.size)⟩
end Go.Proofs.YtefbogmgcihndaaDoor
