/- The law's book, as a row of five cells an entry; the contract of the law's marked. -/
import Derived.Test.YtedhinekkmoheaaKeepB
import Derived.BigQuiet
namespace Go.Proofs.Ytedhinekkmoheaa
open Go.RowKit WP
/-- an entry of the book: the two lists, the two with one more, the mark -/
structure Ent where
  v : Value
  m : Value
  u : Value
  x : Value
  k : Int
def Ent.cells (e : Ent) : List Value := [e.v, e.m, e.u, e.x, .int .i64 e.k]
def rowsOf (E : List Ent) : List Value := E.flatMap Ent.cells
theorem rowsOf_len (E : List Ent) : (rowsOf E).length = E.length * 5 := by
  induction E with
  | nil => rfl
  | cons e E ih => unfold rowsOf at *; rw [List.flatMap_cons, List.length_append, ih]; simp [Ent.cells]; omega
theorem rowsOf_append (E F : List Ent) : rowsOf (E ++ F) = rowsOf E ++ rowsOf F := List.flatMap_append
theorem rowsOf_get (E : List Ent) (i : Nat) (h : i < E.length) (c : Nat) (hc : c < 5) : (rowsOf E)[i * 5 + c]? = (E[i]).cells[c]? := by
  have hs : E = E.take i ++ E[i] :: E.drop (i + 1) := by rw [List.getElem_cons_drop, List.take_append_drop]
  have hl : (rowsOf (E.take i)).length = i * 5 := by rw [rowsOf_len, List.length_take]; omega
  conv => lhs; rw [hs]
  rw [rowsOf_append, List.getElem?_append_right (by omega), hl, show i * 5 + c - i * 5 = c by omega]
  unfold rowsOf
  rw [List.flatMap_cons, List.getElem?_append_left (by simp [Ent.cells]; omega)]
/-- what lies at an entry's place -/
theorem book_at {w : World} {base : Nat} {t : TypeId} {vb : Value} {E : List Ent} (h : w.ownsRow base t 5 vb E.length (rowsOf E)) (i : Nat) (hi : i < E.length) :
    ∃ B cap, vb = .slice (some ⟨B, 0, none⟩) E.length cap ∧ base ≤ B ∧ B < w.heap.size ∧ E.length ≤ cap ∧ cap ≤ maxLen ∧
      w.cell? ⟨B, i * 5, none⟩ = some E[i].v ∧ w.cell? ⟨B, i * 5 + 1, none⟩ = some E[i].m ∧ w.cell? ⟨B, i * 5 + 2, none⟩ = some E[i].u ∧
      w.cell? ⟨B, i * 5 + 3, none⟩ = some E[i].x ∧ w.cell? ⟨B, i * 5 + 4, none⟩ = some (.int .i64 E[i].k) := by
  obtain ⟨B, cap, rfl, h1, h2⟩ := h.form (by omega)
  obtain ⟨_, hv | ⟨g, cap', cur, hv, _, _, hc1, hc2, _⟩⟩ := id h
  · simp at hv
  simp only [Value.slice.injEq, Option.some.injEq, Addr.mk.injEq, and_true, true_and] at hv
  obtain ⟨rfl, rfl⟩ := hv
  have key : ∀ c, c < 5 → w.cell? ⟨B, i * 5 + c, none⟩ = (E[i]).cells[c]? := fun c hc => (h.cellAt (i * 5 + c) (by omega)).trans (rowsOf_get E i hi c hc)
  exact ⟨B, cap, rfl, h1, h2, hc1, hc2, key 0 (by decide), key 1 (by decide), key 2 (by decide), key 3 (by decide), key 4 (by decide)⟩
def mk32 (k : Int) : Value := .int .u32 (k % 4294967296)
def mk8 (k : Int) : Value := .int .u8 (k % 256)
/-- what stands in an entry when the book is looked at -/
def EntRead (w : World) (e : Ent) : Prop :=
  ∃ n nb : Nat, 0 ≤ e.k ∧ e.k ≤ 9223372036854775807 ∧ Rd w e.v (List.replicate n (mk32 e.k)) ∧ Rd w e.m (List.replicate (n + 1) (mk32 e.k)) ∧
    Rd w e.u (List.replicate nb (mk8 e.k)) ∧ Rd w e.x (List.replicate (nb + 1) (mk8 e.k))
theorem EntRead.mono {w w' : World} {e : Ent} (h : EntRead w e) (hb : Below w.heap.size w w') : EntRead w' e := by
  obtain ⟨n, nb, h1, h2, h3, h4, h5, h6⟩ := h
  exact ⟨n, nb, h1, h2, h3.mono hb, h4.mono hb, h5.mono hb, h6.mono hb⟩
theorem Rd.same {w : World} {v : Value} {n : Nat} {c : Value} (h : Rd w v (List.replicate n c)) :
    ∃ ao cap, v = .slice ao n cap ∧ n ≤ cap ∧ cap ≤ 9223372036854775807 ∧
      (n = 0 ∨ ∃ b off, ao = some ⟨b, off, none⟩ ∧ b < w.heap.size ∧ ∀ j, j < n → w.cell? ⟨b, off + j, none⟩ = some c) := by
  obtain ⟨ao, cap, rfl, h1, h2, h3⟩ := h
  simp only [List.length_replicate] at h1 ⊢
  refine ⟨ao, cap, rfl, h1, h2, ?_⟩
  rcases h3 with h3 | ⟨b, off, rfl, hc⟩
  · exact .inl (by simpa using h3)
  · by_cases hn : n = 0
    · exact .inl hn
    · have hget : ∀ j, j < n → (List.replicate n c)[j]? = some c := fun j hj => by simp [hj]
      exact .inr ⟨b, off, rfl, World.block_lt_of_cell? w _ (hc 0 _ (hget 0 (by omega))), fun j hj => hc j _ (hget j hj)⟩
set_option maxRecDepth 100000 in
set_option maxHeartbeats 4000000 in
theorem marked_any (vbk : Value) (E : List Ent) (w : World) (base : Nat) (hbk : w.ownsRow base 50 5 vbk E.length (rowsOf E)) (hE : ∀ e ∈ E, EntRead w e) :
    Calls Try.prog 26 #[vbk] w fun e w' => e = .returned (.bool true) ∧ Below w.heap.size w w' := by
  obtain ⟨ao, ca, rfl, a1, a2⟩ : ∃ ao ca, vbk = .slice ao E.length ca ∧ E.length ≤ ca ∧ ca ≤ 9223372036854775807 := by
    rcases hbk.2 with ⟨rfl, h0⟩ | ⟨g, cap, cur, rfl, _, _, h1, h2, _⟩
    · exact ⟨none, 0, by rw [h0], by omega, by decide⟩
    · exact ⟨_, _, rfl, h1, h2⟩
  go_enter Try.func26, Try.ntmps26
  go_wp2_with fail
  go_loopw [3, 4, 5, 6] (fun i _ _ _ wr => ∃ k : Nat, k ≤ E.length ∧ i = .int .i64 k ∧ Below w.heap.size w wr) (fun i _ _ _ _ => E.length - (intOf i).toNat)
  case atStart => exact ⟨0, by omega, rfl, Below.refl _ _⟩
  case round =>
    obtain ⟨wo, rfl⟩ : ∃ wo, wo = wr := ⟨wr, rfl⟩
    obtain ⟨k, hk, rfl, hb⟩ := hrel
    by_cases hlt : k < E.length
    · obtain ⟨B, cap, hv, hB1, hB2, hc1, hc2, c0, c1, c2, c3, c4⟩ := book_at (own_below hbk hb) k hlt
      simp only [Value.slice.injEq] at hv
      obtain ⟨rfl, hx, rfl⟩ := hv
      clear hx
      have hE' := (hE E[k] (List.getElem_mem hlt)).mono hb
      obtain ⟨⟨v, m, u, x, K⟩, he⟩ : ∃ e, E[k] = e := ⟨_, rfl⟩
      rw [he] at c0 c1 c2 c3 c4 hE'
      dsimp only at c0 c1 c2 c3 c4
      obtain ⟨n, nb, k1, k2, r1, r2, r3, r4⟩ := hE'
      dsimp only at k1 k2 r1 r2 r3 r4
      obtain ⟨o1, p1, rfl, l1, q1, s1⟩ := r1.same
      obtain ⟨o2, p2, rfl, l2, q2, s2⟩ := r2.same
      obtain ⟨o3, p3, rfl, l3, q3, s3⟩ := r3.same
      obtain ⟨o4, p4, rfl, l4, q4, s4⟩ := r4.same
      clear r1 r2 r3 r4 he hE hbk
      have s1 := Lib.hid s1; have s2 := Lib.hid s2; have s3 := Lib.hid s3; have s4 := Lib.hid s4; have hb := Lib.hid hb
      go_wp2_with fail
      obtain ⟨wb, hwb⟩ : ∃ wb, wo.alloc (.cells #[.slice o1 n p1, .slice o2 (n + 1) p2, .slice o3 nb p3, .slice o4 (nb + 1) p4, .int .i64 K] 50) = wb := ⟨_, rfl⟩
      have d0 : wb.cell? ⟨wo.heap.size, 0, none⟩ = some (.slice o1 n p1) := by rw [← hwb]; simp [go_sem]
      have d1 : wb.cell? ⟨wo.heap.size, 1, none⟩ = some (.slice o2 (n + 1) p2) := by rw [← hwb]; simp [go_sem]
      have d2 : wb.cell? ⟨wo.heap.size, 2, none⟩ = some (.slice o3 nb p3) := by rw [← hwb]; simp [go_sem]
      have d3 : wb.cell? ⟨wo.heap.size, 3, none⟩ = some (.slice o4 (nb + 1) p4) := by rw [← hwb]; simp [go_sem]
      have d4 : wb.cell? ⟨wo.heap.size, 4, none⟩ = some (.int .i64 K) := by rw [← hwb]; simp [go_sem]
      have hBb : Below wo.heap.size wo wb := by rw [← hwb]; exact (Below.refl _ _).alloc (Nat.le_refl _) _
      have hz : wo.heap.size < wb.heap.size := by rw [← hwb]; simp
      rw [hwb]
      have hBb' := hBb
      skip
      clear hwb c0 c1 c2 c3 c4
      go_loopw [5] (fun j wx => ∃ q : Nat, q ≤ n + 1 ∧ j = .int .i64 q ∧ Below wb.heap.size wb wx) (fun j _ => n + 1 - (intOf j).toNat)
      case atStart => exact ⟨0, by omega, rfl, Below.refl _ _⟩
      case round =>
        obtain ⟨q, hq, rfl, hbx⟩ := hrel
        have x0 := (hbx.cell (p := ⟨wo.heap.size, 0, none⟩) hz).trans d0
        have x1 := (hbx.cell (p := ⟨wo.heap.size, 1, none⟩) hz).trans d1
        have x4 := (hbx.cell (p := ⟨wo.heap.size, 4, none⟩) hz).trans d4
        by_cases hq1 : q < n + 1
        · obtain ⟨b2, f2, rfl, hb2, y2⟩ := s2.out.resolve_left (by omega)
          have z2 := (hbx.cell (p := ⟨b2, f2 + q, none⟩) (Nat.lt_of_lt_of_le hb2 hBb.size)).trans ((hBb.cell (p := ⟨b2, f2 + q, none⟩) hb2).trans (y2 q hq1))
          have e1 : ((K % 4294967296) != (K % 4294967296)) = false := by simp
          unfold mk32 at z2
          by_cases hq2 : q < n
          · obtain ⟨b1, f1, rfl, hb1, y1⟩ := s1.out.resolve_left (by omega)
            have z1 := (hbx.cell (p := ⟨b1, f1 + q, none⟩) (Nat.lt_of_lt_of_le hb1 hBb.size)).trans ((hBb.cell (p := ⟨b1, f1 + q, none⟩) hb1).trans (y1 q hq2))
            unfold mk32 at z1
            have g1 : decide ((q : Int) < (n : Int)) = true := by simp; omega
            clear y1 y2
            have hbx := Lib.hid hbx
            go_wp2_with fail
            go_quiet (fail)
            go_wp2_with fail
            go_roundw
            case rel => exact ⟨q + 1, by omega, by go_num, below_drewN hbx.out _⟩
            case measure => simp [intOf]; omega
          · have g1 : decide ((q : Int) < (n : Int)) = false := by simp; omega
            clear y2
            have hbx := Lib.hid hbx
            go_wp2_with fail
            go_quiet (fail)
            go_wp2_with fail
            go_roundw
            case rel => exact ⟨q + 1, by omega, by go_num, below_drewN hbx.out _⟩
            case measure => simp [intOf]; omega
        · obtain rfl : q = n + 1 := by omega
          have hbx := Lib.hid hbx
          go_wp2_with fail
          -- next
          go_loopw [6] (fun j wx => ∃ q : Nat, q ≤ nb + 1 ∧ j = .int .i64 q ∧ Below wb.heap.size wb wx) (fun j _ => nb + 1 - (intOf j).toNat)
          case atStart => exact ⟨0, by omega, rfl, hbx.out⟩
          case round =>
            obtain ⟨q, hq, rfl, hbx⟩ := hrel
            have x0 := (hbx.cell (p := ⟨wo.heap.size, 2, none⟩) hz).trans d2
            have x1 := (hbx.cell (p := ⟨wo.heap.size, 3, none⟩) hz).trans d3
            have x4 := (hbx.cell (p := ⟨wo.heap.size, 4, none⟩) hz).trans d4
            by_cases hq1 : q < nb + 1
            · obtain ⟨b2, f2, rfl, hb2, y2⟩ := s4.out.resolve_left (by omega)
              have z2 := (hbx.cell (p := ⟨b2, f2 + q, none⟩) (Nat.lt_of_lt_of_le hb2 hBb.size)).trans ((hBb.cell (p := ⟨b2, f2 + q, none⟩) hb2).trans (y2 q hq1))
              have e1 : ((K % 256) != (K % 256)) = false := by simp
              unfold mk8 at z2
              by_cases hq2 : q < nb
              · obtain ⟨b1, f1, rfl, hb1, y1⟩ := s3.out.resolve_left (by omega)
                have z1 := (hbx.cell (p := ⟨b1, f1 + q, none⟩) (Nat.lt_of_lt_of_le hb1 hBb.size)).trans ((hBb.cell (p := ⟨b1, f1 + q, none⟩) hb1).trans (y1 q hq2))
                unfold mk8 at z1
                have g1 : decide ((q : Int) < (nb : Int)) = true := by simp; omega
                clear y1 y2
                have hbx := Lib.hid hbx
                go_wp2_with fail
                go_quiet (fail)
                go_wp2_with fail
                go_roundw
                case rel => exact ⟨q + 1, by omega, by go_num, below_drewN hbx.out _⟩
                case measure => simp [intOf]; omega
              · have g1 : decide ((q : Int) < (nb : Int)) = false := by simp; omega
                clear y2
                have hbx := Lib.hid hbx
                go_wp2_with fail
                go_quiet (fail)
                go_wp2_with fail
                go_roundw
                case rel => exact ⟨q + 1, by omega, by go_num, below_drewN hbx.out _⟩
                case measure => simp [intOf]; omega
            · obtain rfl : q = nb + 1 := by omega
              have hbx := Lib.hid hbx
              go_wp2_with fail
              go_roundw
              case rel => exact ⟨k + 1, by omega, by go_num, hb.out.trans (hBb'.trans (hbx.out.mono hBb'.size) |>.mono hb.out.size)⟩
              case measure => simp [intOf]; omega
    · go_wp2_with fail
      go_ret
      exact ⟨ret_bool (by simp), hb⟩
end Go.Proofs.Ytedhinekkmoheaa
