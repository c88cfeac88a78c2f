/- The contract of text's Quote. -/
import Derived.Test.YtefbogmgcihndaaDoorTQtP
namespace Go.Proofs.YtefbogmgcihndaaDoor
open Go.RowKit WP
set_option maxRecDepth 10000 in
theorem index_dg (D : Nat) (hD : D < 16) (W : World) :
    (Instr.index 9 (.string ⟨#[48, 49, 50, 51, 52, 53, 54, 55, 56, 57, 97, 98, 99, 100, 101, 102]⟩) (.int .u8 (D : Int))).run Tryd.prog W = .ok (.int .u8 ((dgB D).toNat)) W := by
  have : D = 0 ∨ D = 1 ∨ D = 2 ∨ D = 3 ∨ D = 4 ∨ D = 5 ∨ D = 6 ∨ D = 7 ∨ D = 8 ∨ D = 9 ∨ D = 10 ∨ D = 11 ∨ D = 12 ∨ D = 13 ∨ D = 14 ∨ D = 15 := by omega
  rcases this with rfl | rfl | rfl | rfl | rfl | rfl | rfl | rfl | rfl | rfl | rfl | rfl | rfl | rfl | rfl | rfl <;> rfl
theorem shr4 (x : Nat) : ((x : Int) / 16) = ((x / 16 : Nat) : Int) := by omega
theorem and15 (x : Nat) (h : x ≤ 255) : bits .and .u8 (x : Int) 15 = ((x % 16 : Nat) : Int) := by
  have := bits_mask .u8 8 (by decide) (fun m a b => by rw [IntKind.wrap_u8]; omega) 4 (by decide) (x : Int) (Int.natCast_nonneg _) (by omega)
  have e4 : (2 ^ 4 - 1 : Int) = 15 := by decide
  rw [e4] at this
  rw [this]
  simp
theorem below_apq {B : Nat} {w wr w1 : World} {o : Obj} {v : Value} (hb : Below B w wr) (hs : B ≤ wr.heap.size) (hg : (wr.alloc o).drew.grownBy w1 v.ownBlock) (hv : ∀ g, v.ownBlock = some g → B ≤ g) : Below B w w1 :=
  hb.grown (grownBy_trans (grownBy_trans (World.grownBy_alloc wr o _) (grownBy_drew _ _) (.inl rfl)) hg (.inl rfl)) hs hv
set_option maxRecDepth 100000 in
set_option maxHeartbeats 1000000 in
theorem quote_any (v : Value) (b : List UInt8) (w : World) (hr : Rd w v (vb b)) (hb4 : b.length ≤ 35184372088000) :
    Calls Tryd.prog 9 #[v] w fun e w' => e = .returned (.string ⟨(quoteL b).toArray⟩) ∧ Below w.heap.size w w' := by
  obtain ⟨i0, hi, hz0, hz1, hz2⟩ := info_parts infoBr
  obtain ⟨ao, ca, rfl, a1, a2, a3⟩ := hr.bytes
  have a3 := Lib.hid a3
  go_enter Tryd.func9, Tryd.ntmps9
  go_wp2_with fail
  go_loopw [3, 9] (fun v i wr => ∃ (k : Nat), k ≤ b.length ∧ i = .int .i64 k ∧ wr.ownsRow w.heap.size 5 1 v (qpre b k).length (vb (qpre b k)) ∧ Below w.heap.size w wr) (fun _ i _ => b.length - (intOf i).toNat)
  case atStart => exact ⟨0, by omega, rfl, World.ownsRow_lit w #[.int .u8 34] 1 (Nat.le_refl _) (by simp only [maxLen]; omega) rfl, Below.alloc (Below.refl _ _) (Nat.le_refl _) _⟩
  case round =>
    obtain ⟨k, hk, rfl, ho, hb⟩ := hrel
    have hs1 := hb.size
    have hlen := qpre_len b k
    have ho' := Lib.hid ho
    have hb' := Lib.hid hb
    by_cases hlt : k < b.length
    · have d1 : decide ((k : Int) < (b.length : Int)) = true := decide_eq_true (by omega)
      obtain ⟨ba, oa, rfl, hba, hca⟩ := a3.out.resolve_left (by intro h; rw [h] at hlt; simp at hlt)
      have hcell := (hb.block ba hba)
      have hc1 : wr.cell? ⟨ba, oa + k, none⟩ = some (.int .u8 (bAt b k)) := by rw [← hca k hlt]; exact (bcell hb).1 _ _ hba
      have hq := qpre_succ b k hlt
      obtain ⟨c, hc⟩ : ∃ c, b.getD k 0 = c := ⟨_, rfl⟩
      have hbc : bAt b k = (c.toNat : Int) := by rw [← hc]; rfl
      have hcn : c.toNat ≤ 255 := by have := c.toNat_lt; omega
      rw [hc] at hq
      rw [hbc] at hc1
      have hq := Lib.hid hq
      clear ho hb hbc hc hcell hca
      by_cases hp : plainI (c.toNat : Int) = true
      · have hqb : qb c = [c] := by unfold qb; rw [if_pos hp]
        have hqb := Lib.hid hqb
        go_wp2_with (first | (go_at_call 27; refine (plain_any _ _).mono ?_; rintro e w2 ⟨rfl, hw⟩; rw [hw, hp]; clear hw w2) | (at_builtin; refine wpList_append_onto' _ rfl _ _ 24 rfl w.heap.size 5 i0 (.int .u8 0) 1 1 Tryd.underlying24 hi hz0 hz1 hz2 rfl (by decide) _ _ _ rfl (ho'.out.alloc _) ⟨wr.heap.size, 0, none⟩ 1 1 [.int .u8 c.toNat] rfl rfl ?c1 ?c2 ?c3 ?c4 ?c5 ?_))
        case c1 => exact cell_one_new _ _ _
        case c2 => simp [Value.oneCell']
        case c3 => simp only [maxLen]; omega
        case c4 => omega
        case c5 => simp; omega
        intro v1 w1 ho1 hO1
        have hfin : w1.ownsRow w.heap.size 5 1 v1 (qpre b (k + 1)).length (vb (qpre b (k + 1))) := by
          rw [hq.out, hqb.out, vb_append, List.length_append]; simpa [vb] using ho1
        have hb2 : Below w.heap.size w w1 := hb'.out.trans ((Below.alloc (Below.refl _ _) hs1 _).trans (hO1.below (by simp; omega) (fun g hg => (ho'.out.lt g hg).1)))
        clear ho1 hO1 ho' hb'
        have hfin := Lib.hid hfin; have hb2 := Lib.hid hb2
        go_wp2_with fail
        go_roundw
        case rel => exact ⟨k + 1, by omega, by go_num, hfin.out, hb2.out⟩
        case measure => simp [intOf]; omega
      · replace hp : plainI (c.toNat : Int) = false := by simpa using hp
        have hqb : qb c = [92, 120, dgB (c.toNat / 16), dgB (c.toNat % 16)] := by unfold qb; rw [if_neg (by rw [hp]; decide)]
        have hqb := Lib.hid hqb
        obtain ⟨D1, hD1⟩ : ∃ D, c.toNat / 16 = D := ⟨_, rfl⟩
        obtain ⟨D2, hD2⟩ : ∃ D, c.toNat % 16 = D := ⟨_, rfl⟩
        have hx1 := index_dg (c.toNat / 16) (by omega)
        have hx2 := index_dg (c.toNat % 16) (by omega)
        have y1 := shr4 c.toNat
        have y2 := and15 c.toNat hcn
        have hqb := hqb.out
        rw [hD1] at hx1 y1 hqb
        rw [hD2] at hx2 y2 hqb
        have hqb := Lib.hid hqb
        clear hD1 hD2
        go_upto_region 7 with (first | (go_at_call 27; refine (plain_any _ _).mono ?_; rintro e w2 ⟨rfl, hw⟩; rw [hw, hp]; clear hw w2))
        go_region_held3 (fun w' => wr.heap.size ≤ w'.heap.size)
          (first
            | assumption
            | (simp; done)
            | (simp; omega)
            | (have hgs := hgrow.size; simp at hgs; omega))
          (first
            | (refine step_append_lies _ (by rfl) _ _ _ (by rfl) w.heap.size 5 i0 (.int .u8 0) 1 1 Tryd.underlying24 hi hz0 hz1 hz2 rfl (by omega) _ _ _ (by rfl) ((ho'.out.alloc _).drew) ⟨wr.heap.size, 0, none⟩ 4 4 [.int .u8 92, .int .u8 120, .int .u8 (dgB D1).toNat, .int .u8 (dgB D2).toNat] (by rfl) (by rfl) (World.news_of_block (cs := #[.int .u8 92, .int .u8 120, .int .u8 (dgB D1).toNat, .int .u8 (dgB D2).toNat]) (fr := (0, 0)) (heap_alloc_new wr _)) (by simp [Value.oneCell']) (by omega) (by simp only [maxLen]; omega) (by omega) (by simp; omega) (wr.heap.size + 1) (by simp) ?_; intro gg cap w1 hown1 hgrow hat hgl))
        all_goals
          have hfin : w1.ownsRow w.heap.size 5 1 (.slice (some ⟨gg, 0, none⟩) ((qpre b k).length + 4) cap) (qpre b (k + 1)).length (vb (qpre b (k + 1))) := by
            rw [hq.out, hqb.out, vb_append, List.length_append]; simpa [vb] using hown1
          have hb2 : Below w.heap.size w w1 := below_apq hb'.out hs1 hgrow (fun g hg => (ho'.out.lt g hg).1)
          clear hown1 hgrow hat ho' hb'
          have hfin := Lib.hid hfin; have hb2 := Lib.hid hb2
          go_wp2_with fail
          go_roundw
          case rel => exact ⟨k + 1, by omega, by go_num, hfin.out, hb2.out⟩
          case measure => simp [intOf]; omega
    · obtain rfl : k = b.length := by omega
      have d1 : decide ((b.length : Int) < (b.length : Int)) = false := decide_eq_false (by omega)
      go_wp2_with (at_builtin; refine wpList_append_onto' _ rfl _ _ 24 rfl w.heap.size 5 i0 (.int .u8 0) 1 1 Tryd.underlying24 hi hz0 hz1 hz2 rfl (by decide) _ _ _ rfl (ho'.out.alloc _) ⟨wr.heap.size, 0, none⟩ 1 1 [.int .u8 34] rfl rfl ?c1 ?c2 ?c3 ?c4 ?c5 ?_)
      case c1 => exact cell_one_new _ _ _
      case c2 => simp [Value.oneCell']
      case c3 => simp only [maxLen]; omega
      case c4 => omega
      case c5 => simp; omega
      intro v1 w1 ho1 hO1
      have hfin : w1.ownsRow w.heap.size 5 1 v1 (quoteL b).length (vb (quoteL b)) := by
        rw [← qpre_all, vb_append, List.length_append]; simpa [vb] using ho1
      have hb2 : Below w.heap.size w w1 := hb'.out.trans ((Below.alloc (Below.refl _ _) hs1 _).trans (hO1.below (by simp; omega) (fun g hg => (ho'.out.lt g hg).1)))
      have hcv := conv_bytes (P := Tryd.prog) (Rd.of_own hfin) 24 5 9 Tryd.underlying24 Tryd.underlying5 Tryd.underlying9
      clear ho1 hO1 ho' hb' hfin
      have hb2 := Lib.hid hb2
      go_wp2_with fail
      go_ret
      exact ⟨rfl, hb2.out⟩
end Go.Proofs.YtefbogmgcihndaaDoor
