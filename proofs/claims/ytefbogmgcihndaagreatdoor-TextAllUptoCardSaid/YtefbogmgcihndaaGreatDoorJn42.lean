/- The contract of text's Quote. The library's strings.Split at this program's numbers. (Printed by wip/sh/layplain.py, laymark.py.) strings.Split by the library's contract; plain laws of a text cut at its ends. -/
import Derived.Test.YtefbogmgcihndaaGreatDoorTQtP
import Derived.Test.YtefbogmgcihndaaGreatDoorProg
import Derived.Shelf.Strings.Split
import Derived.Test.YtefbogmgcihndaaGreatDoorBase
import Derived.Ground.NamesProg
import Derived.WalkKit
namespace Go.Proofs.YtefbogmgcihndaaGreatDoor
open Go.RowKit WP
set_option maxRecDepth 10000 in
theorem index_dg (D : Nat) (hD : D < 16) (W : World) :
    (Instr.index 9 (.string ⟨#[48, 49, 50, 51, 52, 53, 54, 55, 56, 57, 97, 98, 99, 100, 101, 102]⟩) (.int .u8 (D : Int))).run Tryz.prog W = .ok (.int .u8 ((dgB D).toNat)) W := by
  have : D = 0 ∨ D = 1 ∨ D = 2 ∨ D = 3 ∨ D = 4 ∨ D = 5 ∨ D = 6 ∨ D = 7 ∨ D = 8 ∨ D = 9 ∨ D = 10 ∨ D = 11 ∨ D = 12 ∨ D = 13 ∨ D = 14 ∨ D = 15 := by omega
  rcases this with rfl | rfl | rfl | rfl | rfl | rfl | rfl | rfl | rfl | rfl | rfl | rfl | rfl | rfl | rfl | rfl <;> rfl
theorem shr4 (x : Nat) : ((x : Int) / 16) = ((x / 16 : Nat) : Int) := by omega
theorem and15 (x : Nat) (h : x ≤ 255) : bits .and .u8 (x : Int) 15 = ((x % 16 : Nat) : Int) := by
  have := bits_mask .u8 8 (by decide) (fun m a b => by rw [IntKind.wrap_u8]; omega) 4 (by decide) (x : Int) (Int.natCast_nonneg _) (by omega)
  have e4 : (2 ^ 4 - 1 : Int) = 15 := by decide
  rw [e4] at this
  rw [this]
  simp
theorem below_apq {B : Nat} {w wr w1 : World} {o : Obj} {v : Value} (hb : Below B w wr) (hs : B ≤ wr.heap.size) (hg : (wr.alloc o).drew.grownBy w1 v.ownBlock) (hv : ∀ g, v.ownBlock = some g → B ≤ g) : Below B w w1 :=
  hb.grown (grownBy_trans (grownBy_trans (World.grownBy_alloc wr o _) (grownBy_drew _ _) (.inl rfl)) hg (.inl rfl)) hs hv
set_option maxRecDepth 100000 in
set_option maxHeartbeats 1000000 in
theorem quote_any (v : Value) (b : List UInt8) (w : World) (hr : Rd w v (vb b)) (hb4 : b.length ≤ 35184372088000) :
    Calls Tryz.prog 27 #[v] w fun e w' => e = .returned (.string ⟨(quoteL b).toArray⟩) ∧ Below w.heap.size w w' := by
  obtain ⟨i0, hi, hz0, hz1, hz2⟩ := info_parts infoBr
  obtain ⟨ao, ca, rfl, a1, a2, a3⟩ := hr.bytes
  have a3 := Lib.hid a3
  go_enter Tryz.func27, Tryz.ntmps27
  go_wp2_with fail
  go_loopw [3, 9] (fun v i wr => ∃ (k : Nat), k ≤ b.length ∧ i = .int .i64 k ∧ wr.ownsRow w.heap.size 5 1 v (qpre b k).length (vb (qpre b k)) ∧ Below w.heap.size w wr) (fun _ i _ => b.length - (intOf i).toNat)
  case atStart => exact ⟨0, by omega, rfl, World.ownsRow_lit w #[.int .u8 34] 1 (Nat.le_refl _) (by simp only [maxLen]; omega) rfl, Below.alloc (Below.refl _ _) (Nat.le_refl _) _⟩
  case round =>
    obtain ⟨k, hk, rfl, ho, hb⟩ := hrel
    have hs1 := hb.size
    have hlen := qpre_len b k
    have ho' := Lib.hid ho
    have hb' := Lib.hid hb
    by_cases hlt : k < b.length
    · have d1 : decide ((k : Int) < (b.length : Int)) = true := decide_eq_true (by omega)
      obtain ⟨ba, oa, rfl, hba, hca⟩ := a3.out.resolve_left (by intro h; rw [h] at hlt; simp at hlt)
      have hcell := (hb.block ba hba)
      have hc1 : wr.cell? ⟨ba, oa + k, none⟩ = some (.int .u8 (bAt b k)) := by rw [← hca k hlt]; exact (bcell hb).1 _ _ hba
      have hq := qpre_succ b k hlt
      obtain ⟨c, hc⟩ : ∃ c, b.getD k 0 = c := ⟨_, rfl⟩
      have hbc : bAt b k = (c.toNat : Int) := by rw [← hc]; rfl
      have hcn : c.toNat ≤ 255 := by have := c.toNat_lt; omega
      rw [hc] at hq
      rw [hbc] at hc1
      have hq := Lib.hid hq
      clear ho hb hbc hc hcell hca
      by_cases hp : plainI (c.toNat : Int) = true
      · have hqb : qb c = [c] := by unfold qb; rw [if_pos hp]
        have hqb := Lib.hid hqb
        go_wp2_with (first | (go_at_call 49; refine (plain_any _ _).mono ?_; rintro e w2 ⟨rfl, hw⟩; rw [hw, hp]; clear hw w2) | (at_builtin; refine wpList_append_onto' _ rfl _ _ 25 rfl w.heap.size 5 i0 (.int .u8 0) 1 1 Tryz.underlying25 hi hz0 hz1 hz2 rfl (by decide) _ _ _ rfl (ho'.out.alloc _) ⟨wr.heap.size, 0, none⟩ 1 1 [.int .u8 c.toNat] rfl rfl ?c1 ?c2 ?c3 ?c4 ?c5 ?_))
        case c1 => exact cell_one_new _ _ _
        case c2 => simp [Value.oneCell']
        case c3 => simp only [maxLen]; omega
        case c4 => omega
        case c5 => simp; omega
        intro v1 w1 ho1 hO1
        have hfin : w1.ownsRow w.heap.size 5 1 v1 (qpre b (k + 1)).length (vb (qpre b (k + 1))) := by
          rw [hq.out, hqb.out, vb_append, List.length_append]; simpa [vb] using ho1
        have hb2 : Below w.heap.size w w1 := hb'.out.trans ((Below.alloc (Below.refl _ _) hs1 _).trans (hO1.below (by simp; omega) (fun g hg => (ho'.out.lt g hg).1)))
        clear ho1 hO1 ho' hb'
        have hfin := Lib.hid hfin; have hb2 := Lib.hid hb2
        go_wp2_with fail
        go_roundw
        case rel => exact ⟨k + 1, by omega, by go_num, hfin.out, hb2.out⟩
        case measure => simp [intOf]; omega
      · replace hp : plainI (c.toNat : Int) = false := by simpa using hp
        have hqb : qb c = [92, 120, dgB (c.toNat / 16), dgB (c.toNat % 16)] := by unfold qb; rw [if_neg (by rw [hp]; decide)]
        have hqb := Lib.hid hqb
        obtain ⟨D1, hD1⟩ : ∃ D, c.toNat / 16 = D := ⟨_, rfl⟩
        obtain ⟨D2, hD2⟩ : ∃ D, c.toNat % 16 = D := ⟨_, rfl⟩
        have hx1 := index_dg (c.toNat / 16) (by omega)
        have hx2 := index_dg (c.toNat % 16) (by omega)
        have y1 := shr4 c.toNat
        have y2 := and15 c.toNat hcn
        have hqb := hqb.out
        rw [hD1] at hx1 y1 hqb
        rw [hD2] at hx2 y2 hqb
        have hqb := Lib.hid hqb
        clear hD1 hD2
        go_upto_region 7 with (first | (go_at_call 49; refine (plain_any _ _).mono ?_; rintro e w2 ⟨rfl, hw⟩; rw [hw, hp]; clear hw w2))
        go_region_held3 (fun w' => wr.heap.size ≤ w'.heap.size)
          (first
            | assumption
            | (simp; done)
            | (simp; omega)
            | (have hgs := hgrow.size; simp at hgs; omega))
          (first
            | (refine step_append_lies _ (by rfl) _ _ _ (by rfl) w.heap.size 5 i0 (.int .u8 0) 1 1 Tryz.underlying25 hi hz0 hz1 hz2 rfl (by omega) _ _ _ (by rfl) ((ho'.out.alloc _).drew) ⟨wr.heap.size, 0, none⟩ 4 4 [.int .u8 92, .int .u8 120, .int .u8 (dgB D1).toNat, .int .u8 (dgB D2).toNat] (by rfl) (by rfl) (World.news_of_block (cs := #[.int .u8 92, .int .u8 120, .int .u8 (dgB D1).toNat, .int .u8 (dgB D2).toNat]) (fr := (0, 0)) (heap_alloc_new wr _)) (by simp [Value.oneCell']) (by omega) (by simp only [maxLen]; omega) (by omega) (by simp; omega) (wr.heap.size + 1) (by simp) ?_; intro gg cap w1 hown1 hgrow hat hgl))
        all_goals
          have hfin : w1.ownsRow w.heap.size 5 1 (.slice (some ⟨gg, 0, none⟩) ((qpre b k).length + 4) cap) (qpre b (k + 1)).length (vb (qpre b (k + 1))) := by
            rw [hq.out, hqb.out, vb_append, List.length_append]; simpa [vb] using hown1
          have hb2 : Below w.heap.size w w1 := below_apq hb'.out hs1 hgrow (fun g hg => (ho'.out.lt g hg).1)
          clear hown1 hgrow hat ho' hb'
          have hfin := Lib.hid hfin; have hb2 := Lib.hid hb2
          go_wp2_with fail
          go_roundw
          case rel => exact ⟨k + 1, by omega, by go_num, hfin.out, hb2.out⟩
          case measure => simp [intOf]; omega
    · obtain rfl : k = b.length := by omega
      have d1 : decide ((b.length : Int) < (b.length : Int)) = false := decide_eq_false (by omega)
      go_wp2_with (at_builtin; refine wpList_append_onto' _ rfl _ _ 25 rfl w.heap.size 5 i0 (.int .u8 0) 1 1 Tryz.underlying25 hi hz0 hz1 hz2 rfl (by decide) _ _ _ rfl (ho'.out.alloc _) ⟨wr.heap.size, 0, none⟩ 1 1 [.int .u8 34] rfl rfl ?c1 ?c2 ?c3 ?c4 ?c5 ?_)
      case c1 => exact cell_one_new _ _ _
      case c2 => simp [Value.oneCell']
      case c3 => simp only [maxLen]; omega
      case c4 => omega
      case c5 => simp; omega
      intro v1 w1 ho1 hO1
      have hfin : w1.ownsRow w.heap.size 5 1 v1 (quoteL b).length (vb (quoteL b)) := by
        rw [← qpre_all, vb_append, List.length_append]; simpa [vb] using ho1
      have hb2 : Below w.heap.size w w1 := hb'.out.trans ((Below.alloc (Below.refl _ _) hs1 _).trans (hO1.below (by simp; omega) (fun g hg => (ho'.out.lt g hg).1)))
      have hcv := conv_bytes (P := Tryz.prog) (Rd.of_own hfin) 25 5 9 Tryz.underlying25 Tryz.underlying5 Tryz.underlying9
      clear ho1 hO1 ho' hb' hfin
      have hb2 := Lib.hid hb2
      go_wp2_with fail
      go_ret
      exact ⟨rfl, hb2.out⟩
end Go.Proofs.YtefbogmgcihndaaGreatDoor

namespace Go.Proofs
open Go.Shelf
def YtefbogmgcihndaaGreatDoor.laysSplit_ren : Go.Shelf.Ren := ⟨fun | 146 => 36 | 221 => 54 | 268 => 74 | 138 => 75 | 143 => 76 | 195 => 94 | 197 => 79 | 218 => 95 | 219 => 96 | 260 => 97 | 217 => 88 | 225 => 106 | 224 => 107 | 267 => 108 | 266 => 103 | 314 => 111 | n => n, fun | 9 => 9 | 31 => 39 | 3 => 3 | 4 => 4 | 0 => 0 | 105 => 53 | 21 => 21 | 5 => 5 | 46 => 90 | 119 => 132 | 139 => 135 | 138 => 134 | 146 => 143 | 51 => 26 | n => n, fun | 1 => 3 | 3 => 4 | 4 => 5 | n => n⟩
theorem YtefbogmgcihndaaGreatDoor.laysSplit : Go.Proofs.Lays.n146 Tryz.prog YtefbogmgcihndaaGreatDoor.laysSplit_ren := {
  mixed := by kernel_rfl
  f138 := Tryz.func75.trans (congrArg some (by kernel_rfl))
  f143 := Tryz.func76.trans (congrArg some (by kernel_rfl))
  f146 := Tryz.func36.trans (congrArg some (by kernel_rfl))
  f195 := Tryz.func94.trans (congrArg some (by kernel_rfl))
  f197 := Tryz.func79.trans (congrArg some (by kernel_rfl))
  f217 := Tryz.func88.trans (congrArg some (by kernel_rfl))
  f218 := Tryz.func95.trans (congrArg some (by kernel_rfl))
  f219 := Tryz.func96.trans (congrArg some (by kernel_rfl))
  f221 := Tryz.func54.trans (congrArg some (by kernel_rfl))
  f224 := Tryz.func107.trans (congrArg some (by kernel_rfl))
  f225 := Tryz.func106.trans (congrArg some (by kernel_rfl))
  f260 := Tryz.func97.trans (congrArg some (by kernel_rfl))
  f266 := Tryz.func103.trans (congrArg some (by kernel_rfl))
  f267 := Tryz.func108.trans (congrArg some (by kernel_rfl))
  f268 := Tryz.func74.trans (congrArg some (by kernel_rfl))
  f314 := Tryz.func111.trans (congrArg some (by kernel_rfl))
  t0 := Tryz.underlying0
  a0 := Tryz.isAgg0
  z0 := Tryz.sizeOf0
  v0 := Tryz.zeroValue0
  t3 := Tryz.underlying3
  a3 := Tryz.isAgg3
  z3 := Tryz.sizeOf3
  v3 := Tryz.zeroValue3
  t4 := Tryz.underlying4
  a4 := Tryz.isAgg4
  z4 := Tryz.sizeOf4
  v4 := Tryz.zeroValue4
  t5 := Tryz.underlying5
  a5 := Tryz.isAgg5
  z5 := Tryz.sizeOf5
  v5 := Tryz.zeroValue5
  t9 := Tryz.underlying9
  a9 := Tryz.isAgg9
  z9 := Tryz.sizeOf9
  v9 := Tryz.zeroValue9
  t21 := Tryz.underlying21
  a21 := Tryz.isAgg21
  z21 := Tryz.sizeOf21
  v21 := Tryz.zeroValue21
  t31 := Tryz.underlying39
  a31 := Tryz.isAgg39
  z31 := Tryz.sizeOf39
  v31 := Tryz.zeroValue39
  t46 := Tryz.underlying90
  a46 := Tryz.isAgg90
  z46 := Tryz.sizeOf90
  v46 := Tryz.zeroValue90
  t51 := Tryz.underlying26
  a51 := Tryz.isAgg26
  z51 := Tryz.sizeOf26
  v51 := Tryz.zeroValue26
  t105 := Tryz.underlying53
  a105 := Tryz.isAgg53
  z105 := Tryz.sizeOf53
  v105 := Tryz.zeroValue53
  t119 := Tryz.underlying132
  a119 := Tryz.isAgg132
  z119 := Tryz.sizeOf132
  t138 := Tryz.underlying134
  a138 := Tryz.isAgg134
  z138 := Tryz.sizeOf134
  v138 := Tryz.zeroValue134
  t139 := Tryz.underlying135
  a139 := Tryz.isAgg135
  z139 := Tryz.sizeOf135
  v139 := Tryz.zeroValue135
  t146 := Tryz.underlying143
  a146 := Tryz.isAgg143
  z146 := Tryz.sizeOf143
  v146 := Tryz.zeroValue143
  g1 := by kernel_rfl
  g3 := by kernel_rfl
  g4 := by kernel_rfl }
end Go.Proofs

namespace Go.Proofs
open Go.RowKit Go.Shelf
namespace YtefbogmgcihndaaGreatDoor
open Go
set_option maxRecDepth 100000
abbrev MaxL (w : World) (m : Int) : Prop := w.cell? ⟨3, 0, none⟩ = some (.int .i64 m)
theorem split_any (s sep : ByteArray) (m : Int) (w : World) (hs : s.size < 4294967281) (hm : MaxL w m) (h1 : 1 ≤ sep.size) :
    Calls Tryz.prog 36 #[.string s, .string sep] w fun e w' =>
      e = .returned (.slice (some ⟨w.heap.size, 0, none⟩) (Lib.countB s sep + 1) (Lib.countB s sep + 1)) ∧ w' = w.alloc (.cells ((Lib.splitB sep 0 (Lib.countB s sep) s).map Value.string).toArray 9) :=
  Any.strings_Split laysSplit (by kernel_rfl) s sep m w hs hm h1
theorem index_at (c : UInt8) (r : List UInt8) : ∀ a : List UInt8, c ∉ a → Lib.index (a ++ c :: r) [c] = (a.length : Int)
  | [], _ => by rw [Lib.index_one]; simp [Lib.indexByte]
  | b :: a, h => by
    simp only [List.mem_cons, not_or] at h
    have ih := index_at c r a h.2
    rw [Lib.index_one] at ih ⊢
    have hb : (b == c) = false := by simp; exact fun e => h.1 e.symm
    simp only [List.cons_append, Lib.indexByte, hb, ih]
    have h1 : ((a.length : Int) == -1) = false := by simp
    simp [h1]
theorem index_none (c : UInt8) : ∀ a : List UInt8, c ∉ a → Lib.index a [c] = -1
  | [], _ => by rw [Lib.index_one]; rfl
  | b :: a, h => by
    simp only [List.mem_cons, not_or] at h
    have ih := index_none c a h.2
    rw [Lib.index_one] at ih ⊢
    have hb : (b == c) = false := by simp; exact fun e => h.1 e.symm
    simp [Lib.indexByte, hb, ih]
theorem splitK_at (c : UInt8) (k : Nat) (a r : List UInt8) (h : c ∉ a) : Lib.splitK [c] 0 (k + 1) (a ++ c :: r) = a :: Lib.splitK [c] 0 k r := by
  have hi := index_at c r a h
  have h1 : (((a.length : Nat) : Int) == -1) = false := by simp
  have e : Lib.splitK [c] 0 (k + 1) (a ++ c :: r) = if Lib.index (a ++ c :: r) [c] == -1 then [a ++ c :: r] else (a ++ c :: r).take ((Lib.index (a ++ c :: r) [c]).toNat + 0) :: Lib.splitK [c] 0 k ((a ++ c :: r).drop ((Lib.index (a ++ c :: r) [c]).toNat + [c].length)) := rfl
  rw [e, hi, h1]
  simp only [Bool.false_eq_true, if_false, Int.toNat_natCast, Nat.add_zero, List.length_singleton]
  rw [List.take_left, show a.length + 1 = (a ++ [c]).length by simp, show a ++ c :: r = (a ++ [c]) ++ r by simp, List.drop_left]
def linesOf (s : ByteArray) : List ByteArray := Lib.splitB ⟨#[10]⟩ 0 (Lib.countB s ⟨#[10]⟩) s
theorem linesOf_len (s : ByteArray) : (linesOf s).length = Lib.countB s ⟨#[10]⟩ + 1 := Lib.splitB_all ⟨#[10]⟩ (by decide) 0 _ s rfl
end YtefbogmgcihndaaGreatDoor
end Go.Proofs
