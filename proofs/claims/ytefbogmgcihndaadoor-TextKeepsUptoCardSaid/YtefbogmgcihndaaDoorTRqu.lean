/- The reference's Quote. -/
import Derived.Test.YtefbogmgcihndaaDoorKPl
import Derived.Test.YtefbogmgcihndaaDoorTQtP
import Derived.Test.YtefbogmgcihndaaDoorTSm
import Derived.Lib.AppendStr
import Derived.BigQuiet
namespace Go.Proofs.YtefbogmgcihndaaDoor
open Go.RowKit WP
theorem own_later {w w2 : World} {B s n : Nat} {e : TypeId} {v : Value} {xs : List Value} (h : w.ownsRow B e s v n xs) (hb : Below w.heap.size w w2) : w2.ownsRow B e s v n xs :=
  h.kept (⟨hb.os, hb.tape, hb.output, hb.size, fun k hk _ => hb.block k hk⟩ : w.grownBy w2 none) (by cases v.ownBlock <;> simp)
theorem dig_pieceB (D : Nat) (hD : D < 16) : (ByteArray.extract ⟨#[48, 49, 50, 51, 52, 53, 54, 55, 56, 57, 97, 98, 99, 100, 101, 102]⟩ D (D + 1)) = ⟨#[dgB D]⟩ := by
  have : D = 0 ∨ D = 1 ∨ D = 2 ∨ D = 3 ∨ D = 4 ∨ D = 5 ∨ D = 6 ∨ D = 7 ∨ D = 8 ∨ D = 9 ∨ D = 10 ∨ D = 11 ∨ D = 12 ∨ D = 13 ∨ D = 14 ∨ D = 15 := by omega
  rcases this with rfl | rfl | rfl | rfl | rfl | rfl | rfl | rfl | rfl | rfl | rfl | rfl | rfl | rfl | rfl | rfl <;> rfl
set_option maxRecDepth 100000 in
set_option maxHeartbeats 1000000 in
theorem rone_any (c : UInt8) (w : World) : Calls Tryd.prog 58 #[.int .u8 (c.toNat : Int)] w fun e w' => e = .returned (.string ⟨(qb c).toArray⟩) ∧ Below w.heap.size w w' := by
  have hpl := fun W => rplain_any (c.toNat : Int) W
  have hc := c.toNat_lt
  by_cases hp : plainI (c.toNat : Int) = true
  · have hq : qb c = [c] := by unfold qb; rw [if_pos hp]
    rw [hq]
    rw [hp] at hpl
    have hb := (Below.refl w.heap.size w).alloc (Nat.le_refl _) (.cells #[.int .u8 c.toNat] 5)
    have hrd : Rd (w.alloc (.cells #[.int .u8 c.toNat] 5)) (.slice (some ⟨w.heap.size, 0, none⟩) 1 1) (vb [c]) := Rd.of_own (World.ownsRow_lit w #[.int .u8 c.toNat] 1 (Nat.le_refl w.heap.size) (by simp only [maxLen]; omega) rfl)
    have hcv := conv_bytes (P := Tryd.prog) hrd 24 5 9 Tryd.underlying24 Tryd.underlying5 Tryd.underlying9
    clear hq hp hrd
    replace hb := Lib.hid hb
    go_enter Tryd.func58, Tryd.ntmps58
    go_wp2_with (go_at_call 78; refine (hpl _).mono ?_; rintro e w' ⟨rfl, rfl⟩)
    go_ret
    exact ⟨rfl, hb.out⟩
  · have hpf : plainI (c.toNat : Int) = false := by simpa using hp
    have hq : qb c = [92, 120, dgB (c.toNat / 16), dgB (c.toNat % 16)] := by unfold qb; rw [if_neg hp]
    rw [hpf] at hpl
    obtain ⟨n, hn⟩ : ∃ n : Nat, c.toNat = n := ⟨_, rfl⟩
    have e1 := dig_pieceB (c.toNat / 16) (by omega)
    have e2 := dig_pieceB (c.toNat % 16) (by omega)
    obtain ⟨S, hS⟩ : ∃ S : ByteArray, ⟨(qb c).toArray⟩ = S := ⟨_, rfl⟩
    have hS2 : (⟨#[92, 120]⟩ : ByteArray) ++ ⟨#[dgB (c.toNat / 16)]⟩ ++ ⟨#[dgB (c.toNat % 16)]⟩ = S := by rw [← hS, hq]; rfl
    rw [hS]
    rw [hn] at hc hpl e1 e2 hS2 ⊢
    have m0 : ((n : Int) / 16).toNat = n / 16 := by omega
    have m1 : ((n : Int) / 16 + 1).toNat = n / 16 + 1 := by omega
    have m2 : ((n : Int) % 16).toNat = n % 16 := by omega
    have m3 : ((n : Int) % 16 + 1).toNat = n % 16 + 1 := by omega
    clear hS hq hn hpf hp
    replace hS2 := Lib.hid hS2
    go_enter Tryd.func58, Tryd.ntmps58
    go_upto_region 4 with (go_at_call 78; refine (hpl _).mono ?_; rintro e w' ⟨rfl, rfl⟩)
    go_quiet (fail)
    go_wp2_with fail
    go_ret
    exact ⟨by rw [← hS2.out]; rfl, below_drewN (Below.refl _ _) _⟩
set_option maxRecDepth 100000 in
set_option maxHeartbeats 1000000 in
theorem rquote_any (v : Value) (b : List UInt8) (w : World) (hr : Rd w v (vb b)) (hb4 : b.length ≤ 35184372088000) :
    Calls Tryd.prog 39 #[v] w fun e w' => e = .returned (.string ⟨(quoteL b).toArray⟩) ∧ Below w.heap.size w w' := by
  obtain ⟨i0, hi, hz0, hz1, hz2⟩ := info_parts infoBr
  obtain ⟨ao, ca, rfl, a1, a2, a3⟩ := hr.bytes
  have a3 := Lib.hid a3
  obtain ⟨Q, hQ⟩ : ∃ Q : ByteArray, ⟨(quoteL b).toArray⟩ = Q := ⟨_, rfl⟩
  rw [hQ]
  replace hQ := Lib.hid hQ
  go_enter Tryd.func39, Tryd.ntmps39
  go_wp2_with fail
  go_loopw [3, 4] (fun v i wr => ∃ (k : Nat), k ≤ b.length ∧ i = .int .i64 k ∧ wr.ownsRow w.heap.size 5 1 v (qpre b k).length (vb (qpre b k)) ∧ Below w.heap.size w wr) (fun _ i _ => b.length - (intOf i).toNat)
  case atStart => exact ⟨0, by omega, rfl, World.ownsRow_lit w #[.int .u8 34] 1 (Nat.le_refl _) (by simp only [maxLen]; omega) rfl, Below.alloc (Below.refl _ _) (Nat.le_refl _) _⟩
  case round =>
    obtain ⟨wo, rfl⟩ : ∃ wo, wo = wr := ⟨wr, rfl⟩
    obtain ⟨vr, rfl⟩ : ∃ b, b = u3 := ⟨u3, rfl⟩
    obtain ⟨k, hk, rfl, ho, hb⟩ := hrel
    have hs1 := hb.size
    have hlen := qpre_len b k
    obtain ⟨al, cl, rfl⟩ := slice_form ho
    have ho' := Lib.hid ho
    have hb' := Lib.hid hb
    by_cases hlt : k < b.length
    · have d1 : decide ((k : Int) < (b.length : Int)) = true := decide_eq_true (by omega)
      obtain ⟨ba, oa, rfl, hba, hca⟩ := a3.out.resolve_left (by intro h; rw [h] at hlt; simp at hlt)
      have hc1 : wo.cell? ⟨ba, oa + k, none⟩ = some (.int .u8 (bAt b k)) := by rw [← hca k hlt]; exact (bcell hb).1 _ _ hba
      have hq := qpre_succ b k hlt
      obtain ⟨c, hc⟩ : ∃ c, b.getD k 0 = c := ⟨_, rfl⟩
      have hbc : bAt b k = (c.toNat : Int) := by rw [← hc]; rfl
      rw [hc] at hq
      rw [hbc] at hc1
      have hq := Lib.hid hq
      have hone := fun W => rone_any c W
      have hql := length_qb c
      obtain ⟨S, hS⟩ : ∃ S : ByteArray, ⟨(qb c).toArray⟩ = S := ⟨_, rfl⟩
      simp only [hS] at hone
      have hSs : S.size = (qb c).length := by rw [← hS]; rfl
      have hSc : Lib.strCells S = vb (qb c) := by rw [← hS]; rfl
      have i1 : (0 : Int) ≤ (k : Int) := by omega
      have i2 : (k : Int) < (b.length : Int) := by omega
      clear ho hb hbc hc hca hS
      replace hone := Lib.hid hone; replace hSc := Lib.hid hSc
      go_wp2_with (first
        | (go_at_call 58; refine (hone.out _).mono ?_; rintro e w2 ⟨rfl, hb2⟩; have ho2 := Lib.hid (own_later ho'.out hb2); have hB2 := Lib.hid (hb'.out.trans (hb2.mono hs1)); have hs2 := hB2.out.size; clear ho' hb' hb2 hc1)
        | (at_builtin; refine Lib.wpList_append_own_string _ rfl _ _ 24 9 rfl w.heap.size 5 i0 Tryd.underlying24 Tryd.underlying9 hi hz0 hz1 hz2 _ _ _ rfl ho2.out _ rfl ?h3 ?h4 ?h5 ?_))
      case h3 => unfold maxLen; omega
      case h4 => omega
      case h5 => exact hs2
      intro v4 w4 ho4 hg4 _
      have hfin : w4.ownsRow w.heap.size 5 1 v4 (qpre b (k + 1)).length (vb (qpre b (k + 1))) := by
        rw [hq.out, vb_append, List.length_append, ← hSc.out]; exact ho4
      have hb4' : Below w.heap.size w w4 := hB2.out.grown hg4 hs2 (fun k hk => (ho2.out.lt k hk).1)
      clear ho4 hg4 ho2 hB2
      replace hfin := Lib.hid hfin; replace hb4' := Lib.hid hb4'
      go_wp2_with fail
      go_roundw
      case rel => exact ⟨k + 1, by omega, by go_num, hfin.out, hb4'.out⟩
      case measure => simp [intOf]; omega
    · obtain rfl : k = b.length := by omega
      have d1 : decide ((b.length : Int) < (b.length : Int)) = false := decide_eq_false (by omega)
      clear ho hb
      go_wp2_with (at_builtin; refine wpList_append_onto' _ rfl _ _ 24 rfl w.heap.size 5 i0 (.int .u8 0) 1 1 Tryd.underlying24 hi hz0 hz1 hz2 rfl (by decide) _ _ _ rfl (ho'.out.alloc _) ⟨wo.heap.size, 0, none⟩ 1 1 [.int .u8 34] rfl rfl ?c1 ?c2 ?c3 ?c4 ?c5 ?_)
      case c1 => exact cell_one_new _ _ _
      case c2 => simp [Value.oneCell']
      case c3 => simp only [maxLen]; omega
      case c4 => omega
      case c5 => simp; omega
      intro v1 w1 ho1 hO1
      have hfin : w1.ownsRow w.heap.size 5 1 v1 (quoteL b).length (vb (quoteL b)) := by
        rw [← qpre_all, vb_append, List.length_append]; simpa [vb] using ho1
      have hb2 : Below w.heap.size w w1 := hb'.out.trans ((Below.alloc (Below.refl _ _) hs1 _).trans (hO1.below (by simp; omega) (fun g hg => (ho'.out.lt g hg).1)))
      have hcv := conv_bytes (P := Tryd.prog) (Rd.of_own hfin) 24 5 9 Tryd.underlying24 Tryd.underlying5 Tryd.underlying9
      rw [hQ.out] at hcv
      clear ho1 hO1 hfin ho' hb'
      replace hb2 := Lib.hid hb2
      go_wp2_with fail
      go_ret
      exact ⟨rfl, hb2.out⟩
end Go.Proofs.YtefbogmgcihndaaDoor
