/- The contract of the document's own: the pieces of word, li and zero. -/
import Derived.Test.YtiknookfnameiaaGreatDoorJn29
namespace Go.Proofs.YtiknookfnameiaaGreatDoor
open Go.RowKit WP
set_option linter.unusedSimpArgs false
set_option linter.unusedVariables false
def OwnRes (w' : World) (B : Nat) (e : Ending) : List Pie ⊕ Nat → Prop
 | .inl l => ∃ v, e = .returned (.tuple #[v, .int .i64 (-1)]) ∧ w'.ownsRow B 125 8 v l.length (pieC l)
 | .inr k => e = .returned (.tuple #[.slice none 0 0, .int .i64 (k : Int)])
theorem infoPie3 : (Tryz.prog.info? 125).map (fun i => (i.zero, i.size, i.bytes)) = some (some (.agg pieZ), 8, 72) := by kernel_rfl
theorem pies_made (n : Nat) : (madeCells pieZ (n * 8)).toList = pieC (List.replicate n pc0) := by
 refine List.ext_getElem? fun q => ?_
 by_cases hq : q < n * 8
 ·have h1 : q = (q / 8) * 8 + q % 8 := by omega
  have h2 := pieC_get (List.replicate n pc0) (q / 8) (q % 8) pc0 (by rw [List.getElem?_replicate, if_pos (by omega)]) (by omega)
  rw [← h1] at h2
  rw [h2]
  have h8 : q % 8 < 8 := by omega
  have e8 : pieZ.size = 8 := rfl
  have ez : (pieA pc0).toList = pieZ.toList := rfl
  rw [ez]
  unfold madeCells
  rw [Array.toList_map, List.getElem?_map, Array.toList_range, List.getElem?_range hq, e8]
  simp only [Option.map_some]
  rw [Array.getElem?_toList, Array.getElem?_eq_getElem (by rw [e8]; exact h8), getElem!_pos pieZ (q % 8) (by rw [e8]; exact h8)]
 ·rw [List.getElem?_eq_none (by rw [Array.length_toList, size_madeCells]; omega), List.getElem?_eq_none (by rw [pieC_len, List.length_replicate]; omega)]
theorem own_one (w : World) (base g : Nat) (hg : w.heap.size = g) (hb : base ≤ g) (p : Pie) : (w.alloc (.cells (pieA p) 125)).ownsRow base 125 8 (.slice (some ⟨g, 0, none⟩) 1 1) 1 (pieC [p]) := by
 subst hg
 exact World.ownsRow_lit w _ 1 hb (by decide) rfl
theorem own_two (w : World) (base g : Nat) (hg : w.heap.size = g) (hb : base ≤ g) (p q : Pie) : (w.alloc (.cells (pieA p ++ pieA q) 125)).ownsRow base 125 8 (.slice (some ⟨g, 0, none⟩) 2 2) 2 (pieC [p, q]) := by
 subst hg
 exact World.ownsRow_lit w _ 2 hb (by decide) rfl
def oneF (x : W) (ln : Nat) : List Pie ⊕ Nat := match rvalW x with | none => .inr 0 | some y => .inl [⟨1, 0, 0, 0, y.2, y.1, ln, x.2.2⟩]
def wordF (ws : List W) (ln : Nat) : List Pie ⊕ Nat := match ws with | [] => .inl [] | x :: _ => oneF x ln
theorem rown_w (ws : List W) (ln : Nat) : rownF ⟨#[119, 111, 114, 100]⟩ ws ln = wordF ws ln := by
 unfold rownF wordF oneF
 rw [if_pos (show (⟨#[119, 111, 114, 100]⟩ : ByteArray).data.toList = wordT from rfl)]
 cases ws <;> rfl
set_option maxRecDepth 100000 in
set_option maxHeartbeats 2000000 in
theorem own_word (v : Value) (ws : List W) (ln : Nat) (w : World) (hv : RWs w v ws) (hz : ∀ x ∈ ws, x.1.size ≤ 140737488355328) :
  Calls Tryz.prog 98 #[.string ⟨#[119, 111, 114, 100]⟩, v, .int .i64 ln] w fun e w' => Below w.heap.size w w' ∧ OwnRes w' w.heap.size e (rownF ⟨#[119, 111, 114, 100]⟩ ws ln) := by
 rw [rown_w]
 cases ws with
 | nil =>
  obtain ⟨ao, cap, rfl, hc1, hc2, hcx⟩ := hv
  clear hcx
  unfold wordF
  simp only [List.length_nil] at hc1 ⊢
  go_enter Tryz.func98, Tryz.ntmps98
  go_wp2_with fail
  go_loopw [8] (fun i wr => i = .int .i64 0 ∧ wr = w) (fun _ _ => 0)
  case atStart => exact ⟨rfl, rfl⟩
  case round =>
   obtain ⟨rfl, rfl⟩ := hrel
   go_wp2_with fail
   go_ret2
   exact ⟨Below.refl _ _, _, rfl, World.ownsRow_nil _ _ _ _⟩
 | cons x r =>
  obtain ⟨b, off, cap, rfl, hc1, hc2, y0, y1, y2⟩ := hv.get 0 x rfl
  obtain ⟨n, hn⟩ : ∃ n, (x :: r).length = n := ⟨_, rfl⟩
  rw [hn] at hc1 ⊢
  have hn1 : 1 ≤ n := by rw [← hn]; simp
  have d1 : decide ((0 : Int) < (n : Int)) = true := decide_eq_true (by omega)
  have i2 : (0 : Int) < (n : Int) := by omega
  simp only [Nat.zero_mul, Nat.add_zero] at y0 y1 y2
  obtain ⟨xs, xq, xc⟩ := x
  dsimp only at y0 y1 y2 ⊢
  have hxs : xs.size ≤ 140737488355328 := hz _ List.mem_cons_self
  have hval := fun W => rvalue_any xs W hxs
  unfold wordF oneF rvalW
  dsimp only
  obtain ⟨O, hO⟩ : ∃ O, rvalF xs = O := ⟨_, rfl⟩
  simp only [hO] at hval ⊢
  have b1 : Below w.heap.size w (w.alloc (.cells #[.string xs, .bool xq, .int .i64 (xc : Int)] 172)) := (Below.refl _ _).alloc (Nat.le_refl _) _
  have hbw := World.block_lt_of_cell? w _ y0
  clear hz hv hO hn1
  replace hval := Lib.hid hval; replace hn := Lib.hid hn; replace b1 := Lib.hid b1
  go_enter Tryz.func98, Tryz.ntmps98
  go_wp2_with fail
  go_loopw [8] (fun i wr => i = .int .i64 0 ∧ wr = w) (fun _ _ => 0)
  case atStart => exact ⟨rfl, rfl⟩
  case round =>
   obtain ⟨rfl, rfl⟩ := hrel
   cases xq with
   | true =>
    go_wp2_with fail
    go_ret2
    exact ⟨b1.out, rfl⟩
   | false =>
    go_wp2_with fail
    refine (hval.out _).mono ?_
    rintro e w2 ⟨rfl, hw2⟩
    obtain rfl := hw2.symm
    cases O with
    | none =>
     simp only [Option.isSome_none]
     go_wp2_with fail
     go_ret2
     exact ⟨b1.out, rfl⟩
    | some y =>
     obtain ⟨nm, V⟩ := y
     simp only [Option.isSome_some, rvalS, rvalV, Option.map_some, Option.getD_some]
     go_wp2_with fail
     go_ret2
     exact ⟨(b1.out.alloc (by simp) _).alloc (by simp; omega) _, _, rfl, own_one _ _ _ (by simp) (by omega) ⟨1, 0, 0, 0, V, nm, ln, xc⟩⟩
def zeroF (ws : List W) : List Pie ⊕ Nat := match ws with | [] => .inl [] | x :: _ => match zeroN x with | none => .inr 0 | some n => .inl (List.replicate n pc0)
theorem rown_z (ws : List W) (ln : Nat) : rownF ⟨#[122, 101, 114, 111]⟩ ws ln = zeroF ws := by
 unfold rownF zeroF
 rw [if_neg (show ¬ (⟨#[122, 101, 114, 111]⟩ : ByteArray).data.toList = wordT by decide), if_neg (show ¬ (⟨#[122, 101, 114, 111]⟩ : ByteArray).data.toList = liT by decide)]
 cases ws <;> rfl
set_option maxRecDepth 100000 in
set_option maxHeartbeats 2000000 in
theorem own_zero (v : Value) (ws : List W) (ln : Nat) (w : World) (hv : RWs w v ws) (hz : ∀ x ∈ ws, x.1.size ≤ 140737488355328) :
  Calls Tryz.prog 98 #[.string ⟨#[122, 101, 114, 111]⟩, v, .int .i64 ln] w fun e w' => Below w.heap.size w w' ∧ OwnRes w' w.heap.size e (rownF ⟨#[122, 101, 114, 111]⟩ ws ln) := by
 rw [rown_z]
 cases ws with
 | nil =>
  obtain ⟨ao, cap, rfl, hc1, hc2, hcx⟩ := hv
  clear hcx
  unfold zeroF
  simp only [List.length_nil] at hc1 ⊢
  go_enter Tryz.func98, Tryz.ntmps98
  go_wp2_with fail
  go_loopw [8] (fun i wr => i = .int .i64 0 ∧ wr = w) (fun _ _ => 0)
  case atStart => exact ⟨rfl, rfl⟩
  case round =>
   obtain ⟨rfl, rfl⟩ := hrel
   go_wp2_with fail
   go_ret2
   exact ⟨Below.refl _ _, _, rfl, World.ownsRow_nil _ _ _ _⟩
 | cons x r =>
  obtain ⟨i0, hi, hz0, hz1, hz2⟩ := info_parts infoPie3
  obtain ⟨b, off, cap, rfl, hc1, hc2, y0, y1, y2⟩ := hv.get 0 x rfl
  obtain ⟨n, hn⟩ : ∃ n, (x :: r).length = n := ⟨_, rfl⟩
  rw [hn] at hc1 ⊢
  have hn1 : 1 ≤ n := by rw [← hn]; simp
  have d1 : decide ((0 : Int) < (n : Int)) = true := decide_eq_true (by omega)
  have i2 : (0 : Int) < (n : Int) := by omega
  simp only [Nat.zero_mul, Nat.add_zero] at y0 y1 y2
  obtain ⟨xs, xq, xc⟩ := x
  dsimp only at y0 y1 y2 ⊢
  have hxs : xs.size ≤ 140737488355328 := hz _ List.mem_cons_self
  have hval := fun W => rnumber_any xs W hxs
  unfold zeroF
  dsimp only
  obtain ⟨Z, hZ⟩ : ∃ Z, zeroN (xs, xq, xc) = Z := ⟨_, rfl⟩
  simp only [hZ]
  unfold zeroN at hZ
  dsimp only at hZ
  obtain ⟨O, hO⟩ : ∃ O, numF xs.data.toList = O := ⟨_, rfl⟩
  simp only [hO] at hval hZ
  replace hZ := Lib.hid hZ
  have b1 : Below w.heap.size w (w.alloc (.cells #[.string xs, .bool xq, .int .i64 (xc : Int)] 172)) := (Below.refl _ _).alloc (Nat.le_refl _) _
  have hbw := World.block_lt_of_cell? w _ y0
  clear hz hv hO hn1
  replace hval := Lib.hid hval; replace hn := Lib.hid hn; replace b1 := Lib.hid b1
  replace hi := Lib.hid hi; replace hz0 := Lib.hid hz0; replace hz1 := Lib.hid hz1; replace hz2 := Lib.hid hz2
  go_enter Tryz.func98, Tryz.ntmps98
  go_wp2_with fail
  go_loopw [8] (fun i wr => i = .int .i64 0 ∧ wr = w) (fun _ _ => 0)
  case atStart => exact ⟨rfl, rfl⟩
  case round =>
   obtain ⟨rfl, rfl⟩ := hrel
   cases xq with
   | true =>
    obtain rfl : none = Z := hZ.out
    go_wp2_with fail
    go_ret2
    exact ⟨b1.out, rfl⟩
   | false =>
    go_wp2_with fail
    refine (hval.out _).mono ?_
    rintro e w2 ⟨rfl, hw2⟩
    obtain rfl := hw2.symm
    cases O with
    | none =>
     obtain rfl : none = Z := hZ.out
     simp only [Option.isSome_none, errN]
     go_wp2_with fail
     go_ret2
     exact ⟨b1.out, rfl⟩
    | some V =>
     simp only [Option.isSome_some, Option.getD_some, errN]
     have hZ' := hZ.out
     rw [if_neg (by decide)] at hZ'
     simp only at hZ'
     clear hZ
     by_cases hV : V ≤ 2048
     ·have d2 : decide ((2048 : Int) < (V : Int)) = false := decide_eq_false (by omega)
      rw [if_pos hV] at hZ'
      subst hZ'
      go_wp2_with (at_make; refine wpList_make_full _ rfl _ _ 81 rfl wr.heap.size 125 i0 (.agg pieZ) 8 Tryz.underlying81 hi.out hz0.out hz1.out .u32 .u32 _ _ V rfl rfl rfl rfl (by rw [hz2.out]; omega) (by simp only [maxLen]; omega) (by simp) ?_; intro w5 ho5 hg5; replace ho5 := Lib.hid ho5; replace hg5 := Lib.hid hg5)
      go_ret2
      refine ⟨b1.out.grown hg5.out (by simp) (fun q hq => by cases hq), _, rfl, ?_⟩
      have h5 := ho5.out
      rw [show (Value.agg pieZ).cells = pieZ from rfl, pies_made, show (wr.alloc (.cells #[.string xs, .bool false, .int .i64 (xc : Int)] 172)).heap.size = wr.heap.size + 1 by simp] at h5
      rw [List.length_replicate]
      exact h5
     ·have d2 : decide ((2048 : Int) < (V : Int)) = true := decide_eq_true (by omega)
      rw [if_neg hV] at hZ'
      subst hZ'
      go_wp2_with fail
      go_ret2
      exact ⟨b1.out, rfl⟩
def liF (ws : List W) (ln : Nat) : List Pie ⊕ Nat := match ws with | [] => .inl [] | w :: r => match regF w with | none => .inr 0 | some a => match r with | [] => .inl [] | x :: _ => match rvalW x with | none => .inr 1 | some y => .inl [⟨2, 0, 0, a, y.2, y.1, ln, x.2.2⟩, ⟨3, 0, 0, a, y.2, y.1, ln, x.2.2⟩]
theorem rown_l (ws : List W) (ln : Nat) : rownF ⟨#[108, 105]⟩ ws ln = liF ws ln := by
 unfold rownF liF
 rw [if_neg (show ¬ (⟨#[108, 105]⟩ : ByteArray).data.toList = wordT by decide), if_pos (show (⟨#[108, 105]⟩ : ByteArray).data.toList = liT from rfl)]
 cases ws <;> rfl
set_option maxRecDepth 100000 in
set_option maxHeartbeats 2000000 in
theorem own_li (v : Value) (ws : List W) (ln : Nat) (w : World) (hv : RWs w v ws) (hz : ∀ x ∈ ws, x.1.size ≤ 140737488355328) :
  Calls Tryz.prog 98 #[.string ⟨#[108, 105]⟩, v, .int .i64 ln] w fun e w' => Below w.heap.size w w' ∧ OwnRes w' w.heap.size e (rownF ⟨#[108, 105]⟩ ws ln) := by
 rw [rown_l]
 cases ws with
 | nil =>
  obtain ⟨ao, cap, rfl, hc1, hc2, hcx⟩ := hv
  clear hcx
  unfold liF
  simp only [List.length_nil] at hc1 ⊢
  go_enter Tryz.func98, Tryz.ntmps98
  go_wp2_with fail
  go_loopw [8] (fun i wr => i = .int .i64 0 ∧ wr = w) (fun _ _ => 0)
  case atStart => exact ⟨rfl, rfl⟩
  case round =>
   obtain ⟨rfl, rfl⟩ := hrel
   go_wp2_with fail
   go_ret2
   exact ⟨Below.refl _ _, _, rfl, World.ownsRow_nil _ _ _ _⟩
 | cons x r =>
  obtain ⟨b, off, cap, rfl, hc1, hc2, y0, y1, y2⟩ := hv.get 0 x rfl
  obtain ⟨n, hn⟩ : ∃ n, (x :: r).length = n := ⟨_, rfl⟩
  rw [hn] at hc1 hv ⊢
  have hn1 : 1 ≤ n := by rw [← hn]; simp
  have d1 : decide ((0 : Int) < (n : Int)) = true := decide_eq_true (by omega)
  have i2 : (0 : Int) < (n : Int) := by omega
  simp only [Nat.zero_mul, Nat.add_zero] at y0 y1 y2
  obtain ⟨xs, xq, xc⟩ := x
  dsimp only at y0 y1 y2 ⊢
  have hxs : xs.size ≤ 140737488355328 := hz _ List.mem_cons_self
  have hreg := fun W => rreg_any xs W
  obtain ⟨Z, hZ⟩ : ∃ Z, liF ((xs, xq, xc) :: r) ln = Z := ⟨_, rfl⟩
  rw [hZ]
  unfold liF regF at hZ
  dsimp only at hZ
  obtain ⟨O, hO⟩ : ∃ O, regA xs.data.toList 15 0 = O := ⟨_, rfl⟩
  simp only [hO] at hreg hZ
  have b1 : Below w.heap.size w (w.alloc (.cells #[.string xs, .bool xq, .int .i64 (xc : Int)] 172)) := (Below.refl _ _).alloc (Nat.le_refl _) _
  have hbw := World.block_lt_of_cell? w _ y0
  clear hO hn1
  replace hreg := Lib.hid hreg; replace hn := Lib.hid hn; replace b1 := Lib.hid b1; replace hZ := Lib.hid hZ; replace hv := Lib.hid hv; replace hz := Lib.hid hz
  go_enter Tryz.func98, Tryz.ntmps98
  go_wp2_with fail
  go_loopw [8] (fun i wr => (i = .int .i64 0 ∧ wr = w) ∨ (i = .int .i64 1 ∧ Below w.heap.size w wr ∧ ∃ a : Nat, xq = false ∧ O = some a)) (fun i _ => 2 - (intOf i).toNat)
  case atStart => exact .inl ⟨rfl, rfl⟩
  case round =>
   obtain ⟨wv, rfl⟩ : ∃ wv, wv = wr := ⟨wr, rfl⟩
   rcases hrel with ⟨rfl, rfl⟩ | ⟨rfl, bv, a, rfl, rfl⟩
   ·cases xq with
    | true =>
     obtain rfl : .inr 0 = Z := hZ.out
     go_wp2_with fail
     go_ret2
     exact ⟨b1.out, rfl⟩
    | false =>
     go_wp2_with fail
     refine (hreg.out _).mono ?_
     rintro e w2 ⟨rfl, hw2⟩
     obtain rfl := hw2.symm
     have hZ' := hZ.out
     rw [if_neg (by decide)] at hZ'
     cases O with
     | none =>
      obtain rfl : .inr 0 = Z := hZ'
      simp only [regO]
      go_wp2_with fail
      go_ret2
      exact ⟨b1.out, rfl⟩
     | some a =>
      simp only [regO]
      have d2 : decide ((a : Int) < 0) = false := decide_eq_false (by omega)
      have d3 : (0 : Int) ≤ (a : Int) := by omega
      clear hZ'
      go_wp2_with fail
      go_roundw
      case rel => exact .inr ⟨rfl, b1.out, a, trivial, rfl⟩
      case measure => simp [intOf]
   ·have hZ' := hZ.out
    rw [if_neg (by decide)] at hZ'
    dsimp only at hZ'
    cases r with
    | nil =>
     obtain rfl : .inl [] = Z := hZ'
     obtain rfl : 1 = n := hn.out
     go_wp2_with fail
     go_ret2
     exact ⟨bv, _, rfl, World.ownsRow_nil _ _ _ _⟩
    | cons x2 r2 =>
     have hbv := bv.size
     obtain ⟨b', off', cap', hs, _, _, z0, z1, z2⟩ := (hv.out.later bv).get 1 x2 rfl
     simp only [Value.slice.injEq, Option.some.injEq, Addr.mk.injEq] at hs
     obtain ⟨⟨rfl, rfl, -⟩, -, rfl⟩ := hs
     have y0' := (bv.cell hbw).trans y0
     have hbw' := World.block_lt_of_cell? wv _ y0'
     have hn1 : 2 ≤ n := by rw [← hn.out]; simp
     have d2 : decide ((1 : Int) < (n : Int)) = true := decide_eq_true (by omega)
     have i3 : (1 : Int) < (n : Int) := by omega
     obtain ⟨xs2, xq2, xc2⟩ := x2
     simp only [Nat.one_mul] at z0 z1 z2
     have hx2 : xs2.size ≤ 140737488355328 := hz.out (xs2, xq2, xc2) (by simp)
     have hval := fun W => rvalue_any xs2 W hx2
     unfold rvalW at hZ'
     dsimp only at hZ'
     obtain ⟨O2, hO2⟩ : ∃ O2, rvalF xs2 = O2 := ⟨_, rfl⟩
     simp only [hO2] at hval hZ'
     have b2 := bv.alloc bv.size (.cells #[.string xs2, .bool xq2, .int .i64 (xc2 : Int)] 172)
     clear hO2 y0 y1 y2 hbw d1 hZ
     replace hval := Lib.hid hval; replace b2 := Lib.hid b2; replace hZ' := Lib.hid hZ'; replace bv := Lib.hid bv
     cases xq2 with
     | true =>
      obtain rfl : .inr 1 = Z := hZ'.out
      go_wp2_with fail
      go_ret2
      exact ⟨b2.out, rfl⟩
     | false =>
      go_wp2_with fail
      refine (hval.out _).mono ?_
      rintro e w3 ⟨rfl, hw3⟩
      obtain rfl := hw3.symm
      have hq := hZ'.out
      rw [if_neg (by decide)] at hq
      clear hZ'
      cases O2 with
      | none =>
       obtain rfl : .inr 1 = Z := hq
       simp only [Option.isSome_none]
       go_wp2_with fail
       go_ret2
       exact ⟨b2.out, rfl⟩
      | some y =>
       obtain ⟨nm, V⟩ := y
       dsimp only at hq
       subst hq
       simp only [Option.isSome_some, rvalS, rvalV, Option.map_some, Option.getD_some]
       go_wp2_with fail
       refine (hreg.out _).mono ?_
       rintro e w4 ⟨rfl, hw4⟩
       obtain rfl := hw4.symm
       simp only [regO]
       go_wp2_with fail
       go_ret2
       exact ⟨((b2.out.alloc (by simp; omega) _).alloc (by simp; omega) _).alloc (by simp; omega) _, _, rfl, own_two _ _ _ (by simp) (by omega) ⟨2, 0, 0, a, V, nm, ln, xc2⟩ ⟨3, 0, 0, a, V, nm, ln, xc2⟩⟩
theorem own_any (s : ByteArray) (v : Value) (ws : List W) (ln : Nat) (w : World) (hs : s.data.toList = wordT ∨ s.data.toList = liT ∨ s.data.toList = zeroT) (hv : RWs w v ws) (hz : ∀ x ∈ ws, x.1.size ≤ 140737488355328) :
  Calls Tryz.prog 98 #[.string s, v, .int .i64 ln] w fun e w' => Below w.heap.size w w' ∧ OwnRes w' w.heap.size e (rownF s ws ln) := by
 have hof : ∀ l : List UInt8, s.data.toList = l → s = ⟨l.toArray⟩ := fun l h => by
  cases s with | mk d => cases d with | mk dl => simp only at h; subst h; rfl
 rcases hs with h | h | h
 ·rw [hof _ h]; exact own_word v ws ln w hv hz
 ·rw [hof _ h]; exact own_li v ws ln w hv hz
 ·rw [hof _ h]; exact own_zero v ws ln w hv hz
end Go.Proofs.YtiknookfnameiaaGreatDoor
