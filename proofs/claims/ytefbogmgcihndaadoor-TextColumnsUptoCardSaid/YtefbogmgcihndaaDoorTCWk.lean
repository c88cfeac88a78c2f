/- The walk of TextColumns. -/
import Derived.Test.YtefbogmgcihndaaDoorTCols
namespace Go.Proofs.YtefbogmgcihndaaDoor
open Go.RowKit WP
theorem infoSS : (Tryd.prog.info? 39).map (fun i => (i.zero, i.size, i.bytes)) = some (some (.slice none 0 0), 1, 24) := by kernel_rfl
def tenB (x : UInt32) : ByteArray := ⟨(Lib.decDigits x.toNat).toArray⟩
theorem tenB_dig (x : UInt32) : allDig (tenB x) := by
  have e : (tenB x).data.toList = Lib.decDigits x.toNat := rfl
  unfold allDig
  rw [e]
  refine ⟨fun h => ?_, fun y hy => ?_⟩
  · have h1 := congrArg List.length h
    rw [Lib.decDigits_length] at h1
    have := Lib.nDigits_pos x.toNat
    simp at h1; omega
  · rw [Lib.decDigits_eq] at hy
    obtain ⟨t, _, rfl⟩ := List.mem_map.1 hy
    unfold Lib.dg
    rw [UInt8.toNat_ofNat']
    omega
theorem tenB_size (x : UInt32) : (tenB x).size ≤ 20 := by
  have hx := x.toNat_lt
  by_cases h1 : x.toNat = 0
  · unfold tenB
    rw [h1]
    show (Lib.decDigits 0).length ≤ 20
    rw [Lib.decDigits_length, Lib.nDigits_small (by decide)]; decide
  · show (Lib.decDigits x.toNat).length ≤ 20
    rw [Lib.decDigits_length]
    have := Lib.numDigits_eq x.toNat (by omega) (by omega)
    split at this <;> omega
def zs (m : Nat) : List Nat := List.replicate m 0
theorem zs_length (m : Nat) : (zs m).length = m := by simp [zs]
theorem zs_succ (m : Nat) : vi (zs (m + 1)) = vi (zs m) ++ [.int .i64 0] := by unfold vi zs; rw [List.replicate_succ']; simp
/-- what came in: a table of words -/
structure TabAt (w : World) (ao : Option Addr) (n : Nat) (V : Nat → Value) (R : Nat → List UInt32) : Prop where
  cell : ∀ i, i < n → ∃ b off, ao = some ⟨b, off, none⟩ ∧ w.cell? ⟨b, off + i, none⟩ = some (V i)
  row : ∀ i, i < n → Rd w (V i) (vw (R i))
  sum : ((List.range n).map fun i => (R i).length).sum + n ≤ 1048576
def cellsR (R : Nat → List UInt32) (i : Nat) : List ByteArray := (R i).map tenB
/-- the rows built so far, the two lists of columns -/
structure Bld (B : Nat) (w0 w : World) (VL : List Value) (C : Nat → List ByteArray) (vr vb vc : Value) (bl cl : List Nat) : Prop where
  r : w.ownsRow B 39 1 vr VL.length VL
  row : ∀ i, i < VL.length → w.ownsRow B 9 1 (VL.getD i undef) (C i).length (vs (C i))
  b : w.ownsRow B 3 1 vb bl.length (vi bl)
  c : w.ownsRow B 3 1 vc cl.length (vi cl)
  ne : ∀ k, vb.ownBlock = some k → vc.ownBlock ≠ some k
  hb : Below B w0 w
  size : B ≤ w.heap.size
theorem grown_of_below {w w2 : World} (hb : Below w.heap.size w w2) : w.grownBy w2 none := ⟨hb.os, hb.tape, hb.output, hb.size, fun k hk _ => hb.block k hk⟩
theorem ownsRow_later {w w2 : World} {B s n : Nat} {e : TypeId} {v : Value} {xs : List Value} (h : w.ownsRow B e s v n xs) (hb : Below w.heap.size w w2) : w2.ownsRow B e s v n xs :=
  h.kept (grown_of_below hb) (by cases v.ownBlock <;> simp)
theorem ownsRow_mono {w : World} {B B' s n : Nat} {e : TypeId} {v : Value} {xs : List Value} (h : w.ownsRow B e s v n xs) (hB : B' ≤ B) : w.ownsRow B' e s v n xs := by
  obtain ⟨h1, h2⟩ := h
  refine ⟨h1, ?_⟩
  rcases h2 with h2 | ⟨g, cap, cur, rfl, hg, h3⟩
  · exact .inl h2
  · exact .inr ⟨g, cap, cur, rfl, Nat.le_trans hB hg, h3⟩
namespace Bld
variable {B Bk n : Nat} {w0 w w2 : World} {VL : List Value} {C : Nat → List ByteArray} {vr vr' vb vb' vc vc' vl : Value} {bl bl' cl cl' : List Nat} {xs : List Value}
theorem later (h : Bld B w0 w VL C vr vb vc bl cl) (hb : Below w.heap.size w w2) : Bld B w0 w2 VL C vr vb vc bl cl :=
  ⟨ownsRow_later h.r hb, fun i hi => ownsRow_later (h.row i hi) hb, ownsRow_later h.b hb, ownsRow_later h.c hb, h.ne, h.hb.trans (hb.mono h.size), Nat.le_trans h.size hb.size⟩
theorem alloc (h : Bld B w0 w VL C vr vb vc bl cl) (o : Obj) : Bld B w0 (w.alloc o) VL C vr vb vc bl cl := h.later (Below.alloc (Below.refl _ _) (Nat.le_refl _) _)
theorem line (h : Bld B w0 w VL C vr vb vc bl cl) (ol : w.ownsRow Bk 9 1 vl n xs) (hlt : ∀ i, i < VL.length → ∀ b, (VL.getD i undef).ownBlock = some b → b < Bk) (hB : B ≤ Bk) (hg : w.grownBy w2 vl.ownBlock) : Bld B w0 w2 VL C vr vb vc bl cl :=
  ⟨h.r.kept hg (rows_apart h.r ol (by decide)), fun i hi => (h.row i hi).kept hg (by
    cases hv : (VL.getD i undef).ownBlock with
    | none => exact .inl rfl
    | some b =>
      refine .inr fun e => ?_
      have h1 := hlt i hi b hv
      have h2 := (ol.lt b e.symm).1
      omega), h.b.kept hg (rows_apart h.b ol (by decide)), h.c.kept hg (rows_apart h.c ol (by decide)), h.ne, h.hb.grown hg h.size (fun k hk => Nat.le_trans hB (ol.lt k hk).1), Nat.le_trans h.size hg.size⟩
theorem ne' (h : Bld B w0 w VL C vr vb vc bl cl) : vc.ownBlock = none ∨ vc.ownBlock ≠ vb.ownBlock := by
  cases hv : vc.ownBlock with
  | none => exact .inl rfl
  | some k => exact .inr fun e => h.ne k e.symm hv
theorem ne'' (h : Bld B w0 w VL C vr vb vc bl cl) : vb.ownBlock = none ∨ vb.ownBlock ≠ vc.ownBlock := by
  cases hv : vb.ownBlock with
  | none => exact .inl rfl
  | some k => exact .inr fun e => h.ne k hv e.symm
theorem beg (h : Bld B w0 w VL C vr vb vc bl cl) (hO : Onto w vb w2 vb') (ho : w2.ownsRow B 3 1 vb' bl'.length (vi bl')) : Bld B w0 w2 VL C vr vb' vc bl' cl :=
  ⟨h.r.kept hO.1 (rows_apart h.r h.b (by decide)), fun i hi => (h.row i hi).kept hO.1 (rows_apart (h.row i hi) h.b (by decide)), ho, h.c.kept hO.1 h.ne', fun k hk hk' => by
    rcases hO.2 with e | e
    · exact h.ne k (e ▸ hk) hk'
    · have h1 := e k hk
      have h2 := (h.c.lt k hk').2
      omega, h.hb.grown hO.1 h.size (fun k hk => (h.b.lt k hk).1), Nat.le_trans h.size hO.1.size⟩
theorem clo (h : Bld B w0 w VL C vr vb vc bl cl) (hO : Onto w vc w2 vc') (ho : w2.ownsRow B 3 1 vc' cl'.length (vi cl')) : Bld B w0 w2 VL C vr vb vc' bl cl' :=
  ⟨h.r.kept hO.1 (rows_apart h.r h.c (by decide)), fun i hi => (h.row i hi).kept hO.1 (rows_apart (h.row i hi) h.c (by decide)), h.b.kept hO.1 h.ne'', ho, fun k hk hk' => by
    rcases hO.2 with e | e
    · exact h.ne k hk (e ▸ hk')
    · have h1 := e k hk'
      have h2 := (h.b.lt k hk).2
      omega, h.hb.grown hO.1 h.size (fun k hk => (h.c.lt k hk).1), Nat.le_trans h.size hO.1.size⟩
theorem str_b (h : Bld B w0 w VL C vr vb vc bl cl) (hO : Onto w vb w2 vb') (ol : w.ownsRow Bk 9 1 vl n xs) : w2.ownsRow Bk 9 1 vl n xs := ol.kept hO.1 (rows_apart ol h.b (by decide))
theorem str_c (h : Bld B w0 w VL C vr vb vc bl cl) (hO : Onto w vc w2 vc') (ol : w.ownsRow Bk 9 1 vl n xs) : w2.ownsRow Bk 9 1 vl n xs := ol.kept hO.1 (rows_apart ol h.c (by decide))
theorem add (h : Bld B w0 w VL C vr vb vc bl cl) (ol : w.ownsRow Bk 9 1 vl (C VL.length).length (vs (C VL.length))) (hB : B ≤ Bk) (hO : Onto w vr w2 vr') (ho : w2.ownsRow B 39 1 vr' (VL.length + 1) (VL ++ [vl])) : Bld B w0 w2 (VL ++ [vl]) C vr' vb vc bl cl :=
  ⟨by rw [List.length_append]; exact ho, fun i hi => by
    rw [List.length_append, List.length_singleton] at hi
    by_cases e : i < VL.length
    · rw [List.getD_eq_getElem?_getD, List.getElem?_append_left e, ← List.getD_eq_getElem?_getD]
      exact (h.row i e).kept hO.1 (rows_apart (h.row i e) h.r (by decide))
    · obtain rfl : i = VL.length := by omega
      rw [List.getD_eq_getElem?_getD, List.getElem?_append_right (Nat.le_refl _), Nat.sub_self]
      exact (ownsRow_mono ol hB).kept hO.1 (rows_apart ol h.r (by decide)), h.b.kept hO.1 (rows_apart h.b h.r (by decide)), h.c.kept hO.1 (rows_apart h.c h.r (by decide)), h.ne, h.hb.grown hO.1 h.size (fun k hk => (h.r.lt k hk).1), Nat.le_trans h.size hO.1.size⟩
theorem lt (h : Bld B w0 w VL C vr vb vc bl cl) : ∀ i, i < VL.length → ∀ b, (VL.getD i undef).ownBlock = some b → b < w.heap.size := fun i hi b hb => ((h.row i hi).lt b hb).2
end Bld
theorem sum_ge (f : Nat → Nat) : ∀ n i, i < n → f i ≤ ((List.range n).map f).sum
  | 0, i, h => absurd h (by omega)
  | n + 1, i, h => by
    rw [List.range_succ, List.map_append, List.sum_append]
    by_cases e : i = n
    · subst e; simp
    · have := sum_ge f n i (by omega); omega
theorem vs_take (l : List ByteArray) (j : Nat) (h : j < l.length) : vs (l.take (j + 1)) = vs (l.take j) ++ [.string (nthB l j)] := by
  rw [List.take_add_one, List.getElem?_eq_getElem h]; unfold vs nthB; rw [List.map_append, List.getD_eq_getElem?_getD, List.getElem?_eq_getElem h]; rfl
theorem cellsR_length (R : Nat → List UInt32) (i : Nat) : (cellsR R i).length = (R i).length := by simp [cellsR]
theorem cellsR_at (R : Nat → List UInt32) (i j : Nat) (h : j < (R i).length) : nthB (cellsR R i) j = tenB ((R i).getD j 0) := by
  unfold nthB cellsR
  rw [List.getD_eq_getElem?_getD, List.getElem?_map, List.getElem?_eq_getElem h, List.getD_eq_getElem?_getD, List.getElem?_eq_getElem h]; rfl
def bgK (X : List Nat) (m v : Nat) : List Nat := (List.range m).map fun t => if t < v then colK X t else 0
theorem bgK_length (X : List Nat) (m v : Nat) : (bgK X m v).length = m := by simp [bgK]
theorem bgK_at (X : List Nat) (m v j : Nat) (h : j < m) : (bgK X m v).getD j 0 = if j < v then colK X j else 0 := by
  unfold bgK; rw [List.getD_eq_getElem?_getD, List.getElem?_map, List.getElem?_range h]; rfl
theorem colK_le (X : List Nat) (M : Nat) (h : ∀ j, X.getD j 0 ≤ M) : ∀ j, colK X j ≤ 1 + j * (M + 2)
  | 0 => by simp [colK]
  | j + 1 => by
    have ih := colK_le X M h j
    have := h j
    rw [Nat.succ_mul]
    simp only [colK]
    omega
theorem bgK_zero (X : List Nat) (m : Nat) : bgK X m 0 = zs m := by
  unfold bgK zs
  apply List.ext_getElem? 
  intro j
  rw [List.getElem?_map, List.getElem?_replicate]
  split
  · rw [List.getElem?_range (by assumption)]; rfl
  · rw [List.getElem?_eq_none (by simp; omega)]; rfl
theorem bgK_set (X : List Nat) (m v j : Nat) (h : j < m) : (bgK X m (max v j)).set j (colK X j) = bgK X m (max v (j + 1)) := by
  unfold bgK
  apply List.ext_getElem?
  intro t
  rw [List.getElem?_set, List.getElem?_map, List.getElem?_map]
  by_cases e : j = t
  · subst e
    rw [if_pos rfl, if_pos (by simpa using h), List.getElem?_range h, Option.map_some, if_pos (by omega)]
  · rw [if_neg e]
    by_cases ht : t < m
    · rw [List.getElem?_range ht, Option.map_some, Option.map_some]
      have : t < max v j ↔ t < max v (j + 1) := by omega
      simp only [this]
    · rw [List.getElem?_eq_none (by simp; omega)]; rfl
theorem range_getD (l : List Value) : (List.range l.length).map (fun i => l.getD i undef) = l := by
  apply List.ext_getElem?
  intro t
  rw [List.getElem?_map]
  by_cases h : t < l.length
  · rw [List.getElem?_range h, Option.map_some, List.getD_eq_getElem?_getD, List.getElem?_eq_getElem h]; rfl
  · rw [List.getElem?_eq_none (by simp; omega), List.getElem?_eq_none (by omega)]; rfl
theorem wordsK_get (X : List Nat) (cs : List ByteArray) (n j : Nat) (h : j < n) : ∃ h', (wordsK X cs n)[j]'h' = (nthB cs j, false, colK X j) := by
  unfold wordsK
  exact ⟨by simpa using h, by simp⟩
theorem wordsK_length (X : List Nat) (cs : List ByteArray) (n : Nat) : (wordsK X cs n).length = n := by simp [wordsK]
set_option maxRecDepth 100000 in
set_option maxHeartbeats 1600000 in
theorem cols_walk (ao : Option Addr) (n cap : Nat) (V : Nat → Value) (R : Nat → List UInt32) (w : World) (h1 : n ≤ cap) (h2 : cap ≤ 9223372036854775807) (hT : TabAt w ao n V R) (hpow : Pow10 w) :
    Calls Tryd.prog 4 #[.slice ao n cap] w fun e w' => e = .returned (.bool true) ∧ Below w.heap.size w w' := by
  obtain ⟨i0, hi, hz0, hz1, hz2⟩ := info_parts infoI
  obtain ⟨iS, hj, ey0, ey1, ey2⟩ := info_parts infoS
  obtain ⟨iR, hr, er0, er1, er2⟩ := info_parts infoSS
  have hsum := hT.sum
  replace hT := Lib.hid hT
  obtain ⟨C, hCd⟩ : ∃ C, cellsR R = C := ⟨_, rfl⟩
  have hCl : ∀ i, (C i).length = (R i).length := fun i => by rw [← hCd, cellsR_length]
  have hRl : ∀ i, i < n → (R i).length ≤ 1048576 := by
    intro i hi
    have : (R i).length ≤ ((List.range n).map fun i => (R i).length).sum := sum_ge (fun i => (R i).length) n i hi
    omega
  have hWN : ∀ k, k ≤ n → (wK C k).length ≤ 1048576 := by
    intro k
    induction k with
    | zero => intro _; simp [wK]
    | succ k ih =>
      intro h
      have := ih (by omega)
      have := hRl k (by omega)
      simp only [wK]; rw [wRow_length, hCl]; omega
  have hnN : n ≤ 1048576 := by omega
  replace hCd := Lib.hid hCd; replace hCl := Lib.hid hCl; replace hsum := Lib.hid hsum; replace hRl := Lib.hid hRl; replace hWN := Lib.hid hWN
  go_enter Tryd.func4, Tryd.ntmps4
  go_wp2_with (go_at_call 7; refine (head_yes _ hpow).mono ?_; rintro e w1 ⟨rfl, hb1⟩)
  go_loopw [3, 4, 5, 6] (fun vr vb vc i wr => ∃ (k : Nat) (VL : List Value), k ≤ n ∧ VL.length = k ∧ i = .int .i64 k ∧ Bld w.heap.size w wr VL C vr vb vc (zs (wK C k).length) (zs (wK C k).length)) (fun _ _ _ i _ => n - (intOf i).toNat)
  case atStart => exact ⟨0, [], by omega, rfl, rfl, ⟨World.ownsRow_nil _ _ _ _, fun i hi => absurd hi (by simp), World.ownsRow_nil _ _ _ _, World.ownsRow_nil _ _ _ _, fun _ h => by simp [Value.ownBlock] at h, hb1, hb1.size⟩⟩
  case round =>
    clear hb1
    obtain ⟨wo, rfl⟩ : ∃ wo, wo = wr := ⟨wr, rfl⟩
    obtain ⟨vr, rfl⟩ : ∃ b, b = u3 := ⟨u3, rfl⟩
    obtain ⟨vb, rfl⟩ : ∃ b, b = u4 := ⟨u4, rfl⟩
    obtain ⟨vc, rfl⟩ : ∃ b, b = u5 := ⟨u5, rfl⟩
    obtain ⟨k, VL, hk, hVL, rfl, hB⟩ := hrel
    by_cases hlt : k < n
    · have hB0 := hB.hb
      have hBlt := Lib.hid hB.lt
      have hBs := hB.size
      obtain ⟨b, off, rfl, hc⟩ := hT.out.cell k hlt
      have hb0 := World.block_lt_of_cell? w _ hc
      obtain ⟨ai, ci, hV, b1, b2, b3⟩ := (hT.out.row k hlt).words
      rw [hV] at hc
      have hRk := hRl.out k hlt
      have hCk := hCl.out k
      have hWk := hWN.out k hk
      have hwl : (wK C (k + 1)).length = max (wK C k).length (R k).length := by rw [show wK C (k + 1) = wRow (wK C k) (C k) from rfl, wRow_length, hCk]
      replace hwl := Lib.hid hwl; replace hB := Lib.hid hB; replace hB0 := Lib.hid hB0
      go_wp2_with fail
      generalize (wK C k).length = m at *
      go_loopw [4, 5, 7, 8] (fun vb vc vl j wr => ∃ (i : Nat), i ≤ (R k).length ∧ j = .int .i64 i ∧ Bld w.heap.size w wr VL C vr vb vc (zs (max m i)) (zs (max m i)) ∧ wr.ownsRow wo.heap.size 9 1 vl i (vs ((C k).take i)) ∧ wo.heap.size ≤ wr.heap.size) (fun _ _ _ j _ => (R k).length - (intOf j).toNat)
      case atStart => exact ⟨0, by omega, rfl, by simpa using hB.out, World.ownsRow_nil _ _ _ _, Nat.le_refl _⟩
      case round =>
        obtain ⟨wi, rfl⟩ : ∃ wo, wo = wr := ⟨wr, rfl⟩
        obtain ⟨vb, rfl⟩ : ∃ b, b = u4 := ⟨u4, rfl⟩
        obtain ⟨vc, rfl⟩ : ∃ b, b = u5 := ⟨u5, rfl⟩
        obtain ⟨vl, rfl⟩ : ∃ b, b = u7 := ⟨u7, rfl⟩
        obtain ⟨i, hi', rfl, hBi, ol, hs⟩ := hrel
        have d0 := (hBi.hb.cell (p := ⟨b, off + k, none⟩) hb0).trans hc
        by_cases hil : i < (R k).length
        · obtain ⟨bb, oo, rfl, b4, b5⟩ := b3.resolve_left (by intro e; rw [e] at hil; simp at hil)
          have d1 := (hBi.hb.cell (p := ⟨bb, oo + i, none⟩) b4).trans (b5 i hil)
          have hp := Lib.hid (pow10_later hpow hBi.hb)
          have hbd := wAt_bd (R k) i
          have hcell : nthB (C k) i = ⟨(Lib.decDigits (wAt (R k) i).toNat).toArray⟩ := by rw [← hCd.out, cellsR_at _ _ _ hil]; unfold wAt tenB; simp
          have htk := vs_take (C k) i (by omega)
          rw [hcell] at htk
          obtain ⟨u, hu⟩ : ∃ u : Nat, wAt (R k) i = (u : Int) := ⟨(wAt (R k) i).toNat, by omega⟩
          rw [hu] at d1 hbd htk
          simp only [Int.toNat_natCast] at htk
          have hu2 : u < 4294967296 := by omega
          clear hcell hbd
          obtain ⟨av, cv, rfl⟩ := slice_form hBi.b
          obtain ⟨aw, cw, rfl⟩ := slice_form hBi.c
          obtain ⟨q, hq⟩ : ∃ q, max m i = q := ⟨_, rfl⟩
          have hq1 : i ≤ q := by omega
          have hq2 : q ≤ 1048576 := by omega
          rw [hq, zs_length] at hBi
          simp only [hq, zs_length]
          replace htk := Lib.hid htk; replace hBi := Lib.hid hBi; replace ol := Lib.hid ol; replace hu := Lib.hid hu
          go_wp2_with (first | (go_at_call 11; refine (tens_any u hu2 _ hp.out).mono ?_; rintro e w2 ⟨rfl, hb2⟩; have hBi2 := hBi.out.later hb2; have ol2 := ownsRow_later ol.out hb2; have hs2 := hb2.size; replace hBi2 := Lib.hid hBi2; replace ol2 := Lib.hid ol2) | (at_builtin; refine wpList_append_onto' _ rfl _ _ 39 rfl wo.heap.size 9 iS (.string ⟨#[]⟩) 1 16 Tryd.underlying39 hj ey0 ey1 ey2 rfl (by decide) _ _ _ rfl (ol2.out.alloc _) ⟨w2.heap.size, 0, none⟩ 1 1 [.string ⟨(Lib.decDigits u).toArray⟩] rfl rfl ?c1 ?c2 ?c3 ?c4 ?c5 ?_))
          all_goals try exact cell_one_new _ _ _
          case c2 => simp [Value.oneCell']
          case c3 => simp only [maxLen]; omega
          case c4 => omega
          case c5 => first | omega | (simp; omega)
          intro v1 w3 ho1 hO1
          have hB3 := (hBi2.out.alloc _).line (ol2.out.alloc _) hBlt.out hBs hO1.1
          have ol3 : w3.ownsRow wo.heap.size 9 1 v1 (i + 1) (vs ((C k).take (i + 1))) := by rw [htk.out]; exact ho1
          have hs3 : wo.heap.size ≤ w3.heap.size := Nat.le_trans (by simp; omega) hO1.1.size
          have hBs3 := hB3.size
          clear ho1 hO1 d0 d1 hBi ol hBi2 ol2
          replace hB3 := Lib.hid hB3; replace ol3 := Lib.hid ol3
          by_cases he : i = q
          · have dd : ((i : Int) == (q : Int)) = true := by simp [he]
            have hoc := hB3.out.b
            rw [zs_length] at hoc
            replace hoc := Lib.hid hoc
            have hq3 : max m (i + 1) = q + 1 := by omega
            replace he := Lib.hid he; replace hq3 := Lib.hid hq3; replace hq := Lib.hid hq
            go_wp2_with (at_builtin; refine wpList_append_onto' _ rfl _ _ 38 rfl w.heap.size 3 i0 (.int .i64 0) 1 8 Tryd.underlying38 hi hz0 hz1 hz2 rfl (by decide) _ _ _ rfl (hoc.out.alloc _) ⟨w3.heap.size, 0, none⟩ 1 1 [.int .i64 0] rfl rfl ?x1 ?x2 ?x3 ?x4 ?x5 ?_)
            all_goals try exact cell_one_new _ _ _
            case x2 => simp [Value.oneCell']
            case x3 => simp only [maxLen]; omega
            case x4 => omega
            case x5 => first | omega | (simp; omega)
            intro v2 w4 ho2 hO2
            have hB4 := (hB3.out.alloc _).beg hO2 (bl' := zs (q + 1)) (by rw [zs_length, zs_succ]; exact ho2)
            have ol4 := (hB3.out.alloc _).str_b hO2 (ol3.out.alloc _)
            have hs4 : wo.heap.size ≤ w4.heap.size := Nat.le_trans (by simp; omega) hO2.1.size
            have hBs4 := hB4.size
            clear ho2 hO2 hB3 ol3 hoc
            replace hB4 := Lib.hid hB4; replace ol4 := Lib.hid ol4
            have hoc := hB4.out.c
            rw [zs_length] at hoc
            replace hoc := Lib.hid hoc
            go_wp2_with (at_builtin; refine wpList_append_onto' _ rfl _ _ 38 rfl w.heap.size 3 i0 (.int .i64 0) 1 8 Tryd.underlying38 hi hz0 hz1 hz2 rfl (by decide) _ _ _ rfl (hoc.out.alloc _) ⟨w4.heap.size, 0, none⟩ 1 1 [.int .i64 0] rfl rfl ?y1 ?y2 ?y3 ?y4 ?y5 ?_)
            all_goals try exact cell_one_new _ _ _
            case y2 => simp [Value.oneCell']
            case y3 => simp only [maxLen]; omega
            case y4 => omega
            case y5 => first | omega | (simp; omega)
            intro v3 w5 ho3 hO3
            have hB5 := (hB4.out.alloc _).clo hO3 (cl' := zs (q + 1)) (by rw [zs_length, zs_succ]; exact ho3)
            have ol5 := (hB4.out.alloc _).str_c hO3 (ol4.out.alloc _)
            have hs5 : wo.heap.size ≤ w5.heap.size := Nat.le_trans (by simp; omega) hO3.1.size
            clear ho3 hO3 hB4 ol4 hoc
            replace hB5 := Lib.hid hB5; replace ol5 := Lib.hid ol5
            go_wp2_with fail
            go_roundw
            case rel => exact ⟨i + 1, by omega, by go_num, by rw [hq3.out]; exact hB5.out, ol5.out, hs5⟩
            case measure => simp [intOf]; omega
          · have dd : ((i : Int) == (q : Int)) = false := by simp; omega
            have hq3 : max m (i + 1) = q := by omega
            replace hq3 := Lib.hid hq3; replace hq := Lib.hid hq
            go_wp2_with fail
            go_roundw
            case rel => exact ⟨i + 1, by omega, by go_num, by rw [hq3.out]; exact hB3.out, ol3.out, hs3⟩
            case measure => simp [intOf]; omega
        · obtain rfl : i = (R k).length := by omega
          have htk : (C k).take (R k).length = C k := by rw [← hCl.out k, List.take_length]
          rw [htk] at ol
          have hVn : VL.length ≤ 1048576 := by omega
          obtain ⟨av, cv, rfl⟩ := slice_form hBi.r
          obtain ⟨aw, cw, rfl⟩ := slice_form ol
          have hs1 := hBi.size
          replace hVL := Lib.hid hVL
          replace hBi := Lib.hid hBi; replace ol := Lib.hid ol
          go_wp2_with (at_builtin; refine wpList_append_onto' _ rfl _ _ 37 rfl w.heap.size 39 iR (.slice none 0 0) 1 24 Tryd.underlying37 hr er0 er1 er2 rfl (by decide) _ _ _ rfl (hBi.out.r.alloc _) ⟨wi.heap.size, 0, none⟩ 1 1 [.slice aw (R k).length cw] rfl rfl ?z1 ?z2 ?z3 ?z4 ?z5 ?_)
          all_goals try exact cell_one_new _ _ _
          case z2 => simp [Value.oneCell']
          case z3 => simp only [maxLen]; omega
          case z4 => omega
          case z5 => first | omega | (simp; omega)
          intro v1 w2 ho1 hO1
          have hB2 := (hBi.out.alloc _).add (by rw [hVL.out, hCl.out]; exact ol.out.alloc _) hBs hO1 ho1
          clear ho1 hO1 hBi ol
          rw [← hwl.out] at hB2
          replace hB2 := Lib.hid hB2
          go_wp2_with fail
          go_roundw
          case rel => exact ⟨k + 1, _, by omega, by simp [hVL.out], by go_num, hB2.out⟩
          case measure => simp [intOf]; omega
    · obtain rfl : k = n := by omega
      have hg : Grid wo vr (fun i => VL.getD i undef) C k := ⟨by rw [← hVL, range_getD]; exact Rd.of_own hB.r, fun i hi => Rd.of_own (hB.row i (by omega))⟩
      have hdig : ∀ i, i < k → ∀ j, j < (C i).length → allDig (nthB (C i) j) := fun i hi j hj => by
        rw [hCl.out] at hj; rw [← hCd.out, cellsR_at _ _ _ hj]; exact tenB_dig _
      have h20 : ∀ i, i < k → (C i).length ≤ 1048576 ∧ ∀ j, j < (C i).length → (nthB (C i) j).size ≤ 20 := fun i hi => ⟨by rw [hCl.out]; exact hRl.out i hi, fun j hj => by
        rw [hCl.out] at hj; rw [← hCd.out, cellsR_at _ _ _ hj]; exact tenB_size _⟩
      have hsm : ((List.range k).map fun i => (C i).length).sum + k ≤ 1048576 := by simp only [hCl.out]; exact hsum.out
      have hge := wK_ge C k
      have hMx := wK_le C 20 k (fun i hi => (h20 i hi).2)
      have hTl := textK_len (wK C k) C 20 k hMx (fun i hi => (hge i hi).2) k (Nat.le_refl _)
      have hcut := cut_text (wK C k) C k hdig k (Nat.le_refl _)
      have hclo := fun j hj => cloK_two C k j hj
      obtain ⟨vm, hvm⟩ : ∃ m, (wK C k).length = m := ⟨_, rfl⟩
      have hvmN := hWN.out k (Nat.le_refl _)
      have hpl : ∀ i, i < k → (padK (wK C k) (C i) (C i).length).length ≤ 1048576 * 22 := fun i hi => by
        have h1 := padK_len (wK C k) (C i) 20 hMx (fun j => by
          by_cases hj : j < (C i).length
          · exact .inl ((hge i hi).2 j hj)
          · exact .inr (by omega)) _ (Nat.le_refl _)
        have h2 := (h20 i hi).1
        have h3 : (C i).length * (20 + 2) ≤ 1048576 * 22 := Nat.mul_le_mul h2 (Nat.le_refl _)
        omega
      have hwd : ∀ i, i < k → ∀ s : ByteArray, s.data.toList = padK (wK C k) (C i) (C i).length → wordsF s = .inl (wordsK (wK C k) (C i) (C i).length) := fun i hi s hs => words_pad _ _ (hdig i hi) (hge i hi).2 s hs
      have hcol := columns_any vr (fun i => VL.getD i undef) C k wo hg 20 1048576 (by omega) (by omega) h20 hdig (by omega) (by omega)
      generalize hX : wK C k = X at *
      replace hX := Lib.hid hX
      rw [hvm] at hB hvmN hclo
      obtain ⟨S, hS⟩ : ∃ S : ByteArray, (⟨(textK X C k).toArray⟩ : ByteArray) = S := ⟨_, rfl⟩
      have hSs : S.size ≤ 1099511627776 := by
        have e : S.size = (textK X C k).length := by rw [← hS]; rfl
        have h3 : ((List.range k).map fun i => (C i).length).sum * (20 + 2) ≤ 1048576 * 22 := Nat.mul_le_mul (by omega) (Nat.le_refl _)
        omega
      rw [hS] at hcol
      obtain ⟨LN, hLN⟩ : ∃ LN, lineS ((List.range k).map fun i => padK X (C i) (C i).length) = LN := ⟨_, rfl⟩
      have hLl : LN.length = k := by rw [← hLN]; simp [lineS]
      have hLa : ∀ i, i < k → (nthB LN i).data.toList = padK X (C i) (C i).length := fun i hi => by
        rw [← hLN]; unfold nthB lineS
        rw [List.getD_eq_getElem?_getD, List.getElem?_map, List.getElem?_map, List.getElem?_range hi]; rfl
      have hcc : ∀ w2 : World, Calls Tryd.prog 12 #[.string S] w2 fun e w' => ∃ v, e = .returned (.tuple #[v, .bool true]) ∧ w'.ownsRow w2.heap.size 9 1 v k (vs LN) ∧ Below w2.heap.size w2 w' := fun w2 => by
        refine (cut_any S w2 hSs).mono fun e w' ⟨v, e1, e2, e3⟩ => ?_
        rw [show S.data.toList = textK X C k by rw [← hS], hcut] at e1 e2
        simp only [hLN, List.length_map, List.length_range] at e1 e2
        exact ⟨v, by rw [e1]; rfl, e2, e3⟩
      replace hcol := Lib.hid hcol; replace hcc := Lib.hid hcc; replace hLN := Lib.hid hLN; replace hLa := Lib.hid hLa; replace hwd := Lib.hid hwd; replace hpl := Lib.hid hpl; replace hclo := Lib.hid hclo; replace hge := Lib.hid hge; replace hMx := Lib.hid hMx; replace hdig := Lib.hid hdig; replace hS := Lib.hid hS
      clear hTl hcut hg h20 hsm
      have hBs := hB.size
      replace hB := Lib.hid hB; replace hVL := Lib.hid hVL
      have hr0 := hB.out.r
      rw [hVL.out] at hr0
      obtain ⟨ar, cr, rfl⟩ := slice_form hr0
      clear hr0
      go_wp2_with (first | (go_at_call 13; refine hcol.out.mono ?_; rintro e w2 ⟨rfl, hb2⟩; have hB2 := hB.out.later hb2; replace hB2 := Lib.hid hB2) | (go_at_call 12; refine (hcc.out _).mono ?_; rintro e w3 ⟨vln, rfl, hol, hb3⟩; have hB3 := hB2.out.later hb3; obtain ⟨an, cn, rfl⟩ := slice_form hol; replace hB3 := Lib.hid hB3; replace hol := Lib.hid hol))
      have hol2 := ownsRow_mono hol.out (show w.heap.size ≤ w2.heap.size from hB2.out.size)
      clear hol hB hB2 hcol hcc
      go_loopw [11] (fun i wr => ∃ (q : Nat), q ≤ k ∧ i = .int .i64 q ∧ Bld w.heap.size w wr VL C (.slice ar k cr) vb vc (bgK X vm (wK C q).length) (zs vm) ∧ wr.ownsRow w.heap.size 9 1 (.slice an k cn) k (vs LN)) (fun i _ => k - (intOf i).toNat)
      case atStart => exact ⟨0, by omega, rfl, by rw [show (wK C 0).length = 0 from rfl, bgK_zero]; exact hB3.out, hol2⟩
      case round =>
        clear hB3 hol2
        obtain ⟨wo, rfl⟩ : ∃ wo, wo = wr := ⟨wr, rfl⟩
        obtain ⟨q, hq, rfl, hB, hol⟩ := hrel
        by_cases hlt : q < k
        · obtain ⟨gl, c1, ev, _, _⟩ := hol.form (by omega)
          simp only [Value.slice.injEq] at ev
          obtain ⟨rfl, _, rfl⟩ := ev
          have x0 := (hol.cellAt q (by omega)).trans (vs_get LN q (by omega))
          have hrr := hB.r
          rw [hVL.out] at hrr
          obtain ⟨gr, c2, ev, _, _⟩ := hrr.form (by omega)
          simp only [Value.slice.injEq] at ev
          obtain ⟨rfl, _, rfl⟩ := ev
          have hVq : VL[q]? = some (VL.getD q undef) := by
            have h1 := hVL.out
            rw [List.getD_eq_getElem?_getD, List.getElem?_eq_getElem (by omega)]; rfl
          have x1 := (hrr.cellAt q (by omega)).trans hVq
          have hrow := hB.row q (by rw [hVL.out]; exact hlt)
          have hsl := hLa.out q hlt
          have hwq := hwd.out q hlt _ hsl
          have hpq := hpl.out q hlt
          have hgq := hge.out q hlt
          have hdq := hdig.out q hlt
          rw [hvm] at hgq
          have hwl : (wK C (q + 1)).length = max (wK C q).length (C q).length := by rw [show wK C (q + 1) = wRow (wK C q) (C q) from rfl, wRow_length]
          have hsz : (nthB LN q).size = (padK X (C q) (C q).length).length := by rw [← size_list, hsl]
          generalize hcs : C q = cs at *
          generalize VL.getD q undef = vq at *
          obtain ⟨aq, cq, rfl⟩ := slice_form hrow
          generalize nthB LN q = s at *
          have hss : s.size ≤ 1099511627776 := by omega
          have hBs := hB.size
          replace hwl := Lib.hid hwl; replace hcs := Lib.hid hcs; replace hB := Lib.hid hB; replace hol := Lib.hid hol; replace hrow := Lib.hid hrow; replace hrr := Lib.hid hrr; replace hsz := Lib.hid hsz; replace hsl := Lib.hid hsl; replace hgq := Lib.hid hgq; replace hdq := Lib.hid hdq; replace hwq := Lib.hid hwq; replace hVq := Lib.hid hVq; replace hvm := Lib.hid hvm
          go_upto_region 25 with (go_at_call 10; refine (words_any s _ hss).mono ?_; rintro e w4 ⟨hb4, hr4⟩; rw [hwq.out] at hr4; obtain ⟨vx, rfl, how⟩ := hr4; rw [wordsK_length] at how; obtain ⟨ax, cx, rfl⟩ := slice_form how; have hB4 := hB.out.later hb4; have hol4 := ownsRow_later hol.out hb4; replace hB4 := Lib.hid hB4; replace hol4 := Lib.hid hol4; replace how := Lib.hid how)
          have y0 := (hb4.cell (p := ⟨gl, q, none⟩) (World.block_lt_of_cell? _ _ x0)).trans x0
          have y1 := (hb4.cell (p := ⟨gr, q, none⟩) (World.block_lt_of_cell? _ _ x1)).trans x1
          have hrow4 := ownsRow_later hrow.out hb4
          replace hrow4 := Lib.hid hrow4
          have hfin : ∀ wx : World, Below w4.heap.size w4 wx → True := fun _ _ => trivial
          clear x0 x1 hB hol hrow hrr hfin
          have hend : s.size = 0 ∨ ∃ h : s.size - 1 < s.size, (((s[s.size - 1]'h).toNat : Int) == 32) = false := by
            by_cases h0 : cs.length = 0
            · left; rw [hsz.out, h0]; rfl
            · right
              obtain ⟨l1, x, hl1, hx⟩ := padK_last X cs hdq.out (by omega)
              have e2 : s.size = l1.length + 1 := by rw [hsz.out, hl1]; simp
              refine ⟨by omega, ?_⟩
              rw [bAt_get s (s.size - 1) (by omega), hsl.out, hl1, e2]
              simp [bAt]
              omega
          go_cut [124] (fun c wx => c = .bool false ∧ ∃ nq, wx = w4.drewN nq)
          case first =>
            rcases hend with h0 | ⟨h0, hch⟩
            · have hs0 : decide ((s.size : Int) > 0) = false := decide_eq_false (by omega)
              go_quiet (fail)
              go_wp2_with fail
              go_meet
              case rel => exact ⟨rfl, _, rfl⟩
            · have hs0 : decide ((s.size : Int) > 0) = true := decide_eq_true (by omega)
              have hsp : 0 < s.size := by omega
              have hem : (s.size : Int) - 1 = ((s.size - 1 : Nat) : Int) := by omega
              go_quiet (fail)
              go_wp2_with fail
              go_meet
              case rel => exact ⟨rfl, _, rfl⟩
          case rest =>
            obtain ⟨rfl, nq, hw⟩ := hcut
            obtain rfl := hw.symm
            have hbd := below_drewN (Below.refl w4.heap.size w4) nq
            have hB5 := hB4.out.later hbd
            have hol5 := ownsRow_later hol4.out hbd
            have how5 := ownsRow_later how.out hbd
            have hrow5 := ownsRow_later hrow4.out hbd
            clear hbd y0 y1 hB4 hol4 how hrow4 hend
            generalize w4.drewN nq = w5 at *
            have hws := hB5.size
            replace hB5 := Lib.hid hB5; replace hol5 := Lib.hid hol5; replace how5 := Lib.hid how5; replace hrow5 := Lib.hid hrow5
            go_wp2_with fail
            have hwq0 : (wK C q).length ≤ vm ∨ True := .inr trivial
            clear hwq0
            generalize (wK C q).length = m at *
            go_loopw [15] (fun j wr => ∃ (i : Nat), i ≤ cs.length ∧ j = .int .i64 i ∧ Bld w.heap.size w wr VL C (.slice (some ⟨gr, 0, none⟩) k cr) vb vc (bgK X vm (max m i)) (zs vm) ∧ wr.ownsRow w.heap.size 9 1 (.slice (some ⟨gl, 0, none⟩) k cn) k (vs LN) ∧ wr.ownsRow (wo.heap.size + 3) 30 3 (.slice ax cs.length cx) cs.length (ww (wordsK X cs cs.length))) (fun j _ => cs.length - (intOf j).toNat)
            case atStart => exact ⟨0, by omega, rfl, by simpa using hB5.out, hol5.out, how5.out⟩
            case round =>
              clear hB5 hol5 how5 hrow5
              obtain ⟨wi, rfl⟩ : ∃ wo, wo = wr := ⟨wr, rfl⟩
              obtain ⟨i, hi', rfl, hB, hol, how⟩ := hrel
              by_cases hil : i < cs.length
              · obtain ⟨gx, c3, ev, _, _⟩ := how.form (by omega)
                simp only [Value.slice.injEq] at ev
                obtain ⟨rfl, _, rfl⟩ := ev
                obtain ⟨hw1, hw2⟩ := wordsK_get X cs cs.length i hil
                obtain ⟨v0, v1, v2⟩ := ww_get (wordsK X cs cs.length) i hw1
                rw [hw2] at v0 v2
                have x0 := (how.cellAt (i * 3) (by omega)).trans v0
                have x2 := (how.cellAt (i * 3 + 2) (by omega)).trans v2
                clear v0 v1 v2 hw2
                have hrr := hB.r
                rw [hVL.out] at hrr
                have y1 := (hrr.cellAt q (by omega)).trans hVq.out
                have hrow := hB.row q (by rw [hVL.out]; exact hlt)
                have hvq2 : VL.getD q undef = .slice aq cs.length cq := by rw [List.getD_eq_getElem?_getD, hVq.out]; rfl
                rw [hvq2, hcs.out] at hrow
                obtain ⟨gq, c4, ev, _, _⟩ := hrow.form (by omega)
                simp only [Value.slice.injEq] at ev
                obtain ⟨rfl, _, rfl⟩ := ev
                have y2 := (hrow.cellAt i (by omega)).trans (vs_get cs i hil)
                have him : i < vm := by have := hgq.out.1; omega
                have hbb := hB.b
                rw [bgK_length] at hbb
                obtain ⟨gb, c5, rfl, _, _⟩ := hbb.form (by omega)
                have z0 := (hbb.cellAt i (by omega)).trans (vi_get (bgK X vm (max m i)) i (by rw [bgK_length]; exact him))
                rw [bgK_at _ _ _ _ him] at z0
                have fz := hbb.frozenAt i
                have hset := bgK_set X vm m i him
                have hcol1 : i = 0 → colK X i = 1 := fun e => by rw [e]; rfl
                have hcolp : 1 ≤ colK X i := by cases i with | zero => exact Nat.le_refl _ | succ i => simp only [colK]; omega
                obtain ⟨c, hc⟩ : ∃ c, colK X i = c := ⟨_, rfl⟩
                rw [hc] at x2 z0 hset hcol1 hcolp
                generalize nthB cs i = cell at *
                have hbs := hB.size
                replace hB := Lib.hid hB; replace hol := Lib.hid hol; replace how := Lib.hid how; replace hrr := Lib.hid hrr; replace hrow := Lib.hid hrow; replace hbb := Lib.hid hbb; replace hset := Lib.hid hset; replace hc := Lib.hid hc; replace hvq2 := Lib.hid hvq2
                go_upto_region 30 with fail
                go_cut [174] (fun c wx => c = .bool false ∧ ∃ nq, wx = wi.drewN nq)
                case first =>
                  by_cases hA : i < max m i
                  · rw [if_pos hA] at z0
                    have f1 : ((c : Int) != 0) = true := by simp; omega
                    by_cases h0 : i = 0
                    · have f2 : ((i : Int) == 0) = true := by simp [h0]
                      have f3 : ((c : Int) != 1) = false := by simp [hcol1 h0]
                      clear hcol1
                      replace h0 := Lib.hid h0
                      go_quiet (fail)
                      go_wp2_with fail
                      go_meet
                      case rel => exact ⟨rfl, _, rfl⟩
                    · have f2 : ((i : Int) == 0) = false := by simp; omega
                      clear hcol1
                      go_quiet (fail)
                      go_wp2_with fail
                      go_meet
                      case rel => exact ⟨rfl, _, rfl⟩
                  · rw [if_neg hA] at z0
                    by_cases h0 : i = 0
                    · have f2 : ((i : Int) == 0) = true := by simp [h0]
                      have f3 : ((c : Int) != 1) = false := by simp [hcol1 h0]
                      clear hcol1
                      replace h0 := Lib.hid h0
                      go_quiet (fail)
                      go_wp2_with fail
                      go_meet
                      case rel => exact ⟨rfl, _, rfl⟩
                    · have f2 : ((i : Int) == 0) = false := by simp; omega
                      clear hcol1
                      go_quiet (fail)
                      go_wp2_with fail
                      go_meet
                      case rel => exact ⟨rfl, _, rfl⟩
                case rest =>
                  obtain ⟨rfl, nq, hw⟩ := hcut
                  obtain rfl := hw.symm
                  have hbd := below_drewN (Below.refl wi.heap.size wi) nq
                  replace hB := hB.out.later hbd
                  replace hol := ownsRow_later hol.out hbd
                  replace how := ownsRow_later how.out hbd
                  replace hbb := ownsRow_later hbb.out hbd
                  replace x2 := (hbd.cell (p := ⟨gx, i * 3 + 2, none⟩) (World.block_lt_of_cell? _ _ x2)).trans x2
                  have z1 := (hbd.cell (p := ⟨gb, i, none⟩) (World.block_lt_of_cell? _ _ z0)).trans z0
                  clear x0 y1 y2 hbd hrow hrr z0
                  generalize wi.drewN nq = w7 at *
                  replace fz := hbb.frozenAt i
                  obtain ⟨s1, s2⟩ := hbb.stored i (.int .i64 (c : Int))
                  have hB6 := hB.beg (bl' := bgK X vm (max m (i + 1))) ⟨s2, .inl rfl⟩ (by rw [bgK_length, ← hset.out, vi_set]; exact s1)
                  have hol6 := hB.str_b ⟨s2, .inl rfl⟩ hol
                  have how6 := how.kept s2 (rows_apart how hbb (by decide))
                  clear s1 s2
                  replace hB := Lib.hid hB; replace hol := Lib.hid hol; replace how := Lib.hid how; replace hbb := Lib.hid hbb; replace hB6 := Lib.hid hB6; replace hol6 := Lib.hid hol6; replace how6 := Lib.hid how6
                  go_wp2_with fail
                  go_roundw
                  case rel => exact ⟨i + 1, by omega, by go_num, hB6.out, hol6.out, how6.out⟩
                  case measure => simp [intOf]; omega
              · obtain rfl : i = cs.length := by omega
                rw [← hwl.out] at hB
                replace hB := Lib.hid hB; replace hol := Lib.hid hol
                go_wp2_with fail
                go_roundw
                case rel => exact ⟨q + 1, by omega, by go_num, hB.out, hol.out⟩
                case measure => simp [intOf]; omega
        · obtain rfl : q = k := by omega
          rw [hX.out, hvm] at hB
          have hbb := hB.b
          rw [bgK_length] at hbb
          obtain ⟨av, cv, rfl⟩ := slice_form hbb
          clear hbb hol hb2 hb3
          replace hB := Lib.hid hB; replace hvm := Lib.hid hvm
          go_wp2_with fail
          go_loopw [16] (fun jj wr => ∃ (j : Nat) (Y : List Nat), (j + 1 ≤ vm ∨ j = 0) ∧ jj = .int .i64 ((j + 1 : Nat) : Int) ∧ Y.length = vm ∧ (∀ t, j + 1 ≤ t → Y.getD t 0 = 0) ∧ Bld w.heap.size w wr VL C (.slice ar q cr) (.slice av vm cv) vc (bgK X vm vm) Y) (fun jj _ => vm - (intOf jj).toNat)
          case atStart => exact ⟨0, zs vm, .inr rfl, rfl, zs_length _, fun t _ => by unfold zs; rw [List.getD_eq_getElem?_getD, List.getElem?_replicate]; split <;> rfl, hB.out⟩
          case round =>
            clear hB
            obtain ⟨wo, rfl⟩ : ∃ wo, wo = wr := ⟨wr, rfl⟩
            obtain ⟨j, Y, hj1, rfl, hYl, hY0, hB⟩ := hrel
            by_cases hjv : j + 1 < vm
            · have hclj := hclo.out j (by omega)
              have hYc : Y.getD (j + 1) 0 = cloK X C j 0 := hY0 _ (Nat.le_refl _)
              replace hY0 : ∀ t, j + 1 < t → Y.getD t 0 = 0 := fun t ht => hY0 t (by omega)
              have hvc := hB.c
              rw [hYl] at hvc
              obtain ⟨aw, cw, rfl⟩ := slice_form hvc
              have dj : decide ((j : Int) + 1 < (vm : Int)) = true := decide_eq_true (by omega)
              replace hB := Lib.hid hB; replace hvc := Lib.hid hvc; replace hYl := Lib.hid hYl; replace hY0 := Lib.hid hY0; replace hYc := Lib.hid hYc; replace hclj := Lib.hid hclj; replace hj1 := Lib.hid hj1
              go_wp2_with fail
              go_loopw [17] (fun ii wr => ∃ (i : Nat) (Y : List Nat), i ≤ q ∧ ii = .int .i64 i ∧ Y.length = vm ∧ (∀ t, j + 1 < t → Y.getD t 0 = 0) ∧ Y.getD (j + 1) 0 = cloK X C j i ∧ Bld w.heap.size w wr VL C (.slice ar q cr) (.slice av vm cv) (.slice aw vm cw) (bgK X vm vm) Y) (fun ii _ => q - (intOf ii).toNat)
              case atStart => exact ⟨0, Y, by omega, rfl, hYl.out, hY0.out, hYc.out, hB.out⟩
              case round =>
                clear hB hvc hY0 hYc hYl hclj
                obtain ⟨wi, rfl⟩ : ∃ wo, wo = wr := ⟨wr, rfl⟩
                obtain ⟨i, Y, hi', rfl, hYl, hY0, hYc, hB⟩ := hrel
                by_cases hil : i < q
                · have hrr := hB.r
                  rw [hVL.out] at hrr
                  obtain ⟨gr, c2, ev, _, _⟩ := hrr.form (by omega)
                  simp only [Value.slice.injEq] at ev
                  obtain ⟨rfl, _, rfl⟩ := ev
                  have hVq : VL[i]? = some (VL.getD i undef) := by
                    have h1 := hVL.out
                    rw [List.getD_eq_getElem?_getD, List.getElem?_eq_getElem (by omega)]; rfl
                  have x1 := (hrr.cellAt i (by omega)).trans hVq
                  have hrow := hB.row i (by rw [hVL.out]; exact hil)
                  have hgq := hge.out i hil
                  have hst : cloK X C j (i + 1) = if j < (C i).length then (let g := X.getD j 0 + 2 - (nthB (C i) j).size; if cloK X C j i = 0 ∨ g < cloK X C j i then g else cloK X C j i) else cloK X C j i := rfl
                  generalize C i = cs at *
                  generalize VL.getD i undef = vq at *
                  obtain ⟨aq, cq, rfl⟩ := slice_form hrow
                  by_cases hjc : j < cs.length
                  · have hx := hgq.2 j hjc
                    have hMj := hMx.out j
                    rw [if_pos hjc] at hst
                    obtain ⟨g, hg⟩ : ∃ g, X.getD j 0 + 2 - (nthB cs j).size = g := ⟨_, rfl⟩
                    simp only [hg] at hst
                    have hbb := hB.b
                    rw [bgK_length] at hbb
                    obtain ⟨gb, c5, ev, _, _⟩ := hbb.form (by omega)
                    simp only [Value.slice.injEq] at ev
                    obtain ⟨rfl, _, rfl⟩ := ev
                    have z1 := (hbb.cellAt (j + 1) (by omega)).trans (vi_get (bgK X vm vm) (j + 1) (by rw [bgK_length]; exact hjv))
                    rw [bgK_at _ _ _ _ hjv, if_pos hjv] at z1
                    have z0 := (hbb.cellAt j (by omega)).trans (vi_get (bgK X vm vm) j (by rw [bgK_length]; omega))
                    rw [bgK_at _ _ _ _ (by omega), if_pos (by omega)] at z0
                    obtain ⟨gq, c4, ev, _, _⟩ := hrow.form (by omega)
                    simp only [Value.slice.injEq] at ev
                    obtain ⟨rfl, _, rfl⟩ := ev
                    have y2 := (hrow.cellAt j (by omega)).trans (vs_get cs j hjc)
                    have hcb := colK_le X 20 hMx.out (j + 1)
                    have hc10 : colK X (j + 1) = colK X j + (X.getD j 0 + 2) := rfl
                    generalize colK X (j + 1) = k1 at *
                    generalize colK X j = k0 at *
                    generalize nthB cs j = cell at *
                    have hsub : (k1 : Int) - (k0 : Int) - (cell.size : Int) = (g : Int) := by omega
                    have hkb : k1 ≤ 40000000 := by omega
                    have hk01 : k0 ≤ k1 := by omega
                    have hg2 : decide ((g : Int) < 2) = false := decide_eq_false (by omega)
                    have hg3 : g ≤ 22 := by omega
                    have djc : decide ((j : Int) < (cs.length : Int)) = true := decide_eq_true (by omega)
                    have hbs := hB.size
                    clear hc10 hx hg
                    replace hB := Lib.hid hB; replace hrr := Lib.hid hrr; replace hrow := Lib.hid hrow; replace hbb := Lib.hid hbb; replace hst := Lib.hid hst; replace hVq := Lib.hid hVq; replace hYl := Lib.hid hYl; replace hY0 := Lib.hid hY0; replace hYc := Lib.hid hYc; replace hgq := Lib.hid hgq
                    go_upto_region 40 with fail
                    go_cut [18] (fun c wx => c = .int .i64 (g : Int) ∧ ∃ nq, wx = wi.drewN nq)
                    case first =>
                      go_quiet (fail)
                      go_wp2_with fail
                      go_meet
                      case rel => exact ⟨rfl, _, rfl⟩
                    case rest =>
                      obtain ⟨rfl, nq, hw⟩ := hcut
                      obtain rfl := hw.symm
                      have hbd := below_drewN (Below.refl wi.heap.size wi) nq
                      replace hB := hB.out.later hbd
                      clear x1 z1 z0 y2 hrr hrow hbb hbd hsub
                      generalize wi.drewN nq = w7 at *
                      have hvc := hB.c
                      rw [hYl.out] at hvc
                      obtain ⟨gw, c5, ev, _, _⟩ := hvc.form (by omega)
                      simp only [Value.slice.injEq] at ev
                      obtain ⟨rfl, _, rfl⟩ := ev
                      have z0 := (hvc.cellAt (j + 1) (by omega)).trans (vi_get Y (j + 1) (by rw [hYl.out]; exact hjv))
                      rw [hYc.out] at z0
                      have fz := hvc.frozenAt (j + 1)
                      replace hst := hst.out
                      generalize cloK X C j i = e at *
                      by_cases he : e = 0 ∨ g < e
                      · rw [if_pos he] at hst
                        by_cases he0 : e = 0
                        · subst he0
                          clear he
                          obtain ⟨s1, s2⟩ := hvc.stored (j + 1) (.int .i64 (g : Int))
                          have hB6 := hB.clo (cl' := Y.set (j + 1) g) ⟨s2, .inl rfl⟩ (by rw [List.length_set, hYl.out, vi_set]; exact s1)
                          have hY6 : (Y.set (j + 1) g).length = vm := by rw [List.length_set, hYl.out]
                          have hY7 : ∀ t, j + 1 < t → (Y.set (j + 1) g).getD t 0 = 0 := fun t ht => by rw [List.getD_eq_getElem?_getD, List.getElem?_set_ne (by omega), ← List.getD_eq_getElem?_getD]; exact hY0.out t ht
                          have hY8 : (Y.set (j + 1) g).getD (j + 1) 0 = cloK X C j (i + 1) := by rw [hst, List.getD_eq_getElem?_getD, List.getElem?_set_self (by rw [hYl.out]; exact hjv)]; rfl
                          clear s1 s2 hst
                          replace hB := Lib.hid hB; replace hvc := Lib.hid hvc; replace hB6 := Lib.hid hB6; replace hY6 := Lib.hid hY6; replace hY7 := Lib.hid hY7; replace hY8 := Lib.hid hY8
                          go_wp2_with fail
                          go_roundw
                          case rel => exact ⟨i + 1, _, by omega, by go_num, hY6.out, hY7.out, hY8.out, hB6.out⟩
                          case measure => simp [intOf]; omega
                        · have f1 : ((e : Int) == 0) = false := by simp; omega
                          have f2 : decide ((g : Int) < (e : Int)) = true := decide_eq_true (by omega)
                          have f3 : g < e := by omega
                          clear he
                          obtain ⟨s1, s2⟩ := hvc.stored (j + 1) (.int .i64 (g : Int))
                          have hB6 := hB.clo (cl' := Y.set (j + 1) g) ⟨s2, .inl rfl⟩ (by rw [List.length_set, hYl.out, vi_set]; exact s1)
                          have hY6 : (Y.set (j + 1) g).length = vm := by rw [List.length_set, hYl.out]
                          have hY7 : ∀ t, j + 1 < t → (Y.set (j + 1) g).getD t 0 = 0 := fun t ht => by rw [List.getD_eq_getElem?_getD, List.getElem?_set_ne (by omega), ← List.getD_eq_getElem?_getD]; exact hY0.out t ht
                          have hY8 : (Y.set (j + 1) g).getD (j + 1) 0 = cloK X C j (i + 1) := by rw [hst, List.getD_eq_getElem?_getD, List.getElem?_set_self (by rw [hYl.out]; exact hjv)]; rfl
                          clear s1 s2 hst
                          replace hB := Lib.hid hB; replace hvc := Lib.hid hvc; replace hB6 := Lib.hid hB6; replace hY6 := Lib.hid hY6; replace hY7 := Lib.hid hY7; replace hY8 := Lib.hid hY8
                          go_wp2_with fail
                          go_roundw
                          case rel => exact ⟨i + 1, _, by omega, by go_num, hY6.out, hY7.out, hY8.out, hB6.out⟩
                          case measure => simp [intOf]; omega
                      · rw [if_neg he] at hst
                        have f1 : ((e : Int) == 0) = false := by simp; omega
                        have f2 : decide ((g : Int) < (e : Int)) = false := decide_eq_false (by omega)
                        have f3 : ¬ g < e := by omega
                        have f4 : ¬ e = 0 := by omega
                        clear he
                        have hY8 := hYc.out.trans hst.symm
                        replace hB := Lib.hid hB; replace hvc := Lib.hid hvc; replace hY8 := Lib.hid hY8
                        go_wp2_with fail
                        go_roundw
                        case rel => exact ⟨i + 1, Y, by omega, by go_num, hYl.out, hY0.out, hY8.out, hB.out⟩
                        case measure => simp [intOf]; omega
                  · rw [if_neg hjc] at hst
                    have djc : decide ((j : Int) < (cs.length : Int)) = false := decide_eq_false (by omega)
                    have hY8 := hYc.trans hst.symm
                    replace hB := Lib.hid hB; replace hY8 := Lib.hid hY8; replace hrr := Lib.hid hrr; replace hrow := Lib.hid hrow; replace hst := Lib.hid hst; replace hYc := Lib.hid hYc; replace hY0 := Lib.hid hY0; replace hYl := Lib.hid hYl
                    go_wp2_with fail
                    go_roundw
                    case rel => exact ⟨i + 1, Y, by omega, by go_num, hYl.out, hY0.out, hY8.out, hB.out⟩
                    case measure => simp [intOf]; omega
                · obtain rfl : i = q := by omega
                  rw [hclo.out j (by omega)] at hYc
                  have hvc := hB.c
                  rw [hYl] at hvc
                  obtain ⟨gw, c5, ev, _, _⟩ := hvc.form (by omega)
                  simp only [Value.slice.injEq] at ev
                  obtain ⟨rfl, _, rfl⟩ := ev
                  have z0 := (hvc.cellAt (j + 1) (by omega)).trans (vi_get Y (j + 1) (by rw [hYl]; exact hjv))
                  rw [hYc] at z0
                  replace hB := Lib.hid hB; replace hvc := Lib.hid hvc; replace hYc := Lib.hid hYc; replace hY0 := Lib.hid hY0; replace hYl := Lib.hid hYl
                  go_wp2_with fail
                  go_roundw
                  case rel => exact ⟨j + 1, Y, .inl (by omega), by go_num, hYl.out, fun t ht => hY0.out t (by omega), hB.out⟩
                  case measure => simp [intOf]; omega
            · have dj : decide ((j : Int) + 1 < (vm : Int)) = false := decide_eq_false (by omega)
              replace hj1 := Lib.hid hj1
              go_wp2_with fail
              go_ret
              exact ⟨rfl, hB.hb⟩
end Go.Proofs.YtefbogmgcihndaaDoor
