/- The contracts of mac's New, of a Mac's Tag and of Tag, for keys of at most a block. -/
import Derived.Test.YtemanjahkohcpaaDoorAMac
namespace Go.Proofs.YtemanjahkohcpaaDoor
open Go.RowKit WP
theorem Begun.below {base : Nat} {KL : List UInt32} {key : List UInt8} {p : Int} {w w' : World} {g : Nat} {v : Value} (h : Begun base KL key p w g v) (hb : Below w.heap.size w w') : Begun base KL key p w' g v :=
  ⟨h.dig.below hb, h.rd.mono hb, h.base, h.far⟩
theorem Begun.grown {base : Nat} {KL : List UInt32} {key : List UInt8} {p : Int} {w w' : World} {g : Nat} {v : Value} {r : Option Nat} (h : Begun base KL key p w g v) (hg : w.grownBy w' r) (h1 : some g ≠ r) (h2 : v.ownBlock ≠ r) : Begun base KL key p w' g v :=
  ⟨h.dig.grown hg h1, h.rd.grown hg (.inr h2), h.base, h.far⟩
/-- a Mac: two digests of a key -/
structure MacAt (base : Nat) (KL : List UInt32) (key : List UInt8) (w : World) (m g1 g2 : Nat) (v1 v2 : Value) : Prop where
  c0 : w.cell? ⟨m, 0, none⟩ = some (.pointer (some ⟨g1, 0, none⟩))
  c1 : w.cell? ⟨m, 1, none⟩ = some (.pointer (some ⟨g2, 0, none⟩))
  b1 : Begun base KL key 54 w g1 v1
  b2 : Begun base KL key 92 w g2 v2
  ne : g1 < g2
  m1 : g2 < m
  lt : m < w.heap.size
set_option maxRecDepth 100000 in
set_option maxHeartbeats 2000000 in
theorem mnew_any (KL : List UInt32) (va : Value) (k : List UInt32) (w : World) (hK : Rounds w KL) (ha : Rd w va (vw k)) (hk : k.length ≤ 16) :
    Calls Tryd.prog 30 #[va] w fun e w' => ∃ m g1 g2 v1 v2, e = .returned (.pointer (some ⟨m, 0, none⟩)) ∧ MacAt w.heap.size KL (bytesL k) w' m g1 g2 v1 v2 ∧ Below w.heap.size w w' := by
  have lb := length_bytesL k
  replace ha := Lib.hid ha; replace hK := Lib.hid hK; replace lb := Lib.hid lb
  go_enter Tryd.func30, Tryd.ntmps30
  go_wp2_with fail
  refine (short_any _ k _ ha.out hk).mono ?_
  rintro e w1 ⟨vs, rfl, o1, b1⟩
  have hr1 := Rd.of_own o1
  have hK1 := hK.out.below b1
  clear o1
  replace hr1 := Lib.hid hr1; replace hK1 := Lib.hid hK1; replace b1 := Lib.hid b1
  go_wp2_with fail
  refine (begun_any KL _ (bytesL k) 54 _ hK1.out hr1.out (by rw [lb.out]; omega) (by omega) (by omega)).mono ?_
  rintro e w2 ⟨g1, v1, rfl, B1, b2⟩
  have hr2 := hr1.out.mono b2
  have hK2 := hK1.out.below b2
  have hb2 := b1.out.trans (b2.mono b1.out.size)
  have g1b := B1.base
  have g1l := B1.dig.lt
  replace B1 := Lib.hid B1; replace hr2 := Lib.hid hr2; replace hK2 := Lib.hid hK2; replace hb2 := Lib.hid hb2
  have hs1 := b1.out.size
  clear hr1 hK1 b1 b2
  go_wp2_with fail
  refine (begun_any KL _ (bytesL k) 92 _ hK2.out hr2.out (by rw [lb.out]; omega) (by omega) (by omega)).mono ?_
  rintro e w3 ⟨g2, v2, rfl, B2, b3⟩
  have B1' := B1.out.below b3
  have g2b := B2.base
  have g2l := B2.dig.lt
  have hb3 := hb2.out.trans (b3.mono hb2.out.size)
  have hs3 := b3.size
  have hs2 := hb2.out.size
  replace B1' := Lib.hid B1'; replace B2 := Lib.hid B2; replace hb3 := Lib.hid hb3
  clear B1 hr2 hK2 hb2 b3
  go_wp2_with fail
  go_ret
  refine ⟨w3.heap.size, g1, g2, v1, v2, rfl, ⟨?_, ?_, ?_, ?_, by omega, g2l, by simp⟩, hb3.out.alloc hb3.out.size _⟩
  · simp [go_sem]
  · simp [go_sem]
  · have := B1'.out.below ((Below.refl w3.heap.size w3).alloc (Nat.le_refl _) (.cells #[.pointer (some ⟨g1, 0, none⟩), .pointer (some ⟨g2, 0, none⟩)] 72))
    exact ⟨this.dig, this.rd, by omega, this.far⟩
  · have := B2.out.below ((Below.refl w3.heap.size w3).alloc (Nat.le_refl _) (.cells #[.pointer (some ⟨g1, 0, none⟩), .pointer (some ⟨g2, 0, none⟩)] 72))
    exact ⟨this.dig, this.rd, by omega, this.far⟩
/-- the tag of a message under a key, both words -/
def innerF (KL : List UInt32) (key : List UInt8) (msg : List UInt32) : List UInt32 :=
  sumF KL (foldB KL (foldB KL firstL (padW key 54)) (remB (padW key 54) ++ msg)) (remB (remB (padW key 54) ++ msg)) (16 + msg.length)
def outerF (KL : List UInt32) (key : List UInt8) (s : List UInt32) : List UInt32 :=
  sumF KL (foldB KL (foldB KL firstL (padW key 92)) (remB (padW key 92) ++ s)) (remB (remB (padW key 92) ++ s)) (16 + s.length)
def tagF (KL : List UInt32) (key : List UInt8) (msg : List UInt32) : List UInt32 := outerF KL key (innerF KL key msg)
theorem below_new {w w3 : World} {cs : Array Value} {t : TypeId} (g : (w.alloc (.cells cs t)).grownBy w3 (some w.heap.size)) : Below w.heap.size w w3 :=
  ((Below.refl w.heap.size w).alloc (Nat.le_refl _) _).grown g (by simp) (by simp)
theorem firstL_len : firstL.length = 8 := rfl
theorem innerF_len (KL : List UInt32) (key : List UInt8) (msg : List UInt32) : (innerF KL key msg).length = 8 := sumF_len _ _ _ _ (foldB_len _ _ _ (foldB_len _ _ _ firstL_len))
theorem outerF_len (KL : List UInt32) (key : List UInt8) (msg : List UInt32) : (outerF KL key msg).length = 8 := sumF_len _ _ _ _ (foldB_len _ _ _ (foldB_len _ _ _ firstL_len))
theorem tagF_len (KL : List UInt32) (key : List UInt8) (msg : List UInt32) : (tagF KL key msg).length = 8 := outerF_len _ _ _
theorem remB_len (l : List UInt32) : (remB l).length ≤ 15 := by unfold remB; rw [List.length_drop]; omega
set_option maxRecDepth 100000 in
set_option maxHeartbeats 2000000 in
theorem mactag_any (KL : List UInt32) (key : List UInt8) (S1 R1 : List UInt32) (n1 : Int) (m g1 g2 : Nat) (v1 v2 : Value) (w : World) (hK : Rounds w KL) (c0 : w.cell? ⟨m, 0, none⟩ = some (.pointer (some ⟨g1, 0, none⟩)))
    (c1 : w.cell? ⟨m, 1, none⟩ = some (.pointer (some ⟨g2, 0, none⟩))) (hd1 : Dig w g1 S1 n1 v1) (hr1 : Rd w v1 (vw R1)) (hR1 : R1.length ≤ 15) (hn1 : 0 ≤ n1) (hn2 : n1 ≤ 1099511627776) (base : Nat) (B2 : Begun base KL key 92 w g2 v2) :
    Calls Tryd.prog 32 #[.pointer (some ⟨m, 0, none⟩)] w fun e w' => e = .returned (.agg (vw (outerF KL key (sumF KL S1 R1 n1))).toArray) ∧ Below w.heap.size w w' := by
  have aN : Arr (w.alloc (.cells (vw (List.replicate 8 0)).toArray 23)) w.heap.size 23 (List.replicate 8 0) := Arr.new _ _ _
  have hb1 : Below w.heap.size w (w.alloc (.cells (vw (List.replicate 8 0)).toArray 23)) := (Below.refl _ _).alloc (Nat.le_refl _) _
  obtain ⟨w1, hw1⟩ : ∃ w1, w.alloc (.cells (vw (List.replicate 8 0)).toArray 23) = w1 := ⟨_, rfl⟩
  rw [hw1] at aN hb1
  have ml : m < w.heap.size := World.block_lt_of_cell? w _ c0
  have c0' := (hb1.cell (p := ⟨m, 0, none⟩) ml).trans c0
  have c1' := (hb1.cell (p := ⟨m, 1, none⟩) ml).trans c1
  have hd1' := hd1.below hb1
  have hr1' := hr1.mono hb1
  have B2' := B2.below hb1
  have hK' := hK.below hb1
  have h3 := hK.1
  have lS1 := hd1.len
  clear c0 c1 hd1 hr1 B2 hK
  replace aN := Lib.hid aN; replace hb1 := Lib.hid hb1; replace hd1' := Lib.hid hd1'; replace hr1' := Lib.hid hr1'; replace B2' := Lib.hid B2'; replace hK' := Lib.hid hK'
  go_enter Tryd.func32, Tryd.ntmps32
  go_upto_region 1 with fail
  change Code.wp _ _ _ _ (w.alloc (.cells (vw (List.replicate 8 0)).toArray 23))
  rw [hw1]
  clear hw1
  go_wp2_with fail
  refine (dsum_any KL S1 R1 n1 v1 g1 _ hK'.out hd1'.out hr1'.out (by omega) hn1 hn2).mono ?_
  rintro e w2 ⟨rfl, b2⟩
  obtain ⟨s, hs⟩ : ∃ s, sumF KL S1 R1 n1 = s := ⟨_, rfl⟩
  have ls : s.length = 8 := by rw [← hs]; exact sumF_len _ _ _ _ lS1
  have hb2 := hb1.out.trans (b2.mono hb1.out.size)
  have aR2 := aN.out.below b2
  have B22 := B2'.out.below b2
  have hK2 := hK'.out.below b2
  have c12 := (b2.cell (p := ⟨m, 1, none⟩) (Nat.lt_of_lt_of_le ml hb1.out.size)).trans c1'
  have aS0 : Arr (w2.alloc (.cells (vw (List.replicate 8 0)).toArray 23)) w2.heap.size 23 (List.replicate 8 0) := Arr.new _ _ _
  have hs2 := hb2.size
  have hR2 := aR2.lt
  have h32 := hK2.1
  have gl2 := B22.dig.lt
  rw [hs]
  clear aN hb1 hd1' hr1' B2' hK' b2 c0' c1'
  replace hs := Lib.hid hs
  replace hb2 := Lib.hid hb2; replace aR2 := Lib.hid aR2; replace B22 := Lib.hid B22; replace hK2 := Lib.hid hK2; replace aS0 := Lib.hid aS0; replace ls := Lib.hid ls
  go_upto_region 2 with (refine wpList_store_arr rfl 23 _ _ rfl w2.heap.size rfl s rfl aS0.out info23 (by simp) ls.out ?_; intro w3 a3 g3)
  have b23 := below_new g3
  have aR3 := aR2.out.below b23
  have B23 := B22.out.below b23
  have hK3 := hK2.out.below b23
  have hm2 : m < w2.heap.size := by omega
  have c13 := (b23.cell (p := ⟨m, 1, none⟩) hm2).trans c12
  have hb3 := hb2.out.trans (b23.mono hb2.out.size)
  have hs3 := b23.size
  have al3 := a3.lt
  clear g3 b23 aR2 B22 hK2 hb2 c12 aS0
  replace a3 := Lib.hid a3; replace aR3 := Lib.hid aR3; replace B23 := Lib.hid B23; replace hK3 := Lib.hid hK3; replace hb3 := Lib.hid hb3
  go_wp2_with fail
  refine (dcopy_any _ _ 16 v2 g2 _ B23.out.dig B23.out.rd (by have := remB_len (padW key 92); omega)).mono ?_
  rintro e w4 ⟨g4, v4, rfl, hg4, hd4, hr4, hne4, b4⟩
  have a4 := a3.out.below b4
  have aR4 := aR3.out.below b4
  have hK4 := hK3.out.below b4
  have hb4 := hb3.out.trans (b4.mono hb3.out.size)
  have hrs : Rd w4 (.slice (some ⟨w2.heap.size, 0, none⟩) 8 8) (vw s) := by
    have := a4.rd 8 (by rw [ls.out]; exact Nat.le_refl _) (by simp [maxLen])
    rwa [ls.out] at this
  clear a3 aR3 B23 hK3 hb3 b4
  replace a4 := Lib.hid a4; replace aR4 := Lib.hid aR4; replace hK4 := Lib.hid hK4; replace hb4 := Lib.hid hb4; replace hd4 := Lib.hid hd4; replace hr4 := Lib.hid hr4; replace hrs := Lib.hid hrs; replace hne4 := Lib.hid hne4
  go_wp2_with fail
  refine (add_any KL _ (remB (padW key 92)) s 16 v4 _ g4 _ hK4.out (by omega) hd4.out hr4.out hne4.out hrs.out (by simp [Value.ownBlock]; omega) (by omega) (by omega) (by have := remB_len (padW key 92); omega) (by rw [ls.out]; omega)).mono ?_
  rintro e w5 ⟨rfl, v5, hd5, hr5, hf5, g45⟩
  have aR5 := aR4.out.grown g45 (by simp; omega)
  have hK5 := hK4.out.grown g45 (by simp; omega)
  have hb5 := hb4.out.grown g45 hb4.out.size (by intro j hj; simp at hj; omega)
  clear hd4 hr4 hne4 hrs a4 aR4 hK4 hb4 g45
  have lO := Lib.hid (outerF_len KL key s)
  have hO : outerF KL key s = sumF KL (foldB KL (foldB KL firstL (padW key 92)) (remB (padW key 92) ++ s)) (remB (remB (padW key 92) ++ s)) (16 + s.length) := rfl
  replace hO := Lib.hid hO; replace aR5 := Lib.hid aR5; replace hK5 := Lib.hid hK5; replace hb5 := Lib.hid hb5; replace hd5 := Lib.hid hd5; replace hr5 := Lib.hid hr5
  go_wp2_with fail
  refine (dsum_any KL _ _ _ v5 g4 _ hK5.out hd5.out hr5.out (by have := remB_len (remB (padW key 92) ++ s); omega) (by omega) (by rw [ls.out]; omega)).mono ?_
  rintro e w6 ⟨rfl, b6⟩
  rw [← hO.out]
  have aR6 := Lib.hid (aR5.out.below b6)
  have hb6 := Lib.hid (hb5.out.trans (b6.mono hb5.out.size))
  clear b6 aR5 hK5 hb5 hd5 hr5
  go_wp2_with (refine wpList_store_arr rfl 23 _ _ rfl w.heap.size rfl (outerF KL key s) rfl aR6.out info23 (by simp) lO.out ?_; intro w7 a7 g7; have hb7 := hb6.out.grown g7 hb6.out.size (by simp))
  rw [hs.out]
  refine bodyPost_ret (results_arr rfl rfl a7 Tryd.underlying23 info23 lO.out) rfl ⟨rfl, hb7⟩
end Go.Proofs.YtemanjahkohcpaaDoor
