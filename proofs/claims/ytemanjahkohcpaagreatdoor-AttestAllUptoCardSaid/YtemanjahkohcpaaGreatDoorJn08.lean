/- The contracts of mac's New, of a Mac's Tag and of Tag, for keys of at most a block. The contract of mac's Tag, for keys of at most a block. The contracts of attest's Key and Tag. The contract of mac's Same; of attest's Verify. -/
import Derived.Test.YtemanjahkohcpaaGreatDoorJn07
namespace Go.Proofs.YtemanjahkohcpaaGreatDoor
open Go.RowKit WP
theorem Begun.below {base : Nat} {KL : List UInt32} {key : List UInt8} {p : Int} {w w' : World} {g : Nat} {v : Value} (h : Begun base KL key p w g v) (hb : Below w.heap.size w w') : Begun base KL key p w' g v :=
  ⟨h.dig.below hb, h.rd.mono hb, h.base, h.far⟩
theorem Begun.grown {base : Nat} {KL : List UInt32} {key : List UInt8} {p : Int} {w w' : World} {g : Nat} {v : Value} {r : Option Nat} (h : Begun base KL key p w g v) (hg : w.grownBy w' r) (h1 : some g ≠ r) (h2 : v.ownBlock ≠ r) : Begun base KL key p w' g v :=
  ⟨h.dig.grown hg h1, h.rd.grown hg (.inr h2), h.base, h.far⟩
/-- a Mac: two digests of a key -/
structure MacAt (base : Nat) (KL : List UInt32) (key : List UInt8) (w : World) (m g1 g2 : Nat) (v1 v2 : Value) : Prop where
  c0 : w.cell? ⟨m, 0, none⟩ = some (.pointer (some ⟨g1, 0, none⟩))
  c1 : w.cell? ⟨m, 1, none⟩ = some (.pointer (some ⟨g2, 0, none⟩))
  b1 : Begun base KL key 54 w g1 v1
  b2 : Begun base KL key 92 w g2 v2
  ne : g1 < g2
  m1 : g2 < m
  lt : m < w.heap.size
set_option maxRecDepth 100000 in
set_option maxHeartbeats 2000000 in
theorem mnew_any (KL : List UInt32) (va : Value) (k : List UInt32) (w : World) (hK : Rounds w KL) (ha : Rd w va (vw k)) (hk : k.length ≤ 16) :
    Calls Tryz.prog 102 #[va] w fun e w' => ∃ m g1 g2 v1 v2, e = .returned (.pointer (some ⟨m, 0, none⟩)) ∧ MacAt w.heap.size KL (bytesL k) w' m g1 g2 v1 v2 ∧ Below w.heap.size w w' := by
  have lb := length_bytesL k
  replace ha := Lib.hid ha; replace hK := Lib.hid hK; replace lb := Lib.hid lb
  go_enter Tryz.func102, Tryz.ntmps102
  go_wp2_with fail
  refine (short_any _ k _ ha.out hk).mono ?_
  rintro e w1 ⟨vs, rfl, o1, b1⟩
  have hr1 := Rd.of_own o1
  have hK1 := hK.out.below b1
  clear o1
  replace hr1 := Lib.hid hr1; replace hK1 := Lib.hid hK1; replace b1 := Lib.hid b1
  go_wp2_with fail
  refine (begun_any KL _ (bytesL k) 54 _ hK1.out hr1.out (by rw [lb.out]; omega) (by omega) (by omega)).mono ?_
  rintro e w2 ⟨g1, v1, rfl, B1, b2⟩
  have hr2 := hr1.out.mono b2
  have hK2 := hK1.out.below b2
  have hb2 := b1.out.trans (b2.mono b1.out.size)
  have g1b := B1.base
  have g1l := B1.dig.lt
  replace B1 := Lib.hid B1; replace hr2 := Lib.hid hr2; replace hK2 := Lib.hid hK2; replace hb2 := Lib.hid hb2
  have hs1 := b1.out.size
  clear hr1 hK1 b1 b2
  go_wp2_with fail
  refine (begun_any KL _ (bytesL k) 92 _ hK2.out hr2.out (by rw [lb.out]; omega) (by omega) (by omega)).mono ?_
  rintro e w3 ⟨g2, v2, rfl, B2, b3⟩
  have B1' := B1.out.below b3
  have g2b := B2.base
  have g2l := B2.dig.lt
  have hb3 := hb2.out.trans (b3.mono hb2.out.size)
  have hs3 := b3.size
  have hs2 := hb2.out.size
  replace B1' := Lib.hid B1'; replace B2 := Lib.hid B2; replace hb3 := Lib.hid hb3
  clear B1 hr2 hK2 hb2 b3
  go_wp2_with fail
  go_ret
  refine ⟨w3.heap.size, g1, g2, v1, v2, rfl, ⟨?_, ?_, ?_, ?_, by omega, g2l, by simp⟩, hb3.out.alloc hb3.out.size _⟩
  · simp [go_sem]
  · simp [go_sem]
  · have := B1'.out.below ((Below.refl w3.heap.size w3).alloc (Nat.le_refl _) (.cells #[.pointer (some ⟨g1, 0, none⟩), .pointer (some ⟨g2, 0, none⟩)] 180))
    exact ⟨this.dig, this.rd, by omega, this.far⟩
  · have := B2.out.below ((Below.refl w3.heap.size w3).alloc (Nat.le_refl _) (.cells #[.pointer (some ⟨g1, 0, none⟩), .pointer (some ⟨g2, 0, none⟩)] 180))
    exact ⟨this.dig, this.rd, by omega, this.far⟩
/-- the tag of a message under a key, both words -/
def innerF (KL : List UInt32) (key : List UInt8) (msg : List UInt32) : List UInt32 :=
  sumF KL (foldB KL (foldB KL firstL (padW key 54)) (remB (padW key 54) ++ msg)) (remB (remB (padW key 54) ++ msg)) (16 + msg.length)
def outerF (KL : List UInt32) (key : List UInt8) (s : List UInt32) : List UInt32 :=
  sumF KL (foldB KL (foldB KL firstL (padW key 92)) (remB (padW key 92) ++ s)) (remB (remB (padW key 92) ++ s)) (16 + s.length)
def tagF (KL : List UInt32) (key : List UInt8) (msg : List UInt32) : List UInt32 := outerF KL key (innerF KL key msg)
theorem below_new {w w3 : World} {cs : Array Value} {t : TypeId} (g : (w.alloc (.cells cs t)).grownBy w3 (some w.heap.size)) : Below w.heap.size w w3 :=
  ((Below.refl w.heap.size w).alloc (Nat.le_refl _) _).grown g (by simp) (by simp)
theorem firstL_len : firstL.length = 8 := rfl
theorem innerF_len (KL : List UInt32) (key : List UInt8) (msg : List UInt32) : (innerF KL key msg).length = 8 := sumF_len _ _ _ _ (foldB_len _ _ _ (foldB_len _ _ _ firstL_len))
theorem outerF_len (KL : List UInt32) (key : List UInt8) (msg : List UInt32) : (outerF KL key msg).length = 8 := sumF_len _ _ _ _ (foldB_len _ _ _ (foldB_len _ _ _ firstL_len))
theorem tagF_len (KL : List UInt32) (key : List UInt8) (msg : List UInt32) : (tagF KL key msg).length = 8 := outerF_len _ _ _
theorem remB_len (l : List UInt32) : (remB l).length ≤ 15 := by unfold remB; rw [List.length_drop]; omega
set_option maxRecDepth 100000 in
set_option maxHeartbeats 2000000 in
theorem mactag_any (KL : List UInt32) (key : List UInt8) (S1 R1 : List UInt32) (n1 : Int) (m g1 g2 : Nat) (v1 v2 : Value) (w : World) (hK : Rounds w KL) (c0 : w.cell? ⟨m, 0, none⟩ = some (.pointer (some ⟨g1, 0, none⟩)))
    (c1 : w.cell? ⟨m, 1, none⟩ = some (.pointer (some ⟨g2, 0, none⟩))) (hd1 : Dig w g1 S1 n1 v1) (hr1 : Rd w v1 (vw R1)) (hR1 : R1.length ≤ 15) (hn1 : 0 ≤ n1) (hn2 : n1 ≤ 1099511627776) (base : Nat) (B2 : Begun base KL key 92 w g2 v2) :
    Calls Tryz.prog 104 #[.pointer (some ⟨m, 0, none⟩)] w fun e w' => e = .returned (.agg (vw (outerF KL key (sumF KL S1 R1 n1))).toArray) ∧ Below w.heap.size w w' := by
  have aN : Arr (w.alloc (.cells (vw (List.replicate 8 0)).toArray 26)) w.heap.size 26 (List.replicate 8 0) := Arr.new _ _ _
  have hb1 : Below w.heap.size w (w.alloc (.cells (vw (List.replicate 8 0)).toArray 26)) := (Below.refl _ _).alloc (Nat.le_refl _) _
  obtain ⟨w1, hw1⟩ : ∃ w1, w.alloc (.cells (vw (List.replicate 8 0)).toArray 26) = w1 := ⟨_, rfl⟩
  rw [hw1] at aN hb1
  have ml : m < w.heap.size := World.block_lt_of_cell? w _ c0
  have c0' := (hb1.cell (p := ⟨m, 0, none⟩) ml).trans c0
  have c1' := (hb1.cell (p := ⟨m, 1, none⟩) ml).trans c1
  have hd1' := hd1.below hb1
  have hr1' := hr1.mono hb1
  have B2' := B2.below hb1
  have hK' := hK.below hb1
  have h3 := hK.1
  have lS1 := hd1.len
  clear c0 c1 hd1 hr1 B2 hK
  replace aN := Lib.hid aN; replace hb1 := Lib.hid hb1; replace hd1' := Lib.hid hd1'; replace hr1' := Lib.hid hr1'; replace B2' := Lib.hid B2'; replace hK' := Lib.hid hK'
  go_enter Tryz.func104, Tryz.ntmps104
  go_upto_region 1 with fail
  change Code.wp _ _ _ _ (w.alloc (.cells (vw (List.replicate 8 0)).toArray 26))
  rw [hw1]
  clear hw1
  go_wp2_with fail
  refine (dsum_any KL S1 R1 n1 v1 g1 _ hK'.out hd1'.out hr1'.out (by omega) hn1 hn2).mono ?_
  rintro e w2 ⟨rfl, b2⟩
  obtain ⟨s, hs⟩ : ∃ s, sumF KL S1 R1 n1 = s := ⟨_, rfl⟩
  have ls : s.length = 8 := by rw [← hs]; exact sumF_len _ _ _ _ lS1
  have hb2 := hb1.out.trans (b2.mono hb1.out.size)
  have aR2 := aN.out.below b2
  have B22 := B2'.out.below b2
  have hK2 := hK'.out.below b2
  have c12 := (b2.cell (p := ⟨m, 1, none⟩) (Nat.lt_of_lt_of_le ml hb1.out.size)).trans c1'
  have aS0 : Arr (w2.alloc (.cells (vw (List.replicate 8 0)).toArray 26)) w2.heap.size 26 (List.replicate 8 0) := Arr.new _ _ _
  have hs2 := hb2.size
  have hR2 := aR2.lt
  have h32 := hK2.1
  have gl2 := B22.dig.lt
  rw [hs]
  clear aN hb1 hd1' hr1' B2' hK' b2 c0' c1'
  replace hs := Lib.hid hs
  replace hb2 := Lib.hid hb2; replace aR2 := Lib.hid aR2; replace B22 := Lib.hid B22; replace hK2 := Lib.hid hK2; replace aS0 := Lib.hid aS0; replace ls := Lib.hid ls
  go_upto_region 2 with (refine wpList_store_arr rfl 26 _ _ rfl w2.heap.size rfl s rfl aS0.out info23 (by simp) ls.out ?_; intro w3 a3 g3)
  have b23 := below_new g3
  have aR3 := aR2.out.below b23
  have B23 := B22.out.below b23
  have hK3 := hK2.out.below b23
  have hm2 : m < w2.heap.size := by omega
  have c13 := (b23.cell (p := ⟨m, 1, none⟩) hm2).trans c12
  have hb3 := hb2.out.trans (b23.mono hb2.out.size)
  have hs3 := b23.size
  have al3 := a3.lt
  clear g3 b23 aR2 B22 hK2 hb2 c12 aS0
  replace a3 := Lib.hid a3; replace aR3 := Lib.hid aR3; replace B23 := Lib.hid B23; replace hK3 := Lib.hid hK3; replace hb3 := Lib.hid hb3
  go_wp2_with fail
  refine (dcopy_any _ _ 16 v2 g2 _ B23.out.dig B23.out.rd (by have := remB_len (padW key 92); omega)).mono ?_
  rintro e w4 ⟨g4, v4, rfl, hg4, hd4, hr4, hne4, b4⟩
  have a4 := a3.out.below b4
  have aR4 := aR3.out.below b4
  have hK4 := hK3.out.below b4
  have hb4 := hb3.out.trans (b4.mono hb3.out.size)
  have hrs : Rd w4 (.slice (some ⟨w2.heap.size, 0, none⟩) 8 8) (vw s) := by
    have := a4.rd 8 (by rw [ls.out]; exact Nat.le_refl _) (by simp [maxLen])
    rwa [ls.out] at this
  clear a3 aR3 B23 hK3 hb3 b4
  replace a4 := Lib.hid a4; replace aR4 := Lib.hid aR4; replace hK4 := Lib.hid hK4; replace hb4 := Lib.hid hb4; replace hd4 := Lib.hid hd4; replace hr4 := Lib.hid hr4; replace hrs := Lib.hid hrs; replace hne4 := Lib.hid hne4
  go_wp2_with fail
  refine (add_any KL _ (remB (padW key 92)) s 16 v4 _ g4 _ hK4.out (by omega) hd4.out hr4.out hne4.out hrs.out (by simp [Value.ownBlock]; omega) (by omega) (by omega) (by have := remB_len (padW key 92); omega) (by rw [ls.out]; omega)).mono ?_
  rintro e w5 ⟨rfl, v5, hd5, hr5, hf5, g45⟩
  have aR5 := aR4.out.grown g45 (by simp; omega)
  have hK5 := hK4.out.grown g45 (by simp; omega)
  have hb5 := hb4.out.grown g45 hb4.out.size (by intro j hj; simp at hj; omega)
  clear hd4 hr4 hne4 hrs a4 aR4 hK4 hb4 g45
  have lO := Lib.hid (outerF_len KL key s)
  have hO : outerF KL key s = sumF KL (foldB KL (foldB KL firstL (padW key 92)) (remB (padW key 92) ++ s)) (remB (remB (padW key 92) ++ s)) (16 + s.length) := rfl
  replace hO := Lib.hid hO; replace aR5 := Lib.hid aR5; replace hK5 := Lib.hid hK5; replace hb5 := Lib.hid hb5; replace hd5 := Lib.hid hd5; replace hr5 := Lib.hid hr5
  go_wp2_with fail
  refine (dsum_any KL _ _ _ v5 g4 _ hK5.out hd5.out hr5.out (by have := remB_len (remB (padW key 92) ++ s); omega) (by omega) (by rw [ls.out]; omega)).mono ?_
  rintro e w6 ⟨rfl, b6⟩
  rw [← hO.out]
  have aR6 := Lib.hid (aR5.out.below b6)
  have hb6 := Lib.hid (hb5.out.trans (b6.mono hb5.out.size))
  clear b6 aR5 hK5 hb5 hd5 hr5
  go_wp2_with (refine wpList_store_arr rfl 26 _ _ rfl w.heap.size rfl (outerF KL key s) rfl aR6.out info23 (by simp) lO.out ?_; intro w7 a7 g7; have hb7 := hb6.out.grown g7 hb6.out.size (by simp))
  rw [hs.out]
  refine bodyPost_ret (results_arr rfl rfl a7 Tryz.underlying26 info23 lO.out) rfl ⟨rfl, hb7⟩
end Go.Proofs.YtemanjahkohcpaaGreatDoor

namespace Go.Proofs.YtemanjahkohcpaaGreatDoor
open Go.RowKit WP
set_option maxRecDepth 100000 in
set_option maxHeartbeats 2000000 in
theorem mtag_any (KL : List UInt32) (va vm : Value) (k msg : List UInt32) (w : World) (hK : Rounds w KL) (ha : Rd w va (vw k)) (hm : Rd w vm (vw msg)) (hmb : ∀ j, vm.ownBlock = some j → j < w.heap.size) (hk : k.length ≤ 16) (hl : msg.length ≤ 4294967296) :
    Calls Tryz.prog 91 #[va, vm] w fun e w' => e = .returned (.agg (vw (tagF KL (bytesL k) msg)).toArray) ∧ Below w.heap.size w w' := by
  obtain ⟨oa, ca, rfl, a1, a2, _⟩ := ha.words
  obtain ⟨om, cm, rfl, m1, m2, _⟩ := hm.words
  have aN : Arr (w.alloc (.cells (vw (List.replicate 8 0)).toArray 26)) w.heap.size 26 (List.replicate 8 0) := Arr.new _ _ _
  have hb1 : Below w.heap.size w (w.alloc (.cells (vw (List.replicate 8 0)).toArray 26)) := (Below.refl _ _).alloc (Nat.le_refl _) _
  obtain ⟨w1, hw1⟩ : ∃ w1, w.alloc (.cells (vw (List.replicate 8 0)).toArray 26) = w1 := ⟨_, rfl⟩
  rw [hw1] at aN hb1
  have hK1 := hK.below hb1
  have ha1 := ha.mono hb1
  have hm1 := hm.mono hb1
  have h3 := hK.1
  have hs1 : w.heap.size < w1.heap.size := aN.lt
  clear hK ha hm
  replace aN := Lib.hid aN; replace hb1 := Lib.hid hb1; replace hK1 := Lib.hid hK1; replace ha1 := Lib.hid ha1; replace hm1 := Lib.hid hm1; replace hmb := Lib.hid hmb
  go_enter Tryz.func91, Tryz.ntmps91
  go_upto_region 1 with fail
  change Code.wp _ _ _ _ (w.alloc (.cells (vw (List.replicate 8 0)).toArray 26))
  rw [hw1]
  clear hw1
  go_wp2_with fail
  refine (mnew_any KL _ k _ hK1.out ha1.out hk).mono ?_
  rintro e w2 ⟨m, g1, g2, v1, v2, rfl, hM, b2⟩
  have c02 := hM.c0
  have aR2 := aN.out.below b2
  have hm2 := hm1.out.mono b2
  have hK2 := hK1.out.below b2
  have hb2 := hb1.out.trans (b2.mono hb1.out.size)
  have e1 := hM.b1.base
  have e2 := hM.b2.base
  have e3 := hM.ne
  have e4 := hM.m1
  have e5 := hM.lt
  clear b2 aN hm1 hK1 hb1 ha1
  replace hM := Lib.hid hM; replace aR2 := Lib.hid aR2; replace hm2 := Lib.hid hm2; replace hK2 := Lib.hid hK2; replace hb2 := Lib.hid hb2
  go_wp2_with fail
  refine (add_any KL _ (remB (padW (bytesL k) 54)) msg 16 v1 _ g1 _ hK2.out (by omega) hM.out.b1.dig hM.out.b1.rd (fun e => Nat.lt_irrefl _ (hM.out.b1.far _ e)) hm2.out (fun e => by have := hmb.out _ e; omega) (by omega) (by omega) (by have := remB_len (padW (bytesL k) 54); omega) hl).mono ?_
  rintro e w3 ⟨rfl, v3, hd3, hr3, hf3, g13⟩
  have B23 := hM.out.b2.grown g13 (by simp; omega) (fun e => by have := hM.out.b2.far _ e; omega)
  have c03 := g13.cell hM.out.c0 (by simp; omega)
  have c13 := g13.cell hM.out.c1 (by simp; omega)
  have aR3 := aR2.out.grown g13 (by simp; omega)
  have hK3 := hK2.out.grown g13 (by simp; omega)
  have hb3 := hb2.out.grown g13 hb2.out.size (by intro j hj; simp at hj; omega)
  clear g13 hM aR2 hm2 hK2 hb2 c02 hf3
  replace B23 := Lib.hid B23; replace aR3 := Lib.hid aR3; replace hK3 := Lib.hid hK3; replace hb3 := Lib.hid hb3; replace hd3 := Lib.hid hd3; replace hr3 := Lib.hid hr3
  have hT : outerF KL (bytesL k) (sumF KL (foldB KL (foldB KL firstL (padW (bytesL k) 54)) (remB (padW (bytesL k) 54) ++ msg)) (remB (remB (padW (bytesL k) 54) ++ msg)) (16 + msg.length)) = tagF KL (bytesL k) msg := rfl
  have lO := Lib.hid (tagF_len KL (bytesL k) msg)
  replace hT := Lib.hid hT
  go_wp2_with fail
  refine (mactag_any KL (bytesL k) _ _ _ m g1 g2 v3 v2 _ hK3.out c03 c13 hd3.out hr3.out (remB_len _) (by omega) (by omega) _ B23.out).mono ?_
  rintro e w4 ⟨rfl, b4⟩
  rw [hT.out]
  have aR4 := Lib.hid (aR3.out.below b4)
  have hb4 := Lib.hid (hb3.out.trans (b4.mono hb3.out.size))
  clear b4 aR3 hK3 hb3 hd3 hr3 B23
  go_wp2_with (refine wpList_store_arr rfl 26 _ _ rfl w.heap.size rfl (tagF KL (bytesL k) msg) rfl aR4.out info23 (by simp) lO.out ?_; intro w7 a7 g7; have hb7 := hb4.out.grown g7 hb4.out.size (by simp))
  refine bodyPost_ret (results_arr rfl rfl a7 Tryz.underlying26 info23 lO.out) rfl ⟨rfl, hb7⟩
end Go.Proofs.YtemanjahkohcpaaGreatDoor

namespace Go.Proofs.YtemanjahkohcpaaGreatDoor
open Go.RowKit WP
theorem results_rng {P : Program} {fn : Func} {t : Tmp} {ty e : TypeId} {n : Nat} (h : fn.results = #[.cell t ty]) {tmps : Array Value} {w : World} {g : Nat} {l : List UInt32} (hp : tmps.getD t undef = .pointer (some ⟨g, 0, none⟩))
    (hc : w.rangeAt g 0 (vw l)) (hu : P.underlying ty = some (.array n e)) (hi : (P.info? ty).map (·.size) = some n) (hl : l.length = n) : (results fn tmps).run P w = .ok (.agg (vw l).toArray) w := by
  have hv := run_loadVar_mid (P := P) w g 0 ty (vw l) _ hc hu rfl (by rw [hi]; simp [hl])
  have hp' : tmps[t]?.getD undef = .pointer (some ⟨g, 0, none⟩) := by simpa [Array.getD_eq_getD_getElem?] using hp
  simp [results, h, hp', hv, asAddr]
def keyMsg : List UInt32 := [2002874980, 1701716075, 1702436913]
/-- the boot key of a seed -/
def keyF (KL seed : List UInt32) : List UInt32 := tagF KL (bytesL seed) keyMsg
theorem keyF_len (KL seed : List UInt32) : (keyF KL seed).length = 8 := tagF_len _ _ _
theorem keyMsg_vals : vw keyMsg = [.int .u32 2002874980, .int .u32 1701716075, .int .u32 1702436913] := by rfl
/-- the tag of a measurement and data -/
def attF (KL key me da : List UInt32) : List UInt32 := tagF KL (bytesL key) (me ++ da)
theorem attF_len (KL key me da : List UInt32) : (attF KL key me da).length = 8 := tagF_len _ _ _
set_option maxRecDepth 100000 in
set_option maxHeartbeats 2000000 in
theorem atag_any (KL key me da : List UInt32) (w : World) (hK : Rounds w KL) (hk : key.length = 8) (hm : me.length = 8) (hd : da.length = 8) :
    Calls Tryz.prog 79 #[.agg (vw key).toArray, .agg (vw me).toArray, .agg (vw da).toArray] w fun e w' => e = .returned (.agg (vw (attF KL key me da)).toArray) ∧ Below w.heap.size w w' := by
  obtain ⟨i0, hi, hz0, hz1, hz2⟩ := info_parts info22
  have h3 := hK.1
  have lO := Lib.hid (attF_len KL key me da)
  have lm := Lib.hid (length_vw me)
  have ld := Lib.hid (length_vw da)
  replace hK := Lib.hid hK
  go_enter Tryz.func79, Tryz.ntmps79
  go_upto_region 1 with fail
  change Code.wp _ _ _ _ ((((w.alloc (.cells (vw key).toArray 26)).alloc (.cells (vw me).toArray 26)).alloc (.cells (vw da).toArray 26)).alloc (.cells (vw (List.replicate 8 0)).toArray 26))
  obtain ⟨w1, hw1⟩ : ∃ w1, (((w.alloc (.cells (vw key).toArray 26)).alloc (.cells (vw me).toArray 26)).alloc (.cells (vw da).toArray 26)).alloc (.cells (vw (List.replicate 8 0)).toArray 26) = w1 := ⟨_, rfl⟩
  have aK : Arr w1 w.heap.size 26 key := by rw [← hw1]; exact (((Arr.new w _ key).alloc _).alloc _).alloc _
  have aM : Arr w1 (w.heap.size + 1) 26 me := by
    rw [← hw1]
    have := ((Arr.new (w.alloc (.cells (vw key).toArray 26)) 26 me).alloc (.cells (vw da).toArray 26)).alloc (.cells (vw (List.replicate 8 0)).toArray 26)
    simpa using this
  have aD : Arr w1 (w.heap.size + 1 + 1) 26 da := by
    rw [← hw1]
    have := (Arr.new ((w.alloc (.cells (vw key).toArray 26)).alloc (.cells (vw me).toArray 26)) 26 da).alloc (.cells (vw (List.replicate 8 0)).toArray 26)
    simpa using this
  have aR : Arr w1 (w.heap.size + 1 + 1 + 1) 26 (List.replicate 8 0) := by
    rw [← hw1]
    have := Arr.new (((w.alloc (.cells (vw key).toArray 26)).alloc (.cells (vw me).toArray 26)).alloc (.cells (vw da).toArray 26)) 26 (List.replicate 8 0)
    simpa using this
  have hb1 : Below w.heap.size w w1 := by rw [← hw1]; exact ((((Below.refl _ _).alloc (Nat.le_refl _) _).alloc (by simp) _).alloc (by simp; omega) _).alloc (by simp; omega) _
  have hz : w1.heap.size = w.heap.size + 1 + 1 + 1 + 1 := by rw [← hw1]; simp
  have rK : Rd w1.drew (.slice (some ⟨w.heap.size, 0, none⟩) 8 8) (vw key) := by
    have := aK.drew.rd 8 (by omega) (by simp [maxLen])
    rwa [hk] at this
  have rM : Rd w1.drew (.slice (some ⟨w.heap.size + 1, 0, none⟩) 8 8) (vw me) := by
    have := aM.drew.rd 8 (by omega) (by simp [maxLen])
    rwa [hm] at this
  have rD : Rd w1.drew (.slice (some ⟨w.heap.size + 1 + 1, 0, none⟩) 8 8) (vw da) := by
    have := aD.drew.rd 8 (by omega) (by simp [maxLen])
    rwa [hd] at this
  have hK1 : Rounds w1.drew KL := hK.out.below hb1.drew
  have hT : tagF KL (bytesL key) (me ++ da) = attF KL key me da := rfl
  rw [hw1]
  clear hw1 hK aK aM aD
  replace hb1 := Lib.hid hb1; replace aR := Lib.hid aR; replace rK := Lib.hid rK; replace rM := Lib.hid rM; replace rD := Lib.hid rD; replace hK1 := Lib.hid hK1; replace hT := Lib.hid hT; replace hz := Lib.hid hz
  go_region_held3 (fun _ => True) (first | trivial)
    (first
    | (refine step_append_fresh _ (by rfl) _ _ _ (by rfl) 25 i0 (.int .u32 0) 4 Tryz.underlying111 hi hz0 hz1 hz2 rfl _ 8 (vw me) (by rfl) rM.out _ (vw da) (by rfl) rD.out (vw_oneCell da) (by rw [ld.out]; omega) (by rw [ld.out]; simp only [maxLen]; omega) (by rw [ld.out]; omega) ?_; intro lv w3 ho3 b3; rw [← vw_append] at ho3)
    | (go_at_call 91; refine (mtag_any KL _ _ key (me ++ da) _ (hK1.out.below b3) (rK.out.mono b3) (Rd.of_own ho3) (fun j hj => (ho3.lt j hj).2) (by omega) (by rw [List.length_append]; omega)).mono ?_; rintro e w4 ⟨rfl, b4⟩; rw [hT.out]; have aR4 := (aR.out.drew.below b3).below b4; have hb4 := (hb1.out.drew.trans (b3.mono hb1.out.size)).trans (b4.mono (Nat.le_trans hb1.out.size b3.size)); have hsc := storeCells_arr (P := Tryz.prog) (attF KL key me da) (w := w4) (b := w.heap.size + 1 + 1 + 1) (n := 8) (fun j hj => ⟨by rw [Nat.zero_add, aR4.cell j (by simpa using hj)]; rfl, by rw [Nat.zero_add]; exact aR4.frozen j⟩) lO.out; clear b3 ho3 b4))
  all_goals
    have hrg := World.rangeAt_setCells_same w4 (w.heap.size + 1 + 1 + 1) 0 (vw (attF KL key me da)) (fun j hj => ⟨by rw [Nat.zero_add, aR4.cell j (by simp only [length_vw, lO.out] at hj; simpa using hj)]; rfl, by rw [Nat.zero_add]; exact aR4.frozen j⟩)
    have hb5 := hb4.grown (grownBy_setCells w4 (w.heap.size + 1 + 1 + 1) 0 (vw (attF KL key me da))) hb4.size (by simp; omega)
    replace hrg := Lib.hid hrg; replace hb5 := Lib.hid hb5
    go_wp2_with fail
    refine bodyPost_ret (results_rng rfl rfl hrg.out Tryz.underlying26 info23 lO.out) rfl ⟨rfl, hb5.out⟩
end Go.Proofs.YtemanjahkohcpaaGreatDoor

namespace Go.Proofs.YtemanjahkohcpaaGreatDoor
open Go.RowKit WP
theorem nat_xor_zero (x y : Nat) : x ^^^ y = 0 ↔ x = y := by
  constructor
  · intro h
    apply Nat.eq_of_testBit_eq; intro i
    have := congrArg (fun n => n.testBit i) h
    simp only [Nat.testBit_xor, Nat.zero_testBit] at this
    revert this; cases x.testBit i <;> cases y.testBit i <;> simp
  · rintro rfl; simp
theorem xor_zero (A x y : Int) (a1 : 0 ≤ A) (a2 : A ≤ 4294967295) (x1 : 0 ≤ x) (x2 : x ≤ 4294967295) (y1 : 0 ≤ y) (y2 : y ≤ 4294967295) :
    ∃ C : Int, bits .or .u32 A (bits .xor .u32 x y) = C ∧ 0 ≤ C ∧ C ≤ 4294967295 ∧ (C = 0 ↔ A = 0 ∧ x = y) := by
  refine ⟨_, rfl, ?_⟩
  have l1 : A.toNat < 2 ^ 32 := by omega
  have l2 : x.toNat < 2 ^ 32 := by omega
  have l3 : y.toNat < 2 ^ 32 := by omega
  have l4 := Nat.xor_lt_two_pow l2 l3
  have l5 := Nat.or_lt_two_pow l1 l4
  rw [u32_xor x y x1 (by omega) y1 (by omega), u32_or A _ a1 (by omega) (Int.natCast_nonneg _) (by omega), Int.toNat_natCast]
  refine ⟨Int.natCast_nonneg _, by omega, ?_⟩
  have e1 : ((((A.toNat ||| x.toNat ^^^ y.toNat : Nat)) : Int) = 0) ↔ (A.toNat ||| x.toNat ^^^ y.toNat) = 0 := by omega
  rw [e1, Nat.or_eq_zero_iff, nat_xor_zero]
  omega
theorem wAt_inj (a b : List UInt32) (k : Nat) (ha : k < a.length) (hb : k < b.length) : wAt a k = wAt b k ↔ a[k] = b[k] := by
  simp only [wAt, List.getD_eq_getElem?_getD, List.getElem?_eq_getElem ha, List.getElem?_eq_getElem hb, Option.getD_some]
  rw [← UInt32.toNat_inj]; omega
theorem take_succ_eq {α : Type} (a b : List α) (k : Nat) (ha : k < a.length) (hb : k < b.length) : (a.take (k + 1) = b.take (k + 1)) ↔ (a.take k = b.take k ∧ a[k] = b[k]) := by
  rw [List.take_succ_eq_append_getElem ha, List.take_succ_eq_append_getElem hb]
  constructor
  · intro h
    have := List.append_inj h (by simp; omega)
    exact ⟨this.1, by simpa using this.2⟩
  · rintro ⟨h1, h2⟩; rw [h1, h2]

set_option maxRecDepth 100000 in
set_option maxHeartbeats 2000000 in
theorem msame_any (a b : List UInt32) (w : World) (la : a.length = 8) (lb : b.length = 8) :
    Calls Tryz.prog 78 #[.agg (vw a).toArray, .agg (vw b).toArray] w fun e w' => e = .returned (.tuple #[.bool (decide (a = b)), .int .i64 8]) ∧ Below w.heap.size w w' := by
  obtain ⟨w1, hw1⟩ : ∃ w1, (w.alloc (.cells (vw a).toArray 26)).alloc (.cells (vw b).toArray 26) = w1 := ⟨_, rfl⟩
  have aA : Arr w1 w.heap.size 26 a := by rw [← hw1]; exact (Arr.new w _ a).alloc _
  have aB : Arr w1 (w.heap.size + 1) 26 b := by
    rw [← hw1]
    have := Arr.new (w.alloc (.cells (vw a).toArray 26)) 26 b
    simpa using this
  have hb1 : Below w.heap.size w w1 := by rw [← hw1]; exact ((Below.refl _ _).alloc (Nat.le_refl _) _).alloc (by simp) _
  replace aA := Lib.hid aA; replace aB := Lib.hid aB; replace hb1 := Lib.hid hb1
  go_enter Tryz.func78, Tryz.ntmps78
  go_upto_region 1 with fail
  clear hw1
  go_wp2_with fail
  go_loopw [5, 6, 7, 8] (fun lk ap _ i wr => ∃ (k : Nat) (A : Int), k ≤ 8 ∧ i = .int .i64 k ∧ lk = .int .i64 k ∧ ap = .int .u32 A ∧ 0 ≤ A ∧ A ≤ 4294967295 ∧ (A = 0 ↔ a.take k = b.take k) ∧ ∃ n, wr = w1.drewN n) (fun _ _ _ i _ => 8 - (intOf i).toNat)
  case atStart => exact ⟨0, 0, by omega, rfl, rfl, rfl, by omega, by omega, by simp, 0, rfl⟩
  case round =>
    obtain ⟨k, A, hk, rfl, rfl, rfl, A1, A2, hA, n, rfl⟩ := hrel
    by_cases hlt : k < 8
    · have hA' := Lib.hid hA
      clear hA
      have hca := aA.out.cell k (by omega)
      have hcb := aB.out.cell k (by omega)
      have x1 := wAt_bd a k
      have y1 := wAt_bd b k
      obtain ⟨C, hC, C1, C2, hC0⟩ := xor_zero A (wAt a k) (wAt b k) A1 A2 x1.1 x1.2 y1.1 y1.2
      have hC0' := Lib.hid hC0
      clear hC0 x1 y1
      have i1 : (0 : Int) ≤ (k : Int) := by omega
      have i2 : (k : Int) < 8 := by omega
      go_wp2_with fail
      go_quiet (fail)
      go_wp2
      go_roundw
      case rel =>
        refine ⟨k + 1, C, by omega, by go_num, by go_num, rfl, C1, C2, ?_, n + nq, ?_⟩
        · rw [hC0'.out, hA'.out, take_succ_eq a b k (by omega) (by omega), wAt_inj a b k (by omega) (by omega)]
        · rfl
      case measure => simp [intOf]; omega
    · obtain rfl : k = 8 := by omega
      have hfin : decide (a = b) = (A == 0) := by
        rw [List.take_of_length_le (by omega), List.take_of_length_le (by omega)] at hA
        by_cases h : a = b
        · simp [h, hA.2 h]
        · simp [h]; intro e; exact h (hA.1 e)
      replace hfin := Lib.hid hfin
      clear hA
      go_wp2_with fail
      go_ret2
      refine ⟨?_, below_drewN hb1.out _⟩
      rw [hfin.out]
      rfl
end Go.Proofs.YtemanjahkohcpaaGreatDoor
