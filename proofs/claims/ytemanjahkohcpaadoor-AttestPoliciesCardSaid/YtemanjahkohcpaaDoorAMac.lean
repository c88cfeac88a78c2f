/- The contracts of mac's short, begun and New, for keys of at most a block. -/
import Derived.Test.YtemanjahkohcpaaDoorADigS
import Derived.Test.YtemanjahkohcpaaDoorAPad
namespace Go.Proofs.YtemanjahkohcpaaDoor
open Go.RowKit WP
theorem short_any (va : Value) (k : List UInt32) (w : World) (ha : Rd w va (vw k)) (hk : k.length ≤ 16) :
    Calls Tryd.prog 51 #[va] w fun e w' => ∃ v', e = .returned v' ∧ w'.ownsRow w.heap.size 5 1 v' (4 * k.length) (vb (bytesL k)) ∧ Below w.heap.size w w' := by
  obtain ⟨ao, ca, rfl, a1, a2, a3⟩ := ha.words
  clear a3
  replace ha := Lib.hid ha
  go_enter Tryd.func51, Tryd.ntmps51
  go_wp2_with fail
  refine (bytes_any _ k _ ha.out (by omega)).mono ?_
  rintro e w1 ⟨v1, rfl, o1, b1⟩
  replace o1 := Lib.hid o1; replace b1 := Lib.hid b1
  go_wp2_with fail
  go_ret
  exact ⟨_, rfl, o1.out, b1.out⟩
/-- the words of a padded key -/
def padW (key : List UInt8) (p : Int) : List UInt32 := wordsL (padL key p)
theorem padW_len (key : List UInt8) (p : Int) (h : key.length ≤ 64) : (padW key p).length = 16 := by
  unfold padW wordsL
  rw [List.length_map, List.length_range, padL_len key p h]
/-- a digest of a padded key -/
structure Begun (base : Nat) (KL : List UInt32) (key : List UInt8) (p : Int) (w : World) (g : Nat) (v : Value) : Prop where
  dig : Dig w g (foldB KL firstL (padW key p)) 16 v
  rd : Rd w v (vw (remB (padW key p)))
  base : base ≤ g
  far : ∀ k, v.ownBlock = some k → g < k
set_option maxRecDepth 100000 in
set_option maxHeartbeats 2000000 in
theorem begun_any (KL : List UInt32) (va : Value) (key : List UInt8) (p : Int) (w : World) (hK : Rounds w KL) (ha : Rd w va (vb key)) (hl : key.length ≤ 64) (hp1 : 0 ≤ p) (hp2 : p ≤ 255) :
    Calls Tryd.prog 52 #[va, .int .u8 p] w fun e w' => ∃ g v, e = .returned (.pointer (some ⟨g, 0, none⟩)) ∧ Begun w.heap.size KL key p w' g v ∧ Below w.heap.size w w' := by
  obtain ⟨ao, ca, rfl, a1, a2, a3⟩ := ha.bytes
  clear a3
  have h3 := hK.1
  replace ha := Lib.hid ha; replace hK := Lib.hid hK
  go_enter Tryd.func52, Tryd.ntmps52
  go_wp2_with fail
  refine (new_any _).mono ?_
  rintro e w1 ⟨g, rfl, hg, hd1, b1⟩
  have ha1 := ha.out.mono b1
  have hg1 := hd1.lt
  replace hd1 := Lib.hid hd1; replace b1 := Lib.hid b1; replace ha1 := Lib.hid ha1
  go_wp2_with fail
  refine (padded_any _ key p _ ha1.out hl hp1 hp2).mono ?_
  rintro e w2 ⟨v2, rfl, o2, b2⟩
  obtain ⟨o2', c2, rfl, _, _, _⟩ := (Rd.of_own o2).bytes
  have hr2 := Rd.of_own o2
  have lp := Lib.hid (padL_len key p hl)
  have hd2 := hd1.out.below b2
  have hb2 := b1.out.trans (b2.mono b1.out.size)
  clear o2 b2
  rw [lp.out] at hr2 ⊢
  replace hr2 := Lib.hid hr2; replace hd2 := Lib.hid hd2; replace hb2 := Lib.hid hb2
  go_wp2_with fail
  refine (words_yes _ (padL key p) _ hr2.out (by rw [lp.out]; omega) (by rw [lp.out])).mono ?_
  rintro e w3 ⟨v3, rfl, o3, b3⟩
  have hr3 : Rd w3 v3 (vw (padW key p)) := Rd.of_own o3
  have hd3 := hd2.out.below b3
  have hb3 := hb2.out.trans (b3.mono hb2.out.size)
  have hK3 := hK.out.below hb3
  have hg2 := hd2.out.lt
  have hne : v3.ownBlock ≠ some g := fun e => by have := (o3.lt _ e).1; omega
  have lW := Lib.hid (padW_len key p hl)
  obtain ⟨o3', c3, rfl, _, _, _⟩ := hr3.words
  clear o3 b3
  replace hr3 := Lib.hid hr3; replace hd3 := Lib.hid hd3; replace hb3 := Lib.hid hb3; replace hK3 := Lib.hid hK3; replace hne := Lib.hid hne
  go_wp2_with fail
  refine (add_any KL firstL [] (padW key p) 0 (.slice none 0 0) _ g _ hK3.out (by omega) hd3.out ⟨none, 0, rfl, Nat.le_refl _, by decide, .inl rfl⟩ (by simp [Value.ownBlock]) hr3.out hne.out (by omega) (by omega) (by simp) (by rw [lW.out]; omega)).mono ?_
  rintro e w4 ⟨rfl, v4, hd4, hr4, hf4, g4⟩
  rw [List.nil_append, lW.out] at hd4
  rw [List.nil_append] at hr4
  have hg3 := hd3.out.lt
  have hb4 := hb3.out.grown g4 hb3.out.size (by intro j hj; simp at hj; omega)
  replace hd4 := Lib.hid hd4; replace hr4 := Lib.hid hr4; replace hb4 := Lib.hid hb4; replace hf4 := Lib.hid hf4
  clear g4
  go_wp2_with fail
  go_ret
  exact ⟨g, v4, rfl, ⟨hd4.out, hr4.out, hg, fun k hk => by have := hf4.out k hk; omega⟩, hb4.out⟩
end Go.Proofs.YtemanjahkohcpaaDoor
