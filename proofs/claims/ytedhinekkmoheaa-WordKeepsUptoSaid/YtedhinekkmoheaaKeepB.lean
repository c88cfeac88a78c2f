/- The contract of the law's told: what is answered of a list, in rows of its own, apart from one another. -/
import Derived.Test.YtedhinekkmoheaaKeepA
namespace Go.Proofs.Ytedhinekkmoheaa
open Go.RowKit WP
theorem own_below {w w' : World} {base : Nat} {e : TypeId} {size n : Nat} {v : Value} {xs : List Value} (h : w.ownsRow base e size v n xs) (hb : Below w.heap.size w w') : w'.ownsRow base e size v n xs := by
  refine ⟨h.1, ?_⟩
  rcases h.2 with hn | ⟨g, cap, cur, rfl, hbg, hgg, rest⟩
  · exact .inl hn
  · refine .inr ⟨g, cap, cur, rfl, hbg, ?_, rest⟩
    rw [hb.block g (Array.getElem?_eq_some_iff.1 hgg).1]
    exact hgg
theorem own_base {w : World} {base base' : Nat} {e : TypeId} {size n : Nat} {v : Value} {xs : List Value} (h : w.ownsRow base e size v n xs) (hb : base' ≤ base) : w.ownsRow base' e size v n xs := by
  refine ⟨h.1, ?_⟩
  rcases h.2 with hn | ⟨g, cap, cur, rfl, hbg, hgg, rest⟩
  · exact .inl hn
  · exact .inr ⟨g, cap, cur, rfl, Nat.le_trans hb hbg, hgg, rest⟩
theorem own_alloc {w : World} {base : Nat} {e : TypeId} {size n : Nat} {v : Value} {xs : List Value} (h : w.ownsRow base e size v n xs) (o : Obj) : (w.alloc o).ownsRow base e size v n xs := h.alloc o
theorem own_drewN {w : World} {base : Nat} {e : TypeId} {size n : Nat} {v : Value} {xs : List Value} (h : w.ownsRow base e size v n xs) (k : Nat) : (w.drewN k).ownsRow base e size v n xs := h
/-- two rows in different blocks -/
def Far (u v : Value) : Prop := ∀ k, u.ownBlock = some k → v.ownBlock ≠ some k
theorem Far.symm {u v : Value} (h : Far u v) : Far v u := fun k h1 h2 => h k h2 h1
/-- a row that was there, and one that was made behind it -/
theorem far_new {w w' : World} {base base' : Nat} {e e' : TypeId} {size size' n n' : Nat} {u v : Value} {xs ys : List Value} (h : w.ownsRow base e size u n xs) (h' : w'.ownsRow base' e' size' v n' ys) (hb : w.heap.size ≤ base') : Far u v := by
  intro k h1 h2
  have := (h.lt k h1).2
  have := (h'.lt k h2).1
  omega
theorem wordsE_bytes (l : List UInt32) (h : l.length ≤ 262144) : wordsE (bytesL l) = 0 := by
  unfold wordsE; rw [length_bytesL, if_neg (by omega), if_pos (by omega)]
theorem wordsR_bytes (l : List UInt32) (h : l.length ≤ 262144) : wordsR (bytesL l) = l := by
  unfold wordsR; rw [length_bytesL, if_neg (by omega), if_pos (by omega), words_bytes]
theorem vw_take (l : List UInt32) (k : Nat) : (vw l).take k = vw (l.take k) := by simp [vw, List.map_take]
theorem vb_take (l : List UInt8) (k : Nat) : (vb l).take k = vb (l.take k) := by simp [vb, List.map_take]
theorem lentL_take (l : List UInt32) : (lentL l 300).take l.length = l := by unfold lentL; rw [List.take_left]
theorem rawL_take (l : List UInt8) : (rawL l 300).take l.length = l := by unfold rawL; rw [List.take_left]
/-- what told leaves: two answers of a list, each with its bytes -/
def ToldPost (l : List UInt32) (w : World) (e : Ending) (w' : World) : Prop :=
  ∃ g v1 u1 v2 u2, e = .returned (.tuple #[.slice (some ⟨g, 0, none⟩) 2 2, .bool true]) ∧ w.heap.size ≤ g ∧
    w'.heap[g]? = some (.cells #[v1, .slice none 0 0, u1, .slice none 0 0, .int .i64 0, v2, .slice none 0 0, u2, .slice none 0 0, .int .i64 0] 50 (0, 0)) ∧
    w'.ownsRow w.heap.size 22 1 v1 l.length (vw l) ∧ w'.ownsRow w.heap.size 5 1 u1 (4 * l.length) (vb (bytesL l)) ∧
    w'.ownsRow w.heap.size 22 1 v2 l.length (vw l) ∧ w'.ownsRow w.heap.size 5 1 u2 (4 * l.length) (vb (bytesL l)) ∧
    [v1, u1, v2, u2].Pairwise Far ∧ (∀ v ∈ [v1, u1, v2, u2], v.ownBlock ≠ some g) ∧ Below w.heap.size w w'
set_option maxRecDepth 100000 in
set_option maxHeartbeats 2000000 in
theorem told_any (va : Value) (l : List UInt32) (w : World) (ha : Rd w va (vw l)) (hl : l.length ≤ 262144) :
    Calls Try.prog 21 #[va] w (ToldPost l w) := by
  obtain ⟨ao, ca, rfl, a1, a2, a3⟩ := ha.words
  clear a3
  have lb := Lib.hid (length_bytesL l)
  have ll := Lib.hid (lentL_len l 300)
  have hl' := Lib.hid hl
  go_enter Try.func21, Try.ntmps21
  go_wp2_with fail
  refine (lent_any _ l _ ha (by omega)).mono ?_
  rintro e w1 ⟨wide, rfl, ow, b1⟩
  have rw1 := Rd.of_own ow
  have ra1 := ha.mono b1
  have hB1 := b1
  obtain ⟨wo, wcp, rfl, e1, e2, e3⟩ := rw1.words
  clear e3 ow b1 ha
  rw [ll.out] at e1 rw1 ⊢
  have rm1 := rw1.take l.length (by omega)
  rw [vw_take, lentL_take] at rm1
  go_wp2_with fail
  refine (rbytes_any _ l _ ra1 (by omega)).mono ?_
  rintro e w2 ⟨want, rfl, ow2, b2⟩
  have rt2 := Rd.of_own ow2
  have ra2 := ra1.mono b2
  have rw2 := rw1.mono b2
  have rm2 := rm1.mono b2
  have hB2 := hB1.trans (b2.mono hB1.size)
  obtain ⟨tt, tc, rfl, t1, t2, t3⟩ := rt2.bytes
  rw [lb.out] at t1 rt2 ⊢
  clear t3 ow2 b2 ra1 rw1 rm1 hB1
  go_wp2_with fail
  refine (bytes_any _ l _ rm2 (by omega)).mono ?_
  rintro e w3 ⟨u1, rfl, ou3, b3⟩
  have ra3 := ra2.mono b3
  have rw3 := rw2.mono b3
  have rm3 := rm2.mono b3
  have rt3 := rt2.mono b3
  have hB3 := hB2.trans (b3.mono hB2.size)
  have ou3 := own_base ou3 hB2.size
  clear b3 ra2 rw2 rm2 rt2 hB2
  go_wp2_with fail
  refine (raw_any _ (bytesL l) _ rt3 (by rw [lb.out]; omega)).mono ?_
  rintro e w4 ⟨by4, rfl, ow4, b4⟩
  have rb4 := Rd.of_own ow4
  have ra4 := ra3.mono b4
  have rw4 := rw3.mono b4
  have rm4 := rm3.mono b4
  have rt4 := rt3.mono b4
  have ou4 := own_below ou3 b4
  have hB4 := hB3.trans (b4.mono hB3.size)
  obtain ⟨yo, yc, rfl, y1, y2, y3⟩ := rb4.bytes
  rw [rawL_len, lb.out] at y1 rb4 ⊢
  have rc4 := rb4.take (4 * l.length) (by omega)
  rw [vb_take, ← lb.out, rawL_take, lb.out] at rc4
  clear y3 ow4 b4 ra3 rw3 rm3 rt3 ou3 hB3
  go_wp2_with fail
  refine (words_yes _ (bytesL l) _ rc4 (by rw [lb.out]; omega) (by rw [lb.out]; omega)).mono ?_
  rw [words_bytes, lb.out]
  rintro e w5 ⟨v1, rfl, ov5, b5⟩
  have fuv := far_new ou4 ov5 (Nat.le_refl _)
  have ra5 := ra4.mono b5
  have rw5 := rw4.mono b5
  have rm5 := rm4.mono b5
  have rt5 := rt4.mono b5
  have rb5 := rb4.mono b5
  have ou5 := own_below ou4 b5
  have hB5 := hB4.trans (b5.mono hB4.size)
  have ov5 := own_base ov5 hB4.size
  clear b5 ra4 rw4 rm4 rt4 rb4 rc4 ou4 hB4
  have rv5 := Rd.of_own ov5
  have lh := Lib.hid (show (⟨(hexAllL l).toArray⟩ : ByteArray).size = 8 * l.length by rw [size_mk, length_hexAllL])
  go_wp2_with fail
  refine (hexall_any _ l _ rm5 (by omega)).mono ?_
  rintro e w6 ⟨rfl, b6⟩
  have ra6 := ra5.mono b6
  have rw6 := rw5.mono b6
  have rm6 := rm5.mono b6
  have rt6 := rt5.mono b6
  have rb6 := rb5.mono b6
  have rv6 := rv5.mono b6
  have ou6 := own_below ou5 b6
  have ov6 := own_below ov5 b6
  have hB6 := hB5.trans (b6.mono hB5.size)
  clear b6 ra5 rw5 rm5 rt5 rb5 rv5 ou5 ov5 hB5
  go_wp2_with fail
  refine (parseall_any ⟨(hexAllL l).toArray⟩ _ (by rw [lh.out]; omega) (by rw [lh.out]; omega)).mono ?_
  rintro e w7 ⟨b7, ⟨v2, rfl, ov2, _⟩ | ⟨_, i, hi, hno⟩⟩
  case inr =>
    exfalso
    rw [lh.out] at hi
    rw [chunkN_hex l i (by omega)] at hno
    cases hno
  rw [parseAll_hex, lh.out, show 8 * l.length / 8 = l.length by omega] at ov2
  have fuv2 := far_new ou6 ov2 (Nat.le_refl _)
  have fvv2 := far_new ov6 ov2 (Nat.le_refl _)
  have ra7 := ra6.mono b7
  have rw7 := rw6.mono b7
  have rm7 := rm6.mono b7
  have rt7 := rt6.mono b7
  have rb7 := rb6.mono b7
  have rv7 := rv6.mono b7
  have rz7 := Rd.of_own ov2
  have ou7 := own_below ou6 b7
  have ov7 := own_below ov6 b7
  have oz7 := own_base ov2 hB6.size
  have hB7 := hB6.trans (b7.mono hB6.size)
  clear b7 ra6 rw6 rm6 rt6 rb6 rv6 ou6 ov6 ov2 hB6 lh
  have ar := alike_refl l
  have lk : looksI l l = (l.length : Int) := by unfold looksI; rw [if_pos rfl]
  go_wp2_with fail
  refine (same_any _ _ l l _ rm7 rv7).mono ?_
  rintro e w8 ⟨rfl, n8, rfl⟩
  rw [lk, ar]
  go_wp2_with fail
  refine (lsame_any _ _ l l _ (rv7.drewN _) (ra7.drewN _)).mono ?_
  rintro e w9 ⟨rfl, n9, rfl⟩
  rw [ar]
  go_wp2_with fail
  refine (lsame_any _ _ l l _ (rz7.drewN _) (ra7.drewN _)).mono ?_
  rintro e w10 ⟨rfl, n10, h10⟩
  rw [ar]
  have ra10 : Rd w10 (.slice ao l.length ca) (vw l) := by rw [h10]; exact (ra7.drewN _).drewN _
  have rw10 : Rd w10 (.slice wo (l.length + 300) wcp) (vw (lentL l 300)) := by rw [h10]; exact (rw7.drewN _).drewN _
  have rm10 : Rd w10 (.slice wo l.length wcp) (vw l) := by rw [h10]; exact (rm7.drewN _).drewN _
  have rt10 : Rd w10 (.slice tt (4 * l.length) tc) (vb (bytesL l)) := by rw [h10]; exact (rt7.drewN _).drewN _
  have rb10 : Rd w10 (.slice yo (4 * l.length + 300) yc) (vb (rawL (bytesL l) 300)) := by rw [h10]; exact (rb7.drewN _).drewN _
  have ou10 : w10.ownsRow w.heap.size 5 1 u1 (4 * l.length) (vb (bytesL l)) := by rw [h10]; exact ou7
  have ov10 : w10.ownsRow w.heap.size 22 1 v1 l.length (vw l) := by rw [h10, show l.length = 4 * l.length / 4 by omega]; exact ov7
  have oz10 : w10.ownsRow w.heap.size 22 1 v2 l.length (vw l) := by rw [h10]; exact oz7
  have hB10 : Below w.heap.size w w10 := by rw [h10]; exact below_drewN (below_drewN hB7 _) _
  clear h10 ra7 rw7 rm7 rt7 rb7 rv7 rz7 ou7 ov7 oz7 hB7
  have hcv1 := conv_bytes (P := Try.prog) (Rd.of_own ou10) 48 5 9 Try.underlying48 Try.underlying5 Try.underlying9
  have hcv2 := conv_bytes (P := Try.prog) rt10 48 5 9 Try.underlying48 Try.underlying5 Try.underlying9
  go_upto_region 11 with fail
  go_cut [94] from 82 to 94 (fun c wx => c = .bool false ∧ Below w10.heap.size w10 wx)
  case first =>
    clear hcv1 hcv2
    have ar3 := alike_refl (lentL l 300)
    have ra11 : Rd w10.drew (.slice ao l.length ca) (vw l) := ra10.kept fun _ _ _ => rfl
    have rw11 : Rd w10.drew (.slice wo (l.length + 300) wcp) (vw (lentL l 300)) := rw10.kept fun _ _ _ => rfl
    have rt11 : Rd w10.drew (.slice tt (4 * l.length) tc) (vb (bytesL l)) := rt10.kept fun _ _ _ => rfl
    have rb11 : Rd w10.drew (.slice yo (4 * l.length + 300) yc) (vb (rawL (bytesL l) 300)) := rb10.kept fun _ _ _ => rfl
    clear ra10 rw10 rm10 rt10 rb10 ou10 ov10 oz10 hB10
    go_region_with (first
      | (go_at_call 37; refine (lent_any _ l _ ra11 (by omega)).mono ?_; rintro e w12 ⟨wl, rfl, ol, bl⟩)
      | (go_at_call 23; refine (lsame_any _ _ (lentL l 300) (lentL l 300) _ (rw11.mono bl) (Rd.of_own ol)).mono ?_; rintro e w13 ⟨rfl, n13, h13⟩; rw [ar3]; have bl3 : Below w10.drew.heap.size w10.drew w13 := (by rw [h13]; exact below_drewN bl _); have hcv3 := conv_bytes (P := Try.prog) (rb11.mono bl3) 48 5 9 Try.underlying48 Try.underlying5 Try.underlying9; clear h13 bl ol)
      | (go_at_call 38; refine (raw_any _ (bytesL l) _ (rt11.mono bl3) (by rw [lb.out]; omega)).mono ?_; rintro e w14 ⟨wr, rfl, or, br⟩; have bl4 := bl3.trans (br.mono bl3.size); have hcv4 := conv_bytes (P := Try.prog) (rb11.mono bl4) 48 5 9 Try.underlying48 Try.underlying5 Try.underlying9; have hcv5 := conv_bytes (P := Try.prog) (Rd.of_own or) 48 5 9 Try.underlying48 Try.underlying5 Try.underlying9; clear br or))
    all_goals
      go_wp2_with fail
      go_meet
      exact ⟨rfl, (Below.refl w10.heap.size w10).drew.trans bl4⟩
  case rest =>
    obtain ⟨rfl, bl4⟩ := hcut
    have rm14 := rm10.mono bl4
    have ou14 := own_below ou10 bl4
    have ov14 := own_below ov10 bl4
    have oz14 := own_below oz10 bl4
    have hB14 := hB10.trans (bl4.mono hB10.size)
    clear bl4 rm10 ou10 ov10 oz10 hB10 ra10 rw10 rt10 rb10 hcv1 hcv2
    obtain ⟨o1, c1, rfl, p1, q1, s1⟩ := (Rd.of_own ov14).words
    obtain ⟨o2, c2, rfl, p2, q2, s2⟩ := (Rd.of_own oz14).words
    obtain ⟨o3, c3, rfl, p3, q3, s3⟩ := (Rd.of_own ou14).bytes
    clear p1 p2 p3 q1 q2 q3 s1 s2 s3
    rw [lb.out] at ou14 ⊢
    go_wp2_with fail
    refine (bytes_any _ l _ rm14 (by omega)).mono ?_
    rintro e w15 ⟨u2, rfl, ou15, b15⟩
    have f1 := far_new ov14 ou15 (Nat.le_refl _)
    have f2 := far_new oz14 ou15 (Nat.le_refl _)
    have f3 := far_new ou14 ou15 (Nat.le_refl _)
    have ov15 := own_below ov14 b15
    have oz15 := own_below oz14 b15
    have ou15' := own_below ou14 b15
    have hB15 := hB14.trans (b15.mono hB14.size)
    have ox15 := own_base ou15 hB14.size
    obtain ⟨o4, c4, rfl, p4, q4, s4⟩ := (Rd.of_own ox15).bytes
    clear p4 q4 s4 ou15 b15 ov14 oz14 ou14 hB14 rm14
    rw [lb.out] at *
    go_wp2_with fail
    go_ret2
    refine ⟨w15.heap.size, _, _, _, _, rfl, hB15.size, heap_alloc_new _ _, own_alloc ov15 _, own_alloc ou15' _, own_alloc oz15 _, own_alloc ox15 _, ?_, ?_, hB15.alloc hB15.size _⟩
    · simp only [List.pairwise_cons, List.mem_cons, List.not_mem_nil, or_false, forall_eq_or_imp, forall_eq, List.Pairwise.nil, and_true, false_imp_iff, implies_true]
      exact ⟨⟨fuv.symm, fvv2, f1⟩, ⟨fuv2, f3⟩, f2⟩
    · intro v hv hg
      simp only [List.mem_cons, List.not_mem_nil, or_false] at hv
      rcases hv with rfl | rfl | rfl | rfl
      · exact Nat.lt_irrefl _ (ov15.lt _ hg).2
      · exact Nat.lt_irrefl _ (ou15'.lt _ hg).2
      · exact Nat.lt_irrefl _ (oz15.lt _ hg).2
      · exact Nat.lt_irrefl _ (ox15.lt _ hg).2
end Go.Proofs.Ytedhinekkmoheaa
