/- What Lines, Words and Unquote answer: rows of their own. The contract of the law's told: an entry's lists are the document's. The contracts of the law's lent and rows: what is lent stands within longer lists. -/
import Derived.Test.YtefbogmgcihndaaDoorTAns
import Derived.Test.YtefbogmgcihndaaDoorJn36
import Derived.Test.YtefbogmgcihndaaDoorUBas
import Derived.Test.YtefbogmgcihndaaDoorUBok
import Derived.Test.YtefbogmgcihndaaDoorTRd
namespace Go.Proofs.YtefbogmgcihndaaDoor
open Go.RowKit WP
theorem tlines_own (P : ByteArray) (m : Int) (w : World) (hm : MaxL w m) (hs : P.size ≤ 1114116) : Calls Tryd.prog 32 #[.string P] w fun e w' => ∃ v, e = .returned (.tuple #[v, .int .i64 (linesE P)]) ∧ w'.ownsRow w.heap.size 9 1 v (linesG P).length (vs (linesG P)) ∧ Below w.heap.size w w' := by
  unfold linesE linesG
  by_cases h : P.size ≤ 65536
  · rw [if_pos h, if_pos h]
    refine (tlines_any P m w hm h).mono ?_
    rintro e w' ⟨v, rfl, ho, hb⟩
    exact ⟨v, rfl, ho, hb⟩
  · rw [if_neg h, if_neg h]
    refine (tlines_no P w (by omega) (by omega)).mono ?_
    rintro e w' ⟨rfl, rfl⟩
    exact ⟨_, rfl, World.ownsRow_nil _ _ _ _, Below.refl _ _⟩
theorem words_own (S : ByteArray) (w : World) (hs : S.size ≤ 1099511627776) : Calls Tryd.prog 10 #[.string S] w fun e w' => ∃ v, e = .returned (.tuple #[v, .int .i64 (wordsC S), .int .i64 (wordsE S)]) ∧ w'.ownsRow w.heap.size 30 3 v (wordsL S).length (ww (wordsL S)) ∧ Below w.heap.size w w' := by
  refine (words_any S w hs).mono ?_
  rintro e w' ⟨hb, hr⟩
  unfold wordsL wordsC wordsE
  cases hF : wordsF S with
  | inl l =>
    rw [hF] at hr
    obtain ⟨v, he, ho⟩ := hr
    exact ⟨v, he, own_base ho (by omega), hb⟩
  | inr c =>
    rw [hF] at hr
    exact ⟨_, hr, World.ownsRow_nil _ _ _ _, hb⟩
theorem unq_own (b : List UInt8) (w : World) (hs : b.length ≤ 1048576) : Calls Tryd.prog 23 #[.string ⟨(quoteL b).toArray⟩] w fun e w' => ∃ v, e = .returned (.tuple #[v, .int .i64 0]) ∧ w'.ownsRow w.heap.size 5 1 v b.length (vb b) ∧ Below w.heap.size w w' := by
  refine (unquote_any ⟨(quoteL b).toArray⟩ w ?_).mono ?_
  · have := length_qbs b
    show (quoteL b).toArray.size ≤ _
    have e : (quoteL b).toArray.size = (b.flatMap qb).length + 2 := by show (quoteL b).length = _; unfold quoteL; rw [List.length_cons, List.length_append]; rfl
    omega
  rintro e w' ⟨hb, hr⟩
  have e1 : unqF (ByteArray.mk (quoteL b).toArray).data.toList = some b := by simpa using unq_quote b
  rw [e1] at hr
  obtain ⟨v, he, ho⟩ := hr
  exact ⟨v, he, ho, hb⟩
theorem linesG_bd (P : ByteArray) : (linesG P).length ≤ P.size := by
  unfold linesG
  split
  · exact (linesF_bd P).1
  · exact Nat.zero_le _
theorem wordsL_bd (S : ByteArray) : (wordsL S).length ≤ S.size := by
  unfold wordsL
  cases h : wordsF S with
  | inl l => exact (wordsF_bd S l h).1
  | inr c => exact Nat.zero_le _
end Go.Proofs.YtefbogmgcihndaaDoor

namespace Go.Proofs.YtefbogmgcihndaaDoor
open Go.RowKit WP
theorem WdAt.drewN {w : World} {v : Value} {l : List W} (h : WdAt w v l) (n : Nat) : WdAt (w.drewN n) v l := h
set_option maxRecDepth 100000 in
set_option maxHeartbeats 8000000 in
theorem told_any (l ml v mv b mb km : Value) (d : OpD) (w : World) (hl : Rd w l (vs (linesG d.S))) (hw : WdAt w v (wordsL d.S)) (hb : Rd w b (vb d.B)) (hO : OpIn w d.S d.bv d.B d.u d.z d.rv d.V d.C d.n) :
    Calls Tryd.prog 16 #[.agg #[l, ml, v, mv, b, mb, km], .agg (opV d.k d.S d.pad d.bv d.u d.z d.rv)] w fun e w' => e = .returned (.bool true) ∧ Below w.heap.size w w' := by
  obtain ⟨dk, dS, dpad, dbv, dB, du, dz, drv, dV, dC, dn⟩ := d
  dsimp only at hl hw hb hO ⊢
  have hS := hO.hS
  have hBb := hO.hB
  have hr := fun W => rlines_all dS W (by omega)
  have ht := fun W => rwords_all dS W (by omega)
  generalize linesE dS = E at *
  generalize linesG dS = L at *
  generalize wordsE dS = E2 at *
  generalize wordsC dS = K2 at *
  generalize wordsL dS = L2 at *
  unfold opV
  generalize (du : Int) = xu at *
  obtain ⟨al, cl, rfl, _, _, _⟩ := id hl
  obtain ⟨aw, cw, rfl, _, _, _⟩ := id hw
  obtain ⟨ab, cb, rfl, _, _, _⟩ := id hb
  obtain ⟨ao, co, rfl, _, _, _⟩ := id hBb
  rw [vs_length] at hl ⊢
  rw [length_vb] at hb hBb ⊢
  replace hl := Lib.hid hl; replace hw := Lib.hid hw; replace hb := Lib.hid hb; replace hBb := Lib.hid hBb; replace hr := Lib.hid hr; replace ht := Lib.hid ht
  clear hO
  go_enter Tryd.func16, Tryd.ntmps16
  go_upto_region 1 with fail
  obtain ⟨w1, hw1⟩ : ∃ w1, (w.alloc (Obj.cells #[Value.slice al L.length cl, ml, Value.slice aw L2.length cw, mv, Value.slice ab dB.length cb, mb, km] 50)).alloc
      (Obj.cells #[Value.int IntKind.i64 dk, Value.string dS, Value.int IntKind.i64 dpad, Value.slice ao dB.length co, Value.int IntKind.u32 xu, Value.int IntKind.i32 dz, drv] 54) = w1 := ⟨_, rfl⟩
  have d0 : w1.cell? ⟨w.heap.size, 0, none⟩ = some (.slice al L.length cl) := by rw [← hw1]; exact cell_alloc_up (lit_new rfl rfl)
  have d2 : w1.cell? ⟨w.heap.size, 2, none⟩ = some (.slice aw L2.length cw) := by rw [← hw1]; exact cell_alloc_up (lit_new rfl rfl)
  have d4 : w1.cell? ⟨w.heap.size, 4, none⟩ = some (.slice ab dB.length cb) := by rw [← hw1]; exact cell_alloc_up (lit_new rfl rfl)
  have x1 : w1.cell? ⟨w.heap.size + 1, 1, none⟩ = some (.string dS) := by rw [← hw1]; exact lit_new (by simp) rfl
  have x3 : w1.cell? ⟨w.heap.size + 1, 3, none⟩ = some (.slice ao dB.length co) := by rw [← hw1]; exact lit_new (by simp) rfl
  have hb1 : Below w.heap.size w w1 := by rw [← hw1]; exact ((Below.refl _ _).alloc (Nat.le_refl _) _).alloc (by simp) _
  have s1 : w.heap.size + 2 ≤ w1.heap.size := by rw [← hw1]; simp
  have l1 := hl.out.mono hb1
  have v1 := hw.out.mono hb1
  have r1 := hb.out.mono hb1
  have t1 := hBb.out.mono hb1
  rw [hw1]
  clear hw1 hl hw hb hBb
  replace l1 := Lib.hid l1; replace v1 := Lib.hid v1; replace r1 := Lib.hid r1; replace t1 := Lib.hid t1; replace hb1 := Lib.hid hb1
  go_wp2_with fail
  refine (hr.out _).mono ?_
  rintro e w2 ⟨u2, rfl, hu2, b2⟩
  have e0 := b2.cell (p := ⟨w.heap.size, 0, none⟩) (by show w.heap.size < _; omega) |>.trans d0
  have e2 := b2.cell (p := ⟨w.heap.size, 2, none⟩) (by show w.heap.size < _; omega) |>.trans d2
  have e4 := b2.cell (p := ⟨w.heap.size, 4, none⟩) (by show w.heap.size < _; omega) |>.trans d4
  have y1 := b2.cell (p := ⟨w.heap.size + 1, 1, none⟩) (by show w.heap.size + 1 < _; omega) |>.trans x1
  have y3 := b2.cell (p := ⟨w.heap.size + 1, 3, none⟩) (by show w.heap.size + 1 < _; omega) |>.trans x3
  have s2 := b2.size
  have hb2 := Lib.hid (hb1.out.trans (b2.mono (by omega)))
  have l2 := Lib.hid (l1.out.mono b2)
  have v2 := Lib.hid (v1.out.mono b2)
  have r2 := Lib.hid (r1.out.mono b2)
  have t2 := Lib.hid (t1.out.mono b2)
  clear d0 d2 d4 x1 x3 b2 l1 v1 r1 t1 hb1
  replace hu2 := Lib.hid hu2
  go_wp2_with fail
  refine (ht.out _).mono ?_
  rintro e w3 ⟨u3, rfl, hu3, b3⟩
  have d0 := b3.cell (p := ⟨w.heap.size, 0, none⟩) (by show w.heap.size < _; omega) |>.trans e0
  have d2 := b3.cell (p := ⟨w.heap.size, 2, none⟩) (by show w.heap.size < _; omega) |>.trans e2
  have d4 := b3.cell (p := ⟨w.heap.size, 4, none⟩) (by show w.heap.size < _; omega) |>.trans e4
  have x1 := b3.cell (p := ⟨w.heap.size + 1, 1, none⟩) (by show w.heap.size + 1 < _; omega) |>.trans y1
  have x3 := b3.cell (p := ⟨w.heap.size + 1, 3, none⟩) (by show w.heap.size + 1 < _; omega) |>.trans y3
  have s3 := b3.size
  have hb3 := Lib.hid (hb2.out.trans (b3.mono (by omega)))
  have l3 := Lib.hid (l2.out.mono b3)
  have v3 := Lib.hid (v2.out.mono b3)
  have r3 := Lib.hid (r2.out.mono b3)
  have t3 := Lib.hid (t2.out.mono b3)
  have hu3' := Lib.hid (hu2.out.mono b3)
  clear e0 e2 e4 y1 y3 b3 l2 v2 r2 t2 hb2 hu2
  replace hu3 := Lib.hid hu3
  go_wp2_with fail
  refine (lsame_any _ _ L _ l3.out hu3'.out).mono ?_
  rintro e w4 ⟨rfl, q4, rfl⟩
  go_wp2_with fail
  refine (sameWords_any _ _ L2 _ ?_ ?_).mono ?_
  · exact v3.out.drewN _
  · exact hu3.out.drewN _
  rintro e w5 ⟨rfl, q5, h5⟩
  have z4 : w5.cell? ⟨w.heap.size, 4, none⟩ = some (.slice ab dB.length cb) := by rw [h5]; exact d4
  have z3 : w5.cell? ⟨w.heap.size + 1, 3, none⟩ = some (.slice ao dB.length co) := by rw [h5]; exact x3
  have r5 : Rd w5 (.slice ab dB.length cb) (vb dB) := by rw [h5]; exact r3.out.kept fun _ _ _ => rfl
  have t5 : Rd w5 (.slice ao dB.length co) (vb dB) := by rw [h5]; exact t3.out.kept fun _ _ _ => rfl
  have hb5 : Below w.heap.size w w5 := by rw [h5]; exact below_drewN (below_drewN hb3.out _) _
  have hcv1 := conv_bytes (P := Tryd.prog) r5 24 5 9 Tryd.underlying24 Tryd.underlying5 Tryd.underlying9
  have hcv2 := conv_bytes (P := Tryd.prog) t5 24 5 9 Tryd.underlying24 Tryd.underlying5 Tryd.underlying9
  clear h5 r5 t5
  replace hb5 := Lib.hid hb5
  go_wp2_with fail
  go_ret
  exact ⟨rfl, hb5.out⟩
end Go.Proofs.YtefbogmgcihndaaDoor

namespace Go.Proofs.YtefbogmgcihndaaDoor
open Go.RowKit WP
def rawL (l : List UInt8) (k : Nat) : List UInt8 := l ++ (List.range k).map fun i => UInt8.ofNat i
theorem rawL_zero (l : List UInt8) : rawL l 0 = l := by simp [rawL]
theorem rawL_len (l : List UInt8) (k : Nat) : (rawL l k).length = l.length + k := by simp [rawL]
theorem rawL_succ (l : List UInt8) (k : Nat) : vb (rawL l (k + 1)) = vb (rawL l k) ++ [.int .u8 ((k : Int) % 256)] := by
  unfold rawL
  rw [List.range_succ, List.map_append, ← List.append_assoc, vb_append]
  congr 1
theorem rawL_take (l : List UInt8) : (rawL l 300).take l.length = l := by unfold rawL; rw [List.take_left]
theorem infoU8 : (Tryd.prog.info? 5).map (fun i => (i.zero, i.size, i.bytes)) = some (some (.int .u8 0), 1, 1) := by kernel_rfl
set_option maxRecDepth 100000 in
set_option maxHeartbeats 1000000 in
theorem lent_any (va : Value) (l : List UInt8) (w : World) (ha : Rd w va (vb l)) (hl : l.length ≤ 17179869184) :
    Calls Tryd.prog 37 #[va] w fun e w' => ∃ v', e = .returned v' ∧ w'.ownsRow w.heap.size 5 1 v' (l.length + 300) (vb (rawL l 300)) ∧ Below w.heap.size w w' := by
  obtain ⟨i0, hi, hz0, hz1, hz2⟩ := info_parts infoU8
  have lv := length_vb l
  go_enter Tryd.func37, Tryd.ntmps37
  go_wp2_with (at_builtin; refine wpList_append_rd _ rfl _ _ 24 rfl w.heap.size 5 i0 (.int .u8 0) 1 Tryd.underlying24 hi hz0 hz1 hz2 rfl _ _ _ rfl (World.ownsRow_nil _ _ _ _) _ (vb l) rfl ha (vb_oneCell l) ?c1 ?c2 ?c3 ?_)
  case c1 => rw [lv]; simp only [maxLen]; omega
  case c2 => rw [lv]; omega
  case c3 => exact Nat.le_refl _
  intro v1 w1 ho hO
  have hb := hO.below (Nat.le_refl w.heap.size) (by simp [Value.ownBlock])
  clear hO ha lv
  have ho := Lib.hid ho; have hb := Lib.hid hb
  go_wp2_with fail
  go_loopw [3, 4] (fun b i wr => ∃ k : Nat, k ≤ 300 ∧ i = .int .i64 k ∧ wr.ownsRow w.heap.size 5 1 b (l.length + k) (vb (rawL l k)) ∧ Below w.heap.size w wr) (fun _ i _ => 300 - (intOf i).toNat)
  case atStart => exact ⟨0, by omega, rfl, by rw [rawL_zero]; exact ho.out, hb.out⟩
  case round =>
    obtain ⟨k, hk, rfl, ho, hb⟩ := hrel
    have hs := hb.size
    by_cases hlt : k < 300
    · have hst := Lib.hid (rawL_succ l k)
      have ho := Lib.hid ho; have hb := Lib.hid hb
      go_wp2_with (at_builtin; refine wpList_append_onto' _ rfl _ _ 24 rfl w.heap.size 5 i0 (.int .u8 0) 1 1 Tryd.underlying24 hi hz0 hz1 hz2 rfl (by decide) _ _ _ rfl (ho.out.alloc _) ⟨wr.heap.size, 0, none⟩ 1 1 [.int .u8 ((k : Int) % 256)] rfl rfl ?c1 ?c2 ?c3 ?c4 ?c5 ?_)
      try (case c1 => exact cells_new _ _ _ _)
      case c2 => simp [Value.oneCell']
      case c3 => simp only [maxLen]; omega
      case c4 => omega
      case c5 => first | omega | (simp; omega)
      intro v1 w2 ho1 hO1
      have hfin : w2.ownsRow w.heap.size 5 1 v1 (l.length + (k + 1)) (vb (rawL l (k + 1))) := by
        rw [hst.out]; exact ho1
      have hb2 := hb.out.trans ((Onto.alloc _ hO1 (fun g hg => (ho.out.lt g hg).2)).below (B := w.heap.size) hs (fun g hg => (ho.out.lt g hg).1))
      clear ho1 hO1
      have hfin := Lib.hid hfin
      have hb2 := Lib.hid hb2
      go_wp2
      go_roundw
      case rel => exact ⟨k + 1, by omega, by go_num, hfin.out, hb2.out⟩
      case measure => simp [intOf]; omega
    · obtain rfl : k = 300 := by omega
      go_wp2_with fail
      go_ret
      exact ⟨_, rfl, ho, hb⟩
/-! ### rows -/
def endS : ByteArray := ⟨#[101, 110, 100]⟩
def endsL : List ByteArray := [endS, endS, endS, endS]
/-- a row that was lent: its cells, and four marks behind them -/
def RowLent (base : Nat) (w : World) (u : Value) (c : List ByteArray) : Prop :=
  ∃ g cap, u = .slice (some ⟨g, 0, none⟩) c.length cap ∧ w.ownsRow base 9 1 (.slice (some ⟨g, 0, none⟩) (c.length + 4) cap) (c.length + 4) (vs (c ++ endsL))
theorem RowLent.touch {S : List Value} {base : Nat} {w w' : World} {u : Value} {c : List ByteArray} (h : RowLent base w u c) (ht : Touch S w w') (hf : ∀ s ∈ S, Far u s) : RowLent base w' u c := by
  obtain ⟨g, cap, rfl, ho⟩ := h
  exact ⟨g, cap, rfl, ht.own ho fun s hs k hk => hf s hs k hk⟩
theorem RowLent.later {base : Nat} {w w' : World} {u : Value} {c : List ByteArray} (h : RowLent base w u c) (hb : Below w.heap.size w w') : RowLent base w' u c :=
  h.touch (Touch.of_below (S := []) hb) (by simp)
theorem RowLent.lt {base : Nat} {w : World} {u : Value} {c : List ByteArray} (h : RowLent base w u c) : ∀ k, u.ownBlock = some k → base ≤ k ∧ k < w.heap.size := by
  obtain ⟨g, cap, rfl, ho⟩ := h
  exact fun k hk => ho.lt k hk
theorem own_less {w : World} {B g n m cap : Nat} {e : TypeId} {a b : List Value} (h : w.ownsRow B e 1 (.slice (some ⟨g, 0, none⟩) n cap) n (a ++ b)) (hm : m = a.length) :
    w.ownsRow B e 1 (.slice (some ⟨g, 0, none⟩) m cap) m a := by
  have hn : a.length + b.length = n := by have := h.1; rw [List.length_append, Nat.mul_one] at this; exact this
  refine ⟨by omega, ?_⟩
  rcases h.2 with ⟨hv, _⟩ | ⟨g', cap', cur, hv, h1, h2, h3, h4, h5, h6⟩
  · simp at hv
  · simp only [Value.slice.injEq, Option.some.injEq, Addr.mk.injEq, and_true, true_and] at hv
    obtain ⟨rfl, rfl⟩ := hv
    refine .inr ⟨g, cap, cur, rfl, h1, h2, by omega, h4, h5, ?_⟩
    have h7 : (cur.toList.take (n * 1)).take (m * 1) = (a ++ b).take (m * 1) := by rw [h6]
    rw [List.take_take, Nat.min_eq_left (by omega), Nat.mul_one, hm, List.take_left] at h7
    rw [hm, Nat.mul_one]; exact h7
theorem RowLent.own {base : Nat} {w : World} {u : Value} {c : List ByteArray} (h : RowLent base w u c) : w.ownsRow base 9 1 u c.length (vs c) := by
  obtain ⟨g, cap, rfl, ho⟩ := h
  have e : vs (c ++ endsL) = vs c ++ vs endsL := by simp [vs]
  rw [e] at ho
  exact own_less ho (by rw [vs_length])
end Go.Proofs.YtefbogmgcihndaaDoor
