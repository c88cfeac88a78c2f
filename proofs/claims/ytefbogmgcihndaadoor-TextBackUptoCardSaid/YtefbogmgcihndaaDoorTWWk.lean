/- The walk of TextWords. -/
import Derived.Test.YtefbogmgcihndaaDoorTRd
import Derived.Test.YtefbogmgcihndaaDoorTQte
import Derived.Deep.DeepCutAuto
import Derived.Deep.CutBlock
namespace Go.Proofs.YtefbogmgcihndaaDoor
open Go.RowKit WP
theorem rows_apart {w : World} {B B' s s' n n' : Nat} {e e' : TypeId} {v v' : Value} {xs xs' : List Value} (h : w.ownsRow B e s v n xs) (h' : w.ownsRow B' e' s' v' n' xs') (hne : e ≠ e') : v.ownBlock = none ∨ v.ownBlock ≠ v'.ownBlock := by
  rcases h.2 with ⟨rfl, _⟩ | ⟨g, cap, cur, rfl, _, hg, _⟩
  · exact .inl rfl
  · right
    intro he
    rcases h'.2 with ⟨rfl, _⟩ | ⟨g', cap', cur', rfl, _, hg', _⟩
    · simp [Value.ownBlock] at he
    · simp only [Value.ownBlock, Option.some.injEq] at he
      subst he
      rw [hg] at hg'
      simp only [Option.some.injEq, Obj.cells.injEq] at hg'
      exact hne hg'.2.1
theorem ww_get : ∀ (l : List W) (j : Nat) (h : j < l.length), (ww l)[j * 3]? = some (.string (l[j]).1) ∧ (ww l)[j * 3 + 1]? = some (.bool (l[j]).2.1) ∧ (ww l)[j * 3 + 2]? = some (.int .i64 ((l[j]).2.2 : Int))
  | [], j, h => absurd h (by simp)
  | x :: l, 0, _ => ⟨rfl, rfl, rfl⟩
  | x :: l, j + 1, h => by
    have ih := ww_get l j (by simpa using h)
    have e : ww (x :: l) = [.string x.1, .bool x.2.1, .int .i64 (x.2.2 : Int)] ++ ww l := rfl
    have e1 : (j + 1) * 3 = j * 3 + 3 := by omega
    rw [e, e1]
    exact ih
theorem fieldsW : (Tryd.prog.fieldsOf 30).toList.map (fun f => (f.name, f.type, f.offset)) = [("Text", 9, 0), ("Quoted", 4, 1), ("Col", 3, 2)] := by kernel_rfl
theorem structW : Tryd.prog.underlying 30 = some (.struct (Tryd.prog.fieldsOf 30)) := by kernel_rfl
theorem stoodW : Tryd.prog.stoodInHeld 30 = false := by kernel_rfl
theorem three_of {α β : Type} {f : α → β} {l : List α} {x y z : β} (h : l.map f = [x, y, z]) : ∃ a b c, l = [a, b, c] ∧ f a = x ∧ f b = y ∧ f c = z := by
  match l, h with
  | [a, b, c], h => simp at h; exact ⟨a, b, c, rfl, h.1, h.2.1, h.2.2⟩
theorem eq_word (s t : ByteArray) (p q : Bool) (c d : Int) (w : World) :
    (Op.equalIn 10000 30 (.agg #[.string s, .bool p, .int .i64 c]) (.agg #[.string t, .bool q, .int .i64 d])).run Tryd.prog w = .ok (decide (s = t ∧ p = q ∧ c = d)) w := by
  obtain ⟨f0, f1, f2, hf, h0, h1, h2⟩ := three_of fieldsW
  simp only [Prod.mk.injEq] at h0 h1 h2
  obtain ⟨n0, t0, o0⟩ := h0
  obtain ⟨n1, t1, o1⟩ := h1
  obtain ⟨n2, t2, o2⟩ := h2
  rw [show (10000 : Nat) = 9999 + 1 from rfl, run_equalIn_struct w 9999 _ _ _ structW stoodW, hf]
  have x0 := run_equalIn_string (P := Tryd.prog) w 9998 9 s t Tryd.underlying9
  have x1 := run_equalIn_bool (P := Tryd.prog) w 9998 4 p q Tryd.underlying4
  have x2 := run_equalIn_int (P := Tryd.prog) w 9998 3 .i64 .i64 c d Tryd.underlying3
  have y0 : ∀ (a b c : Value), (part 9 #[a, b, c] 0).run Tryd.prog w = .ok a w := fun a b c => run_part_plain w (show Tryd.prog.plainKey 9 = true by kernel_rfl) rfl
  have y1 : ∀ (a b c : Value), (part 4 #[a, b, c] 1).run Tryd.prog w = .ok b w := fun a b c => run_part_plain w (show Tryd.prog.plainKey 4 = true by kernel_rfl) rfl
  have y2 : ∀ (a b c : Value), (part 3 #[a, b, c] 2).run Tryd.prog w = .ok c w := fun a b c => run_part_plain w (show Tryd.prog.plainKey 3 = true by kernel_rfl) rfl
  simp only [Op.eqFields, n0, n1, n2, t0, t1, t2, o0, o1, o2]
  rw [if_pos (by decide), if_pos (by decide), if_pos (by decide)]
  simp only [Sem.run_bind, y0, Result.andThen_ok]
  rw [show (9999 : Nat) = 9998 + 1 from rfl, x0]
  simp only [Result.andThen_ok]
  by_cases c0 : s = t
  · subst c0
    rw [if_neg (by simp)]
    simp only [Sem.run_bind, y1, Result.andThen_ok]
    rw [x1]
    simp only [Result.andThen_ok]
    by_cases c1 : p = q
    · subst c1
      rw [if_neg (by simp)]
      simp only [Sem.run_bind, y2, Result.andThen_ok]
      rw [x2]
      simp only [Result.andThen_ok]
      by_cases c2 : c = d
      · subst c2
        rw [if_neg (by simp)]
        simp
      · rw [if_pos (by simp [c2]), decide_eq_false (fun h => c2 h.2.2)]; rfl
    · rw [if_pos (by simp [c1]), decide_eq_false (fun h => c1 h.2.1)]; rfl
  · have c0' : ¬ s.toList = t.toList := fun e => c0 (ByteArray.ext (Array.ext' (by rw [Lib.toList_data, Lib.toList_data] at e; exact e)))
    rw [if_pos (by simp [c0']), decide_eq_false (fun h => c0 h.1)]; rfl
def gapN (z : Int) : Nat := if z ≤ 1 then 1 else if 4 ≤ z then 4 else z.toNat
def sumB (P : Nat → Pc) : Nat → Nat
  | 0 => 0
  | k + 1 => sumB P k + ((P k).b.length + 4)
theorem sumB_mono (P : Nat → Pc) {a b : Nat} (h : a ≤ b) : sumB P a ≤ sumB P b := by
  induction b with
  | zero => obtain rfl : a = 0 := by omega
            exact Nat.le_refl _
  | succ b ih =>
    by_cases e : a = b + 1
    · subst e; exact Nat.le_refl _
    · have := ih (by omega); simp only [sumB]; omega
theorem sumB_ge (P : Nat → Pc) : ∀ k, 4 * k ≤ sumB P k
  | 0 => Nat.le_refl _
  | k + 1 => by have := sumB_ge P k; simp only [sumB]; omega
/-- the pieces that are handed in -/
structure PsAt (w : World) (blk off n : Nat) (V : Nat → Value) (P : Nat → Pc) (G : Nat → Int) : Prop where
  lt : blk < w.heap.size
  c0 : ∀ i, i < n → w.cell? ⟨blk, off + i * 4, none⟩ = some (.bool (P i).q)
  c1 : ∀ i, i < n → w.cell? ⟨blk, off + i * 4 + 1, none⟩ = some (V i)
  c2 : ∀ i, i < n → w.cell? ⟨blk, off + i * 4 + 2, none⟩ = some (.int .i64 (G i))
  c3 : ∀ i, i < n → w.cell? ⟨blk, off + i * 4 + 3, none⟩ = some (.bool (P i).t)
  rd : ∀ i, i < n → Rd w (V i) (vb (P i).b)
  gap : ∀ i, i < n → (P i).g = gapN (G i)
  sum : sumB P n ≤ 1048576
/-- the line and the words of the first k pieces -/
def lineN (P : Nat → Pc) : Nat → List UInt8 × List W
  | 0 => ([], [])
  | k + 1 => stepP (lineN P k) (P k)
theorem lineN_fold (P : Nat → Pc) (k : Nat) : lineN P k = ((List.range k).map P).foldl stepP ([], []) := by
  induction k with
  | zero => rfl
  | succ k ih => rw [List.range_succ, List.map_append, List.foldl_append, ← ih]; rfl
theorem formL_len (q : Bool) (b : List UInt8) : (formL q b).length ≤ 4 * b.length + 2 := by
  unfold formL
  split
  · have := length_qbs b; simp only [quoteL, List.length_cons, List.length_append, List.length_nil]; omega
  · omega
theorem gap_len (p : Pc) (z : Int) (h : p.g = gapN z) : p.gap.length ≤ 5 := by
  unfold Pc.gap gapN at *
  have : p.g ≤ 4 := by rw [h]; split; omega; split <;> omega
  split <;> simp <;> omega
theorem lineN_len (P : Nat → Pc) (G : Nat → Int) (n : Nat) (hg : ∀ i, i < n → (P i).g = gapN (G i)) : ∀ k, k ≤ n → (lineN P k).1.length ≤ 4 * sumB P k ∧ (lineN P k).2.length ≤ k
  | 0, _ => ⟨Nat.le_refl _, Nat.le_refl _⟩
  | k + 1, h => by
    have ih := lineN_len P G n hg k (by omega)
    have h1 := formL_len (P k).q (P k).b
    have h2 := gap_len (P k) _ (hg k (by omega))
    simp only [lineN, sumB]
    unfold stepP
    split
    · simp only [List.length_append, List.length_singleton]; omega
    · omega
/-- the midst of a round: the piece in a block of its own, the line and the words so far -/
structure Mid (B : Nat) (w0 wx : World) (pb : Nat) (cs : Array Value) (vl : Value) (l : List UInt8) (vw : Value) (wl : List W) : Prop where
  ol : wx.ownsRow B 5 1 vl l.length (vb l)
  ow : wx.ownsRow B 30 3 vw wl.length (ww wl)
  hb : Below B w0 wx
  blk : wx.heap[pb]? = some (.cells cs 27 (0, 0))
  pB : B ≤ pb
theorem row_not_block {w : World} {B s n k : Nat} {e : TypeId} {v : Value} {xs : List Value} {cs : Array Value} {t : TypeId} (h : w.ownsRow B e s v n xs) (hk : w.heap[k]? = some (.cells cs t (0, 0))) (hne : e ≠ t) : some k ≠ v.ownBlock := by
  rcases h.2 with ⟨rfl, _⟩ | ⟨g, cap, cur, rfl, _, hg, _⟩
  · simp [Value.ownBlock]
  · intro he
    simp only [Value.ownBlock, Option.some.injEq] at he
    subst he
    rw [hg] at hk
    simp only [Option.some.injEq, Obj.cells.injEq] at hk
    exact hne hk.2.1
theorem slice_form {w : World} {B s n : Nat} {e : TypeId} {v : Value} {xs : List Value} (h : w.ownsRow B e s v n xs) : ∃ ao ca, v = .slice ao n ca := by
  rcases h.2 with ⟨rfl, rfl⟩ | ⟨g, cap, cur, rfl, _⟩
  · exact ⟨_, _, rfl⟩
  · exact ⟨_, _, rfl⟩
namespace Mid
variable {B : Nat} {w0 wx w2 : World} {pb : Nat} {cs : Array Value} {vl vl' : Value} {l l' : List UInt8} {vw vw' : Value} {wl wl' : List W}
theorem lt (h : Mid B w0 wx pb cs vl l vw wl) : pb < wx.heap.size := lt_of_block h.blk
theorem size (h : Mid B w0 wx pb cs vl l vw wl) : B ≤ wx.heap.size := Nat.le_of_lt (Nat.lt_of_le_of_lt h.pB h.lt)
theorem cell (h : Mid B w0 wx pb cs vl l vw wl) (i : Nat) : wx.cell? ⟨pb, i, none⟩ = cs[i]? := cell_of_row _ _ _ _ _ _ h.blk
theorem later (h : Mid B w0 wx pb cs vl l vw wl) (hb : Below wx.heap.size wx w2) : Mid B w0 w2 pb cs vl l vw wl :=
  ⟨h.ol.kept (row := none) ⟨hb.os, hb.tape, hb.output, hb.size, fun k hk _ => hb.block k hk⟩ (by cases hv : vl.ownBlock <;> simp),
   h.ow.kept (row := none) ⟨hb.os, hb.tape, hb.output, hb.size, fun k hk _ => hb.block k hk⟩ (by cases hv : vw.ownBlock <;> simp),
   h.hb.trans (hb.mono h.size), (hb.block _ h.lt).trans h.blk, h.pB⟩
theorem line (h : Mid B w0 wx pb cs vl l vw wl) (hg : wx.grownBy w2 vl.ownBlock) (ho : w2.ownsRow B 5 1 vl' l'.length (vb l')) : Mid B w0 w2 pb cs vl' l' vw wl :=
  ⟨ho, h.ow.kept hg (rows_apart h.ow h.ol (by decide)), h.hb.grown hg h.size (fun k hk => (h.ol.lt k hk).1), (hg.block pb h.lt (row_not_block h.ol h.blk (by decide))).trans h.blk, h.pB⟩
theorem word (h : Mid B w0 wx pb cs vl l vw wl) (hg : wx.grownBy w2 vw.ownBlock) (ho : w2.ownsRow B 30 3 vw' wl'.length (ww wl')) : Mid B w0 w2 pb cs vl l vw' wl' :=
  ⟨h.ol.kept hg (rows_apart h.ol h.ow (by decide)), ho, h.hb.grown hg h.size (fun k hk => (h.ow.lt k hk).1), (hg.block pb h.lt (row_not_block h.ow h.blk (by decide))).trans h.blk, h.pB⟩
theorem lineA (h : Mid B w0 wx pb cs vl l vw wl) (o : Obj) (hg : (wx.alloc o).grownBy w2 vl.ownBlock) (ho : w2.ownsRow B 5 1 vl' l'.length (vb l')) : Mid B w0 w2 pb cs vl' l' vw wl :=
  h.line (grownBy_trans (World.grownBy_alloc wx o _) hg (.inl rfl)) ho
end Mid
set_option maxRecDepth 100000 in
set_option maxHeartbeats 16000000 in
theorem words_walk (ao : Option Addr) (n cap : Nat) (V : Nat → Value) (P : Nat → Pc) (G : Nat → Int) (cm : ByteArray) (w : World) (h1 : n ≤ cap) (h2 : cap ≤ 9223372036854775807) (hcm : cm.size ≤ 1048576) (hP : n = 0 ∨ ∃ blk off, ao = some ⟨blk, off, none⟩ ∧ PsAt w blk off n V P G) (hpow : Pow10 w) :
    Calls Tryd.prog 3 #[.slice ao n cap, .string cm] w fun e w' => e = .returned (.bool true) ∧ Below w.heap.size w w' := by
  obtain ⟨i0, hi, hz0, hz1, hz2⟩ := info_parts infoBr
  obtain ⟨iW, zW, hiW, hw0, hw1, hw2, hw3⟩ := infoW_parts
  have hgapA : ∀ i, i < n → (P i).g = gapN (G i) := by
    rcases hP with h | ⟨_, _, _, hA⟩
    · intro i hi; omega
    · exact hA.gap
  have hsumA : sumB P n ≤ 1048576 := by
    rcases hP with h | ⟨_, _, _, hA⟩
    · subst h; exact Nat.zero_le _
    · exact hA.sum
  replace hgapA := Lib.hid hgapA
  replace hP := Lib.hid hP
  go_enter Tryd.func3, Tryd.ntmps3
  go_wp2_with (go_at_call 7; refine (head_yes _ hpow).mono ?_; rintro e w1 ⟨rfl, hb1⟩)
  go_loopw [5, 6, 7] (fun vl vw i wr => ∃ (k : Nat), k ≤ n ∧ i = .int .i64 k ∧ wr.ownsRow w.heap.size 5 1 vl (lineN P k).1.length (vb (lineN P k).1) ∧ wr.ownsRow w.heap.size 30 3 vw (lineN P k).2.length (ww (lineN P k).2) ∧ Below w.heap.size w wr) (fun _ _ i _ => n - (intOf i).toNat)
  case atStart => exact ⟨0, by omega, rfl, World.ownsRow_nil _ _ _ _, World.ownsRow_nil _ _ _ _, hb1⟩
  case round =>
    obtain ⟨wo, rfl⟩ : ∃ wo, wo = wr := ⟨wr, rfl⟩
    obtain ⟨vl, rfl⟩ : ∃ b, b = u5 := ⟨u5, rfl⟩
    obtain ⟨vw, rfl⟩ : ∃ b, b = u6 := ⟨u6, rfl⟩
    obtain ⟨k, hk, rfl, ol, ow, hb⟩ := hrel
    by_cases hlt : k < n
    ·--BIG
      obtain ⟨blk, off, rfl, hA⟩ := hP.out.resolve_left (by omega)
      have hblk := hA.lt
      have d0 := (hb.cell (p := ⟨blk, off + k * 4, none⟩) hblk).trans (hA.c0 k hlt)
      have d1 := (hb.cell (p := ⟨blk, off + k * 4 + 1, none⟩) hblk).trans (hA.c1 k hlt)
      have d2 := (hb.cell (p := ⟨blk, off + k * 4 + 2, none⟩) hblk).trans (hA.c2 k hlt)
      have d3 := (hb.cell (p := ⟨blk, off + k * 4 + 3, none⟩) hblk).trans (hA.c3 k hlt)
      have hrd := (hA.rd k hlt).mono hb
      have hrd0 := hA.rd k hlt
      have hst : lineN P (k + 1) = stepP (lineN P k) (P k) := rfl
      have hgp := hA.gap k hlt
      have hsum := hA.sum
      have hsm := sumB_mono P (show k + 1 ≤ n by omega)
      have hk5 := sumB_ge P k
      simp only [sumB] at hsm
      obtain ⟨hll, hlw⟩ := lineN_len P G n hA.gap k (by omega)
      obtain ⟨p, hp⟩ : ∃ p, P k = p := ⟨_, rfl⟩
      rw [hp] at d0 d3 hrd hrd0 hst hgp hsm
      obtain ⟨q, b, g, t⟩ := p
      simp only at d0 d3 hrd hrd0 hgp hsm
      generalize hG : G k = z at *
      generalize hV : V k = v at *
      obtain ⟨oa, ca, rfl, a1, a2, a3⟩ := hrd.bytes
      generalize hL : lineN P k = L at *
      obtain ⟨l, wl⟩ := L
      simp only at ol ow hll hlw
      replace hrd0 := Lib.hid hrd0; replace ol := Lib.hid ol; replace ow := Lib.hid ow; replace hb := Lib.hid hb; replace hst := Lib.hid hst; replace hp := Lib.hid hp; replace hL := Lib.hid hL; replace hV := Lib.hid hV; replace hG := Lib.hid hG; replace a3 := Lib.hid a3; replace hgp := Lib.hid hgp
      clear hA
      by_cases hkp : q = true ∨ plainWd b = true
      · go_upto_region 9 with fail
        obtain ⟨cs, hcs⟩ : ∃ cs : Array Value, #[Value.bool q, Value.slice oa b.length ca, Value.int IntKind.i64 z, Value.bool t] = cs := ⟨_, rfl⟩
        have hM : Mid w.heap.size w (wo.alloc (Obj.cells #[Value.bool q, Value.slice oa b.length ca, Value.int IntKind.i64 z, Value.bool t] 27)) wo.heap.size cs vl l vw wl :=
          ⟨ol.out.alloc _, ow.out.alloc _, hb.out.alloc hb.out.size _, by rw [← hcs]; exact heap_alloc_new _ _, hb.out.size⟩
        have hrd1 : Rd (wo.alloc (Obj.cells #[Value.bool q, Value.slice oa b.length ca, Value.int IntKind.i64 z, Value.bool t] 27)) (Value.slice oa b.length ca) (vb b) := hrd.alloc _
        generalize (wo.alloc (Obj.cells #[Value.bool q, Value.slice oa b.length ca, Value.int IntKind.i64 z, Value.bool t] 27)) = wp at *
        generalize wo.heap.size = pb at *
        have e0 := (hM.cell 0).trans (by rw [← hcs]; rfl : _ = some (.bool q))
        have e1 := (hM.cell 1).trans (by rw [← hcs]; rfl : _ = some (.slice oa b.length ca))
        clear d0 d1 d2 d3
        have vlo : ∃ ao' ca', vl = .slice ao' l.length ca' := slice_form hM.ol
        obtain ⟨al, cl, rfl⟩ := vlo
        replace hM := Lib.hid hM
        go_cut [37] (fun c wx => c = .bool false ∧ wx = wp)
        case first =>
          cases q with
          | true =>
            go_wp2_with fail
            go_meet
            case rel => exact ⟨rfl, rfl⟩
          | false =>
            have hpl : plainWd b = true := hkp.resolve_left (by simp)
            go_wp2_with (go_at_call 8; refine (plainw_any _ b _ hrd1).mono ?_; rintro e w2 ⟨rfl, hw⟩; rw [hw, hpl]; clear hw w2)
            go_meet
            case rel => exact ⟨rfl, rfl⟩
        case rest =>
          obtain ⟨rfl, hw⟩ := hcut
          obtain rfl := hw.symm
          have e3 := (hM.out.cell 3).trans (by rw [← hcs]; rfl : _ = some (.bool t))
          have e2 := (hM.out.cell 2).trans (by rw [← hcs]; rfl : _ = some (.int .i64 z))
          go_upto_if 39 with fail
          go_cut [5] (fun vx wx => Mid w.heap.size w wx pb cs vx (l ++ if t then [9] else []) vw wl)
          case first =>
            cases t with
            | true =>
              have hs1 := hM.out.size
              go_wp2_with (at_builtin; refine wpList_append_onto' _ rfl _ _ 24 rfl w.heap.size 5 i0 (.int .u8 0) 1 1 Tryd.underlying24 hi hz0 hz1 hz2 rfl (by decide) _ _ _ rfl (hM.out.ol.alloc _) ⟨wp.heap.size, 0, none⟩ 1 1 [.int .u8 9] rfl rfl ?c1 ?c2 ?c3 ?c4 ?c5 ?_)
              case c2 => simp [Value.oneCell']
              case c3 => simp only [maxLen]; omega
              case c4 => omega
              case c5 => first | omega | (simp; omega)
              intro v1 w2 ho1 hO1
              have hM2 : Mid w.heap.size w w2 pb cs v1 (l ++ [9]) vw wl := hM.out.lineA _ hO1.1 (by rw [vb_append, List.length_append]; exact ho1)
              clear ho1 hO1
              replace hM2 := Lib.hid hM2
              go_wp2_with fail
              go_meet
              case rel => exact hM2.out
            | false =>
              go_wp2_with fail
              go_meet
              case rel => simpa using hM.out
          case rest =>
            clear hM e0 e1 e2 e3
            obtain ⟨l1, hl1⟩ : ∃ l1, l ++ (if t then [9] else []) = l1 := ⟨_, rfl⟩
            rw [hl1] at hcut
            have hl1n : l1.length ≤ l.length + 1 := by rw [← hl1]; cases t <;> simp
            replace hl1 := Lib.hid hl1
            have e0 := (hcut.cell 0).trans (by rw [← hcs]; rfl : _ = some (.bool q))
            have e1 := (hcut.cell 1).trans (by rw [← hcs]; rfl : _ = some (.slice oa b.length ca))
            have e2 := (hcut.cell 2).trans (by rw [← hcs]; rfl : _ = some (.int .i64 z))
            replace hM := Lib.hid hcut
            clear hcut
            have hg1 : 1 ≤ g ∧ g ≤ 4 := by rw [hgp.out]; unfold gapN; split; omega; split <;> omega
            have hgr : ∀ j : Nat, j ≤ g → (j < g ↔ j < 4 ∧ ((j : Int) < z ∨ j = 0)) := by
              intro j hj
              have := hgp.out
              unfold gapN at this
              split at this
              · omega
              · split at this <;> omega
            replace hgr := Lib.hid hgr
            go_upto_block 2 with fail
            go_cut [5, 9] (fun vx _ wx => Mid w.heap.size w wx pb cs vx (l1 ++ List.replicate g 32) vw wl)
            case first =>
              go_wp2_with fail
              go_loopw [5, 9] (fun vx i wr => ∃ (j : Nat), j ≤ g ∧ i = .int .i64 j ∧ Mid w.heap.size w wr pb cs vx (l1 ++ List.replicate j 32) vw wl) (fun _ i _ => g - (intOf i).toNat)
              case atStart => exact ⟨0, by omega, rfl, by simpa using hM.out⟩
              case round =>
                clear hM e0 e1 e2
                obtain ⟨wi, rfl⟩ : ∃ wo, wo = wr := ⟨wr, rfl⟩
                obtain ⟨vx, rfl⟩ : ∃ b, b = u5 := ⟨u5, rfl⟩
                obtain ⟨j, hj, rfl, hM⟩ := hrel
                have e0 := (hM.cell 0).trans (by rw [← hcs]; rfl : _ = some (.bool q))
                have e1 := (hM.cell 1).trans (by rw [← hcs]; rfl : _ = some (.slice oa b.length ca))
                have e2 := (hM.cell 2).trans (by rw [← hcs]; rfl : _ = some (.int .i64 z))
                replace hM := Lib.hid hM
                have hgj := hgr.out j hj
                by_cases hjg : j < g
                · obtain ⟨g1, g2⟩ := hgj.1 hjg
                  have f1 : decide ((j : Int) < 4) = true := decide_eq_true (by omega)
                  have hs1 := hM.out.size
                  by_cases z1 : (j : Int) < z
                  · have f2 : decide ((j : Int) < z) = true := decide_eq_true z1
                    go_wp2_with (at_builtin; refine wpList_append_onto' _ rfl _ _ 24 rfl w.heap.size 5 i0 (.int .u8 0) 1 1 Tryd.underlying24 hi hz0 hz1 hz2 rfl (by decide) _ _ _ rfl (hM.out.ol.alloc _) ⟨wi.heap.size, 0, none⟩ 1 1 [.int .u8 32] rfl rfl ?d1 ?d2 ?d3 ?d4 ?d5 ?_)
                    all_goals try exact cell_one_new _ _ _
                    case d2 => simp [Value.oneCell']
                    case d3 => simp [maxLen]; omega
                    case d4 => first | omega | (simp only [List.length_append, List.length_replicate]; omega) | (simp; omega)
                    case d5 => first | omega | (simp; omega)
                    intro v1 w2 ho1 hO1
                    have hM2 : Mid w.heap.size w w2 pb cs v1 (l1 ++ List.replicate (j + 1) 32) vw wl := hM.out.lineA _ hO1.1 (by rw [show (l1 ++ List.replicate (j + 1) (32 : UInt8)).length = l1.length + j + 1 by simp; omega, List.replicate_succ', ← List.append_assoc, vb_append]; exact ho1)
                    clear ho1 hO1
                    replace hM2 := Lib.hid hM2
                    go_wp2_with fail
                    go_roundw
                    case rel => exact ⟨j + 1, by omega, by go_num, hM2.out⟩
                    case measure => simp [intOf]; omega
                  · have f2 : decide ((j : Int) < z) = false := decide_eq_false z1
                    have f3 : ((j : Int) == 0) = true := by simp; omega
                    go_wp2_with (at_builtin; refine wpList_append_onto' _ rfl _ _ 24 rfl w.heap.size 5 i0 (.int .u8 0) 1 1 Tryd.underlying24 hi hz0 hz1 hz2 rfl (by decide) _ _ _ rfl (hM.out.ol.alloc _) ⟨wi.heap.size, 0, none⟩ 1 1 [.int .u8 32] rfl rfl ?e1 ?e2 ?e3 ?e4 ?e5 ?_)
                    all_goals try exact cell_one_new _ _ _
                    case e2 => simp [Value.oneCell']
                    case e3 => simp [maxLen]; omega
                    case e4 => first | omega | (simp only [List.length_append, List.length_replicate]; omega) | (simp; omega)
                    case e5 => first | omega | (simp; omega)
                    intro v1 w2 ho1 hO1
                    have hM2 : Mid w.heap.size w w2 pb cs v1 (l1 ++ List.replicate (j + 1) 32) vw wl := hM.out.lineA _ hO1.1 (by rw [show (l1 ++ List.replicate (j + 1) (32 : UInt8)).length = l1.length + j + 1 by simp; omega, List.replicate_succ', ← List.append_assoc, vb_append]; exact ho1)
                    clear ho1 hO1
                    replace hM2 := Lib.hid hM2
                    go_wp2_with fail
                    go_roundw
                    case rel => exact ⟨j + 1, by omega, by go_num, hM2.out⟩
                    case measure => simp [intOf]; omega
                · obtain rfl : j = g := by omega
                  by_cases z1 : (j : Int) < 4
                  · have f1 : decide ((j : Int) < 4) = true := decide_eq_true z1
                    have f2 : decide ((j : Int) < z) = false := decide_eq_false (by omega)
                    have f3 : ((j : Int) == 0) = false := by simp; omega
                    go_wp2_with fail
                    go_meet
                    case rel => exact hM.out
                  · have f1 : decide ((j : Int) < 4) = false := decide_eq_false z1
                    go_wp2_with fail
                    go_meet
                    case rel => exact hM.out
            case rest =>
              clear hM e0 e1 e2
              obtain ⟨l2, hl2⟩ : ∃ l2, l1 ++ List.replicate g 32 = l2 := ⟨_, rfl⟩
              rw [hl2] at hcut
              have hl2n : l2.length ≤ l.length + 5 := by rw [← hl2]; simp; omega
              replace hl2 := Lib.hid hl2
              have e0 := (hcut.cell 0).trans (by rw [← hcs]; rfl : _ = some (.bool q))
              have e1 := (hcut.cell 1).trans (by rw [← hcs]; rfl : _ = some (.slice oa b.length ca))
              have hrd2 := hrd0.out.mono hcut.hb
              obtain ⟨al, cl, rfl⟩ := slice_form hcut.ol
              have hcv := conv_bytes (P := Tryd.prog) hrd2 24 5 9 Tryd.underlying24 Tryd.underlying5 Tryd.underlying9
              replace hM := Lib.hid hcut
              clear hcut
              have hs1 := hM.out.size
              go_wp2_with (at_builtin; refine wpList_append_lies _ rfl _ _ 25 rfl w.heap.size 30 iW zW 3 32 Tryd.underlying25 hiW hw0 hw1 hw2 hw3 (by omega) _ _ _ rfl (hM.out.ow.alloc _) ⟨wc.heap.size, 0, none⟩ 1 1 [.string ⟨b.toArray⟩, .bool q, .int .i64 ((l2.length : Int) + 1)] rfl rfl ?g1 ?g2 (by omega) ?g3 ?g4 ?g5 (wc.heap.size + 1) ?g6 ?_)
              all_goals try exact cells_new _ _ _ _
              case g2 => exact ⟨rfl, rfl, rfl⟩
              case g3 => simp only [maxLen]; omega
              case g4 => omega
              case g5 => omega
              intro gg cap2 w2 hown hgrow hat hgl
              have hM2 : Mid w.heap.size w w2 pb cs (.slice al l2.length cl) l2 (.slice (some ⟨gg, 0, none⟩) (wl.length + 1) cap2) (wl ++ [(⟨b.toArray⟩, q, l2.length + 1)]) :=
                hM.out.word (grownBy_trans (World.grownBy_alloc wc _ _) hgrow (.inl rfl)) (by rw [List.length_append, ww_append]; exact hown)
              have hrd3 := hrd0.out.mono hM2.hb
              have e0' := (hM2.cell 0).trans (by rw [← hcs]; rfl : _ = some (.bool q))
              have e1' := (hM2.cell 1).trans (by rw [← hcs]; rfl : _ = some (.slice oa b.length ca))
              have hs2 := hM2.size
              clear hown hgrow hat hgl hM e0 e1 hcv
              replace hM2 := Lib.hid hM2
              have hfin : ∀ l3, l3 = l2 ++ formL q b → stepP (l, wl) ⟨q, b, g, t⟩ = (l3, wl ++ [(⟨b.toArray⟩, q, l2.length + 1)]) := by
                intro l3 h3
                have hkeep : (⟨q, b, g, t⟩ : Pc).keep = true := by unfold Pc.keep; rcases hkp with h | h <;> simp [h]
                have hgap : l ++ (⟨q, b, g, t⟩ : Pc).gap = l2 := by rw [← hl2.out, ← hl1.out]; unfold Pc.gap; simp
                unfold stepP
                rw [if_pos hkeep, hgap, h3]
              replace hfin := Lib.hid hfin
              cases q with
              | true =>
                have hql : (quoteL b).length ≤ 4 * b.length + 2 := by have := length_qbs b; simp only [quoteL, List.length_cons, List.length_append, List.length_nil]; omega
                have hqs : (⟨(quoteL b).toArray⟩ : ByteArray).size = (quoteL b).length := rfl
                obtain ⟨qs, hqd⟩ : ∃ qs : ByteArray, ⟨(quoteL b).toArray⟩ = qs := ⟨_, rfl⟩
                rw [hqd] at hqs
                have hqv : Lib.strCells qs = vb (quoteL b) := by rw [← hqd]; rfl
                replace hqd := Lib.hid hqd; replace hqv := Lib.hid hqv
                go_wp2_with (first | (go_at_call 9; refine (quote_any _ b _ hrd3 (by omega)).mono ?_; rw [hqd.out]; rintro e w3 ⟨rfl, hb3⟩; have hM3 := hM2.out.later hb3) | (at_builtin; refine Lib.wpList_append_own_string _ rfl _ _ 24 9 rfl w.heap.size 5 i0 Tryd.underlying24 Tryd.underlying9 hi hz0 hz1 hz2 _ _ _ rfl hM3.ol _ rfl ?h3 ?h4 ?h5 ?_))
                case h3 => rw [hqs]; unfold maxLen; omega
                case h4 => rw [hqs]; omega
                case h5 => exact hM3.size
                intro v4 w4 ho4 hg4 _
                have hM4 := hM3.line hg4 (l' := l2 ++ quoteL b) (by rw [List.length_append, vb_append, ← hqv.out]; exact ho4)
                clear ho4 hg4 hM3
                replace hM4 := Lib.hid hM4
                have hF := hfin.out _ rfl
                rw [← hst.out] at hF
                replace hF := Lib.hid hF
                go_wp2_with fail
                go_roundw
                case rel => exact ⟨k + 1, by omega, by go_num, by rw [hF.out]; exact hM4.out.ol, by rw [hF.out]; simpa using hM4.out.ow, hM4.out.hb⟩
                case measure => simp [intOf]; omega
              | false =>
                have lvb := length_vb b
                go_wp2_with (at_builtin; refine wpList_append_rd _ rfl _ _ 24 rfl w.heap.size 5 i0 (.int .u8 0) 1 Tryd.underlying24 hi hz0 hz1 hz2 rfl _ _ _ rfl hM2.out.ol _ (vb b) rfl hrd3 (vb_oneCell b) ?h3 ?h4 ?h5 ?_)
                case h3 => rw [lvb]; unfold maxLen; omega
                case h4 => rw [lvb]; omega
                case h5 => exact hM2.out.size
                intro v4 w4 ho4 hO4
                have hM4 := hM2.out.line hO4.1 (l' := l2 ++ b) (by rw [List.length_append, vb_append]; exact ho4)
                clear ho4 hO4 hM2
                replace hM4 := Lib.hid hM4
                have hF := hfin.out _ rfl
                rw [← hst.out] at hF
                replace hF := Lib.hid hF
                go_wp2_with fail
                go_roundw
                case rel => exact ⟨k + 1, by omega, by go_num, by rw [hF.out]; exact hM4.out.ol, by rw [hF.out]; simpa using hM4.out.ow, hM4.out.hb⟩
                case measure => simp [intOf]; omega
      · have hq0 : q = false := by cases q; rfl; exact absurd (.inl rfl) hkp
        subst hq0
        have hpl : plainWd b = false := by cases h : plainWd b; rfl; exact absurd (.inr h) hkp
        have hF : stepP (l, wl) ⟨false, b, g, t⟩ = (l, wl) := by unfold stepP Pc.keep; rw [if_neg (by simp [hpl])]
        rw [← hst.out] at hF
        replace hF := Lib.hid hF
        have hrd1 : Rd (wo.alloc (Obj.cells #[Value.bool false, Value.slice oa b.length ca, Value.int IntKind.i64 z, Value.bool t] 27)) (Value.slice oa b.length ca) (vb b) := hrd.alloc _
        have hs1 := hb.out.size
        go_wp2_with (go_at_call 8; refine (plainw_any _ b _ hrd1).mono ?_; rintro e w2 ⟨rfl, hw⟩; rw [hw, hpl]; clear hw w2)
        go_roundw
        case rel => exact ⟨k + 1, by omega, by go_num, by rw [hF.out]; exact ol.out.alloc _, by rw [hF.out]; exact ow.out.alloc _, hb.out.alloc hs1 _⟩
        case measure => simp [intOf]; omega
--GIB
    · obtain rfl : k = n := by omega
      obtain ⟨hll, hlw⟩ := lineN_len P G k hgapA.out k (Nat.le_refl _)
      have hk5 := sumB_ge P k
      have hpg : ∀ p ∈ (List.range k).map P, 1 ≤ p.g := by
        intro p hp
        obtain ⟨i, hi, rfl⟩ := List.mem_map.1 hp
        rw [hgapA.out i (List.mem_range.1 hi)]
        unfold gapN; split; omega; split <;> omega
      have hfold := lineN_fold P k
      generalize hL : lineN P k = L at *
      obtain ⟨l, wl⟩ := L
      simp only at ol ow hll hlw
      have hcv := conv_bytes (P := Tryd.prog) (Rd.of_own ol) 24 5 9 Tryd.underlying24 Tryd.underlying5 Tryd.underlying9
      obtain ⟨S, hS⟩ : ∃ S : ByteArray, (⟨l.toArray⟩ : ByteArray) ++ ⟨#[32, 9, 35]⟩ ++ cm = S := ⟨_, rfl⟩
      have hSl : S.data.toList = l ++ ([32, 9, 35] ++ cm.data.toList) := by rw [← hS]; simp
      have hSs : S.size = l.length + 3 + cm.size := by rw [← hS]; simp; rfl
      have hW1 := words_comment S _ cm.data.toList hpg (by rw [← hfold]; exact hSl)
      rw [← hfold] at hW1
      simp only at hW1
      obtain ⟨al, cl, rfl⟩ := slice_form ol
      obtain ⟨aw, cw, rfl⟩ := slice_form ow
      have hbs := hb.size
      replace ol := Lib.hid ol; replace ow := Lib.hid ow; replace hb := Lib.hid hb; replace hL := Lib.hid hL; replace hfold := Lib.hid hfold; replace hSl := Lib.hid hSl; replace hW1 := Lib.hid hW1
      go_upto_region 21 with (go_at_call 10; refine (words_any S _ (by omega)).mono ?_; rintro e w2 ⟨hb2, hr2⟩; rw [hW1.out] at hr2; obtain ⟨v2, rfl, ho2⟩ := hr2; obtain ⟨ag, cg, rfl⟩ := slice_form ho2)
      have ol2 := ol.out.kept (row := none) ⟨hb2.os, hb2.tape, hb2.output, hb2.size, fun k hk _ => hb2.block k hk⟩ (by cases (Value.slice al l.length cl).ownBlock <;> simp)
      have ow2 := ow.out.kept (row := none) ⟨hb2.os, hb2.tape, hb2.output, hb2.size, fun k hk _ => hb2.block k hk⟩ (by cases (Value.slice aw wl.length cw).ownBlock <;> simp)
      have hb3 := hb.out.trans (hb2.mono hbs)
      clear ol ow hb hb2 hcv
      replace ol2 := Lib.hid ol2; replace ow2 := Lib.hid ow2; replace hb3 := Lib.hid hb3; replace ho2 := Lib.hid ho2
      go_wp2_with fail
      go_loopw [13] (fun i wr => ∃ j q : Nat, j ≤ wl.length ∧ i = .int .i64 j ∧ wr = w2.drewN q) (fun i _ => wl.length - (intOf i).toNat)
      case atStart => exact ⟨0, 0, by omega, rfl, rfl⟩
      case round =>
        obtain ⟨j, q, hj, rfl, rfl⟩ := hrel
        by_cases hjl : j < wl.length
        · obtain ⟨gg, c1, e1, _, _⟩ := ho2.out.form (by omega)
          obtain ⟨gw, c2, e2, _, _⟩ := ow2.out.form (by omega)
          simp only [Value.slice.injEq] at e1 e2
          obtain ⟨rfl, _, rfl⟩ := e1
          obtain ⟨rfl, _, rfl⟩ := e2
          obtain ⟨v0, v1, v2⟩ := ww_get wl j hjl
          have x0 := (ho2.out.cellAt (j * 3) (by omega)).trans v0
          have x1 := (ho2.out.cellAt (j * 3 + 1) (by omega)).trans v1
          have x2 := (ho2.out.cellAt (j * 3 + 2) (by omega)).trans v2
          have y0 := (ow2.out.cellAt (j * 3) (by omega)).trans v0
          have y1 := (ow2.out.cellAt (j * 3 + 1) (by omega)).trans v1
          have y2 := (ow2.out.cellAt (j * 3 + 2) (by omega)).trans v2
          clear v0 v1 v2
          have hEq : ∀ w' : World, (Op.equalIn 10000 30 (.agg #[.string (wl[j]).1, .bool (wl[j]).2.1, .int .i64 ((wl[j]).2.2 : Int)]) (.agg #[.string (wl[j]).1, .bool (wl[j]).2.1, .int .i64 ((wl[j]).2.2 : Int)])).run Tryd.prog w' = .ok true w' := fun w' => by
            rw [eq_word]; simp
          generalize wl[j] = x at *
          obtain ⟨xs, xq, xc⟩ := x
          simp only at x0 x1 x2 y0 y1 y2 hEq
          have jl : (j : Int) < (wl.length : Int) := by omega
          go_upto_region 26 with fail
          go_quiet (fail)
          go_wp2_with fail
          go_roundw
          case rel => exact ⟨j + 1, _, by omega, by go_num, rfl⟩
          case measure => simp [intOf]; omega
        · obtain rfl : j = wl.length := by omega
          have jl : decide ((wl.length : Int) < (wl.length : Int)) = false := decide_eq_false (by omega)
          obtain ⟨wq, hwq⟩ : ∃ wq, w2.drewN q = wq := ⟨_, rfl⟩
          have olq : wq.ownsRow w.heap.size 5 1 (.slice al l.length cl) l.length (vb l) := by rw [← hwq]; exact ol2.out
          have hbq : Below w.heap.size w wq := by rw [← hwq]; exact below_drewN hb3.out _
          go_upto_region 28 with fail
          clear hwq
          obtain ⟨v5, w5, hsb, hrd5, hb5⟩ := conv_to_bytes (P := Tryd.prog) wq.drew 9 24 5 cm Tryd.underlying9 Tryd.underlying24 Tryd.underlying5 (by simp only [maxLen]; omega)
          have hq5 : Below wq.heap.size wq w5 := (Below.drew (Below.refl _ _)).trans hb5
          have hbqs := hbq.size
          have hW : ∀ w', Below wq.heap.size wq w' → (convert 24 9 (.slice al l.length cl)).run Tryd.prog w' = .ok (.string ⟨l.toArray⟩) w' := fun w' h =>
            conv_bytes (P := Tryd.prog) ((Rd.of_own olq).mono h) 24 5 9 Tryd.underlying24 Tryd.underlying5 Tryd.underlying9
          have hA0 := hW _ (Below.drew (Below.refl _ _))
          have hA1 := hW _ hq5
          replace hW := Lib.hid hW
          obtain ⟨Q, hQ⟩ : ∃ Q : ByteArray, (⟨(quoteL cm.data.toList).toArray⟩ : ByteArray) = Q := ⟨_, rfl⟩
          have hQs : Q.size = (quoteL cm.data.toList).length := by rw [← hQ]; rfl
          have hql : (quoteL cm.data.toList).length ≤ 4 * cm.size + 2 := by have := length_qbs cm.data.toList; rw [size_list] at this; simp only [quoteL, List.length_cons, List.length_append, List.length_nil]; omega
          obtain ⟨T, hT⟩ : ∃ T : ByteArray, (⟨l.toArray⟩ : ByteArray) ++ ⟨#[32]⟩ ++ Q ++ ⟨#[120]⟩ = T := ⟨_, rfl⟩
          obtain ⟨T1, hT1⟩ : ∃ T1 : ByteArray, (⟨l.toArray⟩ : ByteArray) ++ ⟨#[32]⟩ = T1 := ⟨_, rfl⟩
          have hT1s : T1.size = l.length + 1 := by rw [← hT1]; simp; rfl
          have hlz : (⟨l.toArray⟩ : ByteArray).size = l.length := rfl
          have add1 : ∀ w', (Op.stringOp .add (⟨l.toArray⟩ : ByteArray) ⟨#[32]⟩).run Tryd.prog w' = .ok (.string T1) w' := fun w' => by rw [← hT1]; exact run_string_add_sum w' _ _ (by rw [hlz]; show l.length + 1 ≤ _; omega)
          have add2 : ∀ w', (Op.stringOp .add T1 Q).run Tryd.prog w' = .ok (.string (T1 ++ Q)) w' := fun w' => run_string_add_sum w' _ _ (by omega)
          have add3 : ∀ w', (Op.stringOp .add (T1 ++ Q) (⟨#[120]⟩ : ByteArray)).run Tryd.prog w' = .ok (.string T) w' := fun w' => by rw [← hT, ← hT1]; exact run_string_add_sum w' _ _ (by rw [hT1]; simp; rw [hT1s, hQs]; show _ + 1 ≤ _; omega)
          replace hT1 := Lib.hid hT1
          have hTl : T.data.toList = l ++ ([32] ++ (quoteL cm.data.toList ++ [120])) := by rw [← hT, ← hQ]; simp
          have hTs : T.size = l.length + Q.size + 2 := by rw [← size_list, hTl, hQs]; simp; omega
          have hW2 := words_glued T _ cm.data.toList hpg (by rw [← hfold.out]; exact hTl)
          rw [← hfold.out, ← hQs] at hW2
          simp only at hW2
          replace hQ := Lib.hid hQ; replace hTl := Lib.hid hTl; replace hW2 := Lib.hid hW2; replace hrd5 := Lib.hid hrd5; replace hq5 := Lib.hid hq5
          have hcl : cm.data.toList.length ≤ 35184372088000 := by rw [size_list]; omega
          go_region_with (first
            | (go_at_call 9; refine (quote_any v5 cm.data.toList w5 hrd5.out hcl).mono ?_; rw [hQ.out]; rintro e w6 ⟨rfl, hb6⟩; have hq6 := hq5.out.trans (hb6.mono hq5.out.size); have hA2 := hW.out _ hq6; replace hq6 := Lib.hid hq6)
            | (go_at_call 10; refine (words_any T _ (by omega)).mono ?_; rintro e w7 ⟨hb7, hr7⟩; rw [hW2.out] at hr7; replace hr7 : e = .returned _ := hr7; rw [hr7]; clear hr7; have hq7 := hq6.out.trans (hb7.mono hq6.out.size)))
          all_goals
            clear hsb hA0 hA1 hA2 hrd5 hq5
            obtain ⟨v8, w8, hsb, hrd8, hb8⟩ := conv_to_bytes (P := Tryd.prog) w7 9 24 5 cm Tryd.underlying9 Tryd.underlying24 Tryd.underlying5 (by simp only [maxLen]; omega)
            have hb9 := (hbq.trans (hq7.mono hbqs))
            replace hb9 := Lib.hid hb9; replace hb8 := Lib.hid hb8; replace hrd8 := Lib.hid hrd8
            go_wp2_with (go_at_call 9; refine (quote_any v8 cm.data.toList w8 hrd8.out hcl).mono ?_; rw [hQ.out]; rintro e w9 ⟨rfl, hb10⟩)
            go_ret
            exact ⟨rfl, hb9.out.trans ((hb8.out.trans (hb10.mono hb8.out.size)).mono hb9.out.size)⟩
end Go.Proofs.YtefbogmgcihndaaDoor
