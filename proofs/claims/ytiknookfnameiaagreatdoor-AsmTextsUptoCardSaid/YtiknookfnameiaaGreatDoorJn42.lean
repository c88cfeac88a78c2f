/- Plain laws for the document's reader: what stays within bounds; errors are none. The contract of the reference's Lines. -/
import Derived.Test.YtiknookfnameiaaGreatDoorJn29
import Derived.Test.YtiknookfnameiaaGreatDoorJn25
import Derived.Test.YtiknookfnameiaaGreatDoorJn40
import Derived.Test.YtiknookfnameiaaGreatDoorJn05
import Derived.Test.YtiknookfnameiaaGreatDoorJn06
namespace Go.Proofs.YtiknookfnameiaaGreatDoor
open WP
/-- a piece that can be laid -/
def PieB (p : Pie) : Prop := (p.what = 2 ∨ p.what = 3 → (0 ≤ p.a ∧ p.a < 16) ∧ (0 ≤ p.val ∧ p.val < 4294967296)) ∧ (p.what = 4 → (0 ≤ p.op ∧ p.op < 64) ∧ (0 ≤ p.cond ∧ p.cond < 8))
/-- what is read so far -/
structure RBd (st : RAsm) : Prop where
 pcs : st.pcs.length ≤ 2048
 labs : ∀ q ∈ st.labs, q.2 ≤ 2048
 pie : ∀ p ∈ st.pcs, PieB p
theorem rbd0 : RBd ras0 := ⟨by decide, fun q hq => (List.not_mem_nil hq).elim, fun q hq => (List.not_mem_nil hq).elim⟩
theorem rval_bd {s : ByteArray} {y : ByteArray × Int} (h : rvalF s = some y) : 0 ≤ y.2 ∧ y.2 < 4294967296 := by
 unfold rvalF at h
 split at h
 ·cases h; exact ⟨by show (0 : Int) ≤ 0; decide, by show (0 : Int) < 4294967296; decide⟩
 ·split at h
  ·next v hv => cases h; exact ⟨Int.natCast_nonneg _, by have := num_bd hv; dsimp only; omega⟩
  ·obtain ⟨v, _, rfl⟩ := Option.map_eq_some_iff.1 h
   exact ⟨Int.emod_nonneg _ (by decide), Int.emod_lt_of_pos _ (by decide)⟩
theorem rfields_bd {op : Int} : ∀ (L : List UInt8) (ws : List W) (k : Nat) (x y : Ins × ByteArray × Nat), InsB op x.1 → rfieldsF L ws k x = .inl y → InsB op y.1
 | [], _, _, _, _, hb, h => by cases h; exact hb
 | _ :: _, [], _, _, _, hb, h => by cases h; exact hb
 | c :: cs, w :: ws, k, x, y, hb, h => by
  unfold rfieldsF at h
  split at h
  ·cases h
  ·next z hz =>
   split at hz
   ·cases hz
   ·exact rfields_bd cs ws (k + 1) _ y (rfield_bd hb hz) h
theorem rinstr_bd {op : Nat} {ws : List W} {ln : Nat} {p : Pie} (ho : op < 25) (h : rinstrF op ws ln = .inl p) : PieB p := by
 unfold rinstrF at h
 split at h
 ·cases h
 ·next x hx =>
  cases h
  have hb := rfields_bd (op := (op : Int)) _ _ _ _ _ ⟨rfl, by simp [ins0], by simp [ins0], by simp [ins0], by simp [ins0], by simp [ins0]⟩ hx
  unfold pieceF PieB
  split
  ·exact ⟨fun h => by simp at h, fun h => by simp at h⟩
  ·have := hb.o; have := hb.k
   exact ⟨fun h => by simp at h, fun _ => ⟨⟨by dsimp only; omega, by dsimp only; omega⟩, ⟨by dsimp only; omega, by dsimp only; omega⟩⟩⟩
theorem rown_bd {s : ByteArray} {ws : List W} {ln : Nat} {l : List Pie} (h : rownF s ws ln = .inl l) : ∀ p ∈ l, PieB p := by
 unfold rownF at h
 split at h
 ·split at h
  ·cases h; simp
  ·split at h
   ·cases h
   ·cases h
    intro p hp
    simp only [List.mem_singleton] at hp
    subst hp
    exact ⟨fun h => by simp at h, fun h => by simp at h⟩
 ·split at h
  ·split at h
   ·cases h; simp
   ·split at h
    ·cases h
    ·next a ha =>
     split at h
     ·cases h; simp
     ·split at h
      ·cases h
      ·next y hy =>
       cases h
       have hv : 0 ≤ y.2 ∧ y.2 < 4294967296 := by
        unfold rvalW at hy
        split at hy
        ·cases hy
        ·exact rval_bd hy
       have ha2 : a < 15 := by
        unfold regF at ha
        split at ha
        ·cases ha
        ·have := regA_lt _ _ _ _ ha; omega
       intro p hp
       simp only [List.mem_cons, List.not_mem_nil, or_false] at hp
       rcases hp with rfl | rfl
       ·exact ⟨fun _ => ⟨⟨by dsimp only; omega, by dsimp only; omega⟩, hv⟩, fun h => by simp at h⟩
       ·exact ⟨fun _ => ⟨⟨by dsimp only; omega, by dsimp only; omega⟩, hv⟩, fun h => by simp at h⟩
  ·split at h
   ·cases h; simp
   ·split at h
    ·cases h
    ·cases h
     intro p hp
     rw [List.mem_replicate] at hp
     rw [hp.2]
     exact ⟨fun h => by simp [pc0] at h, fun h => by simp [pc0] at h⟩
theorem namedF_lt2 {s : ByteArray} {o : Nat} (h : namedF s = some o) : o < 25 := by
 have := findT_bd _ _ _ _ _ h
 omega
theorem rpieces_bd {name : W} {ws : List W} {ln : Nat} {l : List Pie} (h : rpiecesF name ws ln = .inl l) : ∀ p ∈ l, PieB p := by
 unfold rpiecesF at h
 split at h
 ·next o ho =>
  split at h
  ·cases h
  ·next q hq =>
   cases h
   intro p hp
   simp only [List.mem_singleton] at hp
   subst hp
   exact rinstr_bd (namedF_lt2 ho) hq
 ·exact rown_bd h
theorem rstmt_bd {ln : Nat} {name : W} {ops : List W} {st st' : RAsm} (hb : RBd st) (h : rstmtF ln name ops st = .inl st') : RBd st' ∧ st'.labs = st.labs := by
 unfold rstmtF at h
 split at h
 ·cases h
 ·split at h
  ·cases h
  ·split at h
   ·cases h
   ·next l hl =>
    split at h
    ·cases h
    ·split at h
     ·cases h
     ·cases h
      refine ⟨⟨by rw [List.length_append]; omega, hb.labs, fun p hp => ?_⟩, rfl⟩
      rcases List.mem_append.1 hp with hp | hp
      ·exact hb.pie p hp
      ·exact rpieces_bd hl p hp
theorem rtake_bd {ln : Nat} : ∀ (ws : List W) {st st' : RAsm}, RBd st → rtakeF ln ws st = .inl st' → RBd st' ∧ st'.labs.length ≤ st.labs.length + ws.length
 | [], st, st', hb, h => by cases h; exact ⟨hb, by omega⟩
 | w :: ws, st, st', hb, h => by
  unfold rtakeF at h
  split at h
  ·split at h
   ·cases h
   ·split at h
    ·cases h
    ·have hb2 : RBd ⟨st.labs ++ [(cutC w.1, st.pcs.length)], st.pcs⟩ := ⟨hb.pcs, fun q hq => by
      rcases List.mem_append.1 hq with hq | hq
      ·exact hb.labs q hq
      ·simp only [List.mem_singleton] at hq; rw [hq]; exact hb.pcs, hb.pie⟩
     have := rtake_bd ws hb2 h
     refine ⟨this.1, ?_⟩
     have h2 := this.2
     simp only [List.length_append, List.length_cons, List.length_nil] at h2
     rw [List.length_cons]; omega
  ·obtain ⟨h1, h2⟩ := rstmt_bd hb h
   exact ⟨h1, by rw [h2]; omega⟩
theorem rline_bd {ln : Nat} {l : ByteArray} {st st' : RAsm} (hb : RBd st) (h : rlineF ln l st = .inl st') : RBd st' ∧ st'.labs.length ≤ st.labs.length + l.size := by
 unfold rlineF at h
 split at h
 ·cases h
 ·next ws hws =>
  obtain ⟨h1, h2⟩ := rtake_bd ws hb h
  have := (wordsF_bd l ws hws).1
  exact ⟨h1, by omega⟩
theorem rlines_bd : ∀ (L : List ByteArray) {ln : Nat} {st st' : RAsm}, RBd st → rlinesF ln L st = .inl st' → RBd st'
 | [], ln, st, st', hb, h => by cases h; exact hb
 | l :: L, ln, st, st', hb, h => by
  unfold rlinesF at h
  split at h
  ·cases h
  ·next hs => exact rlines_bd L (rline_bd hb hs).1 h
theorem rstmt_err {ln : Nat} {name : W} {ops : List W} {st : RAsm} {f : Flt} (h : rstmtF ln name ops st = .inr f) : f.1 ≠ 0 := by
 unfold rstmtF at h
 split at h
 ·cases h; simp
 ·split at h
  ·cases h; simp
  ·split at h
   ·cases h; simp
   ·split at h
    ·next g hg =>
     cases h
     unfold countM at hg
     split at hg
     ·cases hg; simp
     ·split at hg
      ·cases hg; simp
      ·cases hg
    ·split at h
     ·cases h; simp
     ·cases h
theorem rtake_err {ln : Nat} : ∀ (ws : List W) {st : RAsm} {f : Flt}, rtakeF ln ws st = .inr f → f.1 ≠ 0
 | [], st, f, h => by cases h
 | w :: ws, st, f, h => by
  unfold rtakeF at h
  split at h
  ·split at h
   ·cases h; simp
   ·split at h
    ·cases h; simp
    ·exact rtake_err ws h
  ·exact rstmt_err h
theorem rline_err {ln : Nat} {l : ByteArray} {st : RAsm} {f : Flt} (h : rlineF ln l st = .inr f) : f.1 ≠ 0 := by
 unfold rlineF at h
 split at h
 ·cases h; simp
 ·exact rtake_err _ h
theorem rword_err {base : Int} {labs : List (ByteArray × Nat)} {k : Nat} {x : Pie} {f : Flt} (h : rwordF base labs k x = .inr f) : f.1 ≠ 0 := by
 unfold rwordF at h
 split at h
 ·cases h; simp
 ·split at h
  ·cases h
  ·split at h
   ·cases h
   ·split at h
    ·split at h
     ·cases h; simp
     ·cases h
    ·cases h
end Go.Proofs.YtiknookfnameiaaGreatDoor

namespace Go.Proofs.YtiknookfnameiaaGreatDoor
open Go.RowKit WP
theorem rlines_no (s : ByteArray) (w : World) (hs : 65536 < s.size) (_h63 : s.size ≤ 9223372036854775807) :
  Calls Tryz.prog 42 #[.string s] w fun e w' => e = .returned (.tuple #[.slice none 0 0, .int .i64 2]) ∧ w' = w := by
 go_enter Tryz.func42, Tryz.ntmps42
 go_wp2_with fail
 go_ret2
 exact ⟨rfl, rfl⟩
theorem bas_snoc (L : List (List UInt8)) (c : List UInt8) : (bas (L ++ [c])).map Value.string = (bas L).map Value.string ++ [.string ⟨c.toArray⟩] := by simp [bas]
set_option maxRecDepth 100000 in
set_option maxHeartbeats 1000000 in
theorem rlines_any (s : ByteArray) (w : World) (hs : s.size ≤ 65536) :
  Calls Tryz.prog 42 #[.string s] w fun e w' => ∃ v, e = .returned (.tuple #[v, .int .i64 0]) ∧
   w'.ownsRow w.heap.size 9 1 v (linesF s).length ((linesF s).map Value.string) ∧ Below w.heap.size w w' := by
 obtain ⟨i0, hi, hz0, hz1, hz2⟩ := info_parts infoStr
 have hsz := size_list s
 obtain ⟨T, hT⟩ : ∃ T, linesA [] s.data.toList = T := ⟨_, rfl⟩
 have hF : linesF s = bas T := by unfold linesF; rw [hT]
 rw [hF]
 replace hF := Lib.hid hF; replace hT := Lib.hid hT
 have hd0 : decide (65536 < s.size) = false := decide_eq_false (by omega)
 go_enter Tryz.func42, Tryz.ntmps42
 go_wp2_with fail
 go_loopw [4, 5, 6] (fun vl fr i wr => ∃ (k : Nat) (L : List (List UInt8)) (c : List UInt8), k ≤ s.size ∧ i = .int .i64 k ∧ c.length ≤ k ∧ L.length ≤ k ∧ fr = .int .i64 ((k - c.length : Nat) : Int) ∧ (∃ a, s.data.toList.take k = a ++ c) ∧ L ++ linesA c (s.data.toList.drop k) = T ∧ wr.ownsRow w.heap.size 9 1 vl L.length ((bas L).map Value.string) ∧ Below w.heap.size w wr) (fun _ _ i _ => s.size - (intOf i).toNat)
 case atStart => exact ⟨0, [], [], by omega, rfl, by simp, by simp, rfl, ⟨[], by simp⟩, by simpa using hT.out, World.ownsRow_nil _ _ _ _, Below.refl _ _⟩
 case round =>
  obtain ⟨wo, rfl⟩ : ∃ wo, wo = wr := ⟨wr, rfl⟩
  obtain ⟨vl, rfl⟩ : ∃ b, b = u4 := ⟨u4, rfl⟩
  obtain ⟨k, L, c, hk, rfl, hck, hLk, rfl, ⟨a, ha⟩, hq, ol, hb⟩ := hrel
  have hbs := hb.size
  replace ol := Lib.hid ol; replace hb := Lib.hid hb
  have hla := congrArg List.length ha
  rw [List.length_take, List.length_append] at hla
  have hdr : s.data.toList.drop (k - c.length) = c ++ s.data.toList.drop k := by
   conv => lhs; rw [← List.take_append_drop k s.data.toList, ha]
   rw [List.append_assoc, show k - c.length = a.length by omega, List.drop_left]
  have hex : s.extract (k - c.length) k = ⟨c.toArray⟩ := by
   have := extract_at hdr
   rwa [show k - c.length + c.length = k by omega] at this
  by_cases hlt : k < s.size
  ·have eb := bAt_get s k hlt
   have hkl : k < s.data.toList.length := by omega
   have hbx : bAt s.data.toList k = ((s.data.toList[k]'hkl).toNat : Int) := by
    unfold bAt; rw [List.getD_eq_getElem?_getD, List.getElem?_eq_getElem hkl]; rfl
   rw [hbx] at eb
   rw [List.drop_eq_getElem_cons hkl] at hq
   have htk : s.data.toList.take (k + 1) = s.data.toList.take k ++ [s.data.toList[k]] := by rw [List.take_add_one, List.getElem?_eq_getElem hkl]; rfl
   obtain ⟨x, hx⟩ : ∃ x, s.data.toList[k]'hkl = x := ⟨_, rfl⟩
   rw [hx] at eb hq htk
   clear hx hbx hkl hdr
   by_cases h10 : x = 10
   ·have d1 : ((s[k].toNat : Int) == 10) = true := by rw [eb, h10]; rfl
    have hq2 : (L ++ [c]) ++ linesA [] (s.data.toList.drop (k + 1)) = T := by
     rw [← hq]; unfold linesA; rw [if_pos h10]; cases s.data.toList.drop (k + 1) <;> simp [linesA]
    replace hq := Lib.hid hq2; replace ha := Lib.hid ha; replace htk := Lib.hid htk; replace hla := Lib.hid hla
    clear hq2
    go_wp2_with (at_builtin; refine wpList_append_onto' _ rfl _ _ 99 rfl w.heap.size 9 i0 (.string ⟨#[]⟩) 1 16 Tryz.underlying99 hi hz0 hz1 hz2 rfl (by decide) _ _ _ rfl (ol.out.alloc _) ⟨wo.heap.size, 0, none⟩ 1 1 [.string ⟨c.toArray⟩] rfl rfl ?c1 ?c2 ?c3 ?c4 ?c5 ?_)
    all_goals try exact cells_new _ _ _ _
    case c2 => simp [Value.oneCell']
    case c3 => simp only [maxLen]; omega
    case c4 => omega
    case c5 => first | omega | (simp; omega)
    intro v1 w2 ho1 hO1
    have hb2 : Below w.heap.size w w2 := ((hb.out.alloc hbs _).grown hO1.1 (by simp; omega) (fun k hk => (ol.out.lt k hk).1))
    have ho2 : w2.ownsRow w.heap.size 9 1 v1 (L ++ [c]).length ((bas (L ++ [c])).map Value.string) := by
     rw [List.length_append, bas_snoc]; exact ho1
    clear ho1 hO1
    replace hb2 := Lib.hid hb2; replace ho2 := Lib.hid ho2
    go_wp2_with fail
    go_roundw
    case rel => exact ⟨k + 1, L ++ [c], [], by omega, by go_num, by simp, by simp; omega, by go_num, ⟨s.data.toList.take (k + 1), by simp⟩, hq.out, ho2.out, hb2.out⟩
    case measure => simp [intOf]; omega
   ·have d1 : ((s[k].toNat : Int) == 10) = false := by
     rw [eb]
     have : x.toNat ≠ 10 := fun e => h10 (UInt8.toNat_inj.1 e)
     simp; omega
    have hq2 : L ++ linesA (c ++ [x]) (s.data.toList.drop (k + 1)) = T := by
     rw [← hq]; conv => rhs; unfold linesA
     rw [if_neg h10]
    have ha2 : s.data.toList.take (k + 1) = a ++ (c ++ [x]) := by rw [htk, ha]; simp
    replace hq := Lib.hid hq2; replace ha := Lib.hid ha2; replace htk := Lib.hid htk; replace hla := Lib.hid hla; replace hex := Lib.hid hex
    clear hq2 ha2
    go_wp2_with fail
    go_roundw
    case rel => exact ⟨k + 1, L, c ++ [x], by omega, by go_num, by simp; omega, by omega, by rw [List.length_append, List.length_singleton, show k + 1 - (c.length + 1) = k - c.length by omega], ⟨a, ha.out⟩, hq.out, ol.out, hb.out⟩
    case measure => simp [intOf]; omega
  ·obtain rfl : k = s.size := by omega
   have hz : s.data.toList.drop s.size = [] := List.drop_of_length_le (by omega)
   rw [hz] at hq hdr
   clear hz
   by_cases hc : c = []
   ·have hT2 : L = T := by rw [← hq]; unfold linesA; rw [if_pos hc]; simp
    have hc0 : c.length = 0 := by rw [hc]; rfl
    have d2 : decide (s.size - c.length < s.size) = false := decide_eq_false (by omega)
    replace hT2 := Lib.hid hT2; replace hc := Lib.hid hc; replace ha := Lib.hid ha; replace hq := Lib.hid hq; replace hdr := Lib.hid hdr; replace hex := Lib.hid hex; replace hla := Lib.hid hla; replace hc0 := Lib.hid hc0
    go_wp2_with fail
    go_ret2
    have hl : (bas T).length = L.length := by rw [← hT2.out]; simp [bas]
    exact ⟨vl, rfl, by rw [hl, ← hT2.out]; exact ol.out, hb.out⟩
   ·have hT2 : L ++ [c] = T := by rw [← hq]; unfold linesA; rw [if_neg hc]
    have hpos : 0 < c.length := List.length_pos_iff.2 hc
    have d2 : decide (s.size - c.length < s.size) = true := decide_eq_true (by omega)
    replace hT2 := Lib.hid hT2; replace hc := Lib.hid hc; replace ha := Lib.hid ha; replace hq := Lib.hid hq; replace hdr := Lib.hid hdr; replace hla := Lib.hid hla
    go_wp2_with (at_builtin; refine wpList_append_onto' _ rfl _ _ 99 rfl w.heap.size 9 i0 (.string ⟨#[]⟩) 1 16 Tryz.underlying99 hi hz0 hz1 hz2 rfl (by decide) _ _ _ rfl (ol.out.alloc _) ⟨wo.heap.size, 0, none⟩ 1 1 [.string ⟨c.toArray⟩] rfl rfl ?e1 ?e2 ?e3 ?e4 ?e5 ?_)
    all_goals try exact cells_new _ _ _ _
    case e2 => simp [Value.oneCell']
    case e3 => simp only [maxLen]; omega
    case e4 => omega
    case e5 => first | omega | (simp; omega)
    intro v1 w2 ho1 hO1
    have hb2 : Below w.heap.size w w2 := ((hb.out.alloc hbs _).grown hO1.1 (by simp; omega) (fun k hk => (ol.out.lt k hk).1))
    have ho2 : w2.ownsRow w.heap.size 9 1 v1 (L ++ [c]).length ((bas (L ++ [c])).map Value.string) := by
     rw [List.length_append, bas_snoc]; exact ho1
    clear ho1 hO1
    replace hb2 := Lib.hid hb2; replace ho2 := Lib.hid ho2
    go_wp2_with fail
    go_ret2
    have hl : (bas T).length = (L ++ [c]).length := by rw [← hT2.out]; simp [bas]
    exact ⟨v1, rfl, by rw [hl, ← hT2.out]; exact ho2.out, hb2.out⟩
end Go.Proofs.YtiknookfnameiaaGreatDoor
