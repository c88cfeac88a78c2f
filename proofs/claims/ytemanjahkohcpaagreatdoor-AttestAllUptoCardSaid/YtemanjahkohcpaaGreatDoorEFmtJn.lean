/- The contracts of attest's FormatPolicy and of the law's right. -/
import Derived.Test.YtemanjahkohcpaaGreatDoorJn24
namespace Go.Proofs.YtemanjahkohcpaaGreatDoor
open Go.RowKit WP
def verbB (b : Bool) : ByteArray := if b then allowB else denyB
theorem verb_any (b : Bool) (w : World) : Calls Tryz.prog 55 #[.bool b] w fun e w' => e = .returned (.string (verbB b)) ∧ w' = w := by
  cases b
  · go_enter Tryz.func55, Tryz.ntmps55
    go_wp2_with fail
    go_ret
    exact ⟨rfl, rfl⟩
  · go_enter Tryz.func55, Tryz.ntmps55
    go_wp2_with fail
    go_ret
    exact ⟨rfl, rfl⟩
/-- a rule's line -/
def ruleS (r : RuleD) : ByteArray := verbB r.allow ++ (⟨#[32]⟩ : ByteArray) ++ r.name ++ (⟨#[32]⟩ : ByteArray) ++ hexT r.me
def otherS (o : Bool) : ByteArray := (⟨#[111, 116, 104, 101, 114, 32]⟩ : ByteArray) ++ verbB o
/-- may it stand in a policy's text? -/
def rightF (rs : List RuleD) : Bool := decide (rs.length ≤ 256) && rs.all fun r => nameF r.name
def polLines (rs : List RuleD) (o : Bool) : List ByteArray := rs.map ruleS ++ [otherS o]
theorem verbB_size (b : Bool) : (verbB b).size ≤ 5 := by cases b <;> decide
theorem nameF_size (s : ByteArray) (h : nameF s = true) : s.size ≤ 24 := by
  unfold nameF at h; simp only [Bool.and_eq_true, decide_eq_true_eq] at h; exact h.1.2
theorem ruleS_size (r : RuleD) (h : nameF r.name = true) (l8 : r.me.length = 8) : (ruleS r).size ≤ 95 := by
  have h1 := verbB_size r.allow
  have h2 := nameF_size r.name h
  have h3 := hexT_size r.me l8
  unfold ruleS
  simp only [ByteArray.size_append, h3]
  have e1 : (⟨#[32]⟩ : ByteArray).size = 1 := rfl
  omega
theorem polLines_len (rs : List RuleD) (o : Bool) (h : ∀ r ∈ rs, nameF r.name = true) (l8 : ∀ r ∈ rs, r.me.length = 8) : (linesL (polLines rs o)).length ≤ 96 * rs.length + 12 := by
  induction rs with
  | nil =>
    have := verbB_size o
    simp only [polLines, List.map_nil, List.nil_append, linesL, List.flatMap_cons, List.flatMap_nil, List.append_nil, List.length_append, strL_length, otherS, ByteArray.size_append, List.length_cons, List.length_nil]
    have e1 : (⟨#[111, 116, 104, 101, 114, 32]⟩ : ByteArray).size = 6 := rfl
    omega
  | cons r rs ih =>
    have h1 := ruleS_size r (h r (by simp)) (l8 r (by simp))
    have h2 := ih (fun x hx => h x (by simp [hx])) (fun x hx => l8 x (by simp [hx]))
    have e : linesL (polLines (r :: rs) o) = strL (ruleS r) ++ [10] ++ linesL (polLines rs o) := by simp [polLines, linesL]
    rw [e]
    simp only [List.length_append, strL_length, List.length_cons, List.length_nil]
    omega
theorem own_laterE {w w' : World} {base : Nat} {e : TypeId} {size n : Nat} {v : Value} {xs : List Value} (h : w.ownsRow base e size v n xs) (hb : Below w.heap.size w w') : w'.ownsRow base e size v n xs :=
  h.kept (row := none) ⟨hb.os, hb.tape, hb.output, hb.size, fun k hk _ => hb.block k hk⟩ (by
    rcases h.2 with ⟨hv, _⟩ | ⟨g, cap, cur, hv, _⟩
    · exact .inl (by rw [hv]; rfl)
    · exact .inr (by rw [hv]; simp [Value.ownBlock]))
set_option maxRecDepth 100000 in
set_option maxHeartbeats 4000000 in
theorem fmtPol_any (rs : List RuleD) (other : Bool) (v : Value) (w : World) (hr : Rules w v rs) :
    Calls Tryz.prog 34 #[.agg #[v, .bool other]] w fun e w' => Below w.heap.size w w' ∧
      e = .returned (.tuple #[.string (if rightF rs = true then ⟨(linesL (polLines rs other)).toArray⟩ else ⟨#[]⟩), .int .i64 (if rightF rs = true then 0 else 161)]) := by
  obtain ⟨ao, cap, rfl, n1, n2, l8, hcs⟩ := hr
  obtain ⟨i0, hi, hz0, hz1, hz2⟩ := info_parts infoStr
  obtain ⟨T, hT⟩ : ∃ T : ByteArray, (if rightF rs = true then ⟨(linesL (polLines rs other)).toArray⟩ else ⟨#[]⟩) = T := ⟨_, rfl⟩
  obtain ⟨ec, hec⟩ : ∃ c : Int, (if rightF rs = true then 0 else 161) = c := ⟨_, rfl⟩
  rw [hT, hec]
  replace hT := Lib.hid hT; replace hec := Lib.hid hec
  obtain ⟨w1, hw1⟩ : ∃ w1, w.alloc (.cells #[.slice ao rs.length cap, .bool other] 24) = w1 := ⟨_, rfl⟩
  have hp : w1.heap[w.heap.size]? = some (.cells #[.slice ao rs.length cap, .bool other] 24) := by
    rw [← hw1]; exact heap_alloc_new w _
  have hb1 : Below w.heap.size w w1 := by rw [← hw1]; exact (Below.refl _ _).alloc (Nat.le_refl _) _
  have hp0 : w1.cell? ⟨w.heap.size, 0, none⟩ = some (.slice ao rs.length cap) := by rw [cell_of_row w1 _ 0 _ _ _ hp]; rfl
  have hl1 : w.heap.size < w1.heap.size := (Array.getElem?_eq_some_iff.1 hp).1
  obtain ⟨n, hn⟩ : ∃ n, rs.length = n := ⟨_, rfl⟩
  rw [hn] at n1 hp0 hw1 hp ⊢
  by_cases h256 : n ≤ 256
  · have d1 : decide ((256 : Int) < (n : Int)) = false := decide_eq_false (by omega)
    replace hn := Lib.hid hn; replace l8 := Lib.hid l8; replace hcs := Lib.hid hcs; replace hb1 := Lib.hid hb1; replace hp := Lib.hid hp
    go_enter Tryz.func34, Tryz.ntmps34
    go_upto_region 1 with fail
    try (change Code.wp _ _ _ _ (w.alloc (.cells #[.slice ao n cap, .bool other] 24)); rw [hw1])
    clear hw1
    go_wp2_with fail
    go_loopw [4, 14] (fun lv i wr => ∃ k : Nat, k ≤ n ∧ i = .int .i64 (k : Int) ∧ wr.ownsRow w1.heap.size 9 1 lv k (((rs.take k).map ruleS).map Value.string) ∧ ((rs.take k).all fun r => nameF r.name) = true ∧ Below w1.heap.size w1 wr) (fun _ i _ => n - (intOf i).toNat)
    case atStart => exact ⟨0, by omega, rfl, World.ownsRow_nil _ _ _ _, rfl, Below.refl _ _⟩
    case round =>
      obtain ⟨wo, rfl⟩ : ∃ wo, wo = wr := ⟨wr, rfl⟩
      obtain ⟨lv, rfl⟩ : ∃ b, b = u4 := ⟨u4, rfl⟩
      obtain ⟨k, hk, rfl, ho, hall, hb⟩ := hrel
      have hbs := hb.size
      clear d1
      by_cases hlt : k < n
      · have hkr : k < rs.length := by rw [hn.out]; exact hlt
        obtain ⟨r, hri⟩ : ∃ r, rs[k]? = some r := ⟨_, List.getElem?_eq_getElem hkr⟩
        have hre : rs[k] = r := (List.getElem?_eq_some_iff.1 hri).2
        have lr : r.me.length = 8 := l8.out r (List.mem_of_getElem? hri)
        have htk : (rs.take (k + 1)) = rs.take k ++ [r] := by rw [List.take_succ_eq_append_getElem hkr, hre]
        obtain ⟨b, off, rfl, hbl, hcl⟩ := hcs.out.resolve_left (by intro h; rw [h] at hkr; simp at hkr)
        have hb0 := hb1.out.trans (hb.mono hb1.out.size)
        have hrk : wo.rangeAt b (off + k * 10) (ruleC r) := rangeAt_kept (hcl k r hri) (hb0.block b hbl)
        have lrc := ruleC_len r lr
        have i1 : (0 : Int) ≤ (k : Int) := by omega
        have i2 : (k : Int) < (n : Int) := by omega
        clear hcl
        replace hri := Lib.hid hri; replace hrk := Lib.hid hrk; replace lrc := Lib.hid lrc; replace hb0 := Lib.hid hb0; replace hb := Lib.hid hb; replace ho := Lib.hid ho; replace htk := Lib.hid htk; replace hall := Lib.hid hall; replace hre := Lib.hid hre
        go_upto_region 7 with (first
          | (refine wpList_load_mid rfl 67 _ rfl b (off + k * 10) rfl (ruleC r) _ hrk.out Tryz.underlying67 rfl (by rw [lrc.out]; exact info42) ?_)
          | (refine wpList_store_blk rfl 67 _ _ rfl wo.heap.size (ruleC r) rfl rfl 67 _ (heap_alloc_new _ _) (by rw [lrc.out]; exact info42) (by rw [lrc.out]; rfl) (ruleC_one r) ?_; intro w3 hB3 g3))
        have b3 := below_new g3
        have hb3 := hb.out.trans (b3.mono hbs)
        have ho3 := own_laterE ho.out b3
        have hlv : ∀ k, lv.ownBlock = some k → k < wo.heap.size := fun k hk => (ho.out.lt k hk).2
        have hB0 : w3.cell? ⟨wo.heap.size, 0, none⟩ = some (.bool r.allow) := by rw [cell_of_row w3 _ 0 _ _ _ hB3]; rfl
        have hB1 : w3.cell? ⟨wo.heap.size, 1, none⟩ = some (.string r.name) := by rw [cell_of_row w3 _ 1 _ _ _ hB3]; rfl
        have hB2 : w3.rangeAt wo.heap.size 2 (vw r.me) := by
          intro j u hu
          rw [cell_of_row w3 _ (2 + j) _ _ _ hB3, Nat.add_comm 2 j]
          simpa [ruleC] using hu
        have hl3 : wo.heap.size < w3.heap.size := (Array.getElem?_eq_some_iff.1 hB3).1
        obtain ⟨al, nm, me⟩ := r
        simp only at hB0 hB1 hB2 lr
        clear b3 g3 hB3 hrk lrc hb0 hb ho
        replace hb3 := Lib.hid hb3; replace hB2 := Lib.hid hB2; replace ho3 := Lib.hid ho3
        by_cases hnm : nameF nm = true
        · have hns := nameF_size nm hnm
          have hnc := name_any nm w3
          rw [if_pos hnm] at hnc
          replace hnc := Lib.hid hnc; replace hnm := Lib.hid hnm
          go_wp2_with fail
          refine hnc.out.mono ?_
          rintro e w4 ⟨rfl, rfl⟩
          clear hnc
          go_upto_region 9 with fail
          obtain ⟨vb, hvb⟩ : ∃ x, verbB al = x := ⟨_, rfl⟩
          obtain ⟨hx, hhx⟩ : ∃ x, hexT me = x := ⟨_, rfl⟩
          have hvc : ∀ W : World, Calls Tryz.prog 55 #[.bool al] W fun e w' => e = .returned (.string vb) ∧ w' = W := fun W => by rw [← hvb]; exact verb_any al W
          have hhc : ∀ W : World, Calls Tryz.prog 56 #[.agg (vw me).toArray] W fun e w' => e = .returned (.string hx) ∧ Below W.heap.size W w' := fun W => by rw [← hhx]; exact hexf_any me W lr
          have s1 : vb.size ≤ 5 := by rw [← hvb]; exact verbB_size al
          have s2 : hx.size = 64 := by rw [← hhx]; exact hexT_size me lr
          have s3 : hx.size ≤ 64 := by omega
          have vl := vw_lit8 me lr
          have hS3 : ∀ wA w' : World, Below w4.heap.size w4 wA → wA.grownBy w' lv.ownBlock → (w'.cell? ⟨wo.heap.size, 0, none⟩ = some (.bool al) ∧ w'.cell? ⟨wo.heap.size, 1, none⟩ = some (.string nm) ∧ w'.cell? ⟨wo.heap.size, 2, none⟩ = some (.int .u32 (wAt me 0)) ∧ w'.cell? ⟨wo.heap.size, 3, none⟩ = some (.int .u32 (wAt me 1)) ∧ w'.cell? ⟨wo.heap.size, 4, none⟩ = some (.int .u32 (wAt me 2)) ∧ w'.cell? ⟨wo.heap.size, 5, none⟩ = some (.int .u32 (wAt me 3)) ∧ w'.cell? ⟨wo.heap.size, 6, none⟩ = some (.int .u32 (wAt me 4)) ∧ w'.cell? ⟨wo.heap.size, 7, none⟩ = some (.int .u32 (wAt me 5)) ∧ w'.cell? ⟨wo.heap.size, 8, none⟩ = some (.int .u32 (wAt me 6)) ∧ w'.cell? ⟨wo.heap.size, 9, none⟩ = some (.int .u32 (wAt me 7))) := by
            intro wA w' h hg
            have e : w'.heap[wo.heap.size]? = w4.heap[wo.heap.size]? := (hg.block _ (Nat.lt_of_lt_of_le hl3 h.size) (fun e => by have := hlv _ e.symm; omega)).trans (h.block _ hl3)
            exact ⟨(cell_same e).trans hB0, (cell_same e).trans hB1, (cell_same e).trans (rangeCell 2 me 0 hB2.out lr (by omega)), (cell_same e).trans (rangeCell 2 me 1 hB2.out lr (by omega)), (cell_same e).trans (rangeCell 2 me 2 hB2.out lr (by omega)), (cell_same e).trans (rangeCell 2 me 3 hB2.out lr (by omega)), (cell_same e).trans (rangeCell 2 me 4 hB2.out lr (by omega)), (cell_same e).trans (rangeCell 2 me 5 hB2.out lr (by omega)), (cell_same e).trans (rangeCell 2 me 6 hB2.out lr (by omega)), (cell_same e).trans (rangeCell 2 me 7 hB2.out lr (by omega))⟩
          have k1 : ¬ 9223372036854775807 < vb.size + 1 := by omega
          have k2 : ¬ 9223372036854775807 < vb.size + 1 + nm.size := by omega
          have k3 : ¬ 9223372036854775807 < vb.size + 1 + nm.size + 1 := by omega
          have k4 : ¬ 9223372036854775807 < vb.size + 1 + nm.size + 1 + hx.size := by omega
          have hos := hb3.out.size
          replace hS3 := Lib.hid hS3; replace vl := Lib.hid vl; replace s2 := Lib.hid s2; replace hvb := Lib.hid hvb; replace hhx := Lib.hid hhx; replace hvc := Lib.hid hvc; replace hhc := Lib.hid hhc
          go_region_held3 (fun w' => w'.cell? ⟨wo.heap.size, 0, none⟩ = some (.bool al) ∧ w'.cell? ⟨wo.heap.size, 1, none⟩ = some (.string nm) ∧ w'.cell? ⟨wo.heap.size, 2, none⟩ = some (.int .u32 (wAt me 0)) ∧ w'.cell? ⟨wo.heap.size, 3, none⟩ = some (.int .u32 (wAt me 1)) ∧ w'.cell? ⟨wo.heap.size, 4, none⟩ = some (.int .u32 (wAt me 2)) ∧ w'.cell? ⟨wo.heap.size, 5, none⟩ = some (.int .u32 (wAt me 3)) ∧ w'.cell? ⟨wo.heap.size, 6, none⟩ = some (.int .u32 (wAt me 4)) ∧ w'.cell? ⟨wo.heap.size, 7, none⟩ = some (.int .u32 (wAt me 5)) ∧ w'.cell? ⟨wo.heap.size, 8, none⟩ = some (.int .u32 (wAt me 6)) ∧ w'.cell? ⟨wo.heap.size, 9, none⟩ = some (.int .u32 (wAt me 7)))
            (first
              | exact hS3.out _ _ (Below.refl _ _) (World.grownBy.refl _ _)
              | exact hS3.out _ _ (Below.refl _ _).drew (World.grownBy.refl _ _)
              | assumption
              | exact hS3.out _ _ bY (World.grownBy.refl _ _)
              | exact hS3.out _ _ bY.drew (World.grownBy.refl _ _)
              | exact hS3.out _ _ (bY.alloc bYs _) (World.grownBy.refl _ _)
              | exact hS3.out _ _ (bY.alloc bYs _).drew (World.grownBy.refl _ _)
              | exact hS3.out _ _ (bY.alloc bYs (.cells #[.string (vb ++ (⟨#[32]⟩ : ByteArray) ++ nm ++ (⟨#[32]⟩ : ByteArray) ++ hx)] 9)).drew ⟨hgrow.os, hgrow.tape, hgrow.output, hgrow.size, hgrow.block⟩)
            (first
              | (go_at_call 55; refine (hvc.out _).mono ?_; rintro e wx ⟨rfl, rfl⟩)
              | (go_at_call 56; try rw [← vl.out]; refine (hhc.out _).mono ?_; rintro e wx ⟨rfl, bx⟩; have bY : Below w4.heap.size w4 wx := (by first | exact bx | exact (Below.refl w4.heap.size w4).drew.trans bx | exact (Below.refl w4.heap.size w4).drew.drew.trans bx); have bYs := bY.size; clear bx)
              | (refine step_append_lies _ (by rfl) _ _ 46 (by rfl) w1.heap.size 9 i0 (.string ⟨#[]⟩) 1 16 Tryz.underlying46 hi hz0 hz1 hz2 rfl (by omega) lv k (((rs.take k).map ruleS).map Value.string) (by rfl) (((own_laterE ho3.out bY).alloc _).drew)
                  ⟨wx.heap.size, 0, none⟩ 1 1 [.string (vb ++ (⟨#[32]⟩ : ByteArray) ++ nm ++ (⟨#[32]⟩ : ByteArray) ++ hx)] (by rfl) (by rfl) (World.news_of_block (cs := #[.string (vb ++ (⟨#[32]⟩ : ByteArray) ++ nm ++ (⟨#[32]⟩ : ByteArray) ++ hx)]) (fr := (0, 0)) (heap_alloc_new wx _)) (by simp [Value.oneCell'])
                  (by omega) (by simp only [maxLen]; omega) (by omega) (by simp; omega) (wx.heap.size + 1) (by simp) ?_; intro gg cap' w7 hown1 hgrow hat hgl))
          all_goals
            have ho7 : w7.ownsRow w1.heap.size 9 1 (.slice (some ⟨gg, 0, none⟩) (k + 1) cap') (k + 1) (((rs.take (k + 1)).map ruleS).map Value.string) := by
              have e : ruleS ⟨al, nm, me⟩ = vb ++ (⟨#[32]⟩ : ByteArray) ++ nm ++ (⟨#[32]⟩ : ByteArray) ++ hx := by unfold ruleS; rw [hvb.out, hhx.out]
              rw [htk.out, List.map_append, List.map_append, List.map_singleton, List.map_singleton, e]; exact hown1
            have hb7 : Below w1.heap.size w1 w7 := (((hb3.out.trans (bY.mono hb3.out.size)).alloc (Nat.le_trans hb3.out.size bYs) (.cells #[.string (vb ++ (⟨#[32]⟩ : ByteArray) ++ nm ++ (⟨#[32]⟩ : ByteArray) ++ hx)] 9)).drew).grown ⟨hgrow.os, hgrow.tape, hgrow.output, hgrow.size, hgrow.block⟩ (by simp; omega) (fun k hk => (ho3.out.lt k hk).1)
            have hal : ((rs.take (k + 1)).all fun r => nameF r.name) = true := by rw [htk.out, List.all_append, hall.out]; simp [hnm.out]
            clear hown1 hgrow hat hgl bY bYs k1 k2 k3 k4 hB0 hB1
            replace ho7 := Lib.hid ho7; replace hb7 := Lib.hid hb7; replace hal := Lib.hid hal
            go_wp2_with fail
            go_roundw
            case rel => exact ⟨k + 1, by omega, by go_num, ho7.out, hal.out, hb7.out⟩
            case measure => simp [intOf]; omega
        · have hF : rightF rs = false := by
            unfold rightF
            rw [Bool.and_eq_false_iff]
            exact .inr (by rw [List.all_eq_false]; exact ⟨_, List.mem_of_getElem? hri.out, by simpa using hnm⟩)
          have hnc := name_any nm w3
          rw [if_neg hnm] at hnc
          replace hnc := Lib.hid hnc; replace hnm := Lib.hid hnm; replace hF := Lib.hid hF
          go_wp2_with fail
          refine hnc.out.mono ?_
          rintro e w4 ⟨rfl, rfl⟩
          clear hnc
          go_wp2_with fail
          go_ret2
          exact ⟨hb1.out.trans (hb3.out.mono hb1.out.size), by rw [← hT.out, ← hec.out, hF.out]; rfl⟩
      · obtain rfl : k = n := by omega
        rw [List.take_of_length_le (by rw [hn.out]; exact Nat.le_refl _)] at ho hall
        have hF : rightF rs = true := by
          unfold rightF; rw [hall, decide_eq_true (by rw [hn.out]; exact h256)]; rfl
        have hq1 : wo.cell? ⟨w.heap.size, 1, none⟩ = some (.bool other) := by
          rw [cell_of_row _ _ 1 _ _ _ ((hb.block _ hl1).trans hp.out)]; rfl
        have hpl := polLines_len rs other (fun r hr' => List.all_eq_true.1 hall r hr') l8.out
        rw [hn.out] at hpl
        obtain ⟨vb, hvb⟩ : ∃ x, verbB other = x := ⟨_, rfl⟩
        have hvc : ∀ W : World, Calls Tryz.prog 55 #[.bool other] W fun e w' => e = .returned (.string vb) ∧ w' = W := fun W => by rw [← hvb]; exact verb_any other W
        have s1 : vb.size ≤ 5 := by rw [← hvb]; exact verbB_size other
        have k5 : ¬ 9223372036854775807 < 6 + vb.size := by omega
        clear hall
        replace hb := Lib.hid hb; replace hF := Lib.hid hF; replace ho := Lib.hid ho; replace hvb := Lib.hid hvb; replace hvc := Lib.hid hvc; replace hpl := Lib.hid hpl
        go_wp2_with (first
          | (go_at_call 55; refine (hvc.out _).mono ?_; rintro e wx ⟨rfl, rfl⟩)
          | (at_builtin; refine wpList_append_onto' _ rfl _ _ 46 rfl w1.heap.size 9 i0 (.string ⟨#[]⟩) 1 16 Tryz.underlying46 hi hz0 hz1 hz2 rfl (by decide) _ _ _ rfl (ho.out.alloc _) ⟨wx.heap.size, 0, none⟩ 1 1 [.string ((⟨#[111, 116, 104, 101, 114, 32]⟩ : ByteArray) ++ vb)] rfl rfl ?c1 ?c2 ?c3 ?c4 ?c5 ?_))
        case c1 => exact cells_new _ _ _ _
        case c2 => simp [Value.oneCell']
        case c3 => simp only [maxLen]; omega
        case c4 => omega
        case c5 => have := hb.out.size; simp; omega
        intro v' w8 ho8 hO8
        have hb8 : Below w1.heap.size w1 w8 := (hb.out.alloc hb.out.size _).grown hO8.1 (by have := hb.out.size; simp; omega) (fun k hk => (ho.out.lt k hk).1)
        have hR8 : Rd w8 v' ((polLines rs other).map Value.string) := by
          have e : (polLines rs other).map Value.string = ((rs.map ruleS).map Value.string) ++ [.string ((⟨#[111, 116, 104, 101, 114, 32]⟩ : ByteArray) ++ vb)] := by
            unfold polLines otherS; rw [List.map_append, hvb.out]; rfl
          rw [e, List.map_map]; exact Rd.of_own ho8
        have hlc := lines_any v' (polLines rs other) w8 hR8 (by have := hpl.out; omega)
        clear ho8 hO8
        replace hb8 := Lib.hid hb8; replace hlc := Lib.hid hlc
        go_wp2_with fail
        refine hlc.out.mono ?_
        rintro e w9 ⟨rfl, b9⟩
        have hb9 := Lib.hid (hb1.out.trans ((hb8.out.trans (b9.mono hb8.out.size)).mono hb1.out.size))
        clear b9 hlc hR8
        go_wp2_with fail
        go_ret2
        exact ⟨hb9.out, by rw [← hT.out, ← hec.out, hF.out]; rfl⟩
  · have d1 : decide ((256 : Int) < (n : Int)) = true := decide_eq_true (by omega)
    have hF : rightF rs = false := by
      unfold rightF; rw [decide_eq_false (by rw [hn]; exact h256)]; rfl
    replace hF := Lib.hid hF; replace hn := Lib.hid hn; replace hb1 := Lib.hid hb1; replace hp := Lib.hid hp; replace hcs := Lib.hid hcs; replace l8 := Lib.hid l8
    go_enter Tryz.func34, Tryz.ntmps34
    go_upto_region 1 with fail
    try (change Code.wp _ _ _ _ (w.alloc (.cells #[.slice ao n cap, .bool other] 24)); rw [hw1])
    clear hw1
    go_wp2_with fail
    go_ret2
    exact ⟨hb1.out, by rw [← hT.out, ← hec.out, hF.out]; rfl⟩
end Go.Proofs.YtemanjahkohcpaaGreatDoor
