/- The walk of AsmPrints. -/
import Derived.Test.YtiknookfnameiaaDoorAsS
import Derived.Deep.CutRange
import Derived.Deep.RegionHeld3
namespace Go.Proofs
open Go.RowKit
namespace YtiknookfnameiaaDoor
open WP
set_option maxRecDepth 100000 in
theorem aline_any (x : Int) (w : World) (hT : Tabs w) (hP : Pow10 w) (h0 : 0 ≤ x) (h1 : x ≤ 4294967295) :
    Calls Tryd.prog 7 #[.int .u32 x] w fun e w' => Below w.heap.size w w' ∧ e = .returned (.string (strS (lineL x []))) := by
  have hc := line_any x [] w hT hP h0 h1 (by simp)
  rw [show strS ([] : List UInt8) = (⟨#[]⟩ : ByteArray) from rfl] at hc
  generalize strS (lineL x []) = S at *
  go_enter Tryd.func7, Tryd.ntmps7
  go_wp2_with (go_at_call 12; refine hc.mono ?_; rintro e w2 ⟨hb, rfl⟩)
  go_ret
  exact ⟨hb, rfl⟩
set_option maxRecDepth 100000 in
theorem raline_any (x : Int) (w : World) (hT : RTabs w) (h0 : 0 ≤ x) (h1 : x ≤ 4294967295) :
    Calls Tryd.prog 8 #[.int .u32 x] w fun e w' => Below w.heap.size w w' ∧ e = .returned (.string (strS (lineL x []))) := by
  have hc := rtext_any x [] w hT h0 h1 (by simp)
  rw [show strS ([] : List UInt8) = (⟨#[]⟩ : ByteArray) from rfl] at hc
  generalize strS (lineL x []) = S at *
  go_enter Tryd.func8, Tryd.ntmps8
  go_wp2_with (go_at_call 16; refine hc.mono ?_; rintro e w2 ⟨hb, rfl⟩)
  go_ret
  exact ⟨hb, rfl⟩
theorem anumbers_any (w : World) : Calls Tryd.prog 6 #[] w fun e w' => e = .returned (.bool true) ∧ w' = w := by
  go_enter Tryd.func6, Tryd.ntmps6
  go_wp2
  go_ret
  exact ⟨rfl, rfl⟩
/-- what both Prints answer -/
def prS (l : List UInt32) : ByteArray := if l.length ≤ 2048 then strS (printL l (l.length + 1)) else ⟨#[]⟩
def prE (l : List UInt32) : Int := if l.length ≤ 2048 then 0 else 66
theorem print_all (v : Value) (l : List UInt32) (base : Int) (w : World) (hT : Tabs w) (hP : Pow10 w) (hv : Rd w v (vw l)) :
    Calls Tryd.prog 4 #[v, .int .u32 base] w fun e w' => Below w.heap.size w w' ∧ e = .returned (.tuple #[.string (prS l), .int .i64 (prE l)]) := by
  unfold prS prE
  by_cases hn : l.length ≤ 2048
  · rw [if_pos hn, if_pos hn]; exact print_any v l base w hT hP hv hn
  · rw [if_neg hn, if_neg hn]
    obtain ⟨ao, cap, rfl, _⟩ := hv.words
    obtain ⟨n, hnn⟩ : ∃ n, l.length = n := ⟨_, rfl⟩
    rw [hnn] at hn ⊢
    have d0 : decide ((n : Int) > 2048) = true := decide_eq_true (by omega)
    go_enter Tryd.func4, Tryd.ntmps4
    go_wp2
    refine bodyPost_ret (v := .tuple #[.string ⟨#[]⟩, .int .i64 66]) (by simp [results, Tryd.results4, go_sem]) rfl ⟨Below.refl _ _, rfl⟩
theorem rprint_all (v : Value) (l : List UInt32) (base : Int) (w : World) (hT : RTabs w) (hv : Rd w v (vw l)) :
    Calls Tryd.prog 5 #[v, .int .u32 base] w fun e w' => Below w.heap.size w w' ∧ e = .returned (.tuple #[.string (prS l), .int .i64 (prE l)]) := by
  unfold prS prE
  by_cases hn : l.length ≤ 2048
  · rw [if_pos hn, if_pos hn]; exact rprint_any v l base w hT hv hn
  · rw [if_neg hn, if_neg hn]
    obtain ⟨ao, cap, rfl, _⟩ := hv.words
    obtain ⟨n, hnn⟩ : ∃ n, l.length = n := ⟨_, rfl⟩
    rw [hnn] at hn ⊢
    have d0 : decide ((n : Int) > 2048) = true := decide_eq_true (by omega)
    go_enter Tryd.func5, Tryd.ntmps5
    go_wp2
    refine bodyPost_ret (v := .tuple #[.string ⟨#[]⟩, .int .i64 66]) (by simp [results, Tryd.results5, go_sem]) rfl ⟨Below.refl _ _, rfl⟩
section
variable {P : Program} (w : World)
theorem run_append_rd (base : Nat) (t ty e : TypeId) (i : TypeInfo) (z : Value) (bytes : Nat) (ht : P.underlying t = some (.slice e)) (hi : P.info? e = some i) (hz : i.zero = some z)
    (hsize : i.size = 1) (hby : i.bytes = bytes) (hzs : z.cells.size = 1)
    (v : Value) (n : Nat) (xs : List Value) (hown : w.ownsRow base e 1 v n xs)
    (u : Value) (news : List Value) (hr : Rd w u news) (h1 : ∀ u ∈ news, u.oneCell' = true)
    (h63 : n + news.length ≤ maxLen) (hbytes : (n + news.length) * bytes ≤ 140737488355328) (hbase : base ≤ w.heap.size) :
    ∃ v' w', (Builtin.append_ #[t, t] ty #[v, u]).run P w = .ok v' w' ∧ w'.ownsRow base e 1 v' (n + news.length) (xs ++ news) ∧ Onto w v w' v' := by
  obtain ⟨ao, c, rfl, hnc, hcm, hr⟩ := hr
  rcases hr with rfl | ⟨b, off, rfl, hc⟩
  · cases ao with
    | none =>
      refine ⟨v, w, ?_, by simpa using hown, Onto.refl _ _⟩
      rcases hown.2 with ⟨rfl, rfl⟩ | ⟨g, cap, cur, rfl, hbg, hg, hnc', hcm', hcs, htake⟩
      · simp [Builtin.append_, run_underlying ht, sizeOf, typeInfo, hi, Builtin.lenOf, Builtin.firstCells]
      · simp [Builtin.append_, run_underlying ht, sizeOf, typeInfo, hi, Builtin.lenOf, Builtin.firstCells, hnc', storeCells]
    | some ad =>
      exact run_append_onto (P := P) w base t ty e i z 1 bytes ht hi hz hsize hby hzs (by omega) v n xs hown ad 0 c [] rfl (by intro j u hu; simp at hu) (by simp) h63 hbytes hbase
  · refine run_append_onto (P := P) w base t ty e i z 1 bytes ht hi hz hsize hby hzs (by omega) v n xs hown ⟨b, off, none⟩ news.length c news (by omega) (fun j u hu => ?_) h1 h63 hbytes hbase
    have hadd : (⟨b, off, none⟩ : Addr).add j = ⟨b, off + j, none⟩ := by unfold Addr.add; split <;> simp_all
    rw [hadd]; exact hc j u hu
theorem wpList_append_rd {ops : Array Oper} {rest : List Oper} {o : Oper} {a : Act} {Q : Exit → Act → World → Prop} (hgd : o.guard = none) (s x : Operand) (t : TypeId)
    (ho : o.op = .call { callee := .builtin .append, args := #[s, x], argTypes := #[t, t] })
    (base : Nat) (e : TypeId) (i : TypeInfo) (z : Value) (bytes : Nat) (ht : P.underlying t = some (.slice e)) (hi : P.info? e = some i) (hz : i.zero = some z)
    (hsize : i.size = 1) (hby : i.bytes = bytes) (hzs : z.cells.size = 1)
    (v : Value) (n : Nat) (xs : List Value) (hs : a.eval s = v) (hown : w.ownsRow base e 1 v n xs)
    (u : Value) (news : List Value) (hx : a.eval x = u) (hr : Rd w u news) (h1 : ∀ u ∈ news, u.oneCell' = true)
    (h63 : n + news.length ≤ maxLen) (hbytes : (n + news.length) * bytes ≤ 140737488355328) (hbase : base ≤ w.heap.size)
    (h : ∀ v' w', w'.ownsRow base e 1 v' (n + news.length) (xs ++ news) → Onto w v w' v' → wpList P ops Q rest (a.put o.dst v') w') : wpList P ops Q (o :: rest) a w := by
  refine wpList_plain hgd fun K hK => ?_
  obtain ⟨v', w', hr, h2, h3⟩ := run_append_rd (P := P) w base t o.type e i z bytes ht hi hz hsize hby hzs v n xs hown u news hr h1 h63 hbytes hbase
  unfold Oper.wp execOp
  simp only [ho, resolve, invoke, builtin, Sem.run_bind, Sem.run_pure, Result.andThen_ok, List.map_toArray, List.map_cons, List.map_nil, hs, hx, hr]
  exact hK _ _ (h v' w' h2 h3)
end
theorem infoU4 : (Tryd.prog.info? 23).map (fun i => (i.zero, i.size, i.bytes)) = some (some (.int .u32 0), 1, 4) := by kernel_rfl
theorem last_line : strS (lineL 1409351679 []) = (⟨#[98, 32, 97, 108, 32, 45, 49]⟩ : ByteArray) := by
  have h : lineL 1409351679 [] = [98, 32, 97, 108, 32, 45, 49] := by decide +kernel
  rw [h]; rfl
set_option maxRecDepth 100000 in
set_option maxHeartbeats 2000000 in
theorem prints_any (v : Value) (l : List UInt32) (base : Int) (w : World) (hT : Tabs w) (hR : RTabs w) (hP : Pow10 w) (hv : Rd w v (vw l)) (hl : l.length ≤ 1048576) :
    Calls Tryd.prog 3 #[v, .int .u32 base] w fun e w' => e = .returned (.bool true) ∧ Below w.heap.size w w' := by
  obtain ⟨i0, hi, hz0, hz1, hz2⟩ := info_parts infoU4
  have hlast := last_line
  obtain ⟨n, hnn⟩ : ∃ n, l.length = n := ⟨_, rfl⟩
  obtain ⟨ao, cap, rfl, hW⟩ := words_in hv hnn
  rw [hnn] at hl
  replace hnn := Lib.hid hnn; replace hv := Lib.hid hv; replace hW := Lib.hid hW; replace hlast := Lib.hid hlast
  go_enter Tryd.func3, Tryd.ntmps3
  go_wp2_with (at_builtin; refine wpList_append_rd _ rfl _ _ 22 rfl w.heap.size 23 i0 (.int .u32 0) 4 Tryd.underlying22 hi hz0 hz1 hz2 rfl _ _ _ rfl (World.ownsRow_nil _ _ _ _) _ (vw l) rfl hv.out (vw_oneCell l) ?h1 ?h2 ?h3 ?_)
  case h1 => rw [length_vw, hnn.out]; simp only [maxLen]; omega
  case h2 => rw [length_vw, hnn.out]; omega
  case h3 => exact Nat.le_refl _
  intro v1 w1 ho1 hO1
  have hb1 : Below w.heap.size w w1 := hO1.below (Nat.le_refl _) (by simp [Value.ownBlock])
  have hr1 := Lib.hid (Rd.of_own ho1)
  have hT1 := hT.later hb1
  have hP1 := pow10_later hP hb1
  clear ho1 hO1
  obtain ⟨S, hS⟩ : ∃ S, prS l = S := ⟨_, rfl⟩
  obtain ⟨E, hE⟩ : ∃ E, prE l = E := ⟨_, rfl⟩
  have hc1 := print_all v1 l base w1 hT1 hP1 hr1.out
  rw [hS, hE] at hc1
  have hc2 := fun W hW1 hW2 => rprint_all (.slice ao n cap) l base W hW1 hW2
  simp only [hS, hE] at hc2
  clear hT1 hP1 hS hE
  replace hb1 := Lib.hid hb1; replace hc1 := Lib.hid hc1; replace hc2 := Lib.hid hc2
  go_upto_region 7 with (first
    | (go_at_call 4; refine hc1.out.mono ?_; rintro e w2 ⟨b2, rfl⟩; have hb2 := Lib.hid (hb1.out.trans (b2.mono hb1.out.size)); clear b2)
    | (go_at_call 5; refine (hc2.out _ (hR.later hb2.out) (hv.out.mono hb2.out)).mono ?_; rintro e w3 ⟨b3, rfl⟩; have hb3 := Lib.hid (hb2.out.trans (b3.mono hb2.out.size)); clear b3)
    | (go_at_call 6; refine (anumbers_any _).mono ?_; rintro e w4 ⟨rfl, rfl⟩))
  go_wp2_with fail
  clear hc1 hc2 hb1
  go_loopw [10] (fun i wl => ∃ k : Nat, k ≤ n ∧ i = .int .i64 k ∧ Below w.heap.size w wl) (fun i _ => n - (intOf i).toNat)
  case atStart => exact ⟨0, by omega, rfl, hb3.out⟩
  case round =>
    obtain ⟨wo, rfl⟩ : ∃ wo, wo = wr := ⟨wr, rfl⟩
    obtain ⟨k, hk, rfl, hbo⟩ := hrel
    clear hb3
    have hso := hbo.size
    by_cases hlt : k < n ∧ k < 64
    · obtain ⟨hl1, hl2⟩ := hlt
      obtain ⟨b, off, rfl, hbl, hc⟩ := hW.out k hl1
      have hcell : wo.cell? ⟨b, off + k, none⟩ = some (.int .u32 (wAt l k)) := by rw [hbo.cell (p := ⟨b, off + k, none⟩) hbl]; exact hc
      have hwb := wAt_bd l k
      have hTo := hT.later hbo
      have hRo := hR.later hbo
      have hPo := pow10_later hP hbo
      have i1 : (0 : Int) ≤ (k : Int) := by omega
      have i2 : (k : Int) < (n : Int) := by omega
      have d1 : decide ((k : Int) < (n : Int)) = true := decide_eq_true i2
      have d2 : decide ((k : Int) < 64) = true := decide_eq_true (by omega)
      have hblo : b < wo.heap.size := Nat.lt_of_lt_of_le hbl hso
      obtain ⟨x, hx⟩ : ∃ x, wAt l k = x := ⟨_, rfl⟩
      rw [hx] at hcell hwb
      have ha := fun W (hB : Below wo.heap.size wo W) => aline_any x W (hTo.later hB) (pow10_later hPo hB) hwb.1 hwb.2
      have hra := fun W (hB : Below wo.heap.size wo W) => raline_any x W (hRo.later hB) hwb.1 hwb.2
      obtain ⟨LN, hLN⟩ : ∃ LN, strS (lineL x []) = LN := ⟨_, rfl⟩
      simp only [hLN] at ha hra
      have hS : ∀ w' : World, Below wo.heap.size wo w' → (Below wo.heap.size wo w' ∧ w'.cell? ⟨b, off + k, none⟩ = some (.int .u32 x)) := fun w' h => ⟨h, (h.cell (p := ⟨b, off + k, none⟩) hblo).trans hcell⟩
      clear hx hc hLN hTo hRo hPo
      replace ha := Lib.hid ha; replace hra := Lib.hid hra; replace hbo := Lib.hid hbo; replace hS := Lib.hid hS
      go_upto_region 10 with fail
      go_cut [58] from 48 to 58 (fun r wx => r = .bool false ∧ Below wo.heap.size wo wx)
      case first =>
        go_region_held3 (fun w' => Below wo.heap.size wo w' ∧ w'.cell? ⟨b, off + k, none⟩ = some (.int .u32 x))
          (first
            | exact hS.out _ (Below.refl _ _)
            | exact hS.out _ (Below.drew (Below.refl _ _))
            | assumption
            | exact hS.out _ (Below.drew (And.left (by assumption)))
            | exact hS.out _ (bX.trans (b2.mono bX.size))
            | exact hS.out _ (bY.trans (b3.mono bY.size)))
          (first
            | (go_at_call 7; obtain ⟨bX, _⟩ := (by assumption : Below wo.heap.size wo _ ∧ _); refine (ha.out _ bX).mono ?_; rintro e w2 ⟨b2, rfl⟩)
            | (go_at_call 8; obtain ⟨bY, _⟩ := (by assumption : Below wo.heap.size wo _ ∧ _); refine (hra.out _ bY).mono ?_; rintro e w3 ⟨b3, rfl⟩))
        all_goals
          go_wp2_with fail
          go_meet
          case rel => exact ⟨rfl, And.left (by assumption)⟩
      case rest =>
        obtain ⟨rfl, hb5⟩ := hcut
        have hb6 := Lib.hid (hbo.out.trans (hb5.mono hso))
        clear hb5 hcell hS ha hra
        go_wp2_with fail
        go_roundw
        case rel => exact ⟨k + 1, by omega, by go_num, hb6.out⟩
        case measure => simp only [intOf]; omega
    · have hlc := aline_any 1409351679 wo (hT.later hbo) (pow10_later hP hbo) (by omega) (by omega)
      rw [hlast.out] at hlc
      replace hlc := Lib.hid hlc; replace hbo := Lib.hid hbo
      by_cases hl1 : k < n
      · have hl2 : ¬ k < 64 := fun h => hlt ⟨hl1, h⟩
        have d1 : decide ((k : Int) < (n : Int)) = true := decide_eq_true (by omega)
        have d2 : decide ((k : Int) < 64) = false := decide_eq_false (by omega)
        clear hlt
        go_wp2_with (go_at_call 7; refine hlc.out.mono ?_; rintro e w2 ⟨b2, rfl⟩; have hb2' := Lib.hid (hbo.out.trans (b2.mono hso)); clear b2)
        go_ret
        exact ⟨rfl, hb2'.out⟩
      · have d1 : decide ((k : Int) < (n : Int)) = false := decide_eq_false (by omega)
        clear hlt
        go_wp2_with (go_at_call 7; refine hlc.out.mono ?_; rintro e w2 ⟨b2, rfl⟩; have hb2' := Lib.hid (hbo.out.trans (b2.mono hso)); clear b2)
        go_ret
        exact ⟨rfl, hb2'.out⟩
end YtiknookfnameiaaDoor
end Go.Proofs
