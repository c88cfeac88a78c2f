/- The contract of attest's eight. -/
import Derived.Test.YtemanjahkohcpaaGreatDoorJn12
import Derived.Laws.Cover3
namespace Go.Proofs.YtemanjahkohcpaaGreatDoor
open Go.RowKit WP
set_option maxRecDepth 100000
theorem results_two {P : Program} {fn : Func} {t t2 : Tmp} {ty : TypeId} (h : fn.results = #[.cell t ty, .tmp t2]) {tmps : Array Value} {w : World} {g : Nat} {cs : List Value} {v2 : Value} {d : TypeDesc}
    (hp : tmps.getD t undef = .pointer (some ⟨g, 0, none⟩)) (h2 : tmps.getD t2 undef = v2)
    (hc : w.rangeAt g 0 cs) (hu : P.underlying ty = some d) (hd : d.isRow = true) (hi : (P.info? ty).map (·.size) = some cs.length) : (results fn tmps).run P w = .ok (.tuple #[.agg cs.toArray, v2]) w := by
  have hv := run_loadVar_mid (P := P) w g 0 ty cs d hc hu hd hi
  have hp' : tmps[t]?.getD undef = .pointer (some ⟨g, 0, none⟩) := by simpa [Array.getD_eq_getD_getElem?] using hp
  have h2' : tmps[t2]?.getD undef = v2 := by simpa [Array.getD_eq_getD_getElem?] using h2
  simp [results, h, hp', hv, asAddr, h2']
/-- no eight words have this text -/
def NoWords (s : ByteArray) : Prop := ∀ l : List UInt32, l.length = 8 → hexAllL l ≠ strL s
def zero8 : List Value := [.int .u32 0, .int .u32 0, .int .u32 0, .int .u32 0, .int .u32 0, .int .u32 0, .int .u32 0, .int .u32 0]
theorem zero8_vw : zero8 = vw (List.replicate 8 0) := by rfl
theorem noWords_len (s : ByteArray) (h : s.size ≠ 64) : NoWords s := by
  intro l hl he
  have := congrArg List.length he
  rw [length_hexAllL, strL_length] at this
  omega
theorem noWords_chunk (s : ByteArray) (i : Nat) (hi : i < s.size / 8) (hc : chunkN s i = none) : NoWords s := by
  intro l hl he
  have hs : s = ⟨(hexAllL l).toArray⟩ := by
    rw [he]; rfl
  have hz := congrArg List.length he
  rw [length_hexAllL, strL_length, hl] at hz
  rw [hs, chunkN_hex l i (by omega)] at hc
  cases hc
theorem zcell {w : World} {g : Nat} {t : TypeId} (h : w.heap[g]? = some (.cells zero8.toArray t)) (i : Nat) (hi : i < 8) : w.cell? ⟨g, i, none⟩ = some (.int .u32 0) := by
  rw [cell_of_row w g i _ t _ h]
  have : i = 0 ∨ i = 1 ∨ i = 2 ∨ i = 3 ∨ i = 4 ∨ i = 5 ∨ i = 6 ∨ i = 7 := by omega
  rcases this with rfl | rfl | rfl | rfl | rfl | rfl | rfl | rfl <;> rfl
theorem zset {w : World} {g : Nat} {t : TypeId} (h : w.heap[g]? = some (.cells zero8.toArray t)) (i : Nat) (hi : i < 8) : w.setCell ⟨g, i, none⟩ (.int .u32 0) = w := by
  have hh : (w.setCell ⟨g, i, none⟩ (.int .u32 0)).heap = w.heap := by
    apply Array.ext_getElem?
    intro k
    by_cases hk : k = g
    · subst hk
      rw [heap_setCell_same w k i _ t _ h, h]
      have : i = 0 ∨ i = 1 ∨ i = 2 ∨ i = 3 ∨ i = 4 ∨ i = 5 ∨ i = 6 ∨ i = 7 := by omega
      rcases this with rfl | rfl | rfl | rfl | rfl | rfl | rfl | rfl <;> rfl
    · exact heap_setCell_other w ⟨g, i, none⟩ k _ (by simpa using hk)
  show { w with heap := (w.setCell ⟨g, i, none⟩ (.int .u32 0)).heap } = w
  rw [hh]
set_option maxHeartbeats 4000000 in
theorem eight_told (s : ByteArray) (u : TypeId) (x : Value) (w : World) (hs : s.size ≤ 2097152) (hE : w.cell? ⟨2, 0, none⟩ = some (.iface u x)) :
    Calls Tryz.prog 29 #[.string s] w fun e w' => Below w.heap.size w w' ∧
      ((∃ l : List UInt32, l.length = 8 ∧ hexAllL l = strL s ∧ e = .returned (.tuple #[.agg (vw l).toArray, .nilIface])) ∨ (NoWords s ∧ ∃ g, w'.cell? ⟨g, 1, none⟩ = some (.iface u x) ∧ e = .returned (.tuple #[.agg (vw (List.replicate 8 0)).toArray, .iface 78 (.pointer (some ⟨g, 0, none⟩))]))) := by
  obtain ⟨w1, hw1⟩ : ∃ w1, w.alloc (.cells zero8.toArray 26) = w1 := ⟨_, rfl⟩
  have hZ : w1.heap[w.heap.size]? = some (.cells zero8.toArray 26) := by rw [← hw1]; exact heap_alloc_new w _
  have hb1 : Below w.heap.size w w1 := by rw [← hw1]; exact (Below.refl _ _).alloc (Nat.le_refl _) _
  have hgE : 2 < w.heap.size := World.block_lt_of_cell? w _ hE
  have hE1 : w1.cell? ⟨2, 0, none⟩ = some (.iface u x) := by rw [cell_kept (hb1.block _ hgE)]; exact hE
  have l1 : w.heap.size < w1.heap.size := (Array.getElem?_eq_some_iff.1 hZ).1
  replace hZ := Lib.hid hZ; replace hb1 := Lib.hid hb1; replace hE1 := Lib.hid hE1
  clear hE
  go_enter Tryz.func29, Tryz.ntmps29
  go_upto_region 1 with fail
  try (change Code.wp _ _ _ _ (w.alloc (.cells zero8.toArray 26)); rw [hw1])
  clear hw1
  go_cut [4, 5] from 6 to 10 (fun lv ev wx => Below w1.heap.size w1 wx ∧ ∃ (n cap : Nat) (ao : Option Addr) (k : Int), lv = .slice ao n cap ∧ ev = .int .i64 k ∧ ((k = 0 ∧ ∃ l : List UInt32, Rd wx lv (vw l) ∧ n = l.length ∧ hexAllL l = strL s) ∨ (k = 10 ∧ NoWords s)))
  case first =>
    by_cases h8 : s.size % 8 = 0
    · go_wp2_with fail
      refine (parseall_any s _ hs h8).mono ?_
      rintro e w2 ⟨b2, ⟨v2, rfl, o2, hall⟩ | ⟨rfl, i, hi, hn⟩⟩
      · obtain ⟨ao, cap, rfl, _⟩ := Rd.of_own o2
        have hx := hex_parseAll s h8 hall
        have hln : (vw (parseAllL s)).length = (parseAllL s).length := length_vw _
        have hR := Rd.of_own o2
        rw [length_vw] at hR
        replace hR := Lib.hid hR; replace b2 := Lib.hid b2; replace hx := Lib.hid hx
        clear o2 hall
        go_wp2_with fail
        go_meet
        case rel => exact ⟨b2.out, _, cap, ao, 0, rfl, rfl, .inl ⟨rfl, parseAllL s, hR.out, rfl, hx.out⟩⟩
      · have hN := noWords_chunk s i hi hn
        replace hN := Lib.hid hN; replace b2 := Lib.hid b2
        clear hn
        go_wp2_with fail
        go_meet
        case rel => exact ⟨b2.out, 0, 0, none, 10, rfl, rfl, .inr ⟨rfl, hN.out⟩⟩
    · have hN := Lib.hid (noWords_len s (by omega))
      go_wp2_with fail
      refine (parseall_part s _ hs h8).mono ?_
      rintro e w2 ⟨rfl, rfl⟩
      go_wp2_with fail
      go_meet
      case rel => exact ⟨Below.refl _ _, 0, 0, none, 10, rfl, rfl, .inr ⟨rfl, hN.out⟩⟩
  case rest =>
    obtain ⟨b2, n, cap, ao, k, rfl, rfl, hk⟩ := hcut
    obtain ⟨w2, rfl⟩ : ∃ w2, w2 = wc := ⟨wc, rfl⟩
    have hb2 := hb1.out.trans (b2.mono hb1.out.size)
    have hZ2 := (b2.block _ l1).trans hZ.out
    have hE2 : w2.cell? ⟨2, 0, none⟩ = some (.iface u x) := by rw [cell_kept (b2.block _ (by omega))]; exact hE1.out
    clear b2 hb1 hZ hE1
    replace hb2 := Lib.hid hb2; replace hZ2 := Lib.hid hZ2; replace hE2 := Lib.hid hE2
    go_upto_region 2 with fail
    go_cut [17] from 11 to 17 (fun r wx => wx = w2 ∧ ∃ b : Bool, r = .bool b ∧ ((b = true ∧ NoWords s) ∨ (b = false ∧ n = 8 ∧ ∃ l : List UInt32, Rd w2 (.slice ao n cap) (vw l) ∧ n = l.length ∧ hexAllL l = strL s)))
    case first =>
      rcases hk with ⟨rfl, l, hl, hn, hx⟩ | ⟨rfl, hN⟩
      · by_cases h8 : n = 8
        · subst h8
          replace hl := Lib.hid hl; replace hx := Lib.hid hx; replace hn := Lib.hid hn
          go_wp2_with fail
          go_meet
          case rel => exact ⟨rfl, false, rfl, .inr ⟨rfl, by simp, l, hl.out, hn.out, hx.out⟩⟩
        · have hN : NoWords s := noWords_len s (by have := congrArg List.length hx; rw [length_hexAllL, strL_length] at this; omega)
          have d8 : ((n : Int) != 8) = true := by simp; omega
          replace hl := Lib.hid hl; replace hx := Lib.hid hx; replace hn := Lib.hid hn; replace hN := Lib.hid hN
          go_wp2_with fail
          go_meet
          case rel => exact ⟨rfl, true, rfl, .inl ⟨rfl, hN.out⟩⟩
      · replace hN := Lib.hid hN
        go_wp2_with fail
        go_meet
        case rel => exact ⟨rfl, true, rfl, .inl ⟨rfl, hN.out⟩⟩
    case rest =>
      obtain ⟨hwc, b, rfl, hk2⟩ := hcut
      subst hwc
      clear hk
      rcases hk2 with ⟨rfl, hN⟩ | ⟨rfl, rfl, l, hl, hn, hx⟩
      · replace hN := Lib.hid hN
        have lw : w.heap.size < wc.heap.size := (Array.getElem?_eq_some_iff.1 hZ2.out).1
        have hZa : (wc.alloc (.cells #[.string s, .iface u x] 80)).heap[w.heap.size]? = some (.cells zero8.toArray 26) := (heap_alloc_old wc _ lw).trans hZ2.out
        have cE : wc.cell? ⟨2, 0, none⟩ = some (.iface u x) := hE2.out
        have cA : (wc.alloc (.cells #[.string s, .iface u x] 80)).cell? ⟨2, 0, none⟩ = some (.iface u x) := by rw [cell_kept (heap_alloc_old wc _ (by omega))]; exact cE
        have bA := hb2.out.alloc hb2.out.size (.cells #[.string s, .iface u x] 80)
        have rA : (wc.alloc (.cells #[.string s, .iface u x] 80)).rangeAt w.heap.size 0 zero8 := range_block hZa
        replace hZa := Lib.hid hZa; replace bA := Lib.hid bA; replace rA := Lib.hid rA
        have pc0 : wc.cell? ⟨w.heap.size, 0, none⟩ = some (.int .u32 0) := zcell hZ2.out 0 (by decide)
        have pf0 : wc.frozen? ⟨w.heap.size, 0, none⟩ = false := frozen_of_row wc _ 0 _ _ hZ2.out
        have ps0 : wc.setCell ⟨w.heap.size, 0, none⟩ (.int .u32 0) = wc := zset hZ2.out 0 (by decide)
        have pc1 : wc.cell? ⟨w.heap.size, 1, none⟩ = some (.int .u32 0) := zcell hZ2.out 1 (by decide)
        have pf1 : wc.frozen? ⟨w.heap.size, 1, none⟩ = false := frozen_of_row wc _ 1 _ _ hZ2.out
        have ps1 : wc.setCell ⟨w.heap.size, 1, none⟩ (.int .u32 0) = wc := zset hZ2.out 1 (by decide)
        have pc2 : wc.cell? ⟨w.heap.size, 2, none⟩ = some (.int .u32 0) := zcell hZ2.out 2 (by decide)
        have pf2 : wc.frozen? ⟨w.heap.size, 2, none⟩ = false := frozen_of_row wc _ 2 _ _ hZ2.out
        have ps2 : wc.setCell ⟨w.heap.size, 2, none⟩ (.int .u32 0) = wc := zset hZ2.out 2 (by decide)
        have pc3 : wc.cell? ⟨w.heap.size, 3, none⟩ = some (.int .u32 0) := zcell hZ2.out 3 (by decide)
        have pf3 : wc.frozen? ⟨w.heap.size, 3, none⟩ = false := frozen_of_row wc _ 3 _ _ hZ2.out
        have ps3 : wc.setCell ⟨w.heap.size, 3, none⟩ (.int .u32 0) = wc := zset hZ2.out 3 (by decide)
        have pc4 : wc.cell? ⟨w.heap.size, 4, none⟩ = some (.int .u32 0) := zcell hZ2.out 4 (by decide)
        have pf4 : wc.frozen? ⟨w.heap.size, 4, none⟩ = false := frozen_of_row wc _ 4 _ _ hZ2.out
        have ps4 : wc.setCell ⟨w.heap.size, 4, none⟩ (.int .u32 0) = wc := zset hZ2.out 4 (by decide)
        have pc5 : wc.cell? ⟨w.heap.size, 5, none⟩ = some (.int .u32 0) := zcell hZ2.out 5 (by decide)
        have pf5 : wc.frozen? ⟨w.heap.size, 5, none⟩ = false := frozen_of_row wc _ 5 _ _ hZ2.out
        have ps5 : wc.setCell ⟨w.heap.size, 5, none⟩ (.int .u32 0) = wc := zset hZ2.out 5 (by decide)
        have pc6 : wc.cell? ⟨w.heap.size, 6, none⟩ = some (.int .u32 0) := zcell hZ2.out 6 (by decide)
        have pf6 : wc.frozen? ⟨w.heap.size, 6, none⟩ = false := frozen_of_row wc _ 6 _ _ hZ2.out
        have ps6 : wc.setCell ⟨w.heap.size, 6, none⟩ (.int .u32 0) = wc := zset hZ2.out 6 (by decide)
        have pc7 : wc.cell? ⟨w.heap.size, 7, none⟩ = some (.int .u32 0) := zcell hZ2.out 7 (by decide)
        have pf7 : wc.frozen? ⟨w.heap.size, 7, none⟩ = false := frozen_of_row wc _ 7 _ _ hZ2.out
        have ps7 : wc.setCell ⟨w.heap.size, 7, none⟩ (.int .u32 0) = wc := zset hZ2.out 7 (by decide)
        have qc0 : (wc.alloc (.cells #[.string s, .iface u x] 80)).cell? ⟨w.heap.size, 0, none⟩ = some (.int .u32 0) := zcell hZa.out 0 (by decide)
        have qf0 : (wc.alloc (.cells #[.string s, .iface u x] 80)).frozen? ⟨w.heap.size, 0, none⟩ = false := frozen_of_row (wc.alloc (.cells #[.string s, .iface u x] 80)) _ 0 _ _ hZa.out
        have qs0 : (wc.alloc (.cells #[.string s, .iface u x] 80)).setCell ⟨w.heap.size, 0, none⟩ (.int .u32 0) = (wc.alloc (.cells #[.string s, .iface u x] 80)) := zset hZa.out 0 (by decide)
        have qc1 : (wc.alloc (.cells #[.string s, .iface u x] 80)).cell? ⟨w.heap.size, 1, none⟩ = some (.int .u32 0) := zcell hZa.out 1 (by decide)
        have qf1 : (wc.alloc (.cells #[.string s, .iface u x] 80)).frozen? ⟨w.heap.size, 1, none⟩ = false := frozen_of_row (wc.alloc (.cells #[.string s, .iface u x] 80)) _ 1 _ _ hZa.out
        have qs1 : (wc.alloc (.cells #[.string s, .iface u x] 80)).setCell ⟨w.heap.size, 1, none⟩ (.int .u32 0) = (wc.alloc (.cells #[.string s, .iface u x] 80)) := zset hZa.out 1 (by decide)
        have qc2 : (wc.alloc (.cells #[.string s, .iface u x] 80)).cell? ⟨w.heap.size, 2, none⟩ = some (.int .u32 0) := zcell hZa.out 2 (by decide)
        have qf2 : (wc.alloc (.cells #[.string s, .iface u x] 80)).frozen? ⟨w.heap.size, 2, none⟩ = false := frozen_of_row (wc.alloc (.cells #[.string s, .iface u x] 80)) _ 2 _ _ hZa.out
        have qs2 : (wc.alloc (.cells #[.string s, .iface u x] 80)).setCell ⟨w.heap.size, 2, none⟩ (.int .u32 0) = (wc.alloc (.cells #[.string s, .iface u x] 80)) := zset hZa.out 2 (by decide)
        have qc3 : (wc.alloc (.cells #[.string s, .iface u x] 80)).cell? ⟨w.heap.size, 3, none⟩ = some (.int .u32 0) := zcell hZa.out 3 (by decide)
        have qf3 : (wc.alloc (.cells #[.string s, .iface u x] 80)).frozen? ⟨w.heap.size, 3, none⟩ = false := frozen_of_row (wc.alloc (.cells #[.string s, .iface u x] 80)) _ 3 _ _ hZa.out
        have qs3 : (wc.alloc (.cells #[.string s, .iface u x] 80)).setCell ⟨w.heap.size, 3, none⟩ (.int .u32 0) = (wc.alloc (.cells #[.string s, .iface u x] 80)) := zset hZa.out 3 (by decide)
        have qc4 : (wc.alloc (.cells #[.string s, .iface u x] 80)).cell? ⟨w.heap.size, 4, none⟩ = some (.int .u32 0) := zcell hZa.out 4 (by decide)
        have qf4 : (wc.alloc (.cells #[.string s, .iface u x] 80)).frozen? ⟨w.heap.size, 4, none⟩ = false := frozen_of_row (wc.alloc (.cells #[.string s, .iface u x] 80)) _ 4 _ _ hZa.out
        have qs4 : (wc.alloc (.cells #[.string s, .iface u x] 80)).setCell ⟨w.heap.size, 4, none⟩ (.int .u32 0) = (wc.alloc (.cells #[.string s, .iface u x] 80)) := zset hZa.out 4 (by decide)
        have qc5 : (wc.alloc (.cells #[.string s, .iface u x] 80)).cell? ⟨w.heap.size, 5, none⟩ = some (.int .u32 0) := zcell hZa.out 5 (by decide)
        have qf5 : (wc.alloc (.cells #[.string s, .iface u x] 80)).frozen? ⟨w.heap.size, 5, none⟩ = false := frozen_of_row (wc.alloc (.cells #[.string s, .iface u x] 80)) _ 5 _ _ hZa.out
        have qs5 : (wc.alloc (.cells #[.string s, .iface u x] 80)).setCell ⟨w.heap.size, 5, none⟩ (.int .u32 0) = (wc.alloc (.cells #[.string s, .iface u x] 80)) := zset hZa.out 5 (by decide)
        have qc6 : (wc.alloc (.cells #[.string s, .iface u x] 80)).cell? ⟨w.heap.size, 6, none⟩ = some (.int .u32 0) := zcell hZa.out 6 (by decide)
        have qf6 : (wc.alloc (.cells #[.string s, .iface u x] 80)).frozen? ⟨w.heap.size, 6, none⟩ = false := frozen_of_row (wc.alloc (.cells #[.string s, .iface u x] 80)) _ 6 _ _ hZa.out
        have qs6 : (wc.alloc (.cells #[.string s, .iface u x] 80)).setCell ⟨w.heap.size, 6, none⟩ (.int .u32 0) = (wc.alloc (.cells #[.string s, .iface u x] 80)) := zset hZa.out 6 (by decide)
        have qc7 : (wc.alloc (.cells #[.string s, .iface u x] 80)).cell? ⟨w.heap.size, 7, none⟩ = some (.int .u32 0) := zcell hZa.out 7 (by decide)
        have qf7 : (wc.alloc (.cells #[.string s, .iface u x] 80)).frozen? ⟨w.heap.size, 7, none⟩ = false := frozen_of_row (wc.alloc (.cells #[.string s, .iface u x] 80)) _ 7 _ _ hZa.out
        have qs7 : (wc.alloc (.cells #[.string s, .iface u x] 80)).setCell ⟨w.heap.size, 7, none⟩ (.int .u32 0) = (wc.alloc (.cells #[.string s, .iface u x] 80)) := zset hZa.out 7 (by decide)
        go_upto_region 3 with fail
        go_region_held3 (fun w' => w'.cell? ⟨2, 0, none⟩ = some (.iface u x))
          (first | exact cE | exact cA | assumption)
          (fail)
        all_goals
          go_wp2_with fail
          refine bodyPost_ret (results_two rfl rfl rfl (cs := zero8) (rangeAt_kept rA.out rfl) Tryz.underlying26 rfl info23) rfl ⟨bA.out.drew, .inr ⟨hN.out, wc.heap.size, by have h := cell_of_row (wc.alloc (.cells #[.string s, .iface u x] 80)) wc.heap.size 1 _ _ _ (heap_alloc_new wc _); exact h, by rw [← zero8_vw]; rfl⟩⟩
      · obtain ⟨ao', cap', hv, c1, c2, c3⟩ := hl
        simp only [Value.slice.injEq] at hv
        obtain ⟨rfl, e8, rfl⟩ := hv
        obtain ⟨b, off, rfl, hcell⟩ := c3.resolve_left (by intro h; rw [h] at e8; simp at e8)
        have l8 : l.length = 8 := by omega
        have hrg : wc.rangeAt b off (vw l) := fun j u hu => hcell j u hu
        have hc8 : 8 ≤ cap := by rw [length_vw] at c1; omega
        have harr := run_arrayAt (P := Tryz.prog) (w := wc) 26 25 8 (some ⟨b, off, none⟩) 8 cap Tryz.underlying26 (Nat.le_refl _)
        clear hcell c3 e8 hn
        replace hrg := Lib.hid hrg; replace hx := Lib.hid hx
        go_wp2_with (first
          | (refine wpList_load_mid rfl 26 _ rfl b off rfl (vw l) _ hrg.out Tryz.underlying26 rfl (by rw [length_vw, l8]; exact info23) ?_)
          | (refine wpList_store_blk rfl 26 _ _ rfl w.heap.size (vw l) rfl rfl 26 _ hZ2.out (by rw [length_vw, l8]; exact info23) (by rw [length_vw, l8]; rfl) (vw_oneCell l) ?_; intro w4 hB4 g4))
        refine bodyPost_ret (results_two rfl rfl rfl (range_block hB4) Tryz.underlying26 rfl (by rw [length_vw, l8]; exact info23)) rfl ⟨hb2.out.grown g4 hb2.out.size (by simp), .inl ⟨l, l8, hx.out, rfl⟩⟩
theorem eight_any (s : ByteArray) (u : TypeId) (x : Value) (w : World) (hs : s.size ≤ 2097152) (hE : w.cell? ⟨2, 0, none⟩ = some (.iface u x)) :
    Calls Tryz.prog 29 #[.string s] w fun e w' => Below w.heap.size w w' ∧
      ((∃ l : List UInt32, l.length = 8 ∧ hexAllL l = strL s ∧ e = .returned (.tuple #[.agg (vw l).toArray, .nilIface])) ∨ (NoWords s ∧ ∃ t y, e = .returned (.tuple #[.agg (vw (List.replicate 8 0)).toArray, .iface t y]))) := by
  refine (eight_told s u x w hs hE).mono ?_
  rintro e w' ⟨hb, h | ⟨hN, g, _, he⟩⟩
  · exact ⟨hb, .inl h⟩
  · exact ⟨hb, .inr ⟨hN, _, _, he⟩⟩
end Go.Proofs.YtemanjahkohcpaaGreatDoor
