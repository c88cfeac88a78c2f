/- The library's Itoa, FormatInt at base 10 and (*Builder).String at this program's numbers. (Printed by wip/sh/layplain.py, laymark.py.) The contracts of asm's small functions: isName, number, register; isa's Named and CondNamed. -/
import Derived.Test.YtiknookfnameiaaGreatDoorProg
import Derived.Shelf.LaysM
import Derived.Shelf.Strconv.Itoa3
import Derived.Shelf.Strconv.Itoa4
import Derived.Shelf.Strings.Builder1
import Derived.Test.YtiknookfnameiaaGreatDoorJn15
namespace Go.Proofs
open Go.Shelf
def YtiknookfnameiaaGreatDoor.laysItoa_ren : Go.Shelf.Ren := ⟨fun | 171 => 33 | 243 => 53 | 246 => 76 | 283 => 102 | 284 => 103 | 285 => 104 | 286 => 105 | 129 => 129 | 317 => 128 | 318 => 130 | 319 => 131 | 320 => 132 | 337 => 149 | 338 => 150 | n => n, fun | 3 => 3 | 9 => 9 | 2 => 2 | 4 => 4 | 171 => 212 | 0 => 0 | 53 => 132 | 37 => 101 | 5 => 5 | 173 => 215 | 212 => 238 | 51 => 22 | 20 => 20 | 213 => 239 | 46 => 93 | 232 => 266 | 233 => 267 | n => n, fun | 17 => 5 | 18 => 8 | 19 => 9 | n => n⟩
theorem YtiknookfnameiaaGreatDoor.laysItoa : Go.Proofs.LaysM.n171 Tryz.prog YtiknookfnameiaaGreatDoor.laysItoa_ren := {
  mixed := by kernel_rfl
  f129 := Tryz.func129.trans (congrArg some (by kernel_rfl))
  f171 := Tryz.func33.trans (congrArg some (by kernel_rfl))
  f243 := Tryz.func53.trans (congrArg some (by kernel_rfl))
  f246 := Tryz.func76.trans (congrArg some (by kernel_rfl))
  f283 := Tryz.func102.trans (congrArg some (by kernel_rfl))
  f284 := Tryz.func103.trans (congrArg some (by kernel_rfl))
  f285 := Tryz.func104.trans (congrArg some (by kernel_rfl))
  f286 := Tryz.func105.trans (congrArg some (by kernel_rfl))
  f317 := Tryz.func128.trans (congrArg some (by kernel_rfl))
  f318 := Tryz.func130.trans (congrArg some (by kernel_rfl))
  f319 := Tryz.func131.trans (congrArg some (by kernel_rfl))
  f320 := Tryz.func132.trans (congrArg some (by kernel_rfl))
  f337 := Tryz.func149.trans (congrArg some (by kernel_rfl))
  f338 := Tryz.func150.trans (congrArg some (by kernel_rfl))
  t0 := Tryz.underlying0
  a0 := Tryz.isAgg0
  z0 := Tryz.sizeOf0
  v0 := Tryz.zeroValue0
  t2 := Tryz.underlying2
  a2 := Tryz.isAgg2
  z2 := Tryz.sizeOf2
  v2 := Tryz.zeroValue2
  t3 := Tryz.underlying3
  a3 := Tryz.isAgg3
  z3 := Tryz.sizeOf3
  v3 := Tryz.zeroValue3
  t4 := Tryz.underlying4
  a4 := Tryz.isAgg4
  z4 := Tryz.sizeOf4
  v4 := Tryz.zeroValue4
  t5 := Tryz.underlying5
  a5 := Tryz.isAgg5
  z5 := Tryz.sizeOf5
  v5 := Tryz.zeroValue5
  t9 := Tryz.underlying9
  a9 := Tryz.isAgg9
  z9 := Tryz.sizeOf9
  v9 := Tryz.zeroValue9
  t20 := Tryz.underlying20
  a20 := Tryz.isAgg20
  z20 := Tryz.sizeOf20
  v20 := Tryz.zeroValue20
  t37 := Tryz.underlying101
  a37 := Tryz.isAgg101
  z37 := Tryz.sizeOf101
  v37 := Tryz.zeroValue101
  t46 := Tryz.underlying93
  a46 := Tryz.isAgg93
  z46 := Tryz.sizeOf93
  v46 := Tryz.zeroValue93
  t51 := Tryz.underlying22
  a51 := Tryz.isAgg22
  z51 := Tryz.sizeOf22
  v51 := Tryz.zeroValue22
  t53 := Tryz.underlying132
  a53 := Tryz.isAgg132
  z53 := Tryz.sizeOf132
  v53 := Tryz.zeroValue132
  t171 := Tryz.underlying212
  a171 := Tryz.isAgg212
  z171 := Tryz.sizeOf212
  v171 := Tryz.zeroValue212
  t173 := Tryz.underlying215
  a173 := Tryz.isAgg215
  z173 := Tryz.sizeOf215
  v173 := Tryz.zeroValue215
  t212 := Tryz.underlying238
  a212 := Tryz.isAgg238
  z212 := Tryz.sizeOf238
  v212 := Tryz.zeroValue238
  t213 := Tryz.underlying239
  a213 := Tryz.isAgg239
  z213 := Tryz.sizeOf239
  t232 := Tryz.underlying266
  a232 := Tryz.isAgg266
  z232 := Tryz.sizeOf266
  v232 := Tryz.zeroValue266
  t233 := Tryz.underlying267
  a233 := Tryz.isAgg267
  z233 := Tryz.sizeOf267
  v233 := Tryz.zeroValue267
  g17 := by kernel_rfl
  g18 := by kernel_rfl
  g19 := by kernel_rfl
  i0 := by kernel_rfl
  i2 := by kernel_rfl
  i3 := by kernel_rfl
  i4 := by kernel_rfl
  i5 := by kernel_rfl
  i9 := by kernel_rfl
  i20 := by kernel_rfl
  i37 := by kernel_rfl
  i46 := by kernel_rfl
  i51 := by kernel_rfl
  i53 := by kernel_rfl
  i171 := by kernel_rfl
  i173 := by kernel_rfl
  i212 := by kernel_rfl
  i232 := by kernel_rfl
  i233 := by kernel_rfl
  m17 := by kernel_rfl
  m18 := by kernel_rfl
  m19 := by kernel_rfl }
def YtiknookfnameiaaGreatDoor.laysFIntP_ren : Go.Shelf.Ren := ⟨fun | 173 => 78 | 246 => 76 | 283 => 102 | 284 => 103 | 285 => 104 | 286 => 105 | 129 => 129 | 317 => 128 | 318 => 130 | 319 => 131 | 320 => 132 | 337 => 149 | 338 => 150 | n => n, fun | 2 => 2 | 3 => 3 | 9 => 9 | 4 => 4 | 171 => 212 | 0 => 0 | 53 => 132 | 37 => 101 | 5 => 5 | 173 => 215 | 212 => 238 | 51 => 22 | 20 => 20 | 213 => 239 | 46 => 93 | 232 => 266 | 233 => 267 | n => n, fun | 17 => 5 | 18 => 8 | 19 => 9 | n => n⟩
theorem YtiknookfnameiaaGreatDoor.laysFIntP : Go.Proofs.LaysM.n173 Tryz.prog YtiknookfnameiaaGreatDoor.laysFIntP_ren := {
  mixed := by kernel_rfl
  f129 := Tryz.func129.trans (congrArg some (by kernel_rfl))
  f173 := Tryz.func78.trans (congrArg some (by kernel_rfl))
  f246 := Tryz.func76.trans (congrArg some (by kernel_rfl))
  f283 := Tryz.func102.trans (congrArg some (by kernel_rfl))
  f284 := Tryz.func103.trans (congrArg some (by kernel_rfl))
  f285 := Tryz.func104.trans (congrArg some (by kernel_rfl))
  f286 := Tryz.func105.trans (congrArg some (by kernel_rfl))
  f317 := Tryz.func128.trans (congrArg some (by kernel_rfl))
  f318 := Tryz.func130.trans (congrArg some (by kernel_rfl))
  f319 := Tryz.func131.trans (congrArg some (by kernel_rfl))
  f320 := Tryz.func132.trans (congrArg some (by kernel_rfl))
  f337 := Tryz.func149.trans (congrArg some (by kernel_rfl))
  f338 := Tryz.func150.trans (congrArg some (by kernel_rfl))
  t0 := Tryz.underlying0
  a0 := Tryz.isAgg0
  z0 := Tryz.sizeOf0
  v0 := Tryz.zeroValue0
  t2 := Tryz.underlying2
  a2 := Tryz.isAgg2
  z2 := Tryz.sizeOf2
  v2 := Tryz.zeroValue2
  t3 := Tryz.underlying3
  a3 := Tryz.isAgg3
  z3 := Tryz.sizeOf3
  v3 := Tryz.zeroValue3
  t4 := Tryz.underlying4
  a4 := Tryz.isAgg4
  z4 := Tryz.sizeOf4
  v4 := Tryz.zeroValue4
  t5 := Tryz.underlying5
  a5 := Tryz.isAgg5
  z5 := Tryz.sizeOf5
  v5 := Tryz.zeroValue5
  t9 := Tryz.underlying9
  a9 := Tryz.isAgg9
  z9 := Tryz.sizeOf9
  v9 := Tryz.zeroValue9
  t20 := Tryz.underlying20
  a20 := Tryz.isAgg20
  z20 := Tryz.sizeOf20
  v20 := Tryz.zeroValue20
  t37 := Tryz.underlying101
  a37 := Tryz.isAgg101
  z37 := Tryz.sizeOf101
  v37 := Tryz.zeroValue101
  t46 := Tryz.underlying93
  a46 := Tryz.isAgg93
  z46 := Tryz.sizeOf93
  v46 := Tryz.zeroValue93
  t51 := Tryz.underlying22
  a51 := Tryz.isAgg22
  z51 := Tryz.sizeOf22
  v51 := Tryz.zeroValue22
  t53 := Tryz.underlying132
  a53 := Tryz.isAgg132
  z53 := Tryz.sizeOf132
  v53 := Tryz.zeroValue132
  t171 := Tryz.underlying212
  a171 := Tryz.isAgg212
  z171 := Tryz.sizeOf212
  v171 := Tryz.zeroValue212
  t173 := Tryz.underlying215
  a173 := Tryz.isAgg215
  z173 := Tryz.sizeOf215
  v173 := Tryz.zeroValue215
  t212 := Tryz.underlying238
  a212 := Tryz.isAgg238
  z212 := Tryz.sizeOf238
  v212 := Tryz.zeroValue238
  t213 := Tryz.underlying239
  a213 := Tryz.isAgg239
  z213 := Tryz.sizeOf239
  t232 := Tryz.underlying266
  a232 := Tryz.isAgg266
  z232 := Tryz.sizeOf266
  v232 := Tryz.zeroValue266
  t233 := Tryz.underlying267
  a233 := Tryz.isAgg267
  z233 := Tryz.sizeOf267
  v233 := Tryz.zeroValue267
  g17 := by kernel_rfl
  g18 := by kernel_rfl
  g19 := by kernel_rfl
  i0 := by kernel_rfl
  i2 := by kernel_rfl
  i3 := by kernel_rfl
  i4 := by kernel_rfl
  i5 := by kernel_rfl
  i9 := by kernel_rfl
  i20 := by kernel_rfl
  i37 := by kernel_rfl
  i46 := by kernel_rfl
  i51 := by kernel_rfl
  i53 := by kernel_rfl
  i171 := by kernel_rfl
  i173 := by kernel_rfl
  i212 := by kernel_rfl
  i232 := by kernel_rfl
  i233 := by kernel_rfl
  m17 := by kernel_rfl
  m18 := by kernel_rfl
  m19 := by kernel_rfl }
def YtiknookfnameiaaGreatDoor.laysBStr_ren : Go.Shelf.Ren := ⟨fun | 169 => 36 | n => n, fun | 70 => 100 | 9 => 9 | 0 => 0 | 72 => 103 | 37 => 101 | 127 => 145 | 3 => 3 | 5 => 5 | n => n, fun | n => n⟩
theorem YtiknookfnameiaaGreatDoor.laysBStr : Go.Proofs.Lays.n169 Tryz.prog YtiknookfnameiaaGreatDoor.laysBStr_ren := {
  mixed := by kernel_rfl
  f169 := Tryz.func36.trans (congrArg some (by kernel_rfl))
  t0 := Tryz.underlying0
  a0 := Tryz.isAgg0
  z0 := Tryz.sizeOf0
  v0 := Tryz.zeroValue0
  t3 := Tryz.underlying3
  a3 := Tryz.isAgg3
  z3 := Tryz.sizeOf3
  v3 := Tryz.zeroValue3
  t9 := Tryz.underlying9
  a9 := Tryz.isAgg9
  z9 := Tryz.sizeOf9
  v9 := Tryz.zeroValue9
  t37 := Tryz.underlying101
  a37 := Tryz.isAgg101
  z37 := Tryz.sizeOf101
  v37 := Tryz.zeroValue101
  t70 := Tryz.underlying100
  a70 := Tryz.isAgg100
  z70 := Tryz.sizeOf100
  v70 := Tryz.zeroValue100
  t72 := Tryz.underlying103
  a72 := Tryz.isAgg103
  z72 := Tryz.sizeOf103
  v72 := Tryz.zeroValue103
  t127 := Tryz.underlying145
  a127 := Tryz.isAgg145
  z127 := Tryz.sizeOf145
  v127 := Tryz.zeroValue145 }
end Go.Proofs

namespace Go.Proofs.YtiknookfnameiaaGreatDoor
open Go.RowKit WP
set_option linter.unusedSimpArgs false
set_option maxRecDepth 100000 in
theorem isnm_any (x : W) (w : World) : Calls Tryz.prog 114 #[wV x] w fun e w' => e = .returned (.bool (isNameF x)) ∧ Below w.heap.size w w' := by
  obtain ⟨s, q, c⟩ := x
  have hb := (Below.refl w.heap.size w).alloc (Nat.le_refl _) (.cells #[.string s, .bool q, .int .i64 (c : Int)] 152)
  have hn := fun W => name_any s W
  unfold isNameF wV
  dsimp only
  replace hb := Lib.hid hb
  cases q with
  | true =>
    clear hn
    go_enter Tryz.func114, Tryz.ntmps114
    go_wp2_with fail
    go_ret
    exact ⟨rfl, hb.out⟩
  | false =>
    cases h : nameF s with
    | true =>
      rw [h, if_pos rfl] at hn
      go_enter Tryz.func114, Tryz.ntmps114
      go_wp2_with (go_at_call 63; refine (hn _).mono ?_; rintro e w' ⟨rfl, rfl⟩)
      go_ret
      exact ⟨rfl, hb.out⟩
    | false =>
      rw [h, if_neg (by simp)] at hn
      go_enter Tryz.func114, Tryz.ntmps114
      go_wp2_with (go_at_call 63; refine (hn _).mono ?_; rintro e w' ⟨rfl, rfl⟩)
      go_ret
      exact ⟨rfl, hb.out⟩
set_option maxRecDepth 100000 in
theorem anum_any (x : W) (w : World) (hs : x.1.size ≤ 140737488355328) (hE : ErrVar w "strconv.ErrRange") :
    Calls Tryz.prog 117 #[wV x] w fun e w' => e = .returned (.tuple #[.int .u32 ((numberM x).getD 0), .bool (numberM x).isSome]) ∧ Below w.heap.size w w' := by
  obtain ⟨s, q, c⟩ := x
  have hb := (Below.refl w.heap.size w).alloc (Nat.le_refl _) (.cells #[.string s, .bool q, .int .i64 (c : Int)] 152)
  have hE1 := hE.later hb
  have hnu := fun W hW => number_any s W hs hW
  have hsg := fun W hW => signed_any s W hs hW
  unfold numberM wV
  dsimp only
  cases q with
  | true =>
    clear hnu hsg
    replace hb := Lib.hid hb; replace hE1 := Lib.hid hE1
    go_enter Tryz.func117, Tryz.ntmps117
    go_wp2_with fail
    go_ret2
    exact ⟨rfl, hb.out⟩
  | false =>
    rw [if_neg (by simp)]
    cases hn : numF s.data.toList with
    | some v =>
      rw [hn] at hnu
      simp only [Option.getD_some, Option.isSome_some, errN, if_true] at hnu ⊢
      clear hsg
      replace hb := Lib.hid hb; replace hE1 := Lib.hid hE1; replace hnu := Lib.hid hnu
      go_enter Tryz.func117, Tryz.ntmps117
      go_wp2_with (go_at_call 121; refine (hnu.out _ hE1.out).mono ?_; rintro e w1 ⟨b1, rfl⟩)
      go_ret2
      exact ⟨rfl, hb.out.trans (b1.mono hb.out.size)⟩
    | none =>
      rw [hn] at hnu
      simp only [Option.getD_none, Option.isSome_none, errN] at hnu
      have e41 : (if false = true then (0 : Int) else 41) = 41 := rfl
      rw [e41] at hnu
      cases hg : sgnF s.data.toList with
      | some v =>
        rw [hg] at hsg
        simp only [Option.getD_some, Option.isSome_some, errN, if_true, Option.map_some] at hsg ⊢
        replace hb := Lib.hid hb; replace hE1 := Lib.hid hE1; replace hnu := Lib.hid hnu; replace hsg := Lib.hid hsg
        go_enter Tryz.func117, Tryz.ntmps117
        go_wp2_with fail
        refine (hnu.out _ hE1.out).mono ?_
        rintro e w1 ⟨b1, rfl⟩
        have B1 := hb.out.trans (b1.mono hb.out.size)
        have hE2 := hE1.out.later b1
        have k0 : w1.cell? ⟨w.heap.size, 0, none⟩ = some (.string s) := (b1.cell (p := ⟨w.heap.size, 0, none⟩) (by simp)).trans (by simp)
        replace B1 := Lib.hid B1; replace hE2 := Lib.hid hE2
        clear b1
        go_wp2_with fail
        refine (hsg.out _ hE2.out).mono ?_
        rintro e w2 ⟨b2, rfl⟩
        go_wp2_with fail
        go_ret2
        exact ⟨rfl, B1.out.trans (b2.mono B1.out.size)⟩
      | none =>
        rw [hg] at hsg
        simp only [Option.getD_none, Option.isSome_none, errN, Option.map_none] at hsg ⊢
        rw [e41] at hsg
        replace hb := Lib.hid hb; replace hE1 := Lib.hid hE1; replace hnu := Lib.hid hnu; replace hsg := Lib.hid hsg
        go_enter Tryz.func117, Tryz.ntmps117
        go_wp2_with fail
        refine (hnu.out _ hE1.out).mono ?_
        rintro e w1 ⟨b1, rfl⟩
        have B1 := hb.out.trans (b1.mono hb.out.size)
        have hE2 := hE1.out.later b1
        have k0 : w1.cell? ⟨w.heap.size, 0, none⟩ = some (.string s) := (b1.cell (p := ⟨w.heap.size, 0, none⟩) (by simp)).trans (by simp)
        replace B1 := Lib.hid B1; replace hE2 := Lib.hid hE2
        clear b1
        go_wp2_with fail
        refine (hsg.out _ hE2.out).mono ?_
        rintro e w2 ⟨b2, rfl⟩
        go_wp2_with fail
        go_ret2
        exact ⟨rfl, B1.out.trans (b2.mono B1.out.size)⟩
end Go.Proofs.YtiknookfnameiaaGreatDoor
