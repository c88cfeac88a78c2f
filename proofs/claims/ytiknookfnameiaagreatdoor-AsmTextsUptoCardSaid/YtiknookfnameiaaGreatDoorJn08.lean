/- The library's FormatUint at base 10 at this program's numbers. (Printed by wip/sh/layplain.py, laymark.py.) The contract of the library's FormatUint at base 10, and of text's Tens: the table of powers of ten reads as it should. The library's Trim, CutPrefix, ParseInt and FormatInt at base 10 at this program's numbers. (Printed by wip/sh/layplain.py, laymark.py.) -/
import Derived.Test.YtiknookfnameiaaGreatDoorProg
import Derived.Shelf.LaysM
import Derived.Shelf.Strconv.Itoa1
import Derived.Shelf.Strconv.Itoa2
import Derived.Test.YtiknookfnameiaaGreatDoorTWdsJn
import Derived.Ground.NamesProg
import Derived.Lib.ItoaMem
import Derived.BigCall
import Derived.BigGuard
import Derived.Shelf.Strings.SlTrimAscii
import Derived.Shelf.Small.Wraps
import Derived.Shelf.Strconv.ErrVarParseInt
import Derived.Shelf.Strconv.Itoa4
namespace Go.Proofs
open Go.Shelf
def YtiknookfnameiaaGreatDoor.laysSm_ren : Go.Shelf.Ren := ⟨fun | 283 => 102 | n => n, fun | 3 => 3 | 9 => 9 | 4 => 4 | n => n, fun | n => n⟩
def YtiknookfnameiaaGreatDoor.laysNd_ren : Go.Shelf.Ren := ⟨fun | 284 => 103 | 129 => 129 | 317 => 128 | 318 => 130 | n => n, fun | 53 => 132 | 3 => 3 | 212 => 238 | 0 => 0 | 4 => 4 | 46 => 93 | 5 => 5 | 9 => 9 | n => n, fun | 17 => 5 | n => n⟩
def YtiknookfnameiaaGreatDoor.laysFb_ren : Go.Shelf.Ren := ⟨fun | 285 => 104 | n => n, fun | 37 => 101 | 53 => 132 | 3 => 3 | 4 => 4 | 51 => 22 | 9 => 9 | 5 => 5 | 0 => 0 | n => n, fun | n => n⟩
end Go.Proofs

namespace Go.Proofs
open Go.RowKit Go.Shelf Go.Sort
namespace YtiknookfnameiaaGreatDoor
open WP
abbrev Pow10 (w : World) : Prop := Lib.TabIs Tryz.prog w "internal/strconv.uint64pow10" .u64 Lib.pow10Tab
theorem pow10_blocks {w w' : World} (h : Pow10 w) (hk : ∀ k, k < w.heap.size → w'.heap[k]? = w.heap[k]?) : Pow10 w' := by
 unfold Pow10 Lib.TabIs World.var? at *
 cases hg : Tryz.prog.globalNamed "internal/strconv.uint64pow10" with
 | none => simp [hg] at h
 | some g =>
  simp only [hg, Option.bind_some] at h ⊢
  have hlt : g < w.heap.size := by
   rcases Nat.lt_or_ge g w.heap.size with h' | h'
   ·exact h'
   ·rw [Array.getElem?_eq_none h'] at h; simp at h
  rw [hk g hlt]
  exact h
theorem pow10_later {w w' : World} (h : Pow10 w) (hb : Below w.heap.size w w') : Pow10 w' := pow10_blocks h fun k hk => hb.block k hk
theorem grow_below (w : World) (k : Nat) (os : Array Obj) : Below w.heap.size w (grow (w.drewN k) os) := by
 have h0 : Below w.heap.size w (w.drewN k) := below_drewN (Below.refl _ _) _
 exact ⟨h0.os, h0.tape, h0.output, by rw [size_grow]; have := h0.size; omega, fun j hj => by rw [heap_grow_old _ _ (by have := h0.size; omega)]; exact h0.block j hj⟩
end YtiknookfnameiaaGreatDoor
end Go.Proofs

namespace Go.Proofs
open Go.Shelf
def YtiknookfnameiaaGreatDoor.laysTrim_ren : Go.Shelf.Ren := ⟨fun | 160 => 141 | 232 => 159 | 231 => 158 | 227 => 160 | 234 => 162 | 233 => 161 | 236 => 164 | 235 => 163 | 228 => 171 | 271 => 173 | 151 => 172 | 197 => 134 | 120 => 181 | 152 => 180 | 260 => 151 | 137 => 109 | 119 => 184 | 224 => 153 | 225 => 152 | 217 => 137 | 266 => 155 | n => n, fun | 9 => 9 | 4 => 4 | 3 => 3 | 5 => 5 | 117 => 261 | 116 => 260 | 0 => 0 | 124 => 264 | 21 => 21 | 105 => 242 | 46 => 93 | 119 => 268 | 139 => 271 | 138 => 270 | n => n, fun | 3 => 10 | 4 => 11 | n => n⟩
theorem YtiknookfnameiaaGreatDoor.laysTrim : Go.Proofs.Lays.n160 Tryz.prog YtiknookfnameiaaGreatDoor.laysTrim_ren := {
 mixed := by kernel_rfl
 f119 := Tryz.func184.trans (congrArg some (by kernel_rfl))
 f120 := Tryz.func181.trans (congrArg some (by kernel_rfl))
 f137 := Tryz.func109.trans (congrArg some (by kernel_rfl))
 f151 := Tryz.func172.trans (congrArg some (by kernel_rfl))
 f152 := Tryz.func180.trans (congrArg some (by kernel_rfl))
 f160 := Tryz.func141.trans (congrArg some (by kernel_rfl))
 f197 := Tryz.func134.trans (congrArg some (by kernel_rfl))
 f217 := Tryz.func137.trans (congrArg some (by kernel_rfl))
 f224 := Tryz.func153.trans (congrArg some (by kernel_rfl))
 f225 := Tryz.func152.trans (congrArg some (by kernel_rfl))
 f227 := Tryz.func160.trans (congrArg some (by kernel_rfl))
 f228 := Tryz.func171.trans (congrArg some (by kernel_rfl))
 f231 := Tryz.func158.trans (congrArg some (by kernel_rfl))
 f232 := Tryz.func159.trans (congrArg some (by kernel_rfl))
 f233 := Tryz.func161.trans (congrArg some (by kernel_rfl))
 f234 := Tryz.func162.trans (congrArg some (by kernel_rfl))
 f235 := Tryz.func163.trans (congrArg some (by kernel_rfl))
 f236 := Tryz.func164.trans (congrArg some (by kernel_rfl))
 f260 := Tryz.func151.trans (congrArg some (by kernel_rfl))
 f266 := Tryz.func155.trans (congrArg some (by kernel_rfl))
 f271 := Tryz.func173.trans (congrArg some (by kernel_rfl))
 t0 := Tryz.underlying0
 a0 := Tryz.isAgg0
 z0 := Tryz.sizeOf0
 v0 := Tryz.zeroValue0
 t3 := Tryz.underlying3
 a3 := Tryz.isAgg3
 z3 := Tryz.sizeOf3
 v3 := Tryz.zeroValue3
 t4 := Tryz.underlying4
 a4 := Tryz.isAgg4
 z4 := Tryz.sizeOf4
 v4 := Tryz.zeroValue4
 t5 := Tryz.underlying5
 a5 := Tryz.isAgg5
 z5 := Tryz.sizeOf5
 v5 := Tryz.zeroValue5
 t9 := Tryz.underlying9
 a9 := Tryz.isAgg9
 z9 := Tryz.sizeOf9
 v9 := Tryz.zeroValue9
 t21 := Tryz.underlying21
 a21 := Tryz.isAgg21
 z21 := Tryz.sizeOf21
 v21 := Tryz.zeroValue21
 t46 := Tryz.underlying93
 a46 := Tryz.isAgg93
 z46 := Tryz.sizeOf93
 v46 := Tryz.zeroValue93
 t105 := Tryz.underlying242
 a105 := Tryz.isAgg242
 z105 := Tryz.sizeOf242
 v105 := Tryz.zeroValue242
 t116 := Tryz.underlying260
 a116 := Tryz.isAgg260
 z116 := Tryz.sizeOf260
 t117 := Tryz.underlying261
 a117 := Tryz.isAgg261
 z117 := Tryz.sizeOf261
 v117 := Tryz.zeroValue261
 t119 := Tryz.underlying268
 a119 := Tryz.isAgg268
 z119 := Tryz.sizeOf268
 t124 := Tryz.underlying264
 a124 := Tryz.isAgg264
 z124 := Tryz.sizeOf264
 v124 := Tryz.zeroValue264
 t138 := Tryz.underlying270
 a138 := Tryz.isAgg270
 z138 := Tryz.sizeOf270
 v138 := Tryz.zeroValue270
 t139 := Tryz.underlying271
 a139 := Tryz.isAgg271
 z139 := Tryz.sizeOf271
 v139 := Tryz.zeroValue271
 g3 := by kernel_rfl
 g4 := by kernel_rfl }
def YtiknookfnameiaaGreatDoor.laysCutP_ren : Go.Shelf.Ren := ⟨fun | 103 => 140 | 210 => 157 | 206 => 170 | n => n, fun | 9 => 9 | 4 => 4 | 24 => 248 | 3 => 3 | n => n, fun | n => n⟩
theorem YtiknookfnameiaaGreatDoor.laysCutP : Go.Proofs.Lays.n103 Tryz.prog YtiknookfnameiaaGreatDoor.laysCutP_ren := {
 mixed := by kernel_rfl
 f103 := Tryz.func140.trans (congrArg some (by kernel_rfl))
 f206 := Tryz.func170.trans (congrArg some (by kernel_rfl))
 f210 := Tryz.func157.trans (congrArg some (by kernel_rfl))
 t3 := Tryz.underlying3
 a3 := Tryz.isAgg3
 z3 := Tryz.sizeOf3
 v3 := Tryz.zeroValue3
 t4 := Tryz.underlying4
 a4 := Tryz.isAgg4
 z4 := Tryz.sizeOf4
 v4 := Tryz.zeroValue4
 t9 := Tryz.underlying9
 a9 := Tryz.isAgg9
 z9 := Tryz.sizeOf9
 v9 := Tryz.zeroValue9
 t24 := Tryz.underlying248
 a24 := Tryz.isAgg248
 z24 := Tryz.sizeOf248
 v24 := Tryz.zeroValue248 }
def YtiknookfnameiaaGreatDoor.laysPInt_ren : Go.Shelf.Ren := ⟨fun | 174 => 156 | 247 => 169 | 245 => 166 | 287 => 165 | 279 => 176 | 280 => 177 | 281 => 178 | 282 => 179 | 321 => 174 | 322 => 175 | 316 => 182 | 171 => 33 | 205 => 183 | 243 => 53 | 246 => 76 | 283 => 102 | 284 => 103 | 285 => 104 | 286 => 105 | 129 => 129 | 317 => 128 | 318 => 130 | 319 => 131 | 320 => 132 | 337 => 149 | 338 => 150 | n => n, fun | 9 => 9 | 3 => 3 | 2 => 2 | 75 => 70 | 85 => 256 | 4 => 4 | 167 => 275 | 5 => 5 | 53 => 132 | 175 => 251 | 46 => 93 | 168 => 277 | 37 => 101 | 0 => 0 | 210 => 283 | 21 => 21 | 127 => 145 | 145 => 288 | 143 => 286 | 171 => 212 | 173 => 215 | 212 => 238 | 51 => 22 | 20 => 20 | 213 => 239 | 232 => 266 | 233 => 267 | 80 => 107 | n => n, fun | 15 => 12 | 16 => 13 | 17 => 5 | 18 => 8 | 19 => 9 | n => n⟩
theorem YtiknookfnameiaaGreatDoor.laysPInt : Go.Proofs.LaysC.n174 Tryz.prog YtiknookfnameiaaGreatDoor.laysPInt_ren := {
 mixed := by kernel_rfl
 f129 := Tryz.func129.trans (congrArg some (by kernel_rfl))
 f171 := Tryz.func33.trans (congrArg some (by kernel_rfl))
 f174 := Tryz.func156.trans (congrArg some (by kernel_rfl))
 f205 := Tryz.func183.trans (congrArg some (by kernel_rfl))
 f243 := Tryz.func53.trans (congrArg some (by kernel_rfl))
 f245 := Tryz.func166.trans (congrArg some (by kernel_rfl))
 f246 := Tryz.func76.trans (congrArg some (by kernel_rfl))
 f247 := Tryz.func169.trans (congrArg some (by kernel_rfl))
 f279 := Tryz.func176.trans (congrArg some (by kernel_rfl))
 f280 := Tryz.func177.trans (congrArg some (by kernel_rfl))
 f281 := Tryz.func178.trans (congrArg some (by kernel_rfl))
 f282 := Tryz.func179.trans (congrArg some (by kernel_rfl))
 f283 := Tryz.func102.trans (congrArg some (by kernel_rfl))
 f284 := Tryz.func103.trans (congrArg some (by kernel_rfl))
 f285 := Tryz.func104.trans (congrArg some (by kernel_rfl))
 f286 := Tryz.func105.trans (congrArg some (by kernel_rfl))
 f287 := Tryz.func165.trans (congrArg some (by kernel_rfl))
 f316 := Tryz.func182.trans (congrArg some (by kernel_rfl))
 f317 := Tryz.func128.trans (congrArg some (by kernel_rfl))
 f318 := Tryz.func130.trans (congrArg some (by kernel_rfl))
 f319 := Tryz.func131.trans (congrArg some (by kernel_rfl))
 f320 := Tryz.func132.trans (congrArg some (by kernel_rfl))
 f321 := Tryz.func174.trans (congrArg some (by kernel_rfl))
 f322 := Tryz.func175.trans (congrArg some (by kernel_rfl))
 f337 := Tryz.func149.trans (congrArg some (by kernel_rfl))
 f338 := Tryz.func150.trans (congrArg some (by kernel_rfl))
 t0 := Tryz.underlying0
 a0 := Tryz.isAgg0
 z0 := Tryz.sizeOf0
 v0 := Tryz.zeroValue0
 t2 := Tryz.underlying2
 a2 := Tryz.isAgg2
 z2 := Tryz.sizeOf2
 v2 := Tryz.zeroValue2
 t3 := Tryz.underlying3
 a3 := Tryz.isAgg3
 z3 := Tryz.sizeOf3
 v3 := Tryz.zeroValue3
 t4 := Tryz.underlying4
 a4 := Tryz.isAgg4
 z4 := Tryz.sizeOf4
 v4 := Tryz.zeroValue4
 t5 := Tryz.underlying5
 a5 := Tryz.isAgg5
 z5 := Tryz.sizeOf5
 v5 := Tryz.zeroValue5
 t9 := Tryz.underlying9
 a9 := Tryz.isAgg9
 z9 := Tryz.sizeOf9
 v9 := Tryz.zeroValue9
 t20 := Tryz.underlying20
 a20 := Tryz.isAgg20
 z20 := Tryz.sizeOf20
 v20 := Tryz.zeroValue20
 t21 := Tryz.underlying21
 a21 := Tryz.isAgg21
 z21 := Tryz.sizeOf21
 v21 := Tryz.zeroValue21
 t37 := Tryz.underlying101
 a37 := Tryz.isAgg101
 z37 := Tryz.sizeOf101
 v37 := Tryz.zeroValue101
 t46 := Tryz.underlying93
 a46 := Tryz.isAgg93
 z46 := Tryz.sizeOf93
 v46 := Tryz.zeroValue93
 t51 := Tryz.underlying22
 a51 := Tryz.isAgg22
 z51 := Tryz.sizeOf22
 v51 := Tryz.zeroValue22
 t53 := Tryz.underlying132
 a53 := Tryz.isAgg132
 z53 := Tryz.sizeOf132
 v53 := Tryz.zeroValue132
 t75 := Tryz.underlying70
 a75 := Tryz.isAgg70
 z75 := Tryz.sizeOf70
 v75 := Tryz.zeroValue70
 t85 := Tryz.underlying256
 a85 := Tryz.isAgg256
 z85 := Tryz.sizeOf256
 v85 := Tryz.zeroValue256
 t127 := Tryz.underlying145
 a127 := Tryz.isAgg145
 z127 := Tryz.sizeOf145
 v127 := Tryz.zeroValue145
 t143 := Tryz.underlying286
 a143 := Tryz.isAgg286
 z143 := Tryz.sizeOf286
 v143 := Tryz.zeroValue286
 t145 := Tryz.underlying288
 a145 := Tryz.isAgg288
 z145 := Tryz.sizeOf288
 v145 := Tryz.zeroValue288
 t167 := Tryz.underlying275
 a167 := Tryz.isAgg275
 z167 := Tryz.sizeOf275
 v167 := Tryz.zeroValue275
 t168 := Tryz.underlying277
 a168 := Tryz.isAgg277
 z168 := Tryz.sizeOf277
 v168 := Tryz.zeroValue277
 t171 := Tryz.underlying212
 a171 := Tryz.isAgg212
 z171 := Tryz.sizeOf212
 v171 := Tryz.zeroValue212
 t173 := Tryz.underlying215
 a173 := Tryz.isAgg215
 z173 := Tryz.sizeOf215
 v173 := Tryz.zeroValue215
 t175 := Tryz.underlying251
 a175 := Tryz.isAgg251
 z175 := Tryz.sizeOf251
 v175 := Tryz.zeroValue251
 t210 := Tryz.underlying283
 a210 := Tryz.isAgg283
 z210 := Tryz.sizeOf283
 v210 := Tryz.zeroValue283
 t212 := Tryz.underlying238
 a212 := Tryz.isAgg238
 z212 := Tryz.sizeOf238
 v212 := Tryz.zeroValue238
 t213 := Tryz.underlying239
 a213 := Tryz.isAgg239
 z213 := Tryz.sizeOf239
 t232 := Tryz.underlying266
 a232 := Tryz.isAgg266
 z232 := Tryz.sizeOf266
 v232 := Tryz.zeroValue266
 t233 := Tryz.underlying267
 a233 := Tryz.isAgg267
 z233 := Tryz.sizeOf267
 v233 := Tryz.zeroValue267
 g15 := by kernel_rfl
 g16 := by kernel_rfl
 g17 := by kernel_rfl
 g18 := by kernel_rfl
 g19 := by kernel_rfl
 t80 := Tryz.underlying107
 a80 := Tryz.isAgg107
 z80 := Tryz.sizeOf107
 v80 := Tryz.zeroValue107
 i0 := by kernel_rfl
 i2 := by kernel_rfl
 i3 := by kernel_rfl
 i4 := by kernel_rfl
 i5 := by kernel_rfl
 i9 := by kernel_rfl
 i20 := by kernel_rfl
 i21 := by kernel_rfl
 i37 := by kernel_rfl
 i46 := by kernel_rfl
 i51 := by kernel_rfl
 i53 := by kernel_rfl
 i75 := by kernel_rfl
 i80 := by kernel_rfl
 i85 := by kernel_rfl
 i127 := by kernel_rfl
 i143 := by kernel_rfl
 i145 := by kernel_rfl
 i167 := by kernel_rfl
 i168 := by kernel_rfl
 i171 := by kernel_rfl
 i173 := by kernel_rfl
 i175 := by kernel_rfl
 i210 := by kernel_rfl
 i212 := by kernel_rfl
 i232 := by kernel_rfl
 i233 := by kernel_rfl
 m15 := by kernel_rfl
 m16 := by kernel_rfl
 m17 := by kernel_rfl
 m18 := by kernel_rfl
 m19 := by kernel_rfl
 c0 := by kernel_rfl
 c2 := by kernel_rfl
 c3 := by kernel_rfl
 c4 := by kernel_rfl
 c5 := by kernel_rfl
 c9 := by kernel_rfl
 c20 := by kernel_rfl
 c21 := by kernel_rfl
 c37 := by kernel_rfl
 c46 := by kernel_rfl
 c51 := by kernel_rfl
 c53 := by kernel_rfl
 c75 := by kernel_rfl
 c80 := by kernel_rfl
 c85 := by kernel_rfl
 c127 := by kernel_rfl
 c143 := by kernel_rfl
 c145 := by kernel_rfl
 c167 := by kernel_rfl
 c168 := by kernel_rfl
 c171 := by kernel_rfl
 c173 := by kernel_rfl
 c175 := by kernel_rfl
 c210 := by kernel_rfl
 c212 := by kernel_rfl
 c213 := by kernel_rfl
 c232 := by kernel_rfl
 c233 := by kernel_rfl }
def YtiknookfnameiaaGreatDoor.laysFInt_ren : Go.Shelf.Ren := ⟨fun | 173 => 78 | 246 => 76 | 283 => 102 | 284 => 103 | 285 => 104 | 286 => 105 | 129 => 129 | 317 => 128 | 318 => 130 | 319 => 131 | 320 => 132 | 337 => 149 | 338 => 150 | n => n, fun | 2 => 2 | 3 => 3 | 9 => 9 | 4 => 4 | 171 => 212 | 0 => 0 | 53 => 132 | 37 => 101 | 5 => 5 | 173 => 215 | 212 => 238 | 51 => 22 | 20 => 20 | 213 => 239 | 46 => 93 | 232 => 266 | 233 => 267 | n => n, fun | 17 => 5 | 18 => 8 | 19 => 9 | n => n⟩
end Go.Proofs
