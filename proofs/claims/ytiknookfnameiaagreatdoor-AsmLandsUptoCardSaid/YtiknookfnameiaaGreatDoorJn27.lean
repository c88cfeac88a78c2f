/- Bounds on what waits: no more than words, names no longer than the text's words; labels no more than words of the text. The reader as read makes it. Plain laws: how many words a line has, and how long they are; how long a text's lines are. The contract of asm's read. Zeros appended to a row of words of the call's own ('append(s, make([]uint32, k)...)'). The contract of asm's fixed (printed by genMFix.py). -/
import Derived.Test.YtiknookfnameiaaGreatDoorJn15
import Derived.Test.YtiknookfnameiaaGreatDoorMLatJn
import Derived.Test.YtiknookfnameiaaGreatDoorJn07
import Derived.Test.YtiknookfnameiaaGreatDoorTWdPJn
import Derived.Test.YtiknookfnameiaaGreatDoorTWdsJn
import Derived.Lib.AppendZeros
import Derived.Lib.AppendZerosOnto
namespace Go.Proofs.YtiknookfnameiaaGreatDoor
/-- what waits is no more than the words, and its names are short -/
structure BOk (N : Nat) (st : Asm) : Prop where
  lat : st.lat.length ≤ st.ws.length
  nm : ∀ x ∈ st.lat, x.nm.size ≤ N
theorem asm0_bok (N : Nat) : BOk N asm0 := ⟨by simp [asm0], by simp [asm0]⟩
theorem BOk.more {N : Nat} {st : Asm} (h : BOk N st) (l : List Int) (L : List Lat) (hl : L.length ≤ l.length) (hL : ∀ x ∈ L, x.nm.size ≤ N) (labs : List (ByteArray × Nat)) : BOk N ⟨st.ws ++ l, labs, st.lat ++ L⟩ := by
  refine ⟨?_, fun x hx => ?_⟩
  · have := h.lat; simp only [List.length_append]; omega
  · rcases List.mem_append.1 hx with hx | hx
    · exact h.nm x hx
    · exact hL x hx
theorem latM_len (t : Wht) (p ln : Nat) (w : W) : (latM t p ln w).length ≤ 1 := by
  unfold latM; split <;> simp
theorem getD_sz {N : Nat} {ops : List W} (h : ∀ x ∈ ops, x.1.size ≤ N) (k : Nat) : (ops.getD k w0).1.size ≤ N := by
  rw [List.getD_eq_getElem?_getD]
  cases hx : ops[k]? with
  | none => exact Nat.zero_le _
  | some x => exact h x (List.mem_of_getElem? hx)
theorem instr_bok {N ln : Nat} {name : W} {op : Nat} {ops : List W} {st st' : Asm} (h : BOk N st) (ho : ∀ x ∈ ops, x.1.size ≤ N) (he : instrM ln name op ops st = .inl st') : BOk N st' ∧ st'.labs = st.labs := by
  unfold instrM at he
  split at he
  · cases he
  split at he
  · cases he
  split at he
  · cases he
  cases he
  refine ⟨h.more _ _ ?_ ?_ _, rfl⟩
  · split
    · simp
    · exact latM_len _ _ _ _
  · intro x hx
    split at hx
    · simp at hx
    · rw [latM_mem hx]; exact getD_sz ho _
theorem fixed_bok {N ln : Nat} {name : W} {k n : Nat} {ops : List W} {t : Wht} {st st' : Asm} (h : BOk N st) (ho : ∀ x ∈ ops, x.1.size ≤ N) (he : fixedM ln name k ops t n st = .inl st') : BOk N st' ∧ st'.labs = st.labs := by
  unfold fixedM at he
  split at he
  · cases he
  split at he
  · cases he
  split at he
  · cases he
  cases he
  refine ⟨h.more _ _ ?_ ?_ _, rfl⟩
  · refine Nat.le_trans (latM_len _ _ _ _) ?_
    rw [layM_len]; cases t <;> simp [Wht.size]
  · intro x hx; rw [latM_mem hx]; exact getD_sz ho _
theorem stmt_bok {N ln : Nat} {name : W} {ops : List W} {st st' : Asm} (h : BOk N st) (ho : ∀ x ∈ ops, x.1.size ≤ N) (he : stmtM ln name ops st = .inl st') : BOk N st' ∧ st'.labs = st.labs := by
  unfold stmtM at he
  split at he
  · cases he
  split at he
  · exact instr_bok h ho he
  split at he
  · exact fixed_bok h ho he
  split at he
  · unfold liM at he
    split at he
    · cases he
    split at he
    · exact fixed_bok h ho he
    · split at he
      · cases he
      · exact fixed_bok h ho he
  split at he
  · unfold zeroM at he
    split at he
    · cases he
    split at he
    · cases he
    split at he
    · cases he
    rename_i n _ _ _ _ _
    cases he
    have := h.more (List.replicate n 0) [] (by simp) (by simp) st.labs
    exact ⟨by simpa using this, rfl⟩
  · cases he
theorem take_bok {N ln : Nat} : ∀ (ws : List W) {st st' : Asm}, BOk N st → (∀ x ∈ ws, x.1.size ≤ N) → takeM ln ws st = .inl st' → BOk N st' ∧ st'.labs.length ≤ st.labs.length + ws.length
  | [], st, st', h, ho, he => by unfold takeM at he; cases he; exact ⟨h, Nat.le_add_right _ _⟩
  | w :: ws, st, st', h, ho, he => by
    have ho2 : ∀ x ∈ ws, x.1.size ≤ N := fun x hx => ho x (List.mem_cons_of_mem _ hx)
    unfold takeM at he
    split at he
    · split at he
      · cases he
      split at he
      · cases he
      · obtain ⟨g1, g2⟩ := take_bok (st := ⟨st.ws, st.labs ++ [(cutC w.1, st.ws.length)], st.lat⟩) ws ⟨h.lat, h.nm⟩ ho2 he
        refine ⟨g1, ?_⟩
        simp only [List.length_append, List.length_cons, List.length_nil] at g2 ⊢
        omega
    · obtain ⟨g1, g2⟩ := stmt_bok h ho2 he
      exact ⟨g1, by rw [g2]; simp only [List.length_cons]; omega⟩
end Go.Proofs.YtiknookfnameiaaGreatDoor

namespace Go.Proofs.YtiknookfnameiaaGreatDoor
open Go.RowKit WP
theorem rst_new (w : World) (hE : AEnv w) (base : Int) : RSt w.heap.size w ((w.alloc (.map #[] 0)).alloc (.cells #[.int .u32 base, .int .i64 0, .slice none 0 0, .slice none 0 0, .map (some w.heap.size), .slice none 0 0] 77)) (w.heap.size + 1) base 0 asm0 (.slice none 0 0) (.slice none 0 0) w.heap.size (.slice none 0 0) [] [] [] := by
  obtain ⟨w1, hw1⟩ : ∃ w1, w.alloc (.map #[] 0) = w1 := ⟨_, rfl⟩
  have hs1 : w1.heap.size = w.heap.size + 1 := by rw [← hw1]; simp
  have b1 : Below w.heap.size w w1 := by rw [← hw1]; exact (Below.refl w.heap.size w).alloc (Nat.le_refl _) _
  have hm := MapIs.new w
  rw [hw1] at hm ⊢
  have b2 : Below w1.heap.size w1 (w1.alloc (.cells #[.int .u32 base, .int .i64 0, .slice none 0 0, .slice none 0 0, .map (some w.heap.size), .slice none 0 0] 77)) := (Below.refl _ _).alloc (Nat.le_refl _) _
  refine ⟨?_, ⟨rfl, .inl ⟨rfl, rfl⟩⟩, ⟨rfl, .inl ⟨rfl, rfl⟩⟩, hm.same (b2.block _ (by omega)), ⟨rfl, .inl ⟨rfl, rfl⟩⟩, Pends.nil _ _, by omega, Nat.le_refl _, b1.trans (b2.mono (by omega)), ⟨w, hE, Nat.le_refl _, Below.refl _ _⟩, StrK.keep (StrK.keep (StrK.refl w) (Keep.below (by rw [← hw1]; exact (Below.refl w.heap.size w).alloc (Nat.le_refl _) _))) (Keep.below b2), by simp⟩
  rw [← hs1]
  exact heap_alloc_new w1 _
theorem RSt.rebase {B : Nat} {w0 w : World} {R : Nat} {base : Int} {ln : Nat} {st : Asm} {vw vl : Value} {mb : Nat} {vf : Value} {fs : List Value} {bs : List Nat} {ml : List (ByteArray × Nat)} (h : RSt B w0 w R base ln st vw vl mb vf fs bs ml) : RSt B w w R base ln st vw vl mb vf fs bs ml := by
  obtain ⟨w00, h1, h2, h3⟩ := h.size
  exact ⟨h.blk, h.ws, h.labs, h.map, h.lat, h.pend, h.hR, h.hm, Below.refl _ _, ⟨w00, h1, h2, h3.trans h.below⟩, StrK.refl w, h.lo⟩
end Go.Proofs.YtiknookfnameiaaGreatDoor

namespace Go.Proofs.YtiknookfnameiaaGreatDoor
open Go.RowKit WP
theorem qA_len (l : List UInt8) : ∀ (f i : Nat) (acc b : List UInt8) (n : Nat), qA l f i acc = .inl (b, n) → b.length + i ≤ n + acc.length
  | 0, i, acc, b, n, h => by simp [qA] at h
  | f + 1, i, acc, b, n, h => by
    unfold qA at h
    split at h
    · simp at h
    · split at h
      · simp only [Sum.inl.injEq, Prod.mk.injEq] at h; obtain ⟨rfl, rfl⟩ := h; omega
      · split at h
        · have := qA_len l f _ _ _ _ h; simp only [List.length_append, List.length_cons, List.length_nil] at this; omega
        · split at h
          · simp at h
          · split at h
            · have := qA_len l f _ _ _ _ h; simp only [List.length_append, List.length_cons, List.length_nil] at this; omega
            · simp at h
theorem wA_bd (s : ByteArray) : ∀ (f i : Nat) (acc ws : List W), i ≤ s.size → acc.length ≤ i → (∀ x ∈ acc, x.1.size ≤ s.size) → wA s f i acc = .inl ws → ws.length ≤ s.size ∧ ∀ x ∈ ws, x.1.size ≤ s.size
  | 0, i, acc, ws, hi, ha, hx, h => by
    simp only [wA, Sum.inl.injEq] at h; subst h; exact ⟨by omega, hx⟩
  | f + 1, i, acc, ws, hi, ha, hx, h => by
    have hl : s.data.toList.length = s.size := by rw [Array.length_toList]; rfl
    unfold wA at h
    split at h
    · simp only [Sum.inl.injEq] at h; subst h; exact ⟨by omega, hx⟩
    · rename_i hlt
      split at h
      · exact wA_bd s f _ _ _ (by omega) (by omega) hx h
      · rename_i hbl
        split at h
        · simp only [Sum.inl.injEq] at h; subst h; exact ⟨by omega, hx⟩
        · split at h
          · split at h
            · simp at h
            · rename_i b n hq
              have h1 := qA_len _ _ _ _ _ _ hq
              have h2 := qA_bd _ _ _ _ _ _ hq
              split at h
              · simp at h
              · refine wA_bd s f _ _ _ (by omega) (by simp; omega) ?_ h
                intro x hx'
                rcases List.mem_append.1 hx' with hx' | hx'
                · exact hx x hx'
                · simp only [List.mem_cons, List.not_mem_nil, or_false] at hx'; subst hx'
                  show b.length ≤ s.size
                  simp at h1; omega
          · have hgt := skipB_gt s.data.toList (s.size - 1) i (by omega) (by simpa using hbl)
            have hbd := skipB_bd s.data.toList s.size i (by omega)
            rw [show s.size - 1 + 1 = s.size by omega] at hgt
            refine wA_bd s f _ _ _ (by omega) (by simp; omega) ?_ h
            intro x hx'
            rcases List.mem_append.1 hx' with hx' | hx'
            · exact hx x hx'
            · simp only [List.mem_cons, List.not_mem_nil, or_false] at hx'; subst hx'
              simp; omega
theorem wordsF_bd (s : ByteArray) (ws : List W) (h : wordsF s = .inl ws) : ws.length ≤ s.size ∧ ∀ x ∈ ws, x.1.size ≤ s.size :=
  wA_bd s _ 0 [] ws (by omega) (by simp) (by simp) h
theorem linesA_bd : ∀ (l c : List UInt8), (linesA c l).length ≤ c.length + l.length ∧ ∀ b ∈ linesA c l, b.length ≤ c.length + l.length
  | [], c => by
    unfold linesA
    split
    · simp
    · rename_i h
      have : 0 < c.length := List.length_pos_iff.2 h
      simp; omega
  | x :: l, c => by
    unfold linesA
    split
    · obtain ⟨h1, h2⟩ := linesA_bd l []
      simp only [List.length_nil, Nat.zero_add] at h1 h2
      refine ⟨by simp; omega, ?_⟩
      intro b hb
      simp only [List.mem_cons] at hb
      rcases hb with rfl | hb
      · simp
      · have := h2 b hb; simp; omega
    · obtain ⟨h1, h2⟩ := linesA_bd l (c ++ [x])
      simp only [List.length_append, List.length_cons, List.length_nil] at h1 h2 ⊢
      exact ⟨by omega, fun b hb => by have := h2 b hb; omega⟩
theorem linesF_bd (s : ByteArray) : (linesF s).length ≤ s.size ∧ ∀ t ∈ linesF s, t.size ≤ s.size := by
  have hl : s.data.toList.length = s.size := by rw [Array.length_toList]; rfl
  obtain ⟨h1, h2⟩ := linesA_bd s.data.toList []
  simp only [List.length_nil, Nat.zero_add, hl] at h1 h2
  unfold linesF bas
  refine ⟨by simpa using h1, ?_⟩
  intro t ht
  obtain ⟨b, hb, rfl⟩ := List.mem_map.1 ht
  exact h2 b hb
end Go.Proofs.YtiknookfnameiaaGreatDoor

namespace Go.Proofs.YtiknookfnameiaaGreatDoor
open Go.RowKit WP
set_option linter.unusedSimpArgs false
set_option linter.unusedVariables false
/-- the letters of all lines -/
def tot (L : List ByteArray) : Nat := (L.map ByteArray.size).sum
theorem linesA_tot : ∀ (l c : List UInt8), ((linesA c l).map List.length).sum ≤ c.length + l.length
  | [], c => by
    unfold linesA
    split <;> simp
  | x :: l, c => by
    unfold linesA
    split
    · have := linesA_tot l []
      simp only [List.map_cons, List.sum_cons, List.length_nil, List.length_cons] at this ⊢
      omega
    · have := linesA_tot l (c ++ [x])
      simp only [List.length_append, List.length_cons, List.length_nil] at this ⊢
      omega
theorem linesF_tot (s : ByteArray) : tot (linesF s) ≤ s.size := by
  have h := linesA_tot s.data.toList []
  have hl : s.data.toList.length = s.size := by rw [Array.length_toList]; rfl
  rw [hl, List.length_nil, Nat.zero_add] at h
  refine Nat.le_trans (Nat.le_of_eq ?_) h
  unfold tot linesF bas
  rw [List.map_map]
  congr 1
/-- what read answers -/
def ReadRes (w' : World) (B : Nat) (base : Int) (e : Ending) : (List Int × List (ByteArray × Nat)) ⊕ Flt → Prop
  | .inl x => ∃ R ln mb vw vl vf, e = .returned (.tuple #[ptr R, .nilIface]) ∧ B ≤ R ∧ w'.heap[R]? = some (.cells #[.int .u32 base, .int .i64 (ln : Int), vw, vl, .map (some mb), vf] 77 (0, 0)) ∧
      w'.ownsRow B 22 1 vw x.1.length (wi x.1) ∧ w'.ownsRow B 44 2 vl x.2.length (lc x.2)
  | .inr f => ∃ v, e = .returned (.tuple #[.pointer none, v]) ∧ FltAt w' v f
/-- the second half's reading -/
def endM (base : Int) : Asm ⊕ Flt → (List Int × List (ByteArray × Nat)) ⊕ Flt
  | .inr f => .inr f
  | .inl st => match latersM base st.labs st.lat st.ws with
    | .inr f => .inr f
    | .inl ws => .inl (ws, st.labs)
theorem readM_end (base : Int) (s : ByteArray) (hs : s.size ≤ 65536) : readM base s = endM base (linesM 1 (linesF s) asm0) := by
  unfold readM endM
  rw [if_neg (by omega)]
  cases linesM 1 (linesF s) asm0 with
  | inr f => rfl
  | inl st =>
    simp only
    cases latersM base st.labs st.lat st.ws <;> rfl
theorem str_cell {w2 w : World} {C n : Nat} {v : Value} {L : List ByteArray} (h : w2.ownsRow C 9 1 v n (L.map Value.string)) (hk : StrK w2 w) (k : Nat) (hkn : k < n) (t : ByteArray) (ht : L[k]? = some t) :
    ∃ g cap, v = .slice (some ⟨g, 0, none⟩) n cap ∧ n ≤ cap ∧ cap ≤ 9223372036854775807 ∧ w.cell? ⟨g, k, none⟩ = some (.string t) := by
  rcases h.2 with ⟨_, h0⟩ | ⟨g, cap, cur, hv, _, hg, h1, h2, hcs, htake⟩
  · omega
  · refine ⟨g, cap, hv, h1, h2, ?_⟩
    have hb := hk g cur hg
    have hc := cell_of_row w g k _ _ _ hb
    rw [hc]
    have : (L.map Value.string)[k]? = some (.string t) := by rw [List.getElem?_map, ht]; rfl
    rw [← htake, List.getElem?_take_of_lt (by omega)] at this
    rw [← this, Array.getElem?_toList]
/-- the first that waits is called -/
theorem later_any {B : Nat} {w0 w : World} {R : Nat} {base : Int} {ln : Nat} {ws : List Int} {labs : List (ByteArray × Nat)} {rest : List Lat} {vl : Value} {mb : Nat} {vf : Value} {fs : List Value} {bs : List Nat} {g cap b : Nat} {f : Value} {x : Lat}
    (h : RSt B w0 w R base ln ⟨ws, labs, rest⟩ (.slice (some ⟨g, 0, none⟩) ws.length cap) vl mb vf fs bs labs) (hE : AEnv w0) (nb : base < 4294967296 ∧ 0 ≤ base) (hp : x.place + x.what.size ≤ ws.length) (hws : ws.length ≤ 2048) (hlabs : ∀ q ∈ labs, q.2 ≤ 2048) (hnm : x.nm.size ≤ 1048576)
    (hbs : ∀ c ∈ bs, b < c) (hBb : B ≤ b) (hpd : Pend w R b f x) :
    ∃ fid caps, f = .func (.func fid) #[] caps ∧ (∀ W : World, (callFunc fid caps).run Tryz.prog W = .ok (.enter fid caps) W) ∧ Calls Tryz.prog fid caps w fun e w' => LatRes B w0 R base ln labs rest (.slice (some ⟨g, 0, none⟩) ws.length cap) vl mb vf fs bs w' e (laterM base labs x ws) := by
  obtain ⟨what, pl, nm, li, col⟩ := x
  cases what with
  | jmp i =>
    obtain ⟨b4, bw, bl, bp, bf, e, h1, h2, h3, h4, h5, h6⟩ := hpd
    exact ⟨_, _, e, fun W => by kernel_rfl, later_jmp h hE i pl li col nm (by have : (Wht.jmp i).size = 1 := rfl; simp only [this] at hp; omega) hws hlabs hnm hbs hBb h1 h2 h3 h4 h5 h6⟩
  | word =>
    obtain ⟨b4, bw, bl, bp, bn, bf, e, h1, h2, h3, h4, h5, h6⟩ := hpd
    exact ⟨_, _, e, fun W => by kernel_rfl, later_fixed h hE .word nb pl 1 li col nm hp rfl hws hlabs hnm h1 h2 h3 h4 h5 _ h6 (.inl ⟨rfl, rfl, rfl⟩)⟩
  | li a =>
    obtain ⟨b4, bw, bl, bp, bn, bf, ba, e, h1, h2, h3, h4, h5, h6, h7⟩ := hpd
    exact ⟨_, _, e, fun W => by kernel_rfl, later_fixed h hE (.li a) nb pl 2 li col nm hp rfl hws hlabs hnm h1 h2 h3 h4 h5 _ h6 (.inr ⟨a, ba, rfl, rfl, rfl, h7⟩)⟩
end Go.Proofs.YtiknookfnameiaaGreatDoor

namespace Go.Proofs.YtiknookfnameiaaGreatDoor
open Go.RowKit WP
theorem infoU32 : (Tryz.prog.info? 22).map (fun i => (i.zero, i.size, i.bytes)) = some (some (.int .u32 0), 1, 4) := by kernel_rfl
theorem zeroCells_one (k : Nat) : Builtin.zeroCells (Value.int .u32 0).cells k = (List.replicate k (Value.int .u32 0)).toArray := by
  apply Array.ext'
  refine List.ext_getElem? fun j => ?_
  unfold Builtin.zeroCells
  have e : (Value.int .u32 0).cells = #[Value.int .u32 0] := rfl
  rw [e]
  by_cases h : j < k
  · rw [List.getElem?_eq_getElem (by simpa using h), List.getElem?_eq_getElem (by simpa using h)]
    simp [Nat.mod_one]
  · rw [List.getElem?_eq_none (by simpa using h), List.getElem?_eq_none (by simpa using h)]
theorem run_append_zs (base : Nat) (tn ty : TypeId) (kq kn : IntKind) (htn : Tryz.prog.underlying tn = some (.int kn)) (w : World) (v : Value) (n : Nat) (xs : List Value) (hown : w.ownsRow base 22 1 v n xs) (k : Nat) (hk : n + k ≤ 1048576) (hbase : base ≤ w.heap.size) :
    ∃ v' w', (Builtin.append_ #[24, tn] ty #[v, .int kq (k : Int)]).run Tryz.prog w = .ok v' w' ∧ w'.ownsRow base 22 1 v' (n + k) (xs ++ List.replicate k (.int .u32 0)) ∧ Onto w v w' v' := by
  obtain ⟨i, hi, hz, hsz, hby⟩ := info_parts infoU32
  have ht : Tryz.prog.underlying 24 = some (.slice 22) := Tryz.underlying24
  have hlen : (xs ++ List.replicate k (Value.int .u32 0)).length = (n + k) * 1 := by rw [List.length_append, hown.1, List.length_replicate]; omega
  have hw : IntKind.i64.wrap (k : Int) = k := wrapI _ (by omega) (by omega)
  have hfit : ∀ c, c < n + k → Builtin.nextslicecap (n + k) c * i.bytes ≤ 281474976710656 := fun c hc => growslice_fits hc (by rw [hby]; omega)
  have w00 : IntKind.i64.wrap 0 = 0 := wrapI 0 (by omega) (by omega)
  have grown : ∀ (old : Nat), old < n + k → ∀ (row : Option Nat),
      (w.drew.alloc (.cells (xs.toArray ++ Builtin.zeroCells (Value.int .u32 0).cells k ++ Builtin.zeroCells (Value.int .u32 0).cells (grownCap w (n + k) old 22 - (n + k))) 22)).ownsRow base 22 1
        (.slice (some ⟨w.heap.size, 0, none⟩) (n + k) (grownCap w (n + k) old 22)) (n + k) (xs ++ List.replicate k (.int .u32 0)) ∧
      w.grownBy (w.drew.alloc (.cells (xs.toArray ++ Builtin.zeroCells (Value.int .u32 0).cells k ++ Builtin.zeroCells (Value.int .u32 0).cells (grownCap w (n + k) old 22 - (n + k))) 22)) row := by
    intro old ho row
    have hge := grownCap_ge w (n + k) old 22
    have hcm : grownCap w (n + k) old 22 ≤ maxLen := grownCap_le_maxLen w (n + k) old 22 (by unfold maxLen; omega)
    refine ⟨⟨hlen, .inr ⟨w.heap.size, _, _, rfl, hbase, heap_alloc_new w.drew _, hge, hcm, ?_, ?_⟩⟩, ⟨rfl, rfl, rfl, by simp, fun j hj _ => heap_alloc_old w.drew _ hj⟩⟩
    · rw [zeroCells_one, zeroCells_one]
      have := hown.1
      simp only [Array.size_append, List.size_toArray, List.length_replicate]
      omega
    · rw [zeroCells_one, zeroCells_one]
      simp only [Array.toList_append, List.append_assoc]
      rw [← List.append_assoc, ← hlen]
      exact List.take_left
  rcases id hown.2 with ⟨rfl, rfl⟩ | ⟨g, cap, cur, rfl, hbg, hg, hnc, hcm, hcs, htake⟩
  · have hx : xs = [] := List.eq_nil_of_length_eq_zero (by simpa using hown.1)
    subst hx
    by_cases hm : k = 0
    · subst hm
      refine ⟨.slice none 0 0, w, ?_, by simpa using hown, Onto.refl _ _⟩
      simp [Builtin.append_, run_underlying ht, run_underlying htn, sizeOf, typeInfo, hi, asInt, asIntOf, w00]
    · have hr := Lib.run_append_nil_zeros (P := Tryz.prog) w 24 tn ty 22 i _ kq kn ht htn hi hz k (by omega) (by omega) (by omega) (by rw [hby]; omega)
      have hgr := grown 0 (by omega) (Value.ownBlock (.slice none 0 0))
      simp only [Nat.zero_add, List.nil_append, Array.empty_append] at hgr ⊢
      exact ⟨_, _, hr, hgr.1, hgr.2, .inr fun j hj => by simp [Value.ownBlock] at hj; omega⟩
  · by_cases hroom : n + k ≤ cap
    · have hfit2 : n * 1 + (List.replicate k (Value.int .u32 0)).length ≤ cur.size := by rw [hcs, List.length_replicate]; omega
      have hst := run_storeCells_at Tryz.prog g (n * 1) 22 (List.replicate k (Value.int .u32 0)) 0 cur w hg (by simpa using hfit2) (fun u hu => by rw [(List.mem_replicate.1 hu).2]; rfl)
      simp only [Nat.add_zero] at hst
      have hr : (Builtin.append_ #[24, tn] ty #[.slice (some ⟨g, 0, none⟩) n cap, .int kq (k : Int)]).run Tryz.prog w =
          .ok (.slice (some ⟨g, 0, none⟩) (n + k) cap) (w.setRow g (cur.toList.take (n * 1) ++ List.replicate k (Value.int .u32 0) ++ cur.toList.drop (n * 1 + (List.replicate k (Value.int .u32 0)).length)).toArray) := by
        have hneg : ¬ ((k : Int) < 0) := by omega
        have h48i : ¬ (281474976710656 < (k : Int) * (i.bytes : Int)) := by rw [hby]; omega
        by_cases hk0 : k = 0
        · subst hk0
          simp [Builtin.append_, run_underlying ht, run_underlying htn, sizeOf, typeInfo, hi, asInt, asIntOf, w00, hnc, storeCells]
          have e0 : w.setRow g (List.take n cur.toList ++ List.drop n cur.toList).toArray = w := by
            rw [List.take_append_drop]
            exact setRow_self w g cur _ _ hg
          simpa using e0.symm
        · have hns : ¬ (k * i.size = 0) := by rw [hsz]; omega
          have hzc := zeroCells_one k
          simp [Builtin.append_, run_underlying ht, run_underlying htn, sizeOf, typeInfo, zeroValue, hi, hz, asInt, asIntOf, hw, hneg, h48i, hroom, Addr.add_lit, hsz, hk0]
          rw [hzc]
          have hst' := hst
          simp at hst'
          simp [hst']
      refine ⟨_, _, hr, ⟨hlen, .inr ⟨g, cap, _, rfl, hbg, setRow_heap w g cur _ 22 _ hg, hroom, hcm, ?_, ?_⟩⟩, ⟨rfl, rfl, rfl, by simp, fun j _ hj => setRow_other w g j _ (fun e => hj (by simp [Value.ownBlock, e]))⟩, .inl rfl⟩
      · simp only [List.size_toArray, List.length_append, List.length_take, List.length_drop, Array.length_toList, List.length_replicate]
        omega
      · rw [htake, ← hlen]
        exact List.take_left
    · have holds : ∀ j u, xs[j]? = some u → w.cell? ((⟨g, 0, none⟩ : Addr).add j) = some u := hown.cells (g := g) rfl
      have hold := run_firstCells_some (P := Tryz.prog) w.drew 1 n ⟨g, 0, none⟩ n cap xs hown.1 (by simpa using holds)
      have hr := Lib.run_append_grow_zeros (P := Tryz.prog) w 24 tn ty 22 i _ kq kn ht htn hi hz (some ⟨g, 0, none⟩) n cap xs (by rw [hsz]; exact hold) k (by omega) (by omega) (by omega) (by omega) (by rw [hby]; omega) (hfit cap (by omega))
      have hgr := grown cap (by omega) (Value.ownBlock (.slice (some ⟨g, 0, none⟩) n cap))
      exact ⟨_, _, hr, hgr.1, hgr.2, .inr fun j hj => by simp [Value.ownBlock] at hj; omega⟩
end Go.Proofs.YtiknookfnameiaaGreatDoor

namespace Go.Proofs.YtiknookfnameiaaGreatDoor
open Go.RowKit WP
set_option linter.unusedSimpArgs false
set_option linter.unusedVariables false
/-- what a statement's method answers -/
def StRes (B : Nat) (w0 : World) (R : Nat) (base : Int) (ln : Nat) (w' : World) (e : Ending) : Asm ⊕ Flt → Prop
  | .inl st' => e = .returned .nilIface ∧ RAt B w0 w' R base ln st'
  | .inr f => (∃ v, e = .returned v ∧ FltAt w' v f) ∧ Below B w0 w'
/-- the closure that lays a word, or a load -/
def LayK (w : World) (t : Wht) (fid : FuncId) (cs : Array Value) : Prop :=
  (t = .word ∧ fid = 87 ∧ cs = #[]) ∨ (∃ a ba, t = .li a ∧ fid = 120 ∧ cs = #[ptr ba] ∧ w.heap[ba]? = some (.cells #[.int .i64 a] 3 (0, 0)))
theorem LayK.keep {w w' : World} {t : Wht} {fid : FuncId} {cs : Array Value} (h : LayK w t fid cs) (hk : Keep w w') : LayK w' t fid cs := by
  rcases h with h | ⟨a, ba, h1, h2, h3, h4⟩
  · exact .inl h
  · exact .inr ⟨a, ba, h1, h2, h3, hk.at_ h4 (.inr (.inr (.inl rfl)))⟩
theorem LayK.size {w : World} {t : Wht} {fid : FuncId} {cs : Array Value} (h : LayK w t fid cs) : t.size = 1 ∨ t.size = 2 := by
  rcases h with ⟨rfl, _⟩ | ⟨a, ba, rfl, _⟩
  · exact .inl rfl
  · exact .inr rfl
/-- whichever it is: the words are laid behind those that are there -/
theorem lay_any {B : Nat} {w0 w : World} {R : Nat} {base : Int} {ln : Nat} {ws : List Int} {labs : List (ByteArray × Nat)} {lat : List Lat} {vl : Value} {mb : Nat} {vf : Value} {fs : List Value} {bs : List Nat} {ml : List (ByteArray × Nat)} {g cap : Nat} {t : Wht} {fid : FuncId} {cs : Array Value} (hL : LayK w t fid cs)
    (h : RSt B w0 w R base ln ⟨ws ++ List.replicate t.size 0, labs, lat⟩ (.slice (some ⟨g, 0, none⟩) (ws.length + t.size) cap) vl mb vf fs bs ml) (hE : AEnv w0) (x : Int) (x0 : 0 ≤ x) (x1 : x < 4294967296) :
    Calls Tryz.prog fid (#[.slice (some ⟨g, ws.length, none⟩) t.size (cap - ws.length), .int .u32 x] ++ cs) w fun e w' => e = .returned (.tuple #[]) ∧ RSt B w0 w' R base ln ⟨ws ++ layM t x, labs, lat⟩ (.slice (some ⟨g, 0, none⟩) (ws.length + t.size) cap) vl mb vf fs bs ml ∧ Keep w w' ∧ w.heap.size ≤ w'.heap.size := by
  have hl : (ws ++ List.replicate t.size 0).length = ws.length + t.size := by simp
  rcases hL with ⟨rfl, rfl, rfl⟩ | ⟨a, ba, rfl, rfl, rfl, hba⟩
  · have hl' : (ws ++ List.replicate Wht.word.size (0 : Int)).length = ws.length + 1 := by rw [List.length_append]; rfl
    have h' : RSt B w0 w R base ln ⟨ws ++ List.replicate Wht.word.size 0, labs, lat⟩ (.slice (some ⟨g, 0, none⟩) (ws ++ List.replicate Wht.word.size (0 : Int)).length cap) vl mb vf fs bs ml := by rw [hl']; exact h
    obtain ⟨⟨y, hy⟩, hfz, _⟩ := row_cell h' ws.length (by show ws.length < (ws ++ List.replicate Wht.word.size (0 : Int)).length; rw [hl']; omega)
    refine (lay_word g ws.length (cap - ws.length) x y w hy hfz).mono ?_
    rintro e w' ⟨rfl, rfl⟩
    have h2 := h'.lay ws.length x
    have e1 : (ws ++ List.replicate Wht.word.size (0 : Int)).set ws.length x = ws ++ layM .word x := by
      rw [List.set_append_right _ _ (Nat.le_refl _), Nat.sub_self]; rfl
    have h3 : RSt B w0 (w.setCell ⟨g, ws.length, none⟩ (.int .u32 x)) R base ln ⟨(ws ++ List.replicate Wht.word.size 0).set ws.length x, labs, lat⟩ (.slice (some ⟨g, 0, none⟩) (ws ++ List.replicate Wht.word.size (0 : Int)).length cap) vl mb vf fs bs ml := h2
    rw [e1, hl'] at h3
    exact ⟨rfl, h3, Keep.grown h'.ws (capT_no (.inl rfl)) (World.ownsRow.stored h'.ws ws.length (.int .u32 x)).2, by simp [World.setCell]⟩
  · have hl' : (ws ++ List.replicate (Wht.li a).size (0 : Int)).length = ws.length + 2 := by rw [List.length_append]; rfl
    have h' : RSt B w0 w R base ln ⟨ws ++ List.replicate (Wht.li a).size 0, labs, lat⟩ (.slice (some ⟨g, 0, none⟩) (ws ++ List.replicate (Wht.li a).size (0 : Int)).length cap) vl mb vf fs bs ml := by rw [hl']; exact h
    refine (lay_li (st := ⟨ws ++ List.replicate (Wht.li a).size 0, labs, lat⟩) h' hE ws.length (cap - ws.length) ba a x (by show ws.length + 2 ≤ (ws ++ List.replicate (Wht.li a).size (0 : Int)).length; rw [hl']; exact Nat.le_refl _) x0 x1 hba).mono ?_
    rintro e w' ⟨rfl, h2, h3, h4⟩
    have e1 : ((ws ++ List.replicate (Wht.li a).size (0 : Int)).set ws.length (encF (movI 1 a (x % 65536)))).set (ws.length + 1) (encF (movI 2 a (x / 65536))) = ws ++ layM (.li a) x := by
      rw [List.set_append_right _ _ (Nat.le_refl _), Nat.sub_self]
      rw [List.set_append_right _ _ (by omega), Nat.add_sub_cancel_left]; rfl
    have h5 : RSt B w0 w' R base ln ⟨((ws ++ List.replicate (Wht.li a).size (0 : Int)).set ws.length (encF (movI 1 a (x % 65536)))).set (ws.length + 1) (encF (movI 2 a (x / 65536))), labs, lat⟩ (.slice (some ⟨g, 0, none⟩) (ws ++ List.replicate (Wht.li a).size (0 : Int)).length cap) vl mb vf fs bs ml := h2
    rw [e1, hl'] at h5
    exact ⟨rfl, h5, h3, h4⟩
end Go.Proofs.YtiknookfnameiaaGreatDoor
