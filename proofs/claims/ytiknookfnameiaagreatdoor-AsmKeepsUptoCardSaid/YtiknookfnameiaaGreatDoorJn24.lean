/- Bounds on what waits: no more than words, names no longer than the text's words; labels no more than words of the text. The reader as read makes it. Plain laws: how many words a line has, and how long they are; how long a text's lines are. The contract of asm's read. -/
import Derived.Test.YtiknookfnameiaaGreatDoorJn14
import Derived.Test.YtiknookfnameiaaGreatDoorMLatJn
import Derived.Test.YtiknookfnameiaaGreatDoorJn07
import Derived.Test.YtiknookfnameiaaGreatDoorTWdPJn
import Derived.Test.YtiknookfnameiaaGreatDoorTWdsJn
namespace Go.Proofs.YtiknookfnameiaaGreatDoor
/-- what waits is no more than the words, and its names are short -/
structure BOk (N : Nat) (st : Asm) : Prop where
  lat : st.lat.length ≤ st.ws.length
  nm : ∀ x ∈ st.lat, x.nm.size ≤ N
theorem asm0_bok (N : Nat) : BOk N asm0 := ⟨by simp [asm0], by simp [asm0]⟩
theorem BOk.more {N : Nat} {st : Asm} (h : BOk N st) (l : List Int) (L : List Lat) (hl : L.length ≤ l.length) (hL : ∀ x ∈ L, x.nm.size ≤ N) (labs : List (ByteArray × Nat)) : BOk N ⟨st.ws ++ l, labs, st.lat ++ L⟩ := by
  refine ⟨?_, fun x hx => ?_⟩
  · have := h.lat; simp only [List.length_append]; omega
  · rcases List.mem_append.1 hx with hx | hx
    · exact h.nm x hx
    · exact hL x hx
theorem latM_len (t : Wht) (p ln : Nat) (w : W) : (latM t p ln w).length ≤ 1 := by
  unfold latM; split <;> simp
theorem getD_sz {N : Nat} {ops : List W} (h : ∀ x ∈ ops, x.1.size ≤ N) (k : Nat) : (ops.getD k w0).1.size ≤ N := by
  rw [List.getD_eq_getElem?_getD]
  cases hx : ops[k]? with
  | none => exact Nat.zero_le _
  | some x => exact h x (List.mem_of_getElem? hx)
theorem instr_bok {N ln : Nat} {name : W} {op : Nat} {ops : List W} {st st' : Asm} (h : BOk N st) (ho : ∀ x ∈ ops, x.1.size ≤ N) (he : instrM ln name op ops st = .inl st') : BOk N st' ∧ st'.labs = st.labs := by
  unfold instrM at he
  split at he
  · cases he
  split at he
  · cases he
  split at he
  · cases he
  cases he
  refine ⟨h.more _ _ ?_ ?_ _, rfl⟩
  · split
    · simp
    · exact latM_len _ _ _ _
  · intro x hx
    split at hx
    · simp at hx
    · rw [latM_mem hx]; exact getD_sz ho _
theorem fixed_bok {N ln : Nat} {name : W} {k n : Nat} {ops : List W} {t : Wht} {st st' : Asm} (h : BOk N st) (ho : ∀ x ∈ ops, x.1.size ≤ N) (he : fixedM ln name k ops t n st = .inl st') : BOk N st' ∧ st'.labs = st.labs := by
  unfold fixedM at he
  split at he
  · cases he
  split at he
  · cases he
  split at he
  · cases he
  cases he
  refine ⟨h.more _ _ ?_ ?_ _, rfl⟩
  · refine Nat.le_trans (latM_len _ _ _ _) ?_
    rw [layM_len]; cases t <;> simp [Wht.size]
  · intro x hx; rw [latM_mem hx]; exact getD_sz ho _
theorem stmt_bok {N ln : Nat} {name : W} {ops : List W} {st st' : Asm} (h : BOk N st) (ho : ∀ x ∈ ops, x.1.size ≤ N) (he : stmtM ln name ops st = .inl st') : BOk N st' ∧ st'.labs = st.labs := by
  unfold stmtM at he
  split at he
  · cases he
  split at he
  · exact instr_bok h ho he
  split at he
  · exact fixed_bok h ho he
  split at he
  · unfold liM at he
    split at he
    · cases he
    split at he
    · exact fixed_bok h ho he
    · split at he
      · cases he
      · exact fixed_bok h ho he
  split at he
  · unfold zeroM at he
    split at he
    · cases he
    split at he
    · cases he
    split at he
    · cases he
    rename_i n _ _ _ _ _
    cases he
    have := h.more (List.replicate n 0) [] (by simp) (by simp) st.labs
    exact ⟨by simpa using this, rfl⟩
  · cases he
theorem take_bok {N ln : Nat} : ∀ (ws : List W) {st st' : Asm}, BOk N st → (∀ x ∈ ws, x.1.size ≤ N) → takeM ln ws st = .inl st' → BOk N st' ∧ st'.labs.length ≤ st.labs.length + ws.length
  | [], st, st', h, ho, he => by unfold takeM at he; cases he; exact ⟨h, Nat.le_add_right _ _⟩
  | w :: ws, st, st', h, ho, he => by
    have ho2 : ∀ x ∈ ws, x.1.size ≤ N := fun x hx => ho x (List.mem_cons_of_mem _ hx)
    unfold takeM at he
    split at he
    · split at he
      · cases he
      split at he
      · cases he
      · obtain ⟨g1, g2⟩ := take_bok (st := ⟨st.ws, st.labs ++ [(cutC w.1, st.ws.length)], st.lat⟩) ws ⟨h.lat, h.nm⟩ ho2 he
        refine ⟨g1, ?_⟩
        simp only [List.length_append, List.length_cons, List.length_nil] at g2 ⊢
        omega
    · obtain ⟨g1, g2⟩ := stmt_bok h ho2 he
      exact ⟨g1, by rw [g2]; simp only [List.length_cons]; omega⟩
end Go.Proofs.YtiknookfnameiaaGreatDoor

namespace Go.Proofs.YtiknookfnameiaaGreatDoor
open Go.RowKit WP
theorem rst_new (w : World) (hE : AEnv w) (base : Int) : RSt w.heap.size w ((w.alloc (.map #[] 0)).alloc (.cells #[.int .u32 base, .int .i64 0, .slice none 0 0, .slice none 0 0, .map (some w.heap.size), .slice none 0 0] 77)) (w.heap.size + 1) base 0 asm0 (.slice none 0 0) (.slice none 0 0) w.heap.size (.slice none 0 0) [] [] [] := by
  obtain ⟨w1, hw1⟩ : ∃ w1, w.alloc (.map #[] 0) = w1 := ⟨_, rfl⟩
  have hs1 : w1.heap.size = w.heap.size + 1 := by rw [← hw1]; simp
  have b1 : Below w.heap.size w w1 := by rw [← hw1]; exact (Below.refl w.heap.size w).alloc (Nat.le_refl _) _
  have hm := MapIs.new w
  rw [hw1] at hm ⊢
  have b2 : Below w1.heap.size w1 (w1.alloc (.cells #[.int .u32 base, .int .i64 0, .slice none 0 0, .slice none 0 0, .map (some w.heap.size), .slice none 0 0] 77)) := (Below.refl _ _).alloc (Nat.le_refl _) _
  refine ⟨?_, ⟨rfl, .inl ⟨rfl, rfl⟩⟩, ⟨rfl, .inl ⟨rfl, rfl⟩⟩, hm.same (b2.block _ (by omega)), ⟨rfl, .inl ⟨rfl, rfl⟩⟩, Pends.nil _ _, by omega, Nat.le_refl _, b1.trans (b2.mono (by omega)), ⟨w, hE, Nat.le_refl _, Below.refl _ _⟩, StrK.keep (StrK.keep (StrK.refl w) (Keep.below (by rw [← hw1]; exact (Below.refl w.heap.size w).alloc (Nat.le_refl _) _))) (Keep.below b2), by simp⟩
  rw [← hs1]
  exact heap_alloc_new w1 _
theorem RSt.rebase {B : Nat} {w0 w : World} {R : Nat} {base : Int} {ln : Nat} {st : Asm} {vw vl : Value} {mb : Nat} {vf : Value} {fs : List Value} {bs : List Nat} {ml : List (ByteArray × Nat)} (h : RSt B w0 w R base ln st vw vl mb vf fs bs ml) : RSt B w w R base ln st vw vl mb vf fs bs ml := by
  obtain ⟨w00, h1, h2, h3⟩ := h.size
  exact ⟨h.blk, h.ws, h.labs, h.map, h.lat, h.pend, h.hR, h.hm, Below.refl _ _, ⟨w00, h1, h2, h3.trans h.below⟩, StrK.refl w, h.lo⟩
end Go.Proofs.YtiknookfnameiaaGreatDoor

namespace Go.Proofs.YtiknookfnameiaaGreatDoor
open Go.RowKit WP
theorem qA_len (l : List UInt8) : ∀ (f i : Nat) (acc b : List UInt8) (n : Nat), qA l f i acc = .inl (b, n) → b.length + i ≤ n + acc.length
  | 0, i, acc, b, n, h => by simp [qA] at h
  | f + 1, i, acc, b, n, h => by
    unfold qA at h
    split at h
    · simp at h
    · split at h
      · simp only [Sum.inl.injEq, Prod.mk.injEq] at h; obtain ⟨rfl, rfl⟩ := h; omega
      · split at h
        · have := qA_len l f _ _ _ _ h; simp only [List.length_append, List.length_cons, List.length_nil] at this; omega
        · split at h
          · simp at h
          · split at h
            · have := qA_len l f _ _ _ _ h; simp only [List.length_append, List.length_cons, List.length_nil] at this; omega
            · simp at h
theorem wA_bd (s : ByteArray) : ∀ (f i : Nat) (acc ws : List W), i ≤ s.size → acc.length ≤ i → (∀ x ∈ acc, x.1.size ≤ s.size) → wA s f i acc = .inl ws → ws.length ≤ s.size ∧ ∀ x ∈ ws, x.1.size ≤ s.size
  | 0, i, acc, ws, hi, ha, hx, h => by
    simp only [wA, Sum.inl.injEq] at h; subst h; exact ⟨by omega, hx⟩
  | f + 1, i, acc, ws, hi, ha, hx, h => by
    have hl : s.data.toList.length = s.size := by rw [Array.length_toList]; rfl
    unfold wA at h
    split at h
    · simp only [Sum.inl.injEq] at h; subst h; exact ⟨by omega, hx⟩
    · rename_i hlt
      split at h
      · exact wA_bd s f _ _ _ (by omega) (by omega) hx h
      · rename_i hbl
        split at h
        · simp only [Sum.inl.injEq] at h; subst h; exact ⟨by omega, hx⟩
        · split at h
          · split at h
            · simp at h
            · rename_i b n hq
              have h1 := qA_len _ _ _ _ _ _ hq
              have h2 := qA_bd _ _ _ _ _ _ hq
              split at h
              · simp at h
              · refine wA_bd s f _ _ _ (by omega) (by simp; omega) ?_ h
                intro x hx'
                rcases List.mem_append.1 hx' with hx' | hx'
                · exact hx x hx'
                · simp only [List.mem_cons, List.not_mem_nil, or_false] at hx'; subst hx'
                  show b.length ≤ s.size
                  simp at h1; omega
          · have hgt := skipB_gt s.data.toList (s.size - 1) i (by omega) (by simpa using hbl)
            have hbd := skipB_bd s.data.toList s.size i (by omega)
            rw [show s.size - 1 + 1 = s.size by omega] at hgt
            refine wA_bd s f _ _ _ (by omega) (by simp; omega) ?_ h
            intro x hx'
            rcases List.mem_append.1 hx' with hx' | hx'
            · exact hx x hx'
            · simp only [List.mem_cons, List.not_mem_nil, or_false] at hx'; subst hx'
              simp; omega
theorem wordsF_bd (s : ByteArray) (ws : List W) (h : wordsF s = .inl ws) : ws.length ≤ s.size ∧ ∀ x ∈ ws, x.1.size ≤ s.size :=
  wA_bd s _ 0 [] ws (by omega) (by simp) (by simp) h
theorem linesA_bd : ∀ (l c : List UInt8), (linesA c l).length ≤ c.length + l.length ∧ ∀ b ∈ linesA c l, b.length ≤ c.length + l.length
  | [], c => by
    unfold linesA
    split
    · simp
    · rename_i h
      have : 0 < c.length := List.length_pos_iff.2 h
      simp; omega
  | x :: l, c => by
    unfold linesA
    split
    · obtain ⟨h1, h2⟩ := linesA_bd l []
      simp only [List.length_nil, Nat.zero_add] at h1 h2
      refine ⟨by simp; omega, ?_⟩
      intro b hb
      simp only [List.mem_cons] at hb
      rcases hb with rfl | hb
      · simp
      · have := h2 b hb; simp; omega
    · obtain ⟨h1, h2⟩ := linesA_bd l (c ++ [x])
      simp only [List.length_append, List.length_cons, List.length_nil] at h1 h2 ⊢
      exact ⟨by omega, fun b hb => by have := h2 b hb; omega⟩
theorem linesF_bd (s : ByteArray) : (linesF s).length ≤ s.size ∧ ∀ t ∈ linesF s, t.size ≤ s.size := by
  have hl : s.data.toList.length = s.size := by rw [Array.length_toList]; rfl
  obtain ⟨h1, h2⟩ := linesA_bd s.data.toList []
  simp only [List.length_nil, Nat.zero_add, hl] at h1 h2
  unfold linesF bas
  refine ⟨by simpa using h1, ?_⟩
  intro t ht
  obtain ⟨b, hb, rfl⟩ := List.mem_map.1 ht
  exact h2 b hb
end Go.Proofs.YtiknookfnameiaaGreatDoor

namespace Go.Proofs.YtiknookfnameiaaGreatDoor
open Go.RowKit WP
set_option linter.unusedSimpArgs false
set_option linter.unusedVariables false
/-- the letters of all lines -/
def tot (L : List ByteArray) : Nat := (L.map ByteArray.size).sum
theorem linesA_tot : ∀ (l c : List UInt8), ((linesA c l).map List.length).sum ≤ c.length + l.length
  | [], c => by
    unfold linesA
    split <;> simp
  | x :: l, c => by
    unfold linesA
    split
    · have := linesA_tot l []
      simp only [List.map_cons, List.sum_cons, List.length_nil, List.length_cons] at this ⊢
      omega
    · have := linesA_tot l (c ++ [x])
      simp only [List.length_append, List.length_cons, List.length_nil] at this ⊢
      omega
theorem linesF_tot (s : ByteArray) : tot (linesF s) ≤ s.size := by
  have h := linesA_tot s.data.toList []
  have hl : s.data.toList.length = s.size := by rw [Array.length_toList]; rfl
  rw [hl, List.length_nil, Nat.zero_add] at h
  refine Nat.le_trans (Nat.le_of_eq ?_) h
  unfold tot linesF bas
  rw [List.map_map]
  congr 1
/-- what read answers -/
def ReadRes (w' : World) (B : Nat) (base : Int) (e : Ending) : (List Int × List (ByteArray × Nat)) ⊕ Flt → Prop
  | .inl x => ∃ R ln mb vw vl vf, e = .returned (.tuple #[ptr R, .nilIface]) ∧ B ≤ R ∧ w'.heap[R]? = some (.cells #[.int .u32 base, .int .i64 (ln : Int), vw, vl, .map (some mb), vf] 77 (0, 0)) ∧
      w'.ownsRow B 22 1 vw x.1.length (wi x.1) ∧ w'.ownsRow B 44 2 vl x.2.length (lc x.2)
  | .inr f => ∃ v, e = .returned (.tuple #[.pointer none, v]) ∧ FltAt w' v f
/-- the second half's reading -/
def endM (base : Int) : Asm ⊕ Flt → (List Int × List (ByteArray × Nat)) ⊕ Flt
  | .inr f => .inr f
  | .inl st => match latersM base st.labs st.lat st.ws with
    | .inr f => .inr f
    | .inl ws => .inl (ws, st.labs)
theorem readM_end (base : Int) (s : ByteArray) (hs : s.size ≤ 65536) : readM base s = endM base (linesM 1 (linesF s) asm0) := by
  unfold readM endM
  rw [if_neg (by omega)]
  cases linesM 1 (linesF s) asm0 with
  | inr f => rfl
  | inl st =>
    simp only
    cases latersM base st.labs st.lat st.ws <;> rfl
theorem str_cell {w2 w : World} {C n : Nat} {v : Value} {L : List ByteArray} (h : w2.ownsRow C 9 1 v n (L.map Value.string)) (hk : StrK w2 w) (k : Nat) (hkn : k < n) (t : ByteArray) (ht : L[k]? = some t) :
    ∃ g cap, v = .slice (some ⟨g, 0, none⟩) n cap ∧ n ≤ cap ∧ cap ≤ 9223372036854775807 ∧ w.cell? ⟨g, k, none⟩ = some (.string t) := by
  rcases h.2 with ⟨_, h0⟩ | ⟨g, cap, cur, hv, _, hg, h1, h2, hcs, htake⟩
  · omega
  · refine ⟨g, cap, hv, h1, h2, ?_⟩
    have hb := hk g cur hg
    have hc := cell_of_row w g k _ _ _ hb
    rw [hc]
    have : (L.map Value.string)[k]? = some (.string t) := by rw [List.getElem?_map, ht]; rfl
    rw [← htake, List.getElem?_take_of_lt (by omega)] at this
    rw [← this, Array.getElem?_toList]
/-- the first that waits is called -/
theorem later_any {B : Nat} {w0 w : World} {R : Nat} {base : Int} {ln : Nat} {ws : List Int} {labs : List (ByteArray × Nat)} {rest : List Lat} {vl : Value} {mb : Nat} {vf : Value} {fs : List Value} {bs : List Nat} {g cap b : Nat} {f : Value} {x : Lat}
    (h : RSt B w0 w R base ln ⟨ws, labs, rest⟩ (.slice (some ⟨g, 0, none⟩) ws.length cap) vl mb vf fs bs labs) (hE : AEnv w0) (nb : base < 4294967296 ∧ 0 ≤ base) (hp : x.place + x.what.size ≤ ws.length) (hws : ws.length ≤ 2048) (hlabs : ∀ q ∈ labs, q.2 ≤ 2048) (hnm : x.nm.size ≤ 1048576)
    (hbs : ∀ c ∈ bs, b < c) (hBb : B ≤ b) (hpd : Pend w R b f x) :
    ∃ fid caps, f = .func (.func fid) #[] caps ∧ (∀ W : World, (callFunc fid caps).run Tryz.prog W = .ok (.enter fid caps) W) ∧ Calls Tryz.prog fid caps w fun e w' => LatRes B w0 R base ln labs rest (.slice (some ⟨g, 0, none⟩) ws.length cap) vl mb vf fs bs w' e (laterM base labs x ws) := by
  obtain ⟨what, pl, nm, li, col⟩ := x
  cases what with
  | jmp i =>
    obtain ⟨b4, bw, bl, bp, bf, e, h1, h2, h3, h4, h5, h6⟩ := hpd
    exact ⟨_, _, e, fun W => by kernel_rfl, later_jmp h hE i pl li col nm (by have : (Wht.jmp i).size = 1 := rfl; simp only [this] at hp; omega) hws hlabs hnm hbs hBb h1 h2 h3 h4 h5 h6⟩
  | word =>
    obtain ⟨b4, bw, bl, bp, bn, bf, e, h1, h2, h3, h4, h5, h6⟩ := hpd
    exact ⟨_, _, e, fun W => by kernel_rfl, later_fixed h hE .word nb pl 1 li col nm hp rfl hws hlabs hnm h1 h2 h3 h4 h5 _ h6 (.inl ⟨rfl, rfl, rfl⟩)⟩
  | li a =>
    obtain ⟨b4, bw, bl, bp, bn, bf, ba, e, h1, h2, h3, h4, h5, h6, h7⟩ := hpd
    exact ⟨_, _, e, fun W => by kernel_rfl, later_fixed h hE (.li a) nb pl 2 li col nm hp rfl hws hlabs hnm h1 h2 h3 h4 h5 _ h6 (.inr ⟨a, ba, rfl, rfl, rfl, h7⟩)⟩
end Go.Proofs.YtiknookfnameiaaGreatDoor
