/- The contract of text's Unquote. -/
import Derived.Test.YtefbogmgcihndaaDoorTWds
import Derived.Test.YtefbogmgcihndaaDoorTLine
namespace Go.Proofs.YtefbogmgcihndaaDoor
open Go.RowKit WP
set_option maxRecDepth 100000 in
theorem ucatch_idle (p0 p1 : Addr) (w : World) :
    CallsD Tryd.prog 50 #[.pointer (some p0), .pointer (some p1)] .returning w fun e u' w' => e = .returned (.tuple #[]) ∧ u' = .returning ∧ w' = w := by
  refine callsD_of_wpS Tryd.func50 rfl fun c₀ cs hu => ?_
  apply wpS_seq
  apply wpS_region
  simp [wpOpsS, go_sem, recoverD, hu, Tryd.ntmps50, Exit.thenS]
  refine wpS_of_wp ?_
  go_wp2
  cases c₀
  simp_all [bodyPostS, results, Tryd.results50]
set_option maxRecDepth 100000 in
theorem ucatch_broken (b : Nat) (i : Int) (x0 x1 : Value) (older : List PanicEntry) (w : World)
    (h0 : w.cell? ⟨b, 0, none⟩ = some x0) (h1 : w.cell? ⟨b + 1, 0, none⟩ = some x1)
    (f0 : w.frozen? ⟨b, 0, none⟩ = false) (f1 : w.frozen? ⟨b + 1, 0, none⟩ = false) :
    CallsD Tryd.prog 50 #[.pointer (some ⟨b, 0, none⟩), .pointer (some ⟨b + 1, 0, none⟩)] (.panicking ({ v := .iface 70 (.int .i64 i), recovered := false } :: older)) w fun e u' w' => e = .returned (.tuple #[]) ∧ u' = .panicking ({ v := .iface 70 (.int .i64 i), recovered := true } :: older) ∧ w' = (w.setCell ⟨b, 0, none⟩ (.slice none 0 0)).setCell ⟨b + 1, 0, none⟩ (.int .i64 40) := by
  refine callsD_of_wpS Tryd.func50 rfl fun c₀ cs hu => ?_
  apply wpS_seq
  apply wpS_region
  simp [wpOpsS, go_sem, recoverD, hu, Tryd.ntmps50, Exit.thenS]
  refine wpS_of_wp ?_
  have hta := assert_broken (.int .i64 i)
  change Code.wp _ _ _ { tmps := #[(.pointer (some ⟨b, 0, none⟩)), (.pointer (some ⟨b + 1, 0, none⟩)), undef, undef, undef, .iface 70 (.int .i64 i), undef, undef, undef, undef, undef], defers := [] } w
  go_wp2
  all_goals refine ⟨rfl, _, rfl, .tuple #[], ?_, rfl, rfl, rfl⟩
  all_goals simp [results, Tryd.results50]
def unqF (l : List UInt8) : Option (List UInt8) :=
  if l.head? = some 34 then (match qA l (l.length + 1) 1 [] with
    | .inl (b, n) => if n = l.length then some b else none
    | .inr _ => none) else none
def UnqRes (R : Option (List UInt8)) (B : Nat) (e : Ending) (w' : World) : Prop :=
  match R with
  | some b => ∃ v, e = .returned (.tuple #[v, .int .i64 0]) ∧ w'.ownsRow B 5 1 v b.length (vb b)
  | none => e = .returned (.tuple #[.slice none 0 0, .int .i64 40])
/-- the two result cells of Unquote -/
structure Ust (C : Nat) (w0 w : World) (v : Value) (x : Int) : Prop where
  b0 : w.heap[C]? = some (.cells #[v] 24 (0, 0))
  b1 : w.heap[C + 1]? = some (.cells #[.int .i64 x] 32 (0, 0))
  below : Below C w0 w
namespace Ust
variable {C : Nat} {w0 w w2 : World} {v : Value} {x : Int}
theorem size (h : Ust C w0 w v x) : C + 2 ≤ w.heap.size := by have := lt_of_block h.b1; omega
theorem c0 (h : Ust C w0 w v x) : w.cell? ⟨C, 0, none⟩ = some v := cell_of_row _ _ _ _ _ _ h.b0
theorem c1 (h : Ust C w0 w v x) : w.cell? ⟨C + 1, 0, none⟩ = some (.int .i64 x) := cell_of_row _ _ _ _ _ _ h.b1
theorem f0 (h : Ust C w0 w v x) : w.frozen? ⟨C, 0, none⟩ = false := frozen_of_row _ _ _ _ _ h.b0
theorem f1 (h : Ust C w0 w v x) : w.frozen? ⟨C + 1, 0, none⟩ = false := frozen_of_row _ _ _ _ _ h.b1
theorem later (h : Ust C w0 w v x) (hb : Below w.heap.size w w2) : Ust C w0 w2 v x :=
  ⟨(hb.block _ (lt_of_block h.b0)).trans h.b0, (hb.block _ (lt_of_block h.b1)).trans h.b1, h.below.trans (hb.mono (by have := h.size; omega))⟩
theorem set0 (h : Ust C w0 w v x) (u : Value) : Ust C w0 (w.setCell ⟨C, 0, none⟩ u) u x :=
  ⟨heap_setCell_same w C 0 _ _ u h.b0, (heap_setCell_other w ⟨C, 0, none⟩ (C + 1) u (by simp)).trans h.b1, h.below.setCell (Nat.le_refl _) _⟩
theorem set1 (h : Ust C w0 w v x) (y : Int) : Ust C w0 (w.setCell ⟨C + 1, 0, none⟩ (.int .i64 y)) v y :=
  ⟨(heap_setCell_other w ⟨C + 1, 0, none⟩ C _ (by simp)).trans h.b0, heap_setCell_same w (C + 1) 0 _ _ _ h.b1, h.below.setCell (by show C ≤ C + 1; omega) _⟩
theorem new (w : World) (v : Value) (x : Int) : Ust w.heap.size w ((w.alloc (Obj.cells #[v] 24)).alloc (Obj.cells #[Value.int IntKind.i64 x] 32)) v x := by
  refine ⟨?_, ?_, ?_⟩
  · rw [heap_alloc_old _ _ (by simp)]; exact heap_alloc_new _ _
  · have := heap_alloc_new (w.alloc (Obj.cells #[v] 24)) (Obj.cells #[Value.int IntKind.i64 x] 32)
    simpa using this
  · exact Below.alloc (Below.alloc (Below.refl _ _) (Nat.le_refl _) _) (by simp) _
end Ust
theorem uown_form {w : World} {base : Nat} {e : TypeId} {size n : Nat} {v : Value} {xs : List Value} (h : w.ownsRow base e size v n xs) : ∃ ao ca, v = .slice ao n ca := by
  rcases h.2 with ⟨hv, hn⟩ | ⟨g, cap, cur, hv, _⟩
  · exact ⟨none, 0, by rw [hv, hn]⟩
  · exact ⟨_, _, hv⟩
theorem uown_base {w : World} {B B' : Nat} {e : TypeId} {size n : Nat} {v : Value} {xs : List Value} (h : w.ownsRow B e size v n xs) (hB : B' ≤ B) : w.ownsRow B' e size v n xs := by
  refine ⟨h.1, ?_⟩
  rcases h.2 with hv | ⟨g, cap, cur, hv, hb, r⟩
  · exact .inl hv
  · exact .inr ⟨g, cap, cur, hv, Nat.le_trans hB hb, r⟩
theorem uown_set {w : World} {B C j : Nat} {e : TypeId} {v u : Value} {n : Nat} {xs : List Value} (h : w.ownsRow B e 1 v n xs) (hC : C < B) : (w.setCell ⟨C, j, none⟩ u).ownsRow B e 1 v n xs := by
  refine ⟨h.1, ?_⟩
  rcases h.2 with hv | ⟨g, cap, cur, hv, hb, hg, r⟩
  · exact .inl hv
  · exact .inr ⟨g, cap, cur, hv, hb, (heap_setCell_other w ⟨C, j, none⟩ g u (by simp; omega)).trans hg, r⟩
set_option maxRecDepth 100000 in
set_option maxHeartbeats 4000000 in
theorem unquote_any (s : ByteArray) (w : World) (hs : s.size ≤ 140737488355328) :
    Calls Tryd.prog 23 #[.string s] w fun e w' => Below w.heap.size w w' ∧ UnqRes (unqF s.data.toList) w.heap.size e w' := by
  have hmf : ∀ (fn : Fn) (first cap : Array Value) (w : World), (Instr.makeFunc fn first cap).run Tryd.prog w = .ok (.func fn first cap) w := fun _ _ _ _ => rfl
  have hl := Lib.hid (size_list s)
  have h0 := Ust.new w (.slice none 0 0) 0
  have h40 := Ust.new w (.slice none 0 0) 40
  replace h0 := Lib.hid h0; replace h40 := Lib.hid h40
  by_cases he : s.size = 0
  · obtain rfl := (show s = ⟨#[]⟩ from by apply ByteArray.ext; exact Array.eq_empty_of_size_eq_zero he)
    have hR : unqF (⟨#[]⟩ : ByteArray).data.toList = none := rfl
    rw [hR]
    go_enter_defers Tryd.func23, Tryd.ntmps23
    go_wp2_with fail
    generalize ((w.alloc (Obj.cells #[Value.slice none 0 0] 24)).alloc (Obj.cells #[Value.int IntKind.i64 40] 32)) = wa at *
    have c0 := h40.out.c0
    have c1 := h40.out.c1
    refine leaves_cons (f := 50) (args := #[.pointer (some ⟨w.heap.size, 0, none⟩), .pointer (some ⟨w.heap.size + 1, 0, none⟩)]) (by simp) (by simp [go_sem]) ?_
    refine (ucatch_idle _ _ _).mono ?_
    rintro e u' w'' ⟨rfl, rfl, hw⟩
    rw [hw]
    clear hw w''
    simp [Leaves, settle, results, Tryd.results23, go_sem, c0, c1]
    exact ⟨h40.out.below, rfl⟩
  · have hne : s.toList.isEmpty = false := by
      rw [ByteArray.toList_eq]
      cases hl2 : s.data.toList with
      | nil => exact absurd (by rw [← size_list, hl2]; rfl) he
      | cons _ _ => rfl
    have hp : 0 < s.size := by omega
    have b0 := bAt_get s 0 hp
    have hhd : s.data.toList.head? = some 34 ↔ bAt s.data.toList 0 = 34 := by
      cases hl2 : s.data.toList with
      | nil => have := hl.out; rw [hl2] at this; simp at this; omega
      | cons c r =>
        simp only [List.head?_cons, Option.some.injEq]
        show c = 34 ↔ ((c.toNat : Nat) : Int) = 34
        constructor
        · rintro rfl; rfl
        · intro h; exact UInt8.toNat.inj (by show c.toNat = 34; omega)
    by_cases h34 : bAt s.data.toList 0 = 34
    · have hU : unqF s.data.toList = match qA s.data.toList (s.size + 1) 1 [] with
          | .inl (b, n) => if n = s.size then some b else none
          | .inr _ => none := by unfold unqF; rw [if_pos (hhd.2 h34), hl.out]
      have hquo := fun W => quoted_any s 0 W hs hp
      rw [h34] at b0
      rw [hU]
      clear hhd h34 hU
      cases hQ : qA s.data.toList (s.size + 1) 1 [] with
      | inr k =>
        simp only [Nat.zero_add, hQ] at hquo
        clear hQ
        replace hquo := Lib.hid hquo
        go_enter_defers Tryd.func23, Tryd.ntmps23
        go_wp2_with (go_at_call 30; refine (hquo.out _).mono ?_; rintro e w2 ⟨hb2, hr2⟩; replace hr2 : e = .panicked _ := hr2; rw [hr2]; clear hr2)
        have hW2 := h0.out.later hb2
        have c0 := hW2.c0
        have c1 := hW2.c1
        have f0 := hW2.f0
        have f1 := hW2.f1
        refine leaves_cons (f := 50) (args := #[.pointer (some ⟨w.heap.size, 0, none⟩), .pointer (some ⟨w.heap.size + 1, 0, none⟩)]) (by simp) (by simp [go_sem]) ?_
        refine (ucatch_broken w.heap.size k _ _ [] _ c0 c1 f0 f1).mono ?_
        rintro e' u' w3 ⟨rfl, rfl, hw⟩
        have hW3 := (hW2.set0 (.slice none 0 0)).set1 40
        rw [← hw] at hW3
        clear hw
        have d0 := hW3.c0
        have d1 := hW3.c1
        simp [Leaves, settle, results, Tryd.results23, go_sem, d0, d1]
        exact ⟨hW3.below, rfl⟩
      | inl p =>
        obtain ⟨b, n⟩ := p
        simp only [Nat.zero_add, hQ] at hquo
        have hbd := qA_bd _ _ _ _ _ _ hQ
        rw [hl.out] at hbd
        clear hQ
        replace hquo := Lib.hid hquo
        dsimp only
        by_cases hn : n = s.size
        · have dn : ((n : Int) != (s.size : Int)) = false := by simp [hn]
          rw [if_pos hn]
          replace hn := Lib.hid hn
          go_enter_defers Tryd.func23, Tryd.ntmps23
          go_wp2_with (go_at_call 30; refine (hquo.out _).mono ?_; rintro e w2 ⟨hb2, hr2⟩; obtain ⟨v2, he2, ho2⟩ := hr2; rw [he2]; clear he2 e; obtain ⟨va, vc, rfl⟩ := uown_form ho2; have hW2 := h0.out.later hb2; have c0 := hW2.c0; have c1 := hW2.c1; have f0 := hW2.f0; have f1 := hW2.f1; replace hW2 := Lib.hid hW2; replace ho2 := Lib.hid ho2)
          have hW3 := ((hW2.out.set0 (.slice va b.length vc)).set0 (.slice va b.length vc)).set1 0
          have ho3 := uown_set (j := 0) (u := .int .i64 0) (C := w.heap.size + 1) (uown_set (j := 0) (u := .slice va b.length vc) (C := w.heap.size) (uown_set (j := 0) (u := .slice va b.length vc) (C := w.heap.size) ho2.out (by have := hW2.out.size; have := h0.out.size; simp at this ⊢; try omega)) (by have := hW2.out.size; have := h0.out.size; simp at this ⊢; try omega)) (by have := hW2.out.size; have := h0.out.size; simp at this ⊢; try omega)
          clear c0 c1 f0 f1 hb2 hW2 ho2
          generalize ((w2.setCell ⟨w.heap.size, 0, none⟩ (.slice va b.length vc)).setCell ⟨w.heap.size, 0, none⟩ (.slice va b.length vc)).setCell ⟨w.heap.size + 1, 0, none⟩ (.int .i64 0) = w3 at *
          have d0 := hW3.c0
          have d1 := hW3.c1
          refine leaves_cons (f := 50) (args := #[.pointer (some ⟨w.heap.size, 0, none⟩), .pointer (some ⟨w.heap.size + 1, 0, none⟩)]) (by simp) (by simp [go_sem]) ?_
          refine (ucatch_idle _ _ _).mono ?_
          rintro e u' w'' ⟨rfl, rfl, hw⟩
          rw [hw]
          clear hw w''
          simp [Leaves, settle, results, Tryd.results23, go_sem, d0, d1]
          exact ⟨hW3.below, _, rfl, uown_base ho3 (by simp; omega)⟩
        · have dn : ((n : Int) != (s.size : Int)) = true := by simp; omega
          rw [if_neg hn]
          go_enter_defers Tryd.func23, Tryd.ntmps23
          go_wp2_with (go_at_call 30; refine (hquo.out _).mono ?_; rintro e w2 ⟨hb2, hr2⟩; obtain ⟨v2, he2, ho2⟩ := hr2; rw [he2]; clear he2 e; obtain ⟨va, vc, rfl⟩ := uown_form ho2; have hW2 := h0.out.later hb2; have c0 := hW2.c0; have c1 := hW2.c1; have f0 := hW2.f0; have f1 := hW2.f1; replace hW2 := Lib.hid hW2; replace ho2 := Lib.hid ho2)
          have hW3 := ((hW2.out.set0 (.slice va b.length vc)).set0 (.slice none 0 0)).set1 40
          clear c0 c1 f0 f1 hb2 hW2 ho2
          generalize ((w2.setCell ⟨w.heap.size, 0, none⟩ (.slice va b.length vc)).setCell ⟨w.heap.size, 0, none⟩ (.slice none 0 0)).setCell ⟨w.heap.size + 1, 0, none⟩ (.int .i64 40) = w3 at *
          have d0 := hW3.c0
          have d1 := hW3.c1
          refine leaves_cons (f := 50) (args := #[.pointer (some ⟨w.heap.size, 0, none⟩), .pointer (some ⟨w.heap.size + 1, 0, none⟩)]) (by simp) (by simp [go_sem]) ?_
          refine (ucatch_idle _ _ _).mono ?_
          rintro e u' w'' ⟨rfl, rfl, hw⟩
          rw [hw]
          clear hw w''
          simp [Leaves, settle, results, Tryd.results23, go_sem, d0, d1]
          exact ⟨hW3.below, rfl⟩
    · have hU : unqF s.data.toList = none := by unfold unqF; rw [if_neg (fun h => h34 (hhd.1 h))]
      rw [hU]
      obtain ⟨c, hc⟩ : ∃ c, bAt s.data.toList 0 = c := ⟨_, rfl⟩
      rw [hc] at b0 h34
      have d34 : (c != 34) = true := by simp [h34]
      clear hhd hU hc
      go_enter_defers Tryd.func23, Tryd.ntmps23
      go_wp2_with fail
      generalize ((w.alloc (Obj.cells #[Value.slice none 0 0] 24)).alloc (Obj.cells #[Value.int IntKind.i64 40] 32)) = wa at *
      have c0 := h40.out.c0
      have c1 := h40.out.c1
      refine leaves_cons (f := 50) (args := #[.pointer (some ⟨w.heap.size, 0, none⟩), .pointer (some ⟨w.heap.size + 1, 0, none⟩)]) (by simp) (by simp [go_sem]) ?_
      refine (ucatch_idle _ _ _).mono ?_
      rintro e u' w'' ⟨rfl, rfl, hw⟩
      rw [hw]
      clear hw w''
      simp [Leaves, settle, results, Tryd.results23, go_sem, c0, c1]
      exact ⟨h40.out.below, rfl⟩
end Go.Proofs.YtefbogmgcihndaaDoor
