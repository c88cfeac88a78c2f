/- The reference's Unquote. -/
import Derived.Test.YtefbogmgcihndaaGreatDoorKQuo
import Derived.Test.YtefbogmgcihndaaGreatDoorTUnq
namespace Go.Proofs.YtefbogmgcihndaaGreatDoor
open Go.RowKit WP
theorem unqF_head (l : List UInt8) (h : bAt l 0 = 34) (hl : 0 < l.length) : unqF l = match qA l (l.length + 1) 1 [] with
    | .inl (b, n) => if n = l.length then some b else none
    | .inr _ => none := by
  have hh : l.head? = some 34 := by
    cases l with
    | nil => exact absurd hl (by simp)
    | cons c r =>
      rw [List.head?_cons, Option.some.injEq]
      exact UInt8.toNat.inj (by show c.toNat = 34; have : ((c.toNat : Nat) : Int) = 34 := h; omega)
  unfold unqF
  rw [if_pos hh]
  cases qA l (l.length + 1) 1 [] with
  | inl p => rfl
  | inr k => rfl
theorem unqF_other (l : List UInt8) (h : bAt l 0 ≠ 34) : unqF l = none := by
  unfold unqF
  rw [if_neg]
  intro e
  cases l with
  | nil => cases e
  | cons c r =>
    rw [List.head?_cons, Option.some.injEq] at e
    subst e
    exact h rfl
theorem unqF_one (l : List UInt8) (h : l.length < 2) : unqF l = none := by
  match l, h with
  | [], _ => rfl
  | [c], _ =>
    by_cases e : c = 34
    · subst e; rfl
    · unfold unqF; rw [if_neg (by simpa using e)]
set_option maxRecDepth 100000 in
set_option maxHeartbeats 2000000 in
theorem runquote_any (s : ByteArray) (w : World) (hs : s.size ≤ 1099511627776) :
    Calls Tryz.prog 28 #[.string s] w fun e w' => Below w.heap.size w w' ∧ UnqRes (unqF s.data.toList) w.heap.size e w' := by
  have hl := size_list s
  by_cases h2 : s.size < 2
  · have d1 : decide ((s.size : Int) < 2) = true := decide_eq_true (by omega)
    rw [unqF_one _ (by rw [hl]; exact h2)]
    clear hl
    go_enter Tryz.func28, Tryz.ntmps28
    go_wp2_with fail
    exact bodyPost_ret (v := .tuple #[.slice none 0 0, .int .i64 40]) (by simp [results, Tryz.results28, go_sem]) rfl ⟨Below.refl _ _, rfl⟩
  · have d1 : decide ((s.size : Int) < 2) = false := decide_eq_false (by omega)
    have hp2 : 0 < s.size := by omega
    have b0 := bAt_get s 0 hp2
    have hp : (0 : Int) < (s.size : Int) := by omega
    by_cases h34 : bAt s.data.toList 0 = 34
    · have hU := unqF_head _ h34 (by omega)
      rw [hl] at hU
      rw [hU]
      rw [h34] at b0
      have hq := fun W => rquoted_any s 0 W hs (by omega)
      simp only [Nat.zero_add] at hq
      clear hU h34 hl
      cases hQ : qA s.data.toList (s.size + 1) 1 [] with
      | inr k =>
        rw [hQ] at hq
        clear hQ
        replace hq := Lib.hid hq
        go_enter Tryz.func28, Tryz.ntmps28
        go_wp2_with (go_at_call 38; refine (hq.out _).mono ?_; rintro e w2 ⟨hb2, hr2⟩; replace hr2 : e = .returned _ := hr2; rw [hr2]; clear hr2)
        exact bodyPost_ret (v := .tuple #[.slice none 0 0, .int .i64 40]) (by simp [results, Tryz.results28, go_sem]) rfl ⟨hb2, rfl⟩
      | inl p =>
        obtain ⟨b, n⟩ := p
        rw [hQ] at hq
        simp only
        clear hQ
        replace hq := Lib.hid hq
        by_cases hn : n = s.size
        · rw [if_pos hn]
          subst hn
          go_enter Tryz.func28, Tryz.ntmps28
          go_wp2_with (go_at_call 38; refine (hq.out _).mono ?_; rintro e w2 ⟨hb2, v, rfl, ho2⟩; replace ho2 := Lib.hid ho2)
          exact bodyPost_ret (v := .tuple #[v, .int .i64 0]) (by simp [results, Tryz.results28, go_sem]) rfl ⟨hb2, v, rfl, ho2.out⟩
        · rw [if_neg hn]
          have dn : ((n : Int) != (s.size : Int)) = true := by simp; omega
          replace hn := Lib.hid hn
          go_enter Tryz.func28, Tryz.ntmps28
          go_wp2_with (go_at_call 38; refine (hq.out _).mono ?_; rintro e w2 ⟨hb2, v, rfl, ho2⟩; replace ho2 := Lib.hid ho2)
          exact bodyPost_ret (v := .tuple #[.slice none 0 0, .int .i64 40]) (by simp [results, Tryz.results28, go_sem]) rfl ⟨hb2, rfl⟩
    · have dx : (bAt s.data.toList 0 != 34) = true := by simp [h34]
      rw [unqF_other _ h34]
      generalize bAt s.data.toList 0 = c at *
      clear hl h34
      go_enter Tryz.func28, Tryz.ntmps28
      go_wp2_with fail
      exact bodyPost_ret (v := .tuple #[.slice none 0 0, .int .i64 40]) (by simp [results, Tryz.results28, go_sem]) rfl ⟨Below.refl _ _, rfl⟩
end Go.Proofs.YtefbogmgcihndaaGreatDoor
