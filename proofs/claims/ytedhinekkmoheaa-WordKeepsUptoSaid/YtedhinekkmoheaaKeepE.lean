/- A law: an append to a row of the call's own, and the row as it was before still reads as it did. -/
import Derived.Test.YtedhinekkmoheaaKeepD
import Derived.Deep.RegionLaw
namespace Go.Proofs.Ytedhinekkmoheaa
open Go.RowKit WP
section
variable {P : Program} (w : World)
theorem run_append_keep (base : Nat) (t ty e : TypeId) (i : TypeInfo) (z : Value) (bytes : Nat) (ht : P.underlying t = some (.slice e)) (hi : P.info? e = some i) (hz : i.zero = some z)
    (hsize : i.size = 1) (hby : i.bytes = bytes) (hzs : z.cells.size = 1)
    (v : Value) (n : Nat) (xs : List Value) (hown : w.ownsRow base e 1 v n xs)
    (a : Addr) (m c : Nat) (news : List Value) (hl : news.length = m) (hnews : ∀ j u, news[j]? = some u → w.cell? (a.add j) = some u) (h1 : ∀ u ∈ news, u.oneCell' = true)
    (h63 : n + m ≤ maxLen) (hbytes : (n + m) * bytes ≤ 140737488355328) (hbase : base ≤ w.heap.size) :
    ∃ v' w', (Builtin.append_ #[t, t] ty #[v, .slice (some a) m c]).run P w = .ok v' w' ∧ w'.ownsRow base e 1 v' (n + m) (xs ++ news) ∧ Onto w v w' v' ∧ Rd w' v xs := by
  obtain ⟨v', w', hr, h2, h3⟩ := run_append_onto (P := P) w base t ty e i z 1 bytes ht hi hz hsize hby hzs (by decide) v n xs hown a m c news (by omega) hnews h1 h63 hbytes hbase
  refine ⟨v', w', hr, h2, h3, ?_⟩
  have hr0 := Rd.of_own hown
  have hxl : xs.length = n := by simpa using hown.1
  rcases hown.2 with ⟨rfl, rfl⟩ | ⟨g, cap, cur, rfl, hbg, hg, hnc, hcm, hcs, htake⟩
  · have hx : xs = [] := List.eq_nil_of_length_eq_zero hxl
    subst hx
    exact ⟨none, 0, rfl, Nat.le_refl _, by decide, .inl rfl⟩
  · by_cases hroom : n + m ≤ cap
    · have hfit : n * i.size + news.length ≤ cur.size := by rw [hl, hcs, hsize]; omega
      have hr' := run_append_room (P := P) w t ty e i ht hi g n cap cur hg a m c news (by rw [hl, hsize]; omega) hnews h1 hroom hfit
      rw [hr'] at hr
      simp only [Result.ok.injEq] at hr
      obtain ⟨rfl, rfl⟩ := hr
      have := (Rd.of_own h2).take n (by omega)
      rwa [List.take_left' hxl] at this
    · have holds : ∀ j u, xs[j]? = some u → w.cell? ((⟨g, 0, none⟩ : Addr).add j) = some u := hown.cells (g := g) rfl
      have hr' := run_append_grow (P := P) w t ty e i z ht hi hz ⟨g, 0, none⟩ n cap xs (by rw [hsize]; omega) holds a m c news (by rw [hl, hsize]; omega) hnews (by omega) (by simp only [maxLen] at h63; omega) (growslice_fits (by omega) (by rw [hby]; exact hbytes))
      rw [hr'] at hr
      simp only [Result.ok.injEq] at hr
      obtain ⟨rfl, rfl⟩ := hr
      exact (hr0.kept (w' := w.drew) fun _ _ _ => rfl).alloc _
theorem step_append_keep {ops : Array Oper} {o : Oper} {a : Act} {K : Act → World → Prop} {Q : Exit → Act → World → Prop} {E : Prop} (hgd : o.guard = none) (s x : Operand) (t : TypeId)
    (ho : o.op = .call { callee := .builtin .append, args := #[s, x], argTypes := #[t, t] })
    (base : Nat) (e : TypeId) (i : TypeInfo) (z : Value) (bytes : Nat) (ht : P.underlying t = some (.slice e)) (hi : P.info? e = some i) (hz : i.zero = some z)
    (hsize : i.size = 1) (hby : i.bytes = bytes) (hzs : z.cells.size = 1)
    (v : Value) (n : Nat) (xs : List Value) (hs : a.eval s = v) (hown : w.ownsRow base e 1 v n xs)
    (ad : Addr) (m c : Nat) (news : List Value) (hx : a.eval x = .slice (some ad) m c) (hl : news.length = m) (hnews : ∀ j u, news[j]? = some u → w.cell? (ad.add j) = some u) (h1 : ∀ u ∈ news, u.oneCell' = true)
    (h63 : n + m ≤ maxLen) (hbytes : (n + m) * bytes ≤ 140737488355328) (hbase : base ≤ w.heap.size)
    (h : ∀ v' w', w'.ownsRow base e 1 v' (n + m) (xs ++ news) → Onto w v w' v' → Rd w' v xs → K (a.put o.dst v') w') :
    if Region.wanted o (yielded ops a.tmps) = true then Oper.wp P o a w K Q else E := by
  have hw : Region.wanted o (yielded ops a.tmps) = true := by simp [Region.wanted, hgd]
  rw [if_pos hw]
  obtain ⟨v', w', hr, h2, h3, h4⟩ := run_append_keep (P := P) w base t o.type e i z bytes ht hi hz hsize hby hzs v n xs hown ad m c news hl hnews h1 h63 hbytes hbase
  unfold Oper.wp execOp
  simp only [ho, resolve, invoke, builtin, Sem.run_bind, Sem.run_pure, Result.andThen_ok, List.map_toArray, List.map_cons, List.map_nil, hs, hx, hr]
  exact h v' w' h2 h3 h4
end
/-! ### the book -/
def vals (E : List Ent) : List Value := E.flatMap fun e => [e.v, e.u]
theorem vals_append (E F : List Ent) : vals (E ++ F) = vals E ++ vals F := List.flatMap_append
theorem mem_vals {E : List Ent} {v : Value} : v ∈ vals E ↔ ∃ e ∈ E, v = e.v ∨ v = e.u := by simp [vals]
/-- the book's row, and that no list of its entries shares a block with it or another -/
structure Book (base : Nat) (t : TypeId) (w : World) (b : Value) (E : List Ent) : Prop where
  row : w.ownsRow base t 5 b E.length (rowsOf E)
  far : (vals E).Pairwise Far
  off : ∀ v ∈ vals E, Far v b
theorem far_ne {u v : Value} (h : Far u v) : u.ownBlock = none ∨ u.ownBlock ≠ v.ownBlock := by
  cases hu : u.ownBlock with
  | none => exact .inl rfl
  | some k => exact .inr fun e => h k hu e.symm
theorem Book.below {base : Nat} {t : TypeId} {w w' : World} {b : Value} {E : List Ent} (h : Book base t w b E) (hb : Below w.heap.size w w') : Book base t w' b E :=
  ⟨own_below h.row hb, h.far, h.off⟩
theorem Book.grown {base : Nat} {t : TypeId} {w w' : World} {b : Value} {E : List Ent} {r : Option Nat} (h : Book base t w b E) (hg : w.grownBy w' r) (hne : b.ownBlock = none ∨ b.ownBlock ≠ r) : Book base t w' b E :=
  ⟨h.row.kept hg hne, h.far, h.off⟩
/-- an entry whose lists are rows of the call's own, whatever they hold -/
def EntOwn (base : Nat) (w : World) (e : Ent) : Prop :=
  ∃ n xs nb ys, n ≤ 262144 ∧ nb ≤ 1048576 ∧ w.ownsRow base 22 1 e.v n xs ∧ w.ownsRow base 5 1 e.u nb ys
/-- an entry as it was answered -/
def EntTold (base : Nat) (Ls : Nat → List UInt32) (N : Nat) (w : World) (e : Ent) : Prop :=
  ∃ k, k < N ∧ e.k = (k : Int) ∧ e.m = .slice none 0 0 ∧ e.x = .slice none 0 0 ∧ (Ls k).length ≤ 262144 ∧
    w.ownsRow base 22 1 e.v (Ls k).length (vw (Ls k)) ∧ w.ownsRow base 5 1 e.u (4 * (Ls k).length) (vb (bytesL (Ls k)))
theorem EntTold.own {base : Nat} {Ls : Nat → List UInt32} {N : Nat} {w : World} {e : Ent} (h : EntTold base Ls N w e) : EntOwn base w e := by
  obtain ⟨k, _, _, _, _, h1, h2, h3⟩ := h
  exact ⟨_, _, _, _, h1, by omega, h2, h3⟩
theorem EntTold.grown {base : Nat} {Ls : Nat → List UInt32} {N : Nat} {w w' : World} {e : Ent} {r : Option Nat} (h : EntTold base Ls N w e) (hg : w.grownBy w' r) (h1 : e.v.ownBlock = none ∨ e.v.ownBlock ≠ r) (h2 : e.u.ownBlock = none ∨ e.u.ownBlock ≠ r) : EntTold base Ls N w' e := by
  obtain ⟨k, a1, a2, a3, a4, a5, a6, a7⟩ := h
  exact ⟨k, a1, a2, a3, a4, a5, a6.kept hg h1, a7.kept hg h2⟩
theorem EntTold.below {base : Nat} {Ls : Nat → List UInt32} {N : Nat} {w w' : World} {e : Ent} (h : EntTold base Ls N w e) (hb : Below w.heap.size w w') : EntTold base Ls N w' e := by
  obtain ⟨k, a1, a2, a3, a4, a5, a6, a7⟩ := h
  exact ⟨k, a1, a2, a3, a4, a5, own_below a6 hb, own_below a7 hb⟩
theorem EntOwn.grown {base : Nat} {w w' : World} {e : Ent} {r : Option Nat} (h : EntOwn base w e) (hg : w.grownBy w' r) (h1 : e.v.ownBlock = none ∨ e.v.ownBlock ≠ r) (h2 : e.u.ownBlock = none ∨ e.u.ownBlock ≠ r) : EntOwn base w' e := by
  obtain ⟨n, xs, nb, ys, a1, a2, a6, a7⟩ := h
  exact ⟨n, xs, nb, ys, a1, a2, a6.kept hg h1, a7.kept hg h2⟩
theorem EntOwn.lt {base : Nat} {w : World} {e : Ent} (h : EntOwn base w e) : ∀ v, v = e.v ∨ v = e.u → ∀ k, v.ownBlock = some k → base ≤ k ∧ k < w.heap.size := by
  obtain ⟨n, xs, nb, ys, _, _, a6, a7⟩ := h
  rintro v (rfl | rfl) k hk
  · exact a6.lt k hk
  · exact a7.lt k hk
/-- one call more: the book with two entries behind it -/
theorem book_add {base : Nat} {t : TypeId} {w w' : World} {b b' : Value} {E F : List Ent} (h : Book base t w b E) (hE : ∀ e ∈ E, EntOwn base w e) (hF : ∀ e ∈ F, EntOwn base w e)
    (B : Nat) (hold : ∀ v ∈ vals E, ∀ k, v.ownBlock = some k → k < B) (hnew : ∀ v ∈ vals F, ∀ k, v.ownBlock = some k → B ≤ k) (hbB : ∀ k, b.ownBlock = some k → k < B)
    (hfar : (vals F).Pairwise Far)
    (hrow : w'.ownsRow base t 5 b' (E ++ F).length (rowsOf (E ++ F))) (hO : Onto w b w' b') :
    Book base t w' b' (E ++ F) ∧ ∀ e ∈ E ++ F, (e.v.ownBlock = none ∨ e.v.ownBlock ≠ b.ownBlock) ∧ (e.u.ownBlock = none ∨ e.u.ownBlock ≠ b.ownBlock) := by
  have hoff : ∀ v ∈ vals (E ++ F), Far v b := by
    intro v hv
    rw [vals_append, List.mem_append] at hv
    rcases hv with hv | hv
    · exact h.off v hv
    · intro k h1 h2
      have := hnew v hv k h1
      have := hbB k h2
      omega
  have hlt : ∀ v ∈ vals (E ++ F), ∀ k, v.ownBlock = some k → k < w.heap.size := by
    intro v hv k hk
    obtain ⟨e, he, hev⟩ := mem_vals.1 hv
    rcases List.mem_append.1 he with he | he
    · exact ((hE e he).lt v hev k hk).2
    · exact ((hF e he).lt v hev k hk).2
  refine ⟨⟨hrow, ?_, ?_⟩, fun e he => ⟨far_ne (hoff _ (mem_vals.2 ⟨e, he, .inl rfl⟩)), far_ne (hoff _ (mem_vals.2 ⟨e, he, .inr rfl⟩))⟩⟩
  · rw [vals_append, List.pairwise_append]
    refine ⟨h.far, hfar, fun u hu v hv k h1 h2 => ?_⟩
    have := hold u hu k h1
    have := hnew v hv k h2
    omega
  · intro v hv k h1 h2
    rcases hO.2 with hb | hb
    · rw [hb] at h2; exact hoff v hv k h1 h2
    · have := hb k h2
      have := hlt v hv k h1
      omega
end Go.Proofs.Ytedhinekkmoheaa
