/- Arguments opened: bounds of numbers; arrays of integers; slices of words and of bytes; strings. Over the seat's program. -/
import Derived.Test.YtedhinekkmoheaaRows
import Derived.Test.YtedhinekkmoheaaBase
import Derived.ProofKit
import Derived.OpenShut
import Derived.ShutString
import Derived.ChangeOld
import Derived.Below
import Derived.Lib.SmallJoins
namespace Go.Proofs.Ytedhinekkmoheaa
open Go.ChangeShapes Go.WideShapes Go.ChangeAt Go.RowKit Go.Joins

theorem own : ownKnob Try.prog.godebug = none := by kernel_rfl
theorem laidOut : laidOutB Try.prog = true := by kernel_rfl
theorem wf_u32_bd {x : Int} (h : (Lit.int .u32 x).wf = true) : 0 ≤ x ∧ x ≤ 4294967295 := by
  simp [Lit.wf, IntKind.min, IntKind.max, IntKind.signed, IntKind.bits] at h; omega
theorem wf_u8_bd {x : Int} (h : (Lit.int .u8 x).wf = true) : 0 ≤ x ∧ x ≤ 255 := by
  simp [Lit.wf, IntKind.min, IntKind.max, IntKind.signed, IntKind.bits] at h; omega
theorem wf_i32_bd {x : Int} (h : (Lit.int .i32 x).wf = true) : -2147483648 ≤ x ∧ x ≤ 2147483647 := by
  simp [Lit.wf, IntKind.min, IntKind.max, IntKind.signed, IntKind.bits] at h; omega
theorem wf_i64_bd {x : Int} (h : (Lit.int .i64 x).wf = true) : -9223372036854775808 ≤ x ∧ x ≤ 9223372036854775807 := by
  simp [Lit.wf, IntKind.min, IntKind.max, IntKind.signed, IntKind.bits] at h; omega

/-- an array of integers, by value -/
theorem open_ints_arr {H : Type} {enc : TypeId × Value → H} {P : Program} {w : World} {base : Nat} {spare : Nat → Bool} {held : Bool} {r : Reach} {b0 : Nat} {t e : TypeId} {k : IntKind} {n : Nat} {v : Value} {d : DataW H} {p : List MemPlace}
    (ht : P.underlying t = some (.array n e)) (he : P.underlying e = some (.int k)) (hc : P.cellsOf t = n) (hce : P.cellsOf e = 1)
    (hv : Value.okWide P w r b0 t v) (h : DataW.Trod enc P w base spare held t v d p) :
    ∃ xs : List Int, xs.length = n ∧ v = .agg (xs.map (Value.int k)).toArray ∧ ∀ x ∈ xs, (Lit.int k x).wf = true := by
  simp only [Value.okWide, ht] at hv
  obtain ⟨cs, rfl, hsz, _⟩ := hv
  obtain ⟨fuel, hf⟩ := h
  obtain ⟨ys, m, _, _, hl, hn, hi⟩ := DataW.trod_array ht hf
  simp only [Value.cells] at hi hl
  rw [hce] at hi
  have key : ∀ (l : List Value) (zs : List (DataW H × List MemPlace)), l.length = zs.length → (∀ i, i < l.length → DataW.trod enc P w base spare held m e ((l.drop (i * 1)).take 1) = zs[i]?) →
      ∃ xs : List Int, xs.length = l.length ∧ l = xs.map (Value.int k) ∧ ∀ x ∈ xs, (Lit.int k x).wf = true := by
    intro l
    induction l with
    | nil => intro zs _ _; exact ⟨[], rfl, rfl, by simp⟩
    | cons c l ih =>
      intro zs hlz hz
      cases zs with
      | nil => simp at hlz
      | cons z zs =>
        obtain ⟨xs, h1, h2, h3⟩ := ih zs (by simpa using hlz) (fun i hil => by
          have := hz (i + 1) (by simpa using hil)
          simpa using this)
        have h0 := hz 0 (by simp)
        simp at h0
        obtain ⟨x, hx, _, wx⟩ := DataW.trod_int he h0
        simp at hx
        exact ⟨x :: xs, by simp [h1], by simp [hx, h2], by intro y hy; rcases List.mem_cons.1 hy with rfl | hy; exact wx; exact h3 y hy⟩
  have hln : cs.toList.length = ys.length := by rw [hn, ← hc, ← hsz]; simp
  obtain ⟨xs, h1, h2, h3⟩ := key cs.toList ys hln (fun i hil => hi i (by rw [← hn, ← hln]; exact hil))
  refine ⟨xs, by rw [h1, hln, hn], ?_, h3⟩
  rw [← h2]
end Go.Proofs.Ytedhinekkmoheaa
