/- The contracts of parse and ParseHex of package word. -/
import Derived.Test.YtedhinekkmoheaaWordB
namespace Go.Proofs.Ytedhinekkmoheaa
open Go.RowKit WP

def digN (n : Nat) : Option Nat := if 48 ≤ n ∧ n ≤ 57 then some (n - 48) else if 97 ≤ n ∧ n ≤ 102 then some (n - 87) else none
def parseFrom (acc : Nat) : List UInt8 → Option Nat
  | [] => some acc
  | c :: cs => match digN c.toNat with
    | some d => parseFrom (acc * 16 + d) cs
    | none => none
theorem parseFrom_snoc (l : List UInt8) (c : UInt8) : ∀ acc, parseFrom acc (l ++ [c]) = match parseFrom acc l with
    | some n => (match digN c.toNat with | some d => some (n * 16 + d) | none => none)
    | none => none := by
  induction l with
  | nil => intro acc; simp [parseFrom]
  | cons a l ih =>
    intro acc
    simp only [List.cons_append, parseFrom]
    cases digN a.toNat with
    | none => rfl
    | some d => exact ih _
theorem parseFrom_none (l r : List UInt8) : ∀ acc, parseFrom acc l = none → parseFrom acc (l ++ r) = none := by
  induction l with
  | nil => intro acc h; simp [parseFrom] at h
  | cons a l ih =>
    intro acc h
    simp only [List.cons_append, parseFrom] at h ⊢
    cases hd : digN a.toNat with
    | none => rfl
    | some d => rw [hd] at h; exact ih _ h
theorem digN_lt {n d : Nat} (h : digN n = some d) : d < 16 := by
  unfold digN at h
  split at h
  · simp at h; omega
  · split at h
    · simp at h; omega
    · cases h
theorem parseFrom_lt (l : List UInt8) : ∀ acc n, parseFrom acc l = some n → n < (acc + 1) * 16 ^ l.length := by
  induction l with
  | nil => intro acc n h; simp [parseFrom] at h; simp; omega
  | cons a l ih =>
    intro acc n h
    simp only [parseFrom] at h
    cases hd : digN a.toNat with
    | none => rw [hd] at h; cases h
    | some d =>
      rw [hd] at h
      have h1 := ih _ _ h
      have h2 := digN_lt hd
      rw [List.length_cons, Nat.pow_succ]
      have h3 : (acc * 16 + d + 1) * 16 ^ l.length ≤ ((acc + 1) * 16) * 16 ^ l.length := Nat.mul_le_mul_right _ (by omega)
      have h4 : (acc + 1) * 16 * 16 ^ l.length = (acc + 1) * (16 ^ l.length * 16) := by rw [Nat.mul_assoc, Nat.mul_comm 16]
      omega
theorem or_digit (n d : Int) (h1 : 0 ≤ n) (h2 : n ≤ 268435455) (h3 : 0 ≤ d) (h4 : d < 16) : bits .or .u32 (n * 16) d = n * 16 + d := by
  rw [u32_or _ _ (by omega) (by omega) h3 (by omega), nat_join 4 _ _ (by omega) (by omega)]; omega
def parseV (o : Option Nat) : Value := match o with
  | some n => .tuple #[.int .u32 n, .bool true]
  | none => .tuple #[.int .u32 0, .bool false]
def strL (s : ByteArray) : List UInt8 := s.data.toList
theorem strL_take (s : ByteArray) (k : Nat) (h : k < s.size) : (strL s).take (k + 1) = (strL s).take k ++ [s[k]] := by
  unfold strL
  rw [List.take_succ_eq_append_getElem (by simpa using h)]; rfl
def parse8 (s : ByteArray) : Option Nat := parseFrom 0 ((strL s).take 8)
theorem parse8_bad (s : ByteArray) (k : Nat) (hk : k < 8) (h : k < s.size) (hd : digN (s[k].toNat) = none) : parse8 s = none := by
  have e : (strL s).take 8 = (strL s).take (k + 1) ++ ((strL s).take 8).drop (k + 1) := by
    conv => lhs; rw [← List.take_append_drop (k + 1) ((strL s).take 8)]
    rw [List.take_take, Nat.min_eq_left (by omega)]
  unfold parse8
  rw [e, strL_take s k h]
  refine parseFrom_none _ _ _ ?_
  rw [parseFrom_snoc, hd]
  cases parseFrom 0 ((strL s).take k) <;> rfl
theorem parse8_step (s : ByteArray) (k n d : Nat) (h : k < s.size) (hn : parseFrom 0 ((strL s).take k) = some n) (hd : digN (s[k].toNat) = some d) : parseFrom 0 ((strL s).take (k + 1)) = some (n * 16 + d) := by
  rw [strL_take s k h, parseFrom_snoc, hn, hd]
set_option maxHeartbeats 800000 in
theorem parse_any (s : ByteArray) (w : World) (h8 : 8 ≤ s.size) (hm : s.size ≤ 9223372036854775807) :
    Calls Try.prog 43 #[.string s] w fun e w' => e = .returned (parseV (parse8 s)) ∧ w = w' := by
  go_enter Try.func43, Try.ntmps43
  go_wp2
  go_loop [4, 7] (fun v i => ∃ k n : Nat, k ≤ 8 ∧ i = .int .i64 k ∧ v = .int .u32 n ∧ parseFrom 0 ((strL s).take k) = some n) (fun _ i => 8 - (intOf i).toNat)
  case atStart => exact ⟨0, 0, by omega, rfl, rfl, rfl⟩
  case round =>
    obtain ⟨k, n, hk, rfl, rfl, hn⟩ := hrel
    by_cases hlt : k < 8
    · have hks : k < s.size := by omega
      have hnlt : n ≤ 268435455 := by
        have h1 := parseFrom_lt _ _ _ hn
        have h2 : ((strL s).take k).length ≤ 7 := by simp; omega
        have h3 : (16 : Nat) ^ ((strL s).take k).length ≤ 16 ^ 7 := Nat.pow_le_pow_right (by decide) h2
        omega
      have hn := Lib.hid hn
      have h255 := (s[k]).toNat_lt
      go_wp2
      · go_round
        case rel =>
          have hd : digN (s[k].toNat) = some (s[k].toNat - 48) := by unfold digN; rw [if_pos (by omega)]
          refine ⟨k + 1, n * 16 + (s[k].toNat - 48), by omega, by go_num, congrArg (Value.int .u32) ?_, parse8_step s k n _ hks hn.out hd⟩
          rw [or_digit _ _ (by omega) (by omega) (by omega) (by omega)]; omega
        case measure => simp [intOf]; omega
      · go_round
        case rel =>
          have hd : digN (s[k].toNat) = some (s[k].toNat - 87) := by unfold digN; rw [if_neg (by omega), if_pos (by omega)]
          refine ⟨k + 1, n * 16 + (s[k].toNat - 87), by omega, by go_num, congrArg (Value.int .u32) ?_, parse8_step s k n _ hks hn.out hd⟩
          rw [or_digit _ _ (by omega) (by omega) (by omega) (by omega)]; omega
        case measure => simp [intOf]; omega
      all_goals
        have hd : digN (s[k].toNat) = none := by unfold digN; rw [if_neg (by omega), if_neg (by omega)]
        rw [parse8_bad s k hlt hks hd]
        go_ret2
        exact ⟨rfl, rfl⟩
    · obtain rfl : k = 8 := by omega
      go_wp2
      go_ret2
      exact ⟨by unfold parse8; rw [hn]; rfl, rfl⟩

def pairV (n e : Int) : Value := .tuple #[.int .u32 n, .int .i64 e]
def parseHexV (s : ByteArray) : Value := if s.size = 8 then (match parse8 s with | some n => pairV n 0 | none => pairV 0 10) else pairV 0 10
theorem parsehex_any (s : ByteArray) (w : World) (hm : s.size ≤ 9223372036854775807) :
    Calls Try.prog 30 #[.string s] w fun e w' => e = .returned (parseHexV s) ∧ w = w' := by
  by_cases h8 : s.size = 8
  · have hne : ((s.size : Int) != 8) = false := by simp; omega
    have h8' := Lib.hid h8
    have hge : 8 ≤ s.size := by omega
    clear h8
    cases hp : parse8 s with
    | some n =>
      have e1 : parseHexV s = pairV n 0 := by unfold parseHexV; rw [if_pos h8'.out, hp]
      rw [e1]
      have hp := Lib.hid hp
      go_enter Try.func30, Try.ntmps30
      go_wp2_with (go_at_call 43; refine (parse_any _ _ hge hm).mono ?_; rw [hp.out]; unfold parseV; rintro e w' ⟨rfl, rfl⟩)
      go_ret2
      exact ⟨rfl, rfl⟩
    | none =>
      have e1 : parseHexV s = pairV 0 10 := by unfold parseHexV; rw [if_pos h8'.out, hp]
      rw [e1]
      have hp := Lib.hid hp
      go_enter Try.func30, Try.ntmps30
      go_wp2_with (go_at_call 43; refine (parse_any _ _ hge hm).mono ?_; rw [hp.out]; unfold parseV; rintro e w' ⟨rfl, rfl⟩)
      go_ret2
      exact ⟨rfl, rfl⟩
  · have hne : ((s.size : Int) != 8) = true := by simp; omega
    have e1 : parseHexV s = pairV 0 10 := by unfold parseHexV; rw [if_neg h8]
    rw [e1]; clear e1 h8
    go_enter Try.func30, Try.ntmps30
    go_wp2
    go_ret2
    exact ⟨rfl, rfl⟩
end Go.Proofs.Ytedhinekkmoheaa
