/- The contracts of text's Number and Signed, Minus. -/
import Derived.Test.YtiknookfnameiaaGreatDoorJn09
namespace Go.Proofs
open Go.RowKit Go.Shelf
namespace YtiknookfnameiaaGreatDoor
open WP
def digL : List UInt8 := [48, 49, 50, 51, 52, 53, 54, 55, 56, 57, 97, 98, 99, 100, 101, 102]
theorem dig_hx : ∀ n : Fin 256, digL.contains (UInt8.ofNat n.val) = isHx (UInt8.ofNat n.val) := by decide +kernel
theorem dig_is (c : UInt8) : digL.contains c = isHx c := by
 have := dig_hx ⟨c.toNat, c.toNat_lt⟩
 rwa [UInt8.ofNat_toNat] at this
theorem dropWhile_nil {p : UInt8 → Bool} : ∀ l : List UInt8, l.dropWhile p = [] ↔ l.all p = true
 | [] => by simp
 | c :: l => by
  rw [List.dropWhile_cons, List.all_cons]
  cases h : p c
  ·simp
  ·simp only [if_true, Bool.true_and]; exact dropWhile_nil l
theorem dropWhile_not {p : UInt8 → Bool} : ∀ l : List UInt8, l.all p = false → (l.dropWhile p).all p = false
 | [], h => by cases h
 | c :: l, h => by
  rw [List.dropWhile_cons]
  cases hp : p c
  ·simp [hp]
  ·rw [List.all_cons, hp, Bool.true_and] at h
   simp only [if_true]
   exact dropWhile_not l h
theorem trim_hx (l : List UInt8) : (Lib.trimS l digL).isEmpty = l.all isHx := by
 have e : (fun c => digL.contains c) = isHx := funext dig_is
 unfold Lib.trimS Lib.trimLeftS Lib.trimRightS
 rw [e]
 have key : (l.reverse.dropWhile isHx).reverse.dropWhile isHx = [] ↔ l.all isHx = true := by
  rw [dropWhile_nil, List.all_reverse]
  cases h : l.all isHx
  ·have h2 : l.reverse.all isHx = false := by rw [List.all_reverse]; exact h
   rw [dropWhile_not _ h2]
  ·have h2 : l.reverse.all isHx = true := by rw [List.all_reverse]; exact h
   rw [(dropWhile_nil _).2 h2]; simp
 cases hx : (l.reverse.dropWhile isHx).reverse.dropWhile isHx with
 | nil => rw [key.1 hx]; rfl
 | cons a b =>
  cases h : l.all isHx
  ·rfl
  ·rw [key.2 h] at hx; cases hx
theorem info256 : (Tryz.prog.info? (YtiknookfnameiaaGreatDoor.laysTrim_ren.t 116)).map (fun i => (i.zero, i.size)) = some (some (.agg (Array.replicate 256 (.bool false))), 256) := by kernel_rfl
theorem trim_any (s : ByteArray) (w : World) (hs : s.size ≤ 9223372036854775807) :
  Calls Tryz.prog 141 #[.string s, .string ⟨#[48, 49, 50, 51, 52, 53, 54, 55, 56, 57, 97, 98, 99, 100, 101, 102]⟩] w fun e w' => e = .returned (.string ⟨(Lib.trimS s.data.toList digL).toArray⟩) ∧ Below w.heap.size w w' :=
 Any.strings_Trim_laid laysTrim info256 s ⟨#[48, 49, 50, 51, 52, 53, 54, 55, 56, 57, 97, 98, 99, 100, 101, 102]⟩ w hs (by decide) (ascii_of_all (by decide))
theorem cutp_any (s p : ByteArray) (w : World) :
  Calls Tryz.prog 140 #[.string s, .string p] w fun e w' => e = .returned (.tuple #[.string ⟨(Lib.trimPrefix s.data.toList p.data.toList).toArray⟩, .bool (Lib.hasPrefix s.data.toList p.data.toList)]) ∧ w' = w :=
 Any.strings_CutPrefix laysCutP s p w
/-- an error variable that the library listed -/
def ErrVar (w : World) (nm : String) : Prop := ∃ tp p, w.var? Tryz.prog nm = some #[.iface tp p]
theorem ErrVar.later {w w' : World} {nm : String} (h : ErrVar w nm) (hb : Below w.heap.size w w') : ErrVar w' nm := by
 obtain ⟨tp, p, h⟩ := h
 refine ⟨tp, p, ?_⟩
 unfold World.var? at *
 cases hg : Tryz.prog.globalNamed nm with
 | none => simp [hg] at h
 | some g =>
  simp only [hg, Option.bind_some] at h ⊢
  have hlt : g < w.heap.size := by
   rcases Nat.lt_or_ge g w.heap.size with h' | h'
   ·exact h'
   ·rw [Array.getElem?_eq_none h'] at h; simp at h
  rw [hb.block g hlt]
  exact h
theorem puint_ok (s : ByteArray) (w : World) (u : Nat) (hs : s.size ≤ 140737488355328) (h : Lib.parseUintB 32 s.data.toList = .ok u) :
  Calls Tryz.prog 143 #[.string s, .int .i64 10, .int .i64 32] w fun e w' => e = .returned (.tuple #[.int .u64 u, .nilIface]) ∧ Below w.heap.size w w' := by
 refine (Any.strconv_ParseUint_10_at32_ok laysPUint s (by omega) u h w).mono ?_
 rintro e w' ⟨rfl, rfl | rfl⟩
 ·exact ⟨rfl, Below.refl _ _⟩
 ·exact ⟨rfl, Lib.bytesWorld_below _ _ _⟩
theorem puint_range (s : ByteArray) (w : World) (hs : s.size ≤ 140737488355328) (hE : ErrVar w "strconv.ErrRange") (h : Lib.parseUintB 32 s.data.toList = .range) :
  Calls Tryz.prog 143 #[.string s, .int .i64 10, .int .i64 32] w fun e w' => (∃ t x, e = .returned (.tuple #[.int .u64 4294967295, .iface t (.pointer (some x))])) ∧ Below w.heap.size w w' := by
 obtain ⟨tp, p, hv⟩ := hE
 refine (Any.strconv_ParseUint_10_at32_range_var laysPUint s (by omega) h tp p w hv).mono ?_
 rintro e w' ⟨N, rfl, _, _, hb⟩
 exact ⟨⟨_, _, rfl⟩, hb⟩
theorem pint_ok (s : ByteArray) (w : World) (v : Int) (hs : s.size ≤ 140737488355328) (h : Lib.parseIntB 32 s.data.toList = .ok v) :
  Calls Tryz.prog 156 #[.string s, .int .i64 10, .int .i64 32] w fun e w' => e = .returned (.tuple #[.int .i64 v, .nilIface]) ∧ Below w.heap.size w w' := by
 refine (Any.strconv_ParseInt_10_at32_ok laysPInt s (by omega) v h w).mono ?_
 rintro e w' ⟨rfl, rfl | ⟨t, rfl⟩⟩
 ·exact ⟨rfl, Below.refl _ _⟩
 ·exact ⟨rfl, Lib.bytesWorld_below _ _ _⟩
theorem pint_range (s : ByteArray) (w : World) (hs : s.size ≤ 140737488355328) (hE : ErrVar w "strconv.ErrRange") (h : Lib.parseIntB 32 s.data.toList = .range) :
  Calls Tryz.prog 156 #[.string s, .int .i64 10, .int .i64 32] w fun e w' => (∃ (y : Int) (t : TypeId) (x : Addr), e = .returned (.tuple #[.int .i64 y, .iface t (.pointer (some x))])) ∧ Below w.heap.size w w' := by
 obtain ⟨tp, p, hv⟩ := hE
 refine (Any.strconv_ParseInt_10_at32_range_var laysPInt s (by omega) h tp p w hv).mono ?_
 rintro e w' ⟨N, rfl, _, _, hb⟩
 exact ⟨⟨_, _, _, rfl⟩, hb⟩
def errN (b : Bool) : Int := if b then 0 else 41
theorem pre_two (l : List UInt8) : Lib.hasPrefix l [48, 120] = decide (l.take 2 = [48, 120]) := by
 unfold Lib.hasPrefix
 match l with
 | [] => rfl
 | [a] => simp [List.isPrefixOf]
 | a :: b :: r =>
  simp only [List.isPrefixOf, List.take_succ_cons, List.take_zero]
  by_cases h1 : a = 48
  ·by_cases h2 : b = 120
   ·subst h1; subst h2; simp
   ·have : ((120 : UInt8) == b) = false := by rw [beq_eq_false_iff_ne]; exact fun e => h2 e.symm
    simp [h2, this]
  ·have : ((48 : UInt8) == a) = false := by rw [beq_eq_false_iff_ne]; exact fun e => h1 e.symm
   simp [h1, this]
theorem pre_one (l : List UInt8) : Lib.hasPrefix l [45] = decide (l.head? = some 45) := by
 unfold Lib.hasPrefix
 match l with
 | [] => rfl
 | a :: r =>
  simp only [List.isPrefixOf, List.head?_cons]
  by_cases h1 : a = 45
  ·subst h1; simp
  ·have : ((45 : UInt8) == a) = false := by rw [beq_eq_false_iff_ne]; exact fun e => h1 e.symm
   simp [h1, this]
theorem mk_size (l : List UInt8) : (⟨l.toArray⟩ : ByteArray).size = l.length := by show l.toArray.size = _; simp
theorem mk_isEmpty (l : List UInt8) : (⟨l.toArray⟩ : ByteArray).toList.isEmpty = l.isEmpty := by
 rw [ByteArray.toList_eq]
theorem mk_self (s : ByteArray) : (⟨s.data.toList.toArray⟩ : ByteArray) = s := by
 apply ByteArray.ext; simp
set_option maxRecDepth 100000 in
set_option maxHeartbeats 2000000 in
theorem number_any (s : ByteArray) (w : World) (hs : s.size ≤ 140737488355328) (hE : ErrVar w "strconv.ErrRange") :
  Calls Tryz.prog 121 #[.string s] w fun e w' => Below w.heap.size w w' ∧ e = .returned (.tuple #[.int .u32 ((numF s.data.toList).getD 0 : Nat), .int .i64 (errN (numF s.data.toList).isSome)]) := by
 have hl := size_list s
 have hcp := fun W => cutp_any s ⟨#[48, 120]⟩ W
 have hpp : Lib.hasPrefix s.data.toList (⟨#[48, 120]⟩ : ByteArray).data.toList = decide (s.data.toList.take 2 = [48, 120]) := pre_two _
 have htp : Lib.trimPrefix s.data.toList (⟨#[48, 120]⟩ : ByteArray).data.toList = if decide (s.data.toList.take 2 = [48, 120]) = true then s.data.toList.drop 2 else s.data.toList := by
  unfold Lib.trimPrefix; rw [hpp]; rfl
 simp only [hpp, htp] at hcp
 clear hpp htp
 by_cases hx : s.data.toList.take 2 = [48, 120]
 ·simp only [decide_eq_true hx, if_true] at hcp
  have hnum : numF s.data.toList = if 1 ≤ (s.data.toList.drop 2).length ∧ (s.data.toList.drop 2).length ≤ 8 ∧ (s.data.toList.drop 2).all isHx = true then some (hxFrom 0 (s.data.toList.drop 2)) else none := by unfold numF; rw [if_pos hx]
  have hdl : (s.data.toList.drop 2).length ≤ s.size := by rw [List.length_drop]; omega
  obtain ⟨h, hh⟩ : ∃ h, s.data.toList.drop 2 = h := ⟨_, rfl⟩
  rw [hh] at hnum hdl
  simp only [hh] at hcp
  obtain ⟨H, hH⟩ : ∃ H : ByteArray, ⟨h.toArray⟩ = H := ⟨_, rfl⟩
  have hHl : H.data.toList = h := by rw [← hH]
  have hHs : H.size = h.length := by rw [← hH]; exact mk_size h
  simp only [hH] at hcp
  rw [hnum]
  clear hx hnum hh
  replace hcp := Lib.hid hcp
  by_cases q1 : 1 ≤ h.length
  ·by_cases q2 : h.length ≤ 8
   ·have d1 : decide ((H.size : Int) < 1) = false := decide_eq_false (by omega)
    have d2 : decide ((H.size : Int) > 8) = false := decide_eq_false (by omega)
    have htr := fun W => trim_any H W (by omega)
    rw [hHl] at htr
    have hte : (⟨(Lib.trimS h digL).toArray⟩ : ByteArray).toList.isEmpty = h.all isHx := by rw [mk_isEmpty, trim_hx]
    obtain ⟨T, hT⟩ : ∃ T : ByteArray, ⟨(Lib.trimS h digL).toArray⟩ = T := ⟨_, rfl⟩
    rw [hT] at hte
    simp only [hT] at htr
    clear hT hH
    by_cases q3 : h.all isHx = true
    ·rw [if_pos ⟨q1, q2, q3⟩]
     rw [q3] at hte
     have hpu := fun W => puint16_any H W (by omega) (by omega) (by rw [hHl]; exact q3)
     rw [hHl] at hpu
     have hlt := hxFrom_lt h 0
     have hp1 : 16 ^ h.length ≤ 16 ^ 8 := Nat.pow_le_pow_right (by decide) q2
     have hp2 : (16 : Nat) ^ 8 = 4294967296 := rfl
     have hvb : (hxFrom 0 h : Int) ≤ 4294967295 := by omega
     have hv0 : (0 : Int) ≤ (hxFrom 0 h : Int) := by omega
     obtain ⟨V, hV⟩ : ∃ V : Int, (hxFrom 0 h : Int) = V := ⟨_, rfl⟩
     simp only [Option.getD_some, Option.isSome_some, errN, if_true]
     rw [hV] at hvb hv0 ⊢
     simp only [hV] at hpu
     clear hlt hp1 hp2 hV q3 hHl hHs q1 q2 hdl hl
     replace htr := Lib.hid htr; replace hpu := Lib.hid hpu
     go_enter Tryz.func121, Tryz.ntmps121
     go_wp2_with (first
      | (go_at_call 140; refine (hcp.out _).mono ?_; rintro e w1 ⟨rfl, rfl⟩)
      | (go_at_call 141; refine (htr.out _).mono ?_; rintro e w2 ⟨rfl, hb2⟩)
      | (go_at_call 143; refine (hpu.out _).mono ?_; rintro e w3 ⟨rfl, hb3⟩))
     refine bodyPost_ret (v := .tuple #[.int .u32 V, .int .i64 0]) (by simp [results, Tryz.results121, go_sem]) rfl ⟨hb2.trans (hb3.mono hb2.size), rfl⟩
    ·rw [if_neg (fun h => q3 h.2.2)]
     have q4 : h.all isHx = false := by simpa using q3
     rw [q4] at hte
     simp only [Option.getD_none, Option.isSome_none, errN]
     clear q3 q4 hHl q1 q2 hdl hl hHs
     replace htr := Lib.hid htr
     go_enter Tryz.func121, Tryz.ntmps121
     go_wp2_with (first
      | (go_at_call 140; refine (hcp.out _).mono ?_; rintro e w1 ⟨rfl, rfl⟩)
      | (go_at_call 141; refine (htr.out _).mono ?_; rintro e w2 ⟨rfl, hb2⟩))
     refine bodyPost_ret (v := .tuple #[.int .u32 0, .int .i64 41]) (by simp [results, Tryz.results121, go_sem]) rfl ⟨hb2, rfl⟩
   ·rw [if_neg (fun h => q2 h.2.1)]
    have d1 : decide ((H.size : Int) < 1) = false := decide_eq_false (by omega)
    have d2 : decide ((H.size : Int) > 8) = true := decide_eq_true (by omega)
    simp only [Option.getD_none, Option.isSome_none, errN]
    clear hHl q1 q2 hdl hl hHs hH
    go_enter Tryz.func121, Tryz.ntmps121
    go_wp2_with (go_at_call 140; refine (hcp.out _).mono ?_; rintro e w1 ⟨rfl, rfl⟩)
    refine bodyPost_ret (v := .tuple #[.int .u32 0, .int .i64 41]) (by simp [results, Tryz.results121, go_sem]) rfl ⟨Below.refl _ _, rfl⟩
  ·rw [if_neg (fun h => q1 h.1)]
   have d1 : decide ((H.size : Int) < 1) = true := decide_eq_true (by omega)
   simp only [Option.getD_none, Option.isSome_none, errN]
   clear hHl q1 hdl hl hHs hH
   go_enter Tryz.func121, Tryz.ntmps121
   go_wp2_with (go_at_call 140; refine (hcp.out _).mono ?_; rintro e w1 ⟨rfl, rfl⟩)
   refine bodyPost_ret (v := .tuple #[.int .u32 0, .int .i64 41]) (by simp [results, Tryz.results121, go_sem]) rfl ⟨Below.refl _ _, rfl⟩
 ·simp only [decide_eq_false hx, Bool.false_eq_true, if_false, mk_self] at hcp
  have hnum : numF s.data.toList = if tensB s.data.toList = true ∧ valFrom 0 s.data.toList ≤ 4294967295 then some (valFrom 0 s.data.toList) else none := by unfold numF; rw [if_neg hx]
  have htn := fun W => tensb_any s W (by omega)
  rw [hnum]
  clear hx hnum
  replace hcp := Lib.hid hcp
  by_cases q1 : tensB s.data.toList = true
  ·have hpt := parse_tens _ q1
   rw [q1] at htn
   by_cases q2 : valFrom 0 s.data.toList ≤ 4294967295
   ·rw [if_pos ⟨q1, q2⟩]
    rw [if_pos q2] at hpt
    have hpu := fun W => puint_ok s W _ hs hpt
    have hvb : (valFrom 0 s.data.toList : Int) ≤ 4294967295 := by omega
    have hv0 : (0 : Int) ≤ (valFrom 0 s.data.toList : Int) := by omega
    obtain ⟨V, hV⟩ : ∃ V : Int, (valFrom 0 s.data.toList : Int) = V := ⟨_, rfl⟩
    simp only [Option.getD_some, Option.isSome_some, errN, if_true]
    rw [hV] at hvb hv0 ⊢
    simp only [hV] at hpu
    clear hpt q1 q2 hV hl
    replace htn := Lib.hid htn; replace hpu := Lib.hid hpu
    go_enter Tryz.func121, Tryz.ntmps121
    go_wp2_with (first
     | (go_at_call 140; refine (hcp.out _).mono ?_; rintro e w1 ⟨rfl, rfl⟩)
     | (go_at_call 142; refine (htn.out _).mono ?_; rintro e w1 ⟨rfl, rfl⟩)
     | (go_at_call 143; refine (hpu.out _).mono ?_; rintro e w3 ⟨rfl, hb3⟩))
    refine bodyPost_ret (v := .tuple #[.int .u32 V, .int .i64 0]) (by simp [results, Tryz.results121, go_sem]) rfl ⟨hb3, rfl⟩
   ·rw [if_neg (fun h => q2 h.2)]
    rw [if_neg q2] at hpt
    have hpu := fun W hW => puint_range s W hs hW hpt
    simp only [Option.getD_none, Option.isSome_none, errN]
    clear hpt q1 q2 hl
    replace htn := Lib.hid htn; replace hpu := Lib.hid hpu
    go_enter Tryz.func121, Tryz.ntmps121
    go_wp2_with (first
     | (go_at_call 140; refine (hcp.out _).mono ?_; rintro e w1 ⟨rfl, rfl⟩)
     | (go_at_call 142; refine (htn.out _).mono ?_; rintro e w1 ⟨rfl, rfl⟩)
     | (go_at_call 143; refine (hpu.out _ hE).mono ?_; rintro e w3 ⟨⟨t, x, rfl⟩, hb3⟩))
    refine bodyPost_ret (v := .tuple #[.int .u32 0, .int .i64 41]) (by simp [results, Tryz.results121, go_sem]) rfl ⟨hb3, rfl⟩
  ·rw [if_neg (fun h => q1 h.1)]
   have q1f : tensB s.data.toList = false := by simpa using q1
   rw [q1f] at htn
   simp only [Option.getD_none, Option.isSome_none, errN]
   clear q1 q1f hl
   replace htn := Lib.hid htn
   go_enter Tryz.func121, Tryz.ntmps121
   go_wp2_with (first
    | (go_at_call 140; refine (hcp.out _).mono ?_; rintro e w1 ⟨rfl, rfl⟩)
    | (go_at_call 142; refine (htn.out _).mono ?_; rintro e w1 ⟨rfl, rfl⟩))
   refine bodyPost_ret (v := .tuple #[.int .u32 0, .int .i64 41]) (by simp [results, Tryz.results121, go_sem]) rfl ⟨Below.refl _ _, rfl⟩
end YtiknookfnameiaaGreatDoor
end Go.Proofs
