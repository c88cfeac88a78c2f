/- Zeros appended to a row of words of the call's own ('append(s, make([]uint32, k)...)'). The contract of asm's fixed (printed by genMFix.py). -/
import Derived.Test.YtiknookfnameiaaGreatDoorMLatJn
import Derived.Lib.AppendZeros
import Derived.Lib.AppendZerosOnto
namespace Go.Proofs.YtiknookfnameiaaGreatDoor
open Go.RowKit WP
theorem infoU32 : (Tryz.prog.info? 22).map (fun i => (i.zero, i.size, i.bytes)) = some (some (.int .u32 0), 1, 4) := by kernel_rfl
theorem zeroCells_one (k : Nat) : Builtin.zeroCells (Value.int .u32 0).cells k = (List.replicate k (Value.int .u32 0)).toArray := by
 apply Array.ext'
 refine List.ext_getElem? fun j => ?_
 unfold Builtin.zeroCells
 have e : (Value.int .u32 0).cells = #[Value.int .u32 0] := rfl
 rw [e]
 by_cases h : j < k
 ·rw [List.getElem?_eq_getElem (by simpa using h), List.getElem?_eq_getElem (by simpa using h)]
  simp [Nat.mod_one]
 ·rw [List.getElem?_eq_none (by simpa using h), List.getElem?_eq_none (by simpa using h)]
theorem run_append_zs (base : Nat) (tn ty : TypeId) (kq kn : IntKind) (htn : Tryz.prog.underlying tn = some (.int kn)) (w : World) (v : Value) (n : Nat) (xs : List Value) (hown : w.ownsRow base 22 1 v n xs) (k : Nat) (hk : n + k ≤ 1048576) (hbase : base ≤ w.heap.size) :
  ∃ v' w', (Builtin.append_ #[24, tn] ty #[v, .int kq (k : Int)]).run Tryz.prog w = .ok v' w' ∧ w'.ownsRow base 22 1 v' (n + k) (xs ++ List.replicate k (.int .u32 0)) ∧ Onto w v w' v' := by
 obtain ⟨i, hi, hz, hsz, hby⟩ := info_parts infoU32
 have ht : Tryz.prog.underlying 24 = some (.slice 22) := Tryz.underlying24
 have hlen : (xs ++ List.replicate k (Value.int .u32 0)).length = (n + k) * 1 := by rw [List.length_append, hown.1, List.length_replicate]; omega
 have hw : IntKind.i64.wrap (k : Int) = k := wrapI _ (by omega) (by omega)
 have hfit : ∀ c, c < n + k → Builtin.nextslicecap (n + k) c * i.bytes ≤ 281474976710656 := fun c hc => growslice_fits hc (by rw [hby]; omega)
 have w00 : IntKind.i64.wrap 0 = 0 := wrapI 0 (by omega) (by omega)
 have grown : ∀ (old : Nat), old < n + k → ∀ (row : Option Nat),
   (w.drew.alloc (.cells (xs.toArray ++ Builtin.zeroCells (Value.int .u32 0).cells k ++ Builtin.zeroCells (Value.int .u32 0).cells (grownCap w (n + k) old 22 - (n + k))) 22)).ownsRow base 22 1
    (.slice (some ⟨w.heap.size, 0, none⟩) (n + k) (grownCap w (n + k) old 22)) (n + k) (xs ++ List.replicate k (.int .u32 0)) ∧
   w.grownBy (w.drew.alloc (.cells (xs.toArray ++ Builtin.zeroCells (Value.int .u32 0).cells k ++ Builtin.zeroCells (Value.int .u32 0).cells (grownCap w (n + k) old 22 - (n + k))) 22)) row := by
  intro old ho row
  have hge := grownCap_ge w (n + k) old 22
  have hcm : grownCap w (n + k) old 22 ≤ maxLen := grownCap_le_maxLen w (n + k) old 22 (by unfold maxLen; omega)
  refine ⟨⟨hlen, .inr ⟨w.heap.size, _, _, rfl, hbase, heap_alloc_new w.drew _, hge, hcm, ?_, ?_⟩⟩, ⟨rfl, rfl, rfl, by simp, fun j hj _ => heap_alloc_old w.drew _ hj⟩⟩
  ·rw [zeroCells_one, zeroCells_one]
   have := hown.1
   simp only [Array.size_append, List.size_toArray, List.length_replicate]
   omega
  ·rw [zeroCells_one, zeroCells_one]
   simp only [Array.toList_append, List.append_assoc]
   rw [← List.append_assoc, ← hlen]
   exact List.take_left
 rcases id hown.2 with ⟨rfl, rfl⟩ | ⟨g, cap, cur, rfl, hbg, hg, hnc, hcm, hcs, htake⟩
 ·have hx : xs = [] := List.eq_nil_of_length_eq_zero (by simpa using hown.1)
  subst hx
  by_cases hm : k = 0
  ·subst hm
   refine ⟨.slice none 0 0, w, ?_, by simpa using hown, Onto.refl _ _⟩
   simp [Builtin.append_, run_underlying ht, run_underlying htn, sizeOf, typeInfo, hi, asInt, asIntOf, w00]
  ·have hr := Lib.run_append_nil_zeros (P := Tryz.prog) w 24 tn ty 22 i _ kq kn ht htn hi hz k (by omega) (by omega) (by omega) (by rw [hby]; omega)
   have hgr := grown 0 (by omega) (Value.ownBlock (.slice none 0 0))
   simp only [Nat.zero_add, List.nil_append, Array.empty_append] at hgr ⊢
   exact ⟨_, _, hr, hgr.1, hgr.2, .inr fun j hj => by simp [Value.ownBlock] at hj; omega⟩
 ·by_cases hroom : n + k ≤ cap
  ·have hfit2 : n * 1 + (List.replicate k (Value.int .u32 0)).length ≤ cur.size := by rw [hcs, List.length_replicate]; omega
   have hst := run_storeCells_at Tryz.prog g (n * 1) 22 (List.replicate k (Value.int .u32 0)) 0 cur w hg (by simpa using hfit2) (fun u hu => by rw [(List.mem_replicate.1 hu).2]; rfl)
   simp only [Nat.add_zero] at hst
   have hr : (Builtin.append_ #[24, tn] ty #[.slice (some ⟨g, 0, none⟩) n cap, .int kq (k : Int)]).run Tryz.prog w =
     .ok (.slice (some ⟨g, 0, none⟩) (n + k) cap) (w.setRow g (cur.toList.take (n * 1) ++ List.replicate k (Value.int .u32 0) ++ cur.toList.drop (n * 1 + (List.replicate k (Value.int .u32 0)).length)).toArray) := by
    have hneg : ¬ ((k : Int) < 0) := by omega
    have h48i : ¬ (281474976710656 < (k : Int) * (i.bytes : Int)) := by rw [hby]; omega
    by_cases hk0 : k = 0
    ·subst hk0
     simp [Builtin.append_, run_underlying ht, run_underlying htn, sizeOf, typeInfo, hi, asInt, asIntOf, w00, hnc, storeCells]
     have e0 : w.setRow g (List.take n cur.toList ++ List.drop n cur.toList).toArray = w := by
      rw [List.take_append_drop]
      exact setRow_self w g cur _ _ hg
     simpa using e0.symm
    ·have hns : ¬ (k * i.size = 0) := by rw [hsz]; omega
     have hzc := zeroCells_one k
     simp [Builtin.append_, run_underlying ht, run_underlying htn, sizeOf, typeInfo, zeroValue, hi, hz, asInt, asIntOf, hw, hneg, h48i, hroom, Addr.add_lit, hsz, hk0]
     rw [hzc]
     have hst' := hst
     simp at hst'
     simp [hst']
   refine ⟨_, _, hr, ⟨hlen, .inr ⟨g, cap, _, rfl, hbg, setRow_heap w g cur _ 22 _ hg, hroom, hcm, ?_, ?_⟩⟩, ⟨rfl, rfl, rfl, by simp, fun j _ hj => setRow_other w g j _ (fun e => hj (by simp [Value.ownBlock, e]))⟩, .inl rfl⟩
   ·simp only [List.size_toArray, List.length_append, List.length_take, List.length_drop, Array.length_toList, List.length_replicate]
    omega
   ·rw [htake, ← hlen]
    exact List.take_left
  ·have holds : ∀ j u, xs[j]? = some u → w.cell? ((⟨g, 0, none⟩ : Addr).add j) = some u := hown.cells (g := g) rfl
   have hold := run_firstCells_some (P := Tryz.prog) w.drew 1 n ⟨g, 0, none⟩ n cap xs hown.1 (by simpa using holds)
   have hr := Lib.run_append_grow_zeros (P := Tryz.prog) w 24 tn ty 22 i _ kq kn ht htn hi hz (some ⟨g, 0, none⟩) n cap xs (by rw [hsz]; exact hold) k (by omega) (by omega) (by omega) (by omega) (by rw [hby]; omega) (hfit cap (by omega))
   have hgr := grown cap (by omega) (Value.ownBlock (.slice (some ⟨g, 0, none⟩) n cap))
   exact ⟨_, _, hr, hgr.1, hgr.2, .inr fun j hj => by simp [Value.ownBlock] at hj; omega⟩
end Go.Proofs.YtiknookfnameiaaGreatDoor

namespace Go.Proofs.YtiknookfnameiaaGreatDoor
open Go.RowKit WP
set_option linter.unusedSimpArgs false
set_option linter.unusedVariables false
/-- what a statement's method answers -/
def StRes (B : Nat) (w0 : World) (R : Nat) (base : Int) (ln : Nat) (w' : World) (e : Ending) : Asm ⊕ Flt → Prop
 | .inl st' => e = .returned .nilIface ∧ RAt B w0 w' R base ln st'
 | .inr f => (∃ v, e = .returned v ∧ FltAt w' v f) ∧ Below B w0 w'
/-- the closure that lays a word, or a load -/
def LayK (w : World) (t : Wht) (fid : FuncId) (cs : Array Value) : Prop :=
 (t = .word ∧ fid = 87 ∧ cs = #[]) ∨ (∃ a ba, t = .li a ∧ fid = 120 ∧ cs = #[ptr ba] ∧ w.heap[ba]? = some (.cells #[.int .i64 a] 3 (0, 0)))
theorem LayK.keep {w w' : World} {t : Wht} {fid : FuncId} {cs : Array Value} (h : LayK w t fid cs) (hk : Keep w w') : LayK w' t fid cs := by
 rcases h with h | ⟨a, ba, h1, h2, h3, h4⟩
 ·exact .inl h
 ·exact .inr ⟨a, ba, h1, h2, h3, hk.at_ h4 (.inr (.inr (.inl rfl)))⟩
theorem LayK.size {w : World} {t : Wht} {fid : FuncId} {cs : Array Value} (h : LayK w t fid cs) : t.size = 1 ∨ t.size = 2 := by
 rcases h with ⟨rfl, _⟩ | ⟨a, ba, rfl, _⟩
 ·exact .inl rfl
 ·exact .inr rfl
/-- whichever it is: the words are laid behind those that are there -/
theorem lay_any {B : Nat} {w0 w : World} {R : Nat} {base : Int} {ln : Nat} {ws : List Int} {labs : List (ByteArray × Nat)} {lat : List Lat} {vl : Value} {mb : Nat} {vf : Value} {fs : List Value} {bs : List Nat} {ml : List (ByteArray × Nat)} {g cap : Nat} {t : Wht} {fid : FuncId} {cs : Array Value} (hL : LayK w t fid cs)
  (h : RSt B w0 w R base ln ⟨ws ++ List.replicate t.size 0, labs, lat⟩ (.slice (some ⟨g, 0, none⟩) (ws.length + t.size) cap) vl mb vf fs bs ml) (hE : AEnv w0) (x : Int) (x0 : 0 ≤ x) (x1 : x < 4294967296) :
  Calls Tryz.prog fid (#[.slice (some ⟨g, ws.length, none⟩) t.size (cap - ws.length), .int .u32 x] ++ cs) w fun e w' => e = .returned (.tuple #[]) ∧ RSt B w0 w' R base ln ⟨ws ++ layM t x, labs, lat⟩ (.slice (some ⟨g, 0, none⟩) (ws.length + t.size) cap) vl mb vf fs bs ml ∧ Keep w w' ∧ w.heap.size ≤ w'.heap.size := by
 have hl : (ws ++ List.replicate t.size 0).length = ws.length + t.size := by simp
 rcases hL with ⟨rfl, rfl, rfl⟩ | ⟨a, ba, rfl, rfl, rfl, hba⟩
 ·have hl' : (ws ++ List.replicate Wht.word.size (0 : Int)).length = ws.length + 1 := by rw [List.length_append]; rfl
  have h' : RSt B w0 w R base ln ⟨ws ++ List.replicate Wht.word.size 0, labs, lat⟩ (.slice (some ⟨g, 0, none⟩) (ws ++ List.replicate Wht.word.size (0 : Int)).length cap) vl mb vf fs bs ml := by rw [hl']; exact h
  obtain ⟨⟨y, hy⟩, hfz, _⟩ := row_cell h' ws.length (by show ws.length < (ws ++ List.replicate Wht.word.size (0 : Int)).length; rw [hl']; omega)
  refine (lay_word g ws.length (cap - ws.length) x y w hy hfz).mono ?_
  rintro e w' ⟨rfl, rfl⟩
  have h2 := h'.lay ws.length x
  have e1 : (ws ++ List.replicate Wht.word.size (0 : Int)).set ws.length x = ws ++ layM .word x := by
   rw [List.set_append_right _ _ (Nat.le_refl _), Nat.sub_self]; rfl
  have h3 : RSt B w0 (w.setCell ⟨g, ws.length, none⟩ (.int .u32 x)) R base ln ⟨(ws ++ List.replicate Wht.word.size 0).set ws.length x, labs, lat⟩ (.slice (some ⟨g, 0, none⟩) (ws ++ List.replicate Wht.word.size (0 : Int)).length cap) vl mb vf fs bs ml := h2
  rw [e1, hl'] at h3
  exact ⟨rfl, h3, Keep.grown h'.ws (capT_no (.inl rfl)) (World.ownsRow.stored h'.ws ws.length (.int .u32 x)).2, by simp [World.setCell]⟩
 ·have hl' : (ws ++ List.replicate (Wht.li a).size (0 : Int)).length = ws.length + 2 := by rw [List.length_append]; rfl
  have h' : RSt B w0 w R base ln ⟨ws ++ List.replicate (Wht.li a).size 0, labs, lat⟩ (.slice (some ⟨g, 0, none⟩) (ws ++ List.replicate (Wht.li a).size (0 : Int)).length cap) vl mb vf fs bs ml := by rw [hl']; exact h
  refine (lay_li (st := ⟨ws ++ List.replicate (Wht.li a).size 0, labs, lat⟩) h' hE ws.length (cap - ws.length) ba a x (by show ws.length + 2 ≤ (ws ++ List.replicate (Wht.li a).size (0 : Int)).length; rw [hl']; exact Nat.le_refl _) x0 x1 hba).mono ?_
  rintro e w' ⟨rfl, h2, h3, h4⟩
  have e1 : ((ws ++ List.replicate (Wht.li a).size (0 : Int)).set ws.length (encF (movI 1 a (x % 65536)))).set (ws.length + 1) (encF (movI 2 a (x / 65536))) = ws ++ layM (.li a) x := by
   rw [List.set_append_right _ _ (Nat.le_refl _), Nat.sub_self]
   rw [List.set_append_right _ _ (by omega), Nat.add_sub_cancel_left]; rfl
  have h5 : RSt B w0 w' R base ln ⟨((ws ++ List.replicate (Wht.li a).size (0 : Int)).set ws.length (encF (movI 1 a (x % 65536)))).set (ws.length + 1) (encF (movI 2 a (x / 65536))), labs, lat⟩ (.slice (some ⟨g, 0, none⟩) (ws ++ List.replicate (Wht.li a).size (0 : Int)).length cap) vl mb vf fs bs ml := h2
  rw [e1, hl'] at h5
  exact ⟨rfl, h5, h3, h4⟩
end Go.Proofs.YtiknookfnameiaaGreatDoor
