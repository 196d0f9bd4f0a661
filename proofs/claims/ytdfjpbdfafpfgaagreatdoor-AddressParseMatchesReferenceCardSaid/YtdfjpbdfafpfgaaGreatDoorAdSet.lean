/- What query.set, Topics and Authors give for the state without stories: nothing. -/
import Derived.RangeFuncNested
import Derived.RangeFuncBound
import Derived.RangeFuncCalls
import Derived.RangeFuncLeaves
import Derived.RangeFuncBox
import Derived.Shelf.Abstract
import Derived.OwnWalkIn
import Derived.TacticsInMore
import Derived.LoopNIn
import Derived.LoopIn
import Derived.WalkMore
import Derived.Carry
import Derived.Test.YtdfjpbdfafpfgaaGreatDoorIter
import Derived.Test.YtdfjpbdfafpfgaaGreatDoorKp
import Derived.Test.YtdfjpbdfafpfgaaGreatDoorAdParse
namespace Go.Proofs.YtdfjpbdfafpfgaaGreatDoor.Ad
open Go.RowKit Go.Shelf Go.Maps Go.Proofs.YtdfjpbdfafpfgaaGreatDoor.Kp

theorem wide_fn (f : FuncId) : Fence.wide.fn f = True := rfl
theorem wide_depth : Fence.wide.depth = none := rfl
attribute [local go_sem] Oper.semAt_some wide_fn wide_depth

theorem wpIn_scope_wide {n : Nat} {P : Program} {c : Code} {Q : Exit → Act → World → Prop} {a : Act} {w : World} (h : c.wpIn Fence.wide n P (Exit.noGoto Q) a w) : (Code.scope c).wpIn Fence.wide n P Q a w :=
  wpIn_wide.2 (wp_scope_straight (wpIn_wide.1 h))

/-- The state without stories. -/
def noState : Value := .agg #[.slice none 0 0, .slice none 0 0]

theorem listed (n : Nat) (w : World) :
    CallsIn Fence.wide n Tryz.prog 91 #[noState] w fun e w' => e = .returned (.func (.func 114) #[] #[.pointer (some ⟨w.heap.size, 0, none⟩)]) ∧ w' = w.alloc (.cells #[.slice none 0 0, .slice none 0 0] 40) := by
  unfold noState
  refine callsIn_of_wp Tryz.func91 rfl trivial ?_ rfl
  simp only [Tryz.ntmps91, List.size_toArray, List.length_cons, List.length_nil, Nat.reduceAdd, Nat.reduceSub, Array.replicate_succ, Array.replicate_zero, List.push_toArray, List.append_toArray, List.nil_append, List.cons_append]
  gi_wp2
  go_ret
  exact ⟨rfl, rfl⟩

theorem listed1 (n l b : Nat) (W : World) (hc : W.cell? ⟨b, 0, none⟩ = some (.slice none 0 0)) :
    CallsIn Fence.wide n Tryz.prog 114 #[.func (.yield l) #[] #[], .pointer (some ⟨b, 0, none⟩)] W fun e W' => (∃ v, e = .returned v) ∧ W' = W := by
  refine callsIn_of_wp Tryz.func114 rfl trivial ?_ rfl
  simp only [Tryz.ntmps114, List.size_toArray, List.length_cons, List.length_nil, Nat.reduceAdd, Nat.reduceSub, Array.replicate_succ, Array.replicate_zero, List.push_toArray, List.append_toArray, List.nil_append, List.cons_append]
  gi_wp2
  refine wpIn_scope_wide ?_
  gi_wp2
  refine wpIn_label ?_
  gi_wp2
  gi_loopw [8] (fun i wr => i = .int .i64 0 ∧ wr = W) (fun _ _ => 0)
  case atStart => exact ⟨rfl, rfl⟩
  case round =>
    obtain ⟨rfl, rfl⟩ := hrel
    gi_wp2
    (try rw [Exit.noGoto_normal])
    refine bodyPost_end (results_none rfl _ _ _) rfl ?_
    exact ⟨⟨_, rfl⟩, rfl⟩

theorem new_at {W : World} {o : Obj} {k : Nat} (h : W.heap.size = k) : (W.alloc o).heap[k]? = some o := by
  rw [← h]; exact heap_alloc_new _ _
theorem old_at {W : World} {o o' : Obj} {k : Nat} (h : W.heap[k]? = some o') : (W.alloc o).heap[k]? = some o' := by
  rw [Below.heap_alloc _ _ _ (Array.getElem?_eq_some_iff.1 h).1]; exact h
theorem keepOwn {β : Type} {B k : Nat} {o : Obj} (hk : k < B) : OwnFrom B (fun (_ : β) (W : World) => W.heap[k]? = some o) :=
  fun _ W W' row h hg hr => (hg.block k (Array.getElem?_eq_some_iff.1 h).1 (fun e => by have := (hr k e.symm).1; omega)).trans h

theorem emptyMap {W : World} {k : Nat} (h : W.heap[k]? = some (.map #[] 0)) : W.ownsMap (H := Unit) Tryz.prog 9 (fun _ => none) k 0 (.map []) := by
  obtain ⟨es, clock, hb, rest⟩ := World.ownsMap_made (H := Unit) W Tryz.prog 9 (fun _ => none)
  rw [heap_alloc_new] at hb
  injection hb with hb
  injection hb with h1 h2
  subst h1 h2
  exact ⟨_, _, h, rest⟩

/-- An iterator that yields nothing. -/
theorem listed_stops (n b : Nat) (w : World) (hc : w.cell? ⟨b, 0, none⟩ = some (.slice none 0 0)) :
    SeqStopsK Fence.wide n Tryz.prog 114 #[.pointer (some ⟨b, 0, none⟩)] (fun x : Empty => x.elim) (fun _ _ => True) (fun _ => True) (fun _ => False) 0 w := fun l J Jx W hW _ _ _ h0 =>
  (listed1 n l b W ((hW.cell (World.block_lt_of_cell? w _ hc)).trans hc)).mono fun e W' ⟨hv, he⟩ => ⟨hv, .inl ⟨[], trivial, by rw [he]; exact h0⟩⟩

set_option maxRecDepth 100000 in
set_option maxHeartbeats 4000000 in
theorem set0 (f : Nat) (w : World) :
    CallsIn Fence.wide 6 Tryz.prog 64 #[noState, .func (.func f) #[] #[]] w fun e w' => e = .returned (.slice none 0 0) ∧ Below w.heap.size w w' := by
  have hmm := @run_makeMap Tryz.prog
  unfold noState
  refine callsIn_of_wp_marks Tryz.func64 rfl trivial ?_ rfl
  simp only [Tryz.ntmps64, List.size_toArray, List.length_cons, List.length_nil, Nat.reduceAdd, Nat.reduceSub, Array.replicate_succ, Array.replicate_zero, List.push_toArray, List.append_toArray, List.nil_append, List.cons_append]
  gi_wp2_with (gi_at_call 91; refine (listed _ _).mono ?_; rintro e w' ⟨rfl, rfl⟩)
  generalize hW : World.alloc (World.alloc (World.alloc (World.alloc (World.alloc w _) _) _) _) _ = W0
  have hsz : W0.heap.size = w.heap.size + 1 + 1 + 1 + 1 + 1 := by rw [← hW]; simp
  have hB : Below w.heap.size w W0 := by
    rw [← hW]
    exact (((((Below.refl _ w).alloc (Nat.le_refl _) _).alloc (by simp) _).alloc (by simp; omega) _).alloc (by simp; omega) _).alloc (by simp; omega) _
  have hm : W0.heap[w.heap.size + 1 + 1]? = some (.map #[] 0) := by
    rw [← hW]; exact old_at (old_at (new_at (by simp)))
  have hbx : W0.heap[w.heap.size + 1 + 1 + 1]? = some (.cells #[.map (some (w.heap.size + 1 + 1))] 129) := by
    rw [← hW]; exact old_at (new_at (by simp))
  have hl : W0.heap[w.heap.size + 1 + 1 + 1 + 1]? = some (.cells #[.slice none 0 0, .slice none 0 0] 40) := by
    rw [← hW]; exact new_at (by simp)
  clear hW
  refine wpIn_rangeFunc_ownH rfl (by decide) (gf := 114) (lb := #[.pointer (some ⟨w.heap.size + 1 + 1 + 1 + 1, 0, none⟩)]) rfl trivial (enters_of Tryz.func114 (by kernel_rfl) rfl)
    (listed_stops _ _ W0 (by unfold World.cell?; rw [hl]; rfl)) (fun _ _ => trivial) (fun _ _ _ _ _ _ _ _ => trivial) (Below.refl _ _) (fun x => x.elim)
    (fun (_ : List Empty) W => W.heap[w.heap.size + 1 + 1]? = some (.map #[] 0) ∧ W.heap[w.heap.size + 1 + 1 + 1]? = some (.cells #[.map (some (w.heap.size + 1 + 1))] 129) ∧ Below w.heap.size w W)
    (fun _ _ _ => False)
    (OwnFrom.and (keepOwn (by omega)) (OwnFrom.and (keepOwn (by omega)) (ownFrom_below (Nat.le_refl _) (by omega))))
    (fun _ _ _ _ _ h => h.elim)
    ⟨hm, hbx, hB⟩
    (fun x _ _ => x.elim) (fun x => x.elim) (fun _ _ x => x.elim) (fun _ _ x => x.elim) ?done (fun _ _ _ _ _ h => h.elim)
  rintro D xs W hD - ⟨hm, hbx, hB⟩ hK
  have q := cell_of_row W _ 0 _ _ _ hbx
  gi_wp2_with (first
    | (gi_at_call 93; refine (callsIn_wide.2 (callsIn_wide.1 (Tryz.maps_Keys_93 _ _))).mono ?_; rintro e w' ⟨rfl, rfl⟩)
    | (gi_at_call 92; fail))
  have hS := Tryz.slices_Sorted_keys_92_93 (w.heap.size + 1 + 1) 0 (.map []) _ W (emptyMap hm) (by decide) (by decide)
  refine (callsIn_wide.2 (callsIn_wide.1 hS)).mono ?_
  rintro e w2 ⟨v, ss, rfl, hperm, -, hnil, hB2⟩
  obtain rfl : ss = [] := List.perm_nil.1 hperm
  obtain rfl := hnil.2 rfl
  have hK2 : w2.heap[D]? = some (.deferred (some [])) := by
    rw [hB2.block D (by simp; have := (Array.getElem?_eq_some_iff.1 hK).1; omega)]
    exact old_at hK
  have hBw : Below w.heap.size w w2 := (hB.alloc hB.size _).trans (hB2.mono (by simp; have := hB.size; omega))
  gi_wp2
  refine ⟨by simp, .inl ⟨_, _, rfl, run_takeDeferred hK2, ?_⟩⟩
  refine ⟨.slice none 0 0, by simp [results, Tryz.results64, go_sem], rfl, ?_⟩
  exact hBw.trans (belowK_b (w := w) (Nat.le_refl _) w2 D _ _ (by omega) hK2 rfl rfl)

theorem topics0 (w : World) : Calls Tryz.prog 43 #[noState] w fun e w' => e = .returned (.slice none 0 0) ∧ Below w.heap.size w w' := by
  have HS : Aside _ := fun w => callsIn_wide.1 (set0 65 w)
  unfold noState at *
  go_enter Tryz.func43, Tryz.ntmps43
  go_wp2_with (go_at_call 64; refine (HS.out _).mono ?_)
  rintro e w1 ⟨rfl, hB⟩
  go_wp2
  go_ret
  exact ⟨rfl, ((Below.refl _ w).alloc (Nat.le_refl _) _).trans (hB.mono (by simp))⟩

theorem authors0 (w : World) : Calls Tryz.prog 45 #[noState] w fun e w' => e = .returned (.slice none 0 0) ∧ Below w.heap.size w w' := by
  have HS : Aside _ := fun w => callsIn_wide.1 (set0 71 w)
  unfold noState at *
  go_enter Tryz.func45, Tryz.ntmps45
  go_wp2_with (go_at_call 64; refine (HS.out _).mono ?_)
  rintro e w1 ⟨rfl, hB⟩
  go_wp2
  go_ret
  exact ⟨rfl, ((Below.refl _ w).alloc (Nat.le_refl _) _).trans (hB.mono (by simp))⟩

end Go.Proofs.YtdfjpbdfafpfgaaGreatDoor.Ad
