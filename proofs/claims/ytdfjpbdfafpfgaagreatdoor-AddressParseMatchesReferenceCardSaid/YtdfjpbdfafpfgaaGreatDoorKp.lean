/- What a round of a loop over an iterator leaves alone when it collects into a slice of its own: all cells but the variable that holds the slice and the row that it leads to. -/
import Derived.RangeFuncNested
import Derived.RangeFuncBox
import Derived.WalkKit
namespace Go.Proofs.YtdfjpbdfafpfgaaGreatDoor.Kp
open Go.RowKit

/-- The block that the variable in block O leads to. -/
def ptr (O : Nat) (W : World) : Option Nat := (W.cell? ⟨O, 0, none⟩).bind Value.ownBlock

structure Kp (O : Nat) (W W' : World) : Prop where
  size : W.heap.size ≤ W'.heap.size
  keep : ∀ (k : Nat) cs t m, W.heap[k]? = some (.cells cs t m) → k ≠ O → ptr O W ≠ some k → W'.heap[k]? = some (.cells cs t m)
  leads : ∀ r, ptr O W' = some r → ptr O W = some r ∨ (W.heap.size ≤ r ∧ r < W'.heap.size)

theorem Kp.refl (O : Nat) (W : World) : Kp O W W := ⟨Nat.le_refl _, fun _ _ _ _ h _ _ => h, fun _ h => .inl h⟩
theorem lt_of_heap {W : World} {k : Nat} {o : Obj} (h : W.heap[k]? = some o) : k < W.heap.size := (Array.getElem?_eq_some_iff.1 h).1
theorem Kp.trans {O : Nat} {A B C : World} (h : Kp O A B) (h' : Kp O B C) : Kp O A C where
  size := Nat.le_trans h.size h'.size
  keep k cs t m hk hO hp := by
    refine h'.keep k cs t m (h.keep k cs t m hk hO hp) hO fun e => ?_
    rcases h.leads k e with e' | ⟨e', _⟩
    · exact hp e'
    · have := lt_of_heap hk
      omega
  leads r hr := by
    rcases h'.leads r hr with e | ⟨e, e2⟩
    · rcases h.leads r e with e' | ⟨e', e3⟩
      · exact .inl e'
      · exact .inr ⟨e', Nat.lt_of_lt_of_le e3 h'.size⟩
    · exact .inr ⟨Nat.le_trans h.size e, e2⟩
theorem ptr_same {O : Nat} {W W' : World} (h : W'.heap[O]? = W.heap[O]?) : ptr O W' = ptr O W := by
  unfold ptr World.cell?
  rw [h]
theorem Kp.of_below {O : Nat} {W W' : World} (hO : O < W.heap.size) (h : Below W.heap.size W W') : Kp O W W' where
  size := h.size
  keep k cs t m hk _ _ := (h.block k (lt_of_heap hk)).trans hk
  leads r hr := .inl (by rw [ptr_same (h.block O hO)] at hr; exact hr)
theorem cells_of_cell {W : World} {a : Addr} {v : Value} (h : W.cell? a = some v) : ∃ cs t m, W.heap[a.block]? = some (.cells cs t m) := by
  unfold World.cell? at h
  split at h
  · exact ⟨_, _, _, by assumption⟩
  · cases h
theorem Kp.cell {O : Nat} {W W' : World} (h : Kp O W W') {a : Addr} {v : Value} (hc : W.cell? a = some v) (hO : a.block ≠ O) (hp : ptr O W ≠ some a.block) : W'.cell? a = some v := by
  obtain ⟨cs, t, m, hk⟩ := cells_of_cell hc
  have h2 := h.keep _ cs t m hk hO hp
  unfold World.cell? at hc ⊢
  rw [h2]
  rw [hk] at hc
  exact hc
theorem Kp.putObj {O : Nat} {W : World} {l : Nat} {o o' : Obj} (hO : O < l) (hl : W.heap[l]? = some o) (ho : o.isCells = false) : Kp O W (W.putObj l o') where
  size := by simp [World.putObj]
  keep k cs t m hk _ _ := by
    have hne : k ≠ l := by
      rintro rfl
      rw [hk] at hl
      cases hl
      cases ho
    exact (World.putObj_heap_other hne).trans hk
  leads r hr := .inl (by rw [ptr_same (World.putObj_heap_other (by omega))] at hr; exact hr)

/-- From a world in which the variable leads nowhere: where it leads now, and that what lay there is read as before. -/
theorem Kp.new {O : Nat} {W W' : World} (h : Kp O W W') (hp : ptr O W = none) {r : Nat} (hr : ptr O W' = some r) : W.heap.size ≤ r ∧ r < W'.heap.size := by
  rcases h.leads r hr with e | e
  · rw [hp] at e; cases e
  · exact e

end Go.Proofs.YtdfjpbdfafpfgaaGreatDoor.Kp
