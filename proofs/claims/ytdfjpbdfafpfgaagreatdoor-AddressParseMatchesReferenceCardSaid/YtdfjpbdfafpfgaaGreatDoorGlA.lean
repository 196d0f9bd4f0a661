/- What the contracts of this seat ask of the package-level variables that the library reads. -/
import Derived.WalkKit
namespace Go.Proofs.YtdfjpbdfafpfgaaGreatDoor.Lex
open Go.RowKit

/-- The package-level variables that the library reads: a number, and two errors. -/
def Gl (w : World) : Prop := (∃ m : Int, w.cell? ⟨0, 0, none⟩ = some (.int .i64 m)) ∧
  (∃ v, w.cell? ⟨5, 0, none⟩ = some v ∧ (v = .nilIface ∨ ∃ t p, v = .iface t p)) ∧
  (∃ v, w.cell? ⟨4, 0, none⟩ = some v ∧ (v = .nilIface ∨ ∃ t p, v = .iface t p))
theorem Gl.below {w w1 : World} (h : Gl w) (hb : Below w.heap.size w w1) : Gl w1 := by
  obtain ⟨⟨m, hm⟩, ⟨v, hv, hv'⟩, ⟨u, hu, hu'⟩⟩ := h
  exact ⟨⟨m, (hb.cell (World.block_lt_of_cell? w _ hm)).trans hm⟩, ⟨v, (hb.cell (World.block_lt_of_cell? w _ hv)).trans hv, hv'⟩, ⟨u, (hb.cell (World.block_lt_of_cell? w _ hu)).trans hu, hu'⟩⟩

end Go.Proofs.YtdfjpbdfafpfgaaGreatDoor.Lex
