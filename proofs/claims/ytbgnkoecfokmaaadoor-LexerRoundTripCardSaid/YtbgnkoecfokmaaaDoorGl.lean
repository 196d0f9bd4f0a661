/- What the contracts of this seat ask of the package-level variables that the library reads. -/
import Derived.WalkKit
namespace Go.Proofs.YtbgnkoecfokmaaaDoor.Lex
open Go.RowKit

/-- The package-level variable that the library's search reads holds a number. -/
def Gl (w : World) : Prop := ∃ m : Int, w.cell? ⟨0, 0, none⟩ = some (.int .i64 m)
theorem Gl.below {w w1 : World} (h : Gl w) (hb : Below w.heap.size w w1) : Gl w1 := by
  obtain ⟨m, hm⟩ := h
  exact ⟨m, (hb.cell (World.block_lt_of_cell? w _ hm)).trans hm⟩

end Go.Proofs.YtbgnkoecfokmaaaDoor.Lex
