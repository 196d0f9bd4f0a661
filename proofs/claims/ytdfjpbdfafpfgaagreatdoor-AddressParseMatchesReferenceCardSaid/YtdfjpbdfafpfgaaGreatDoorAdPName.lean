/- The contract of isName in the form in which the printed texts use it. -/
import Derived.Test.YtdfjpbdfafpfgaaGreatDoorAdName
import Derived.Test.YtdfjpbdfafpfgaaGreatDoorPXx0
namespace Go.Proofs.YtdfjpbdfafpfgaaGreatDoor.PX
open Go.RowKit

def address_isName.f (a0 : ByteArray) : Option Bool := some (Ad.nameB a0)
theorem address_isName.calls (a0 : ByteArray) (r1 : Bool) (w : World) (h : address_isName.f a0 = some r1) :
    Calls Tryz.prog 22 #[.string a0] w fun e w' => e = .returned (.bool r1) ∧ Below w.heap.size w w' := by
  unfold address_isName.f at h
  injection h with h
  subst h
  exact Ad.isName a0 w

end Go.Proofs.YtdfjpbdfafpfgaaGreatDoor.PX
