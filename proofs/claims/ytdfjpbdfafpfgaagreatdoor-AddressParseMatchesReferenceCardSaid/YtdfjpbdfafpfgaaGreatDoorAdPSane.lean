/- The contract of sane in the form in which the printed texts use it. -/
import Derived.Test.YtdfjpbdfafpfgaaGreatDoorAdSane
namespace Go.Proofs.YtdfjpbdfafpfgaaGreatDoor.PX
open Go.RowKit

def copydesklaw12_sane.f : Option Bool := some true
theorem copydesklaw12_sane.calls (r1 : Bool) (w : World) (hG : Go.Proofs.YtdfjpbdfafpfgaaGreatDoor.Lex.Gl w) (h : copydesklaw12_sane.f = some r1) :
    Calls Tryz.prog 7 #[] w fun e w' => e = .returned (.bool r1) ∧ Below w.heap.size w w' := by
  unfold copydesklaw12_sane.f at h
  injection h with h
  subst h
  exact Ad.sane w hG

end Go.Proofs.YtdfjpbdfafpfgaaGreatDoor.PX
