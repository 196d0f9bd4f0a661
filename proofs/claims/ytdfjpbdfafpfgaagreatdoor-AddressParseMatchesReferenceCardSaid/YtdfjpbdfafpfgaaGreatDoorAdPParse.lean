/- The contract of Parse in the form in which the printed texts use it. -/
import Derived.Test.YtdfjpbdfafpfgaaGreatDoorAdParse
namespace Go.Proofs.YtdfjpbdfafpfgaaGreatDoor.PX
open Go.RowKit

def address_Parse.f (a0 : ByteArray) : Option (Int × ByteArray × Int × ByteArray × Int) := if a0.size ≤ 1000 then some (Ad.parseB a0) else none
theorem address_Parse.calls (a0 : ByteArray) (r1 : Int) (r2 : ByteArray) (r3 : Int) (r4 : ByteArray) (r5 : Int) (w : World) (hG : Go.Proofs.YtdfjpbdfafpfgaaGreatDoor.Lex.Gl w) (h : address_Parse.f a0 = some (r1, r2, r3, r4, r5)) :
    Calls Tryz.prog 15 #[.string a0] w fun e w' => e = .returned (.tuple #[.agg #[.int .i64 r1, .string r2, .int .i64 r3, .string r4], .int .i64 r5]) ∧ Below w.heap.size w w' := by
  unfold address_Parse.f at h
  split at h
  · rename_i hs
    injection h with h
    have := Ad.parse a0 hs w hG
    rw [h] at this
    exact this
  · cases h

end Go.Proofs.YtdfjpbdfafpfgaaGreatDoor.PX
