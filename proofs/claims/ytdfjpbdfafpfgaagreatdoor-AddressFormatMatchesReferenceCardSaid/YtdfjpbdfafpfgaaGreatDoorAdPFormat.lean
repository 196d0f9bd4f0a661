/- The contracts of Format and Urgency in the form in which the printed texts use them. -/
import Derived.Test.YtdfjpbdfafpfgaaGreatDoorAdUrgency
namespace Go.Proofs.YtdfjpbdfafpfgaaGreatDoor.PX
open Go.RowKit

def address_Format.f (a0_0 : Int) (a0_1 : ByteArray) (a0_2 : Int) (a0_3 : ByteArray) : Option (ByteArray × Int) := some (Ad.fmtB a0_0 a0_1 a0_2 a0_3)
theorem address_Format.calls (a0_0 : Int) (a0_1 : ByteArray) (a0_2 : Int) (a0_3 : ByteArray) (r1 : ByteArray) (r2 : Int) (w : World) (h : address_Format.f a0_0 a0_1 a0_2 a0_3 = some (r1, r2)) :
    Calls Tryz.prog 9 #[.agg #[.int .i64 a0_0, .string a0_1, .int .i64 a0_2, .string a0_3]] w fun e w' => e = .returned (.tuple #[.string r1, .int .i64 r2]) ∧ Below w.heap.size w w' := by
  unfold address_Format.f at h
  injection h with h
  have := Ad.format a0_0 a0_1 a0_2 a0_3 w
  rw [h] at this
  exact this

def address_Urgency.f (a0_0 : Int) (a0_1 : ByteArray) (a0_2 : Int) (a0_3 : ByteArray) : Option Int := some (Ad.urgB a0_0 a0_1 a0_2 a0_3)
theorem address_Urgency.calls (a0_0 : Int) (a0_1 : ByteArray) (a0_2 : Int) (a0_3 : ByteArray) (r1 : Int) (w : World) (h : address_Urgency.f a0_0 a0_1 a0_2 a0_3 = some r1) :
    Calls Tryz.prog 13 #[.agg #[.int .i64 a0_0, .string a0_1, .int .i64 a0_2, .string a0_3]] w fun e w' => e = .returned (.int .i64 r1) ∧ Below w.heap.size w w' := by
  unfold address_Urgency.f at h
  injection h with h
  subst h
  exact Ad.urgency a0_0 a0_1 a0_2 a0_3 w

end Go.Proofs.YtdfjpbdfafpfgaaGreatDoor.PX
