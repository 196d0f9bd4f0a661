-- Written by wip/pr.py, a program of this session, that runs the kit's printer with contracts of our own put in. Lean checks it.
import Derived.Test.YtdfjpbdfafpfgaaGreatDoorPXx0
namespace Go.Proofs.YtdfjpbdfafpfgaaGreatDoor.PX
open Go.RowKit Go.Proofs.YtdfjpbdfafpfgaaGreatDoorW.PrintWords Go.Proofs.YtdfjpbdfafpfgaaGreatDoorW.PrintLast Go.Proofs.YtdfjpbdfafpfgaaGreatDoorW.PrintMore
attribute [local go_sem] max2_int min2_int max_two min_two max_three min_three max_four min_four   -- for this text's walks alone
set_option linter.unusedVariables false
set_option linter.unusedSimpArgs false

theorem eqA23 (d : Nat) (w : World) (x0 y0 : Int) (x1 y1 : ByteArray) (x2 y2 : Int) (x3 y3 : ByteArray) :
    (Op.equalIn (d + 2) 23 (.agg #[.int .i64 x0, .string x1, .int .i64 x2, .string x3]) (.agg #[.int .i64 y0, .string y1, .int .i64 y2, .string y3])).run Tryz.prog w = .ok (x0 == y0 && (x1.toList == y1.toList && (x2 == y2 && (x3.toList == y3.toList)))) w := by
  refine eqA_of Tryz.underlying23 (by kernel_rfl) ?_
  refine eqf_cons (by rfl) (by go_simp; rfl) (by go_simp; rfl) (by go_simp) ?_
  refine eqf_cons (by rfl) (by go_simp; rfl) (by go_simp; rfl) (by go_simp) ?_
  refine eqf_cons (by rfl) (by go_simp; rfl) (by go_simp; rfl) (by go_simp) ?_
  exact eqf_last (by rfl) (by go_simp; rfl) (by go_simp; rfl) (by go_simp)
end Go.Proofs.YtdfjpbdfafpfgaaGreatDoor.PX
