/- works' contract in the form of the printed ones, under the listed variables. -/
import Derived.Test.YtkakngnfbahhiaaDoorQx0
import Derived.Test.YtkakngnfbahhiaaDoorDistW
namespace Go.Proofs.YtkakngnfbahhiaaDoor.Q
open Go.RowKit Go.Proofs.YtkakngnfbahhiaaDoorW.PrintWords Go.Proofs.YtkakngnfbahhiaaDoorW.PrintLast

def flyoverlaw01_works.f : Option Bool := some true
theorem flyoverlaw01_works.calls (r : Bool) (w : World) (h : flyoverlaw01_works.f = some r) (hLw : Laid w) :
    Calls Tryd.prog 15 #[] w fun e w' => e = .returned (.bool r) ∧ Below w.heap.size w w' := by
  obtain rfl : true = r := Option.some.inj h
  exact works_any w hLw
end Go.Proofs.YtkakngnfbahhiaaDoor.Q
