/- Contracts over this seat's translation, written by a program (wip/prx.py); Lean checks them. -/
import Derived.Test.YtkakngnfbahhiaaDoorQx0
import Derived.Test.YtkakngnfbahhiaaDoorQx1
import Derived.Test.YtkakngnfbahhiaaDoorQx2
import Derived.Test.YtkakngnfbahhiaaDoorQx3
namespace Go.Proofs.YtkakngnfbahhiaaDoor.Q
open Go.RowKit Go.Proofs.YtkakngnfbahhiaaDoorW.PrintWords Go.Proofs.YtkakngnfbahhiaaDoorW.PrintLast Go.Proofs.YtkakngnfbahhiaaDoorW.PrintMore
attribute [local go_sem] max2_int min2_int max_two min_two max_three min_three max_four min_four   -- for this text's walks alone
set_option linter.unusedVariables false
set_option linter.unusedSimpArgs false

end Go.Proofs.YtkakngnfbahhiaaDoor.Q
