/- Contracts over this seat's translation, written by a program (wip/prx.py); Lean checks them. -/
import Derived.Test.YtenbcfjfgbpinaaGreatXQx0
import Derived.Test.YtenbcfjfgbpinaaGreatXQx2
namespace Go.Proofs.YtenbcfjfgbpinaaGreat.Q
open Go.RowKit Go.Proofs.YtenbcfjfgbpinaaGreatW.PrintWords Go.Proofs.YtenbcfjfgbpinaaGreatW.PrintLast Go.Proofs.YtenbcfjfgbpinaaGreatW.PrintMore
attribute [local go_sem] max2_int min2_int max_two min_two max_three min_three max_four min_four   -- for this text's walks alone
set_option linter.unusedVariables false
set_option linter.unusedSimpArgs false

/-! ### flyoverref13_Of: function 35 -/
/-! ### flyoverref13_Weights: function 13 -/
/-! ### flyoverbook_SameWeights: function 14 -/
end Go.Proofs.YtenbcfjfgbpinaaGreat.Q
