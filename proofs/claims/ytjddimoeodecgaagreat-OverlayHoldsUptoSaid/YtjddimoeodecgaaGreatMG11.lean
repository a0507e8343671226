/- Arcs with other weights (plain; in memory). -/
import Derived.Test.YtjddimoeodecgaaGreatXG11
namespace Go.Proofs.YtjddimoeodecgaaGreat
open Go.RowKit Go.Lib Go.Sort Go.Proofs.YtjddimoeodecgaaGreatW.PrintWords Go.Proofs.YtjddimoeodecgaaGreatW.PrintLast Go.Proofs.YtjddimoeodecgaaGreatW.PrintMore
set_option linter.unusedVariables false
set_option maxRecDepth 100000

namespace Q
theorem weighTo_get (arcs : List S95) (inner ws : List Int) : ∀ (k i : Nat), ((weighTo arcs inner ws k).getD i z95).f0 = (arcs.getD i z95).f0 ∧ ((weighTo arcs inner ws k).getD i z95).f1 = (arcs.getD i z95).f1
  | 0, i => ⟨rfl, rfl⟩
  | k + 1, i => by
    have ih := weighTo_get arcs inner ws k i
    unfold weighTo
    by_cases e : (inner.getD k 0).toNat = i
    · subst e
      by_cases hl : (inner.getD k 0).toNat < (weighTo arcs inner ws k).length
      · rw [List.getD_eq_getElem?_getD, List.getElem?_set_self hl]
        exact ih
      · rw [List.set_eq_of_length_le (by omega)]
        exact ih
    · rw [List.getD_eq_getElem?_getD, List.getElem?_set_ne e, ← List.getD_eq_getElem?_getD]
      exact ih
end Q

end Go.Proofs.YtjddimoeodecgaaGreat

/- clique.weighed. -/
namespace Go.Proofs.YtjddimoeodecgaaGreat
open Go.RowKit Go.Lib Go.Sort Go.Proofs.YtjddimoeodecgaaGreatW.PrintWords Go.Proofs.YtjddimoeodecgaaGreatW.PrintLast Go.Proofs.YtjddimoeodecgaaGreatW.PrintMore
set_option linter.unusedVariables false
set_option maxRecDepth 100000

end Go.Proofs.YtjddimoeodecgaaGreat

/- clique.within's closure: a row of the matrix. -/
namespace Go.Proofs.YtjddimoeodecgaaGreat
open Go.RowKit Go.Lib Go.Sort Go.Proofs.YtjddimoeodecgaaGreatW.PrintWords Go.Proofs.YtjddimoeodecgaaGreatW.PrintLast Go.Proofs.YtjddimoeodecgaaGreatW.PrintMore
set_option linter.unusedVariables false
set_option maxRecDepth 100000

end Go.Proofs.YtjddimoeodecgaaGreat

/- What clique.within and clique.Leaf answer (plain). -/
namespace Go.Proofs.YtjddimoeodecgaaGreat.Q
open Go.RowKit Go.Proofs.YtjddimoeodecgaaGreatW.PrintWords Go.Proofs.YtjddimoeodecgaaGreatW.PrintLast Go.Proofs.YtjddimoeodecgaaGreat
set_option linter.unusedVariables false
set_option maxRecDepth 100000

end Go.Proofs.YtjddimoeodecgaaGreat.Q

/- clique.within: the matrix of a cell. -/
namespace Go.Proofs.YtjddimoeodecgaaGreat
open Go.RowKit Go.Lib Go.Sort Go.Proofs.YtjddimoeodecgaaGreatW.PrintWords Go.Proofs.YtjddimoeodecgaaGreatW.PrintLast Go.Proofs.YtjddimoeodecgaaGreatW.PrintMore
set_option linter.unusedVariables false
set_option maxRecDepth 100000

end Go.Proofs.YtjddimoeodecgaaGreat
