/- What of a graph a cell's matrix hangs on (plain); right overlays. -/
import Derived.Test.YtjddimoeodecgaaGreatXH08
namespace Go.Proofs.YtjddimoeodecgaaGreat
open Go.RowKit Go.Proofs.YtjddimoeodecgaaGreatW.PrintWords Go.Proofs.YtjddimoeodecgaaGreatW.PrintLast
set_option linter.unusedVariables false
set_option maxRecDepth 100000

namespace Q
end Q

end Go.Proofs.YtjddimoeodecgaaGreat

/- Overlays in memory: rows of rows of matrices. -/
namespace Go.Proofs.YtjddimoeodecgaaGreat
open Go.RowKit Go.Lib Go.Maps Go.Proofs.YtjddimoeodecgaaGreatW.PrintWords Go.Proofs.YtjddimoeodecgaaGreatW.PrintLast Go.Proofs.YtjddimoeodecgaaGreatW.PrintMore
set_option linter.unusedVariables false
set_option maxRecDepth 100000

section
variable {w w' : World} {B : Nat} {v : Value} {D : List Nat}
end

section
variable {w : World} {B g : Nat} {vs : List Value} {pss : List (List (Mat × Value))}
end

end Go.Proofs.YtjddimoeodecgaaGreat

/- Right overlays as plain data, and those under way. -/
namespace Go.Proofs.YtjddimoeodecgaaGreat
open Go.RowKit Go.Lib Go.Maps Go.Proofs.YtjddimoeodecgaaGreatW.PrintWords Go.Proofs.YtjddimoeodecgaaGreatW.PrintLast Go.Proofs.YtjddimoeodecgaaGreatW.PrintMore
set_option linter.unusedVariables false
set_option maxRecDepth 100000

section
variable {n : Nat} {arcs : List Q.S95} {cells : List (List Int)} {ep : Nat → Nat → Int}
end
theorem overRow_same {n : Nat} {arcs : List Q.S95} {cells : List (List Int)} {ep ep' : Nat → Nat → Int} (k : Nat) (h : ∀ c, c < Q.manyOf (cells.getD k []) → ep k c = ep' k c) : overRow n arcs cells ep k = overRow n arcs cells ep' k := by
  unfold overRow
  refine List.map_congr_left (fun c hc => ?_)
  unfold overM
  rw [h c (List.mem_range.1 hc)]
theorem overRow_kept {n : Nat} {a b : List Q.S95} {cells : List (List Int)} {ep : Nat → Nat → Int} (k : Nat) (h : ∀ c : Nat, c < Q.manyOf (cells.getD k []) → Q.matOf n a (cells.getD k []) (c : Int) = Q.matOf n b (cells.getD k []) (c : Int)) : overRow n a cells ep k = overRow n b cells ep k := by
  unfold overRow
  refine List.map_congr_left (fun c hc => ?_)
  unfold overM
  rw [h c (List.mem_range.1 hc)]

end Go.Proofs.YtjddimoeodecgaaGreat

/- What the overlay calls for a cell of a right nest, with the arcs' own weights. -/
namespace Go.Proofs.YtjddimoeodecgaaGreat
open Go.RowKit Go.Lib Go.Maps Go.Proofs.YtjddimoeodecgaaGreatW.PrintWords Go.Proofs.YtjddimoeodecgaaGreatW.PrintLast Go.Proofs.YtjddimoeodecgaaGreatW.PrintMore
set_option linter.unusedVariables false
set_option maxRecDepth 100000

section
variable {w : World} {n : Nat} {arcs : List Q.S95} {A : Option Addr} {c : Nat} {BA : Option Addr} {bc : Nat} {bounds : List Int} {CA : Option Addr} {cc : Nat} {cells : List (List Int)}
end

end Go.Proofs.YtjddimoeodecgaaGreat

/- What Renew makes (plain). -/
namespace Go.Proofs.YtjddimoeodecgaaGreat
open Go.RowKit Go.Lib Go.Maps Go.Proofs.YtjddimoeodecgaaGreatW.PrintWords Go.Proofs.YtjddimoeodecgaaGreatW.PrintLast Go.Proofs.YtjddimoeodecgaaGreatW.PrintMore
set_option linter.unusedVariables false
set_option maxRecDepth 100000

namespace Q
end Q
end Go.Proofs.YtjddimoeodecgaaGreat

/- clique.Up with the arcs' own weights, and right matrices of children. -/
namespace Go.Proofs.YtjddimoeodecgaaGreat
open Go.RowKit Go.Lib Go.Maps Go.Proofs.YtjddimoeodecgaaGreatW.PrintWords Go.Proofs.YtjddimoeodecgaaGreatW.PrintLast Go.Proofs.YtjddimoeodecgaaGreatW.PrintMore
set_option linter.unusedVariables false
set_option maxRecDepth 100000

end Go.Proofs.YtjddimoeodecgaaGreat

/- The overlay chapter's example (plain). -/
namespace Go.Proofs.YtjddimoeodecgaaGreat.Q
open Go.RowKit Go.Proofs.YtjddimoeodecgaaGreat Go.Proofs.YtjddimoeodecgaaGreatW.PrintWords Go.Proofs.YtjddimoeodecgaaGreatW.PrintLast
set_option linter.unusedVariables false
set_option maxRecDepth 100000

end Go.Proofs.YtjddimoeodecgaaGreat.Q
