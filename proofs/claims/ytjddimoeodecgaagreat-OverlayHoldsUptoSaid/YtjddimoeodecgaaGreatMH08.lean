/- What of a graph a cell's matrix hangs on (plain); right overlays. -/
import Derived.Test.YtjddimoeodecgaaGreatXH08
namespace Go.Proofs.YtjddimoeodecgaaGreat
open Go.RowKit Go.Proofs.YtjddimoeodecgaaGreatW.PrintWords Go.Proofs.YtjddimoeodecgaaGreatW.PrintLast
set_option linter.unusedVariables false
set_option maxRecDepth 100000

namespace Q
end Q

end Go.Proofs.YtjddimoeodecgaaGreat

/- Overlays in memory: rows of rows of matrices. -/
namespace Go.Proofs.YtjddimoeodecgaaGreat
open Go.RowKit Go.Lib Go.Maps Go.Proofs.YtjddimoeodecgaaGreatW.PrintWords Go.Proofs.YtjddimoeodecgaaGreatW.PrintLast Go.Proofs.YtjddimoeodecgaaGreatW.PrintMore
set_option linter.unusedVariables false
set_option maxRecDepth 100000

section
variable {w w' : World} {B : Nat} {v : Value} {D : List Nat}
end

section
variable {w : World} {B g : Nat} {vs : List Value} {pss : List (List (Mat × Value))}
end

end Go.Proofs.YtjddimoeodecgaaGreat

/- Right overlays as plain data, and those under way. -/
namespace Go.Proofs.YtjddimoeodecgaaGreat
open Go.RowKit Go.Lib Go.Maps Go.Proofs.YtjddimoeodecgaaGreatW.PrintWords Go.Proofs.YtjddimoeodecgaaGreatW.PrintLast Go.Proofs.YtjddimoeodecgaaGreatW.PrintMore
set_option linter.unusedVariables false
set_option maxRecDepth 100000

section
variable {n : Nat} {arcs : List Q.S95} {cells : List (List Int)} {ep : Nat → Nat → Int}
end
theorem anewK_le (f : Nat → Nat → Nat) (k m : Nat) : anewK f k m ≤ m := by
  unfold anewK
  exact Nat.le_trans (List.length_filter_le _ _) (by simp)
end Go.Proofs.YtjddimoeodecgaaGreat

/- What the overlay calls for a cell of a right nest, with the arcs' own weights. -/
namespace Go.Proofs.YtjddimoeodecgaaGreat
open Go.RowKit Go.Lib Go.Maps Go.Proofs.YtjddimoeodecgaaGreatW.PrintWords Go.Proofs.YtjddimoeodecgaaGreatW.PrintLast Go.Proofs.YtjddimoeodecgaaGreatW.PrintMore
set_option linter.unusedVariables false
set_option maxRecDepth 100000

section
variable {w : World} {n : Nat} {arcs : List Q.S95} {A : Option Addr} {c : Nat} {BA : Option Addr} {bc : Nat} {bounds : List Int} {CA : Option Addr} {cc : Nat} {cells : List (List Int)}
end

end Go.Proofs.YtjddimoeodecgaaGreat

/- What Renew makes (plain). -/
namespace Go.Proofs.YtjddimoeodecgaaGreat
open Go.RowKit Go.Lib Go.Maps Go.Proofs.YtjddimoeodecgaaGreatW.PrintWords Go.Proofs.YtjddimoeodecgaaGreatW.PrintLast Go.Proofs.YtjddimoeodecgaaGreatW.PrintMore
set_option linter.unusedVariables false
set_option maxRecDepth 100000

namespace Q
end Q
theorem overO_any {n : Nat} {arcs : List Q.S95} {cells : List (List Int)} {K : Nat} {ep : Nat → Nat → Int} {P : Mat → Prop} (h : ∃ l ∈ overO n arcs cells K ep, ∃ m ∈ l, P m) : ∃ k c, k < K ∧ c < Q.manyOf (cells.getD k []) ∧ P (overM n arcs cells ep k c) := by
  obtain ⟨l, hl, m, hm, hp⟩ := h
  unfold overO at hl
  obtain ⟨k, hk, rfl⟩ := List.mem_map.1 hl
  unfold overRow at hm
  obtain ⟨c, hc, rfl⟩ := List.mem_map.1 hm
  exact ⟨k, c, List.mem_range.1 hk, List.mem_range.1 hc, hp⟩
end Go.Proofs.YtjddimoeodecgaaGreat

/- clique.Up with the arcs' own weights, and right matrices of children. -/
namespace Go.Proofs.YtjddimoeodecgaaGreat
open Go.RowKit Go.Lib Go.Maps Go.Proofs.YtjddimoeodecgaaGreatW.PrintWords Go.Proofs.YtjddimoeodecgaaGreatW.PrintLast Go.Proofs.YtjddimoeodecgaaGreatW.PrintMore
set_option linter.unusedVariables false
set_option maxRecDepth 100000

end Go.Proofs.YtjddimoeodecgaaGreat

/- The overlay chapter's example (plain). -/
namespace Go.Proofs.YtjddimoeodecgaaGreat.Q
open Go.RowKit Go.Proofs.YtjddimoeodecgaaGreat Go.Proofs.YtjddimoeodecgaaGreatW.PrintWords Go.Proofs.YtjddimoeodecgaaGreatW.PrintLast
set_option linter.unusedVariables false
set_option maxRecDepth 100000

end Go.Proofs.YtjddimoeodecgaaGreat.Q
