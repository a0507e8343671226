/- What the row's condition on the listed variables gives the walks; a start that meets it. -/
import Derived.Test.YtkakngnfbahhiaaDoorDistB
import Derived.Test.YtkakngnfbahhiaaDoorRows
import Derived.Stop.LaidErr
import Derived.LaidMore
import Derived.MakeChecks
import Derived.LaidLaws
namespace Go.Proofs.YtkakngnfbahhiaaDoor
open Go.RowKit
set_option linter.unusedVariables false

theorem tTab : (Tryd.prog.globals[2]?).map (·.type) = some 82 := by kernel_rfl
theorem tSyn : (Tryd.prog.globals[0]?).map (·.type) = some 54 := by kernel_rfl
theorem tRng : (Tryd.prog.globals[1]?).map (·.type) = some 54 := by kernel_rfl
theorem cES : Tryd.prog.cellsOf 89 = 1 := by kernel_rfl
theorem cS : Tryd.prog.cellsOf 9 = 1 := by kernel_rfl
theorem starES : "*" ++ "errors.errorString" = "*errors.errorString" := by decide
theorem rowES (u : TypeId) (h : Tryd.prog.typeName? 3 u = some "*errors.errorString") : u = 87 :=
  typeName_ptr_named (nm := "errors.errorString") (by rw [starES]; kernel_rfl) (by kernel_rfl) (by decide) u (by rw [starES]; exact h)

abbrev lst : List (String × DataW Unit) := [("math/bits.deBruijn32tab", Rows.laid_math_bits_deBruijn32tab), ("math/bits.deBruijn64tab", Rows.laid_math_bits_deBruijn64tab), ("internal/strconv.uint64pow10", Rows.laid_internal_strconv_uint64pow10), ("strconv.ErrRange", Rows.laid_strconv_ErrRange), ("strconv.ErrSyntax", Rows.laid_strconv_ErrSyntax)]

theorem laid_of {W : World} (h : laidMetH Tryd.prog lst W) : Laid W := by
  rw [MakeChecks.laidMetH_plain _ _ _ (by kernel_rfl)] at h
  have h2 := h.tail.tail
  have h3 := h2.tail
  have h4 := h3.tail
  refine ⟨?_, ?_, ?_⟩
  · exact Lib.tabIs_of_head gTab tTab Tryd.underlying82 Tryd.underlying22 (by kernel_rfl) (by kernel_rfl) h2
  · obtain ⟨a, s, hv, -, -, -⟩ := laid_sentinel h4 gSyn tSyn Tryd.underlying54 rowES Tryd.underlying87 Tryd.underlying89 rfl rfl Tryd.underlying9 cES cS
    exact ⟨_, _, hv⟩
  · obtain ⟨a, s, hv, -, -, -⟩ := laid_sentinel h3 gRng tRng Tryd.underlying54 rowES Tryd.underlying87 Tryd.underlying89 rfl rfl Tryd.underlying9 cES cS
    exact ⟨_, _, hv⟩

theorem door_met (os : Os) (args : Array Value) : laidMetH Tryd.prog lst ((World.doorLaid Tryd.prog 400 os).forCall (fun _ _ => 0) ⟨#[], args, []⟩).memory :=
  laidMetH_of_parts3 (fuel := 8) (laidMet_of_run' 8 (by kernel_rfl) (by kernel_rfl)) (by kernel_rfl) (by kernel_rfl)
end Go.Proofs.YtkakngnfbahhiaaDoor
