/-
  NARROWER THAN 'FOR EVERY INPUT', by the rows' own cells (each row's printed sentence says how): StoreCompacts: laid · StoreSame: laid · StoreSurvives: laid.
  DERIVED. THE GIVEN ROWS OF THIS SEAT. 3 by the template 'for every input the law returns true; each argument reads behind the call as it read before'; 0 by the template 'total and deterministic' (their statements: YtmlmjchifelpkaaDoorTotals.lean).
  GIVEN WITH THE SEED: the statements are not yours to turn. If you find one false, say at which input.
  Laid BY PROGRAM, IN A SANDBOX (cutbox-rows.mjs): the forced cells as the released guide's own fill.sh prints them over the translation 73b70d26b4fae395… (all of the seat's roots in one cut). By AI agents, Wed Nov 11 2026. No macro, syntax, notation, axiom, sorry.
-/
import Derived.Test.YtmlmjchifelpkaaDoorChecked
import GoSem.Claim
import GoSem.ClaimJoined
import GoSem.ClaimMapViews
import Derived.JoinedTies
import Derived.KernelRfl
namespace Go.Proofs.YtmlmjchifelpkaaDoor
/- THE CELL 'sum', in the pinned program and in every row, IS THE sha256 OF THE DUMP (.gsa) THAT YtmlmjchifelpkaaDoorProg.lean LOADS. Nothing in Lean hashes anything: it is a label: what it is worth is what the hold of that sum in a sandbox is worth. -/
noncomputable def Tryd.pinned : Pinned := { name := "ytmlmjchifelpkaadoor", sum := "73b70d26b4fae395d1a9fbac90a7015504246d3a7cf2368b147322bd8be892f5", checked := Tryd.checked }
namespace Rows
def none {H : Type} : Left H := { results := [], args := [] }

/- WHAT THE LISTED PACKAGE-LEVEL VARIABLES READ AS WHEN THE CALL BEGINS. Each datum BY PROGRAM (the guide's laid-datum.mjs) off the statement by which the dump's own 'gosem.cut.vars' lays the variable. In a bare row this is a premise. The card (YtmlmjchifelpkaaDoorCards.lean) ties it to the program's text. -/
def laid_flyover_code_quarters {H : Type} : DataW H := .agg [.lit (.int .u32 0), .lit (.int .u32 498536548), .lit (.int .u32 997073096), .lit (.int .u32 651767980), .lit (.int .u32 1994146192), .lit (.int .u32 1802195444), .lit (.int .u32 1303535960), .lit (.int .u32 1342533948), .lit (.int .u32 3988292384), .lit (.int .u32 4027552580), .lit (.int .u32 3604390888), .lit (.int .u32 3412177804), .lit (.int .u32 2607071920), .lit (.int .u32 2262029012), .lit (.int .u32 2685067896), .lit (.int .u32 3183342108)]

/-- 'flyoverlaw18.StoreCompacts': WHATEVER THE INPUT: true; the input reads as it did. -/
def storeCompactsSpec : ChangeSpec := { name := "storeCompacts", fn := fun _ => fun
  | [d] => { results := [.lit (.bool true)], args := [d] }
  | _ => none }
def storeCompactsRow : OpenClaim := { program := "ytmlmjchifelpkaadoor", sum := "73b70d26b4fae395d1a9fbac90a7015504246d3a7cf2368b147322bd8be892f5", func := "flyover/flyoverlaw18.StoreCompacts", spec := "storeCompacts", inPlace := ["slices.overlaps[string]"], unfollowed := true, recurses := true, named := ["flyover/code.quarters"], apart := false, laid := [("flyover/code.quarters", laid_flyover_code_quarters)] }
def StoreCompactsSaid : Prop := storeCompactsRow.holds Tryd.pinned (OpenSpec.ofChange storeCompactsSpec)

/-- ITS FALSE NEIGHBOUR: 'it returns false'. Refute it at one input. -/
def storeCompactsWrong : ChangeSpec := { name := "storeCompacts", fn := fun _ => fun
  | [d] => { results := [.lit (.bool false)], args := [d] }
  | _ => none }
def StoreCompactsWrongFalsely : Prop := storeCompactsRow.holds Tryd.pinned (OpenSpec.ofChange storeCompactsWrong)

/-- 'flyoverlaw18.StoreSame': WHATEVER THE INPUT: true; the input reads as it did. -/
def storeSameSpec : ChangeSpec := { name := "storeSame", fn := fun _ => fun
  | [d] => { results := [.lit (.bool true)], args := [d] }
  | _ => none }
def storeSameRow : OpenClaim := { program := "ytmlmjchifelpkaadoor", sum := "73b70d26b4fae395d1a9fbac90a7015504246d3a7cf2368b147322bd8be892f5", func := "flyover/flyoverlaw18.StoreSame", spec := "storeSame", inPlace := ["slices.overlaps[string]"], unfollowed := true, recurses := true, named := ["flyover/code.quarters"], apart := false, laid := [("flyover/code.quarters", laid_flyover_code_quarters)] }
def StoreSameSaid : Prop := storeSameRow.holds Tryd.pinned (OpenSpec.ofChange storeSameSpec)

/-- ITS FALSE NEIGHBOUR: 'it returns false'. Refute it at one input. -/
def storeSameWrong : ChangeSpec := { name := "storeSame", fn := fun _ => fun
  | [d] => { results := [.lit (.bool false)], args := [d] }
  | _ => none }
def StoreSameWrongFalsely : Prop := storeSameRow.holds Tryd.pinned (OpenSpec.ofChange storeSameWrong)

/-- 'flyoverlaw18.StoreSurvives': WHATEVER THE INPUT: true; the input reads as it did. -/
def storeSurvivesSpec : ChangeSpec := { name := "storeSurvives", fn := fun _ => fun
  | [d] => { results := [.lit (.bool true)], args := [d] }
  | _ => none }
def storeSurvivesRow : OpenClaim := { program := "ytmlmjchifelpkaadoor", sum := "73b70d26b4fae395d1a9fbac90a7015504246d3a7cf2368b147322bd8be892f5", func := "flyover/flyoverlaw18.StoreSurvives", spec := "storeSurvives", inPlace := ["slices.overlaps[string]"], unfollowed := true, recurses := true, named := ["flyover/code.quarters"], apart := false, laid := [("flyover/code.quarters", laid_flyover_code_quarters)] }
def StoreSurvivesSaid : Prop := storeSurvivesRow.holds Tryd.pinned (OpenSpec.ofChange storeSurvivesSpec)

/-- ITS FALSE NEIGHBOUR: 'it returns false'. Refute it at one input. -/
def storeSurvivesWrong : ChangeSpec := { name := "storeSurvives", fn := fun _ => fun
  | [d] => { results := [.lit (.bool false)], args := [d] }
  | _ => none }
def StoreSurvivesWrongFalsely : Prop := storeSurvivesRow.holds Tryd.pinned (OpenSpec.ofChange storeSurvivesWrong)

/- THE SECOND FORM. 'bulk': how many values and letters a reading holds, each counted each time it is reached (what is shared counts as often as it is met; a slice's spare places count too). A statement '..UptoSaid' is the law's where the arguments, and the package variables that the reading takes, are together of bulk at most 1048576: NARROWER than '..Said'. Prove '..Said' where nothing that the law and all that it calls make is longer than what came in: it says more and counts as full. Else prove '..UptoSaid'. A law counts once. -/
mutual
def uptoBulk {H : Type} : DataW H → Nat
  | .lit (.string bytes) => bytes.length + 1
  | .lit _ => 1
  | .nil => 1
  | .ptr d => uptoBulk d + 1
  | .slice elems spare => uptoBulkAll elems + uptoBulkAll spare + 1
  | .agg parts => uptoBulkAll parts + 1
  | .iface _ d => uptoBulk d + 1
  | .map entries => uptoBulkEntries entries + 1
  | .held _ => 1
def uptoBulkAll {H : Type} : List (DataW H) → Nat
  | [] => 0
  | d :: r => uptoBulk d + uptoBulkAll r
def uptoBulkEntries {H : Type} : List (Lit × DataW H) → Nat
  | [] => 0
  | x :: r => uptoBulkEntry x + uptoBulkEntries r
def uptoBulkEntry {H : Type} : Lit × DataW H → Nat
  | (.string bytes, d) => bytes.length + uptoBulk d + 1
  | (_, d) => uptoBulk d + 1
 end
def uptoSmall : (H : Type) → List (DataW H) → Bool := fun _ ds => decide (uptoBulkAll ds ≤ 1048576)
def OpenSpec.upto (s : _root_.Go.ChangeSpec) : _root_.Go.OpenSpec := { _root_.Go.OpenSpec.ofChange s with cond := some uptoSmall }

/-- 'flyoverlaw18.StoreCompacts', WHERE WHAT IT READS IS OF BULK AT MOST 1048576: true; the input reads as it did. -/
def storeCompactsUptoRow : OpenClaim := { program := "ytmlmjchifelpkaadoor", sum := "73b70d26b4fae395d1a9fbac90a7015504246d3a7cf2368b147322bd8be892f5", func := "flyover/flyoverlaw18.StoreCompacts", spec := "storeCompacts", inPlace := ["slices.overlaps[string]"], unfollowed := true, recurses := true, named := ["flyover/code.quarters"], apart := false, laid := [("flyover/code.quarters", laid_flyover_code_quarters)], narrowed := true }
def StoreCompactsUptoSaid : Prop := storeCompactsUptoRow.holds Tryd.pinned (OpenSpec.upto storeCompactsSpec)

/-- 'flyoverlaw18.StoreSame', WHERE WHAT IT READS IS OF BULK AT MOST 1048576: true; the input reads as it did. -/
def storeSameUptoRow : OpenClaim := { program := "ytmlmjchifelpkaadoor", sum := "73b70d26b4fae395d1a9fbac90a7015504246d3a7cf2368b147322bd8be892f5", func := "flyover/flyoverlaw18.StoreSame", spec := "storeSame", inPlace := ["slices.overlaps[string]"], unfollowed := true, recurses := true, named := ["flyover/code.quarters"], apart := false, laid := [("flyover/code.quarters", laid_flyover_code_quarters)], narrowed := true }
def StoreSameUptoSaid : Prop := storeSameUptoRow.holds Tryd.pinned (OpenSpec.upto storeSameSpec)

/-- 'flyoverlaw18.StoreSurvives', WHERE WHAT IT READS IS OF BULK AT MOST 1048576: true; the input reads as it did. -/
def storeSurvivesUptoRow : OpenClaim := { program := "ytmlmjchifelpkaadoor", sum := "73b70d26b4fae395d1a9fbac90a7015504246d3a7cf2368b147322bd8be892f5", func := "flyover/flyoverlaw18.StoreSurvives", spec := "storeSurvives", inPlace := ["slices.overlaps[string]"], unfollowed := true, recurses := true, named := ["flyover/code.quarters"], apart := false, laid := [("flyover/code.quarters", laid_flyover_code_quarters)], narrowed := true }
def StoreSurvivesUptoSaid : Prop := storeSurvivesUptoRow.holds Tryd.pinned (OpenSpec.upto storeSurvivesSpec)

end Rows
end Go.Proofs.YtmlmjchifelpkaaDoor
