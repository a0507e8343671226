/-
  No cell of these rows narrows 'for every input' (looked for: loops, veiled, ifaces, maps, wideKeys, modest, calm, conditions, laid).
  DERIVED. THE GIVEN ROWS OF THIS SEAT. 3 by the template 'for every input the law returns true; each argument reads behind the call as it read before'; 0 by the template 'total and deterministic' (their statements: YtmlmjchifelpkaaTotals.lean).
  GIVEN WITH THE SEED: the statements are not yours to turn. If you find one false, say at which input.
  Laid BY PROGRAM, IN A SANDBOX (cutbox-rows.mjs): the forced cells as the released guide's own fill.sh prints them over the translation 5615a6e40f0d6901… (all of the seat's roots in one cut). By AI agents, Wed Nov 11 2026. No macro, syntax, notation, axiom, sorry.
-/
import Derived.Test.YtmlmjchifelpkaaChecked
import GoSem.Claim
import GoSem.ClaimJoined
import GoSem.ClaimMapViews
import Derived.JoinedTies
import Derived.KernelRfl
namespace Go.Proofs.Ytmlmjchifelpkaa
/- THE CELL 'sum', in the pinned program and in every row, IS THE sha256 OF THE DUMP (.gsa) THAT YtmlmjchifelpkaaProg.lean LOADS. Nothing in Lean hashes anything: it is a label: what it is worth is what the hold of that sum in a sandbox is worth. -/
noncomputable def Try.pinned : Pinned := { name := "ytmlmjchifelpkaa", sum := "5615a6e40f0d6901580c25c4d7751fd98528dd34f74ecd41166f71b983ce3561", checked := Try.checked }
namespace Rows
def none {H : Type} : Left H := { results := [], args := [] }

/-- 'flyoverlaw17.FilesSafe': WHATEVER THE INPUT: true; the input reads as it did. -/
def filesSafeSpec : ChangeSpec := { name := "filesSafe", fn := fun _ => fun
  | [d1, d2, d3] => { results := [.lit (.bool true)], args := [d1, d2, d3] }
  | _ => none }
def filesSafeRow : OpenClaim := { program := "ytmlmjchifelpkaa", sum := "5615a6e40f0d6901580c25c4d7751fd98528dd34f74ecd41166f71b983ce3561", func := "flyover/flyoverlaw17.FilesSafe", spec := "filesSafe", unfollowed := true, recurses := true, apart := false }
def FilesSafeSaid : Prop := filesSafeRow.holds Try.pinned (OpenSpec.ofChange filesSafeSpec)

/-- ITS FALSE NEIGHBOUR: 'it returns false'. Refute it at one input. -/
def filesSafeWrong : ChangeSpec := { name := "filesSafe", fn := fun _ => fun
  | [d1, d2, d3] => { results := [.lit (.bool false)], args := [d1, d2, d3] }
  | _ => none }
def FilesSafeWrongFalsely : Prop := filesSafeRow.holds Try.pinned (OpenSpec.ofChange filesSafeWrong)

/-- 'flyoverlaw17.FilesTwice': WHATEVER THE INPUT: true; the input reads as it did. -/
def filesTwiceSpec : ChangeSpec := { name := "filesTwice", fn := fun _ => fun
  | [d1, d2, d3] => { results := [.lit (.bool true)], args := [d1, d2, d3] }
  | _ => none }
def filesTwiceRow : OpenClaim := { program := "ytmlmjchifelpkaa", sum := "5615a6e40f0d6901580c25c4d7751fd98528dd34f74ecd41166f71b983ce3561", func := "flyover/flyoverlaw17.FilesTwice", spec := "filesTwice", unfollowed := true, recurses := true, apart := false }
def FilesTwiceSaid : Prop := filesTwiceRow.holds Try.pinned (OpenSpec.ofChange filesTwiceSpec)

/-- ITS FALSE NEIGHBOUR: 'it returns false'. Refute it at one input. -/
def filesTwiceWrong : ChangeSpec := { name := "filesTwice", fn := fun _ => fun
  | [d1, d2, d3] => { results := [.lit (.bool false)], args := [d1, d2, d3] }
  | _ => none }
def FilesTwiceWrongFalsely : Prop := filesTwiceRow.holds Try.pinned (OpenSpec.ofChange filesTwiceWrong)

/-- 'flyoverlaw17.FilesSwap': WHATEVER THE INPUT: true; the input reads as it did. -/
def filesSwapSpec : ChangeSpec := { name := "filesSwap", fn := fun _ => fun
  | [d1, d2, d3] => { results := [.lit (.bool true)], args := [d1, d2, d3] }
  | _ => none }
def filesSwapRow : OpenClaim := { program := "ytmlmjchifelpkaa", sum := "5615a6e40f0d6901580c25c4d7751fd98528dd34f74ecd41166f71b983ce3561", func := "flyover/flyoverlaw17.FilesSwap", spec := "filesSwap", unfollowed := true, recurses := true, apart := false }
def FilesSwapSaid : Prop := filesSwapRow.holds Try.pinned (OpenSpec.ofChange filesSwapSpec)

/-- ITS FALSE NEIGHBOUR: 'it returns false'. Refute it at one input. -/
def filesSwapWrong : ChangeSpec := { name := "filesSwap", fn := fun _ => fun
  | [d1, d2, d3] => { results := [.lit (.bool false)], args := [d1, d2, d3] }
  | _ => none }
def FilesSwapWrongFalsely : Prop := filesSwapRow.holds Try.pinned (OpenSpec.ofChange filesSwapWrong)

/- THE SECOND FORM. 'bulk': how many values and letters a reading holds, each counted each time it is reached (what is shared counts as often as it is met; a slice's spare places count too). A statement '..UptoSaid' is the law's where the arguments, and the package variables that the reading takes, are together of bulk at most 1048576: NARROWER than '..Said'. Prove '..Said' where nothing that the law and all that it calls make is longer than what came in: it says more and counts as full. Else prove '..UptoSaid'. A law counts once. -/
mutual
def uptoBulk {H : Type} : DataW H → Nat
  | .lit (.string bytes) => bytes.length + 1
  | .lit _ => 1
  | .nil => 1
  | .ptr d => uptoBulk d + 1
  | .slice elems spare => uptoBulkAll elems + uptoBulkAll spare + 1
  | .agg parts => uptoBulkAll parts + 1
  | .iface _ d => uptoBulk d + 1
  | .map entries => uptoBulkEntries entries + 1
  | .held _ => 1
def uptoBulkAll {H : Type} : List (DataW H) → Nat
  | [] => 0
  | d :: r => uptoBulk d + uptoBulkAll r
def uptoBulkEntries {H : Type} : List (Lit × DataW H) → Nat
  | [] => 0
  | x :: r => uptoBulkEntry x + uptoBulkEntries r
def uptoBulkEntry {H : Type} : Lit × DataW H → Nat
  | (.string bytes, d) => bytes.length + uptoBulk d + 1
  | (_, d) => uptoBulk d + 1
 end
def uptoSmall : (H : Type) → List (DataW H) → Bool := fun _ ds => decide (uptoBulkAll ds ≤ 1048576)
def OpenSpec.upto (s : _root_.Go.ChangeSpec) : _root_.Go.OpenSpec := { _root_.Go.OpenSpec.ofChange s with cond := some uptoSmall }

/-- 'flyoverlaw17.FilesSafe', WHERE WHAT IT READS IS OF BULK AT MOST 1048576: true; the input reads as it did. -/
def filesSafeUptoRow : OpenClaim := { program := "ytmlmjchifelpkaa", sum := "5615a6e40f0d6901580c25c4d7751fd98528dd34f74ecd41166f71b983ce3561", func := "flyover/flyoverlaw17.FilesSafe", spec := "filesSafe", unfollowed := true, recurses := true, apart := false, narrowed := true }
def FilesSafeUptoSaid : Prop := filesSafeUptoRow.holds Try.pinned (OpenSpec.upto filesSafeSpec)

/-- 'flyoverlaw17.FilesTwice', WHERE WHAT IT READS IS OF BULK AT MOST 1048576: true; the input reads as it did. -/
def filesTwiceUptoRow : OpenClaim := { program := "ytmlmjchifelpkaa", sum := "5615a6e40f0d6901580c25c4d7751fd98528dd34f74ecd41166f71b983ce3561", func := "flyover/flyoverlaw17.FilesTwice", spec := "filesTwice", unfollowed := true, recurses := true, apart := false, narrowed := true }
def FilesTwiceUptoSaid : Prop := filesTwiceUptoRow.holds Try.pinned (OpenSpec.upto filesTwiceSpec)

/-- 'flyoverlaw17.FilesSwap', WHERE WHAT IT READS IS OF BULK AT MOST 1048576: true; the input reads as it did. -/
def filesSwapUptoRow : OpenClaim := { program := "ytmlmjchifelpkaa", sum := "5615a6e40f0d6901580c25c4d7751fd98528dd34f74ecd41166f71b983ce3561", func := "flyover/flyoverlaw17.FilesSwap", spec := "filesSwap", unfollowed := true, recurses := true, apart := false, narrowed := true }
def FilesSwapUptoSaid : Prop := filesSwapUptoRow.holds Try.pinned (OpenSpec.upto filesSwapSpec)

end Rows
end Go.Proofs.Ytmlmjchifelpkaa
