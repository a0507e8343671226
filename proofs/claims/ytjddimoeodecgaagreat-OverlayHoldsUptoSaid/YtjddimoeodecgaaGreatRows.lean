/-
  No cell of these rows narrows 'for every input' (looked for: loops, veiled, ifaces, maps, wideKeys, modest, calm, conditions, laid).
  DERIVED. THE GIVEN ROWS OF THIS SEAT. 9 by the template 'for every input the law returns true; each argument reads behind the call as it read before'; 0 by the template 'total and deterministic' (their statements: YtjddimoeodecgaaGreatTotals.lean).
  GIVEN WITH THE SEED: the statements are not yours to turn. If you find one false, say at which input.
  Laid BY PROGRAM, IN A SANDBOX (cutbox-rows.mjs): the forced cells as the released guide's own fill.sh prints them over the translation 1336525be01268b5… (all of the seat's roots in one cut). By AI agents, Wed Nov 11 2026. No macro, syntax, notation, axiom, sorry.
-/
import Derived.Test.YtjddimoeodecgaaGreatChecked
import GoSem.Claim
import GoSem.ClaimJoined
import GoSem.ClaimMapViews
import Derived.JoinedTies
import Derived.KernelRfl
namespace Go.Proofs.YtjddimoeodecgaaGreat
/- THE CELL 'sum', in the pinned program and in every row, IS THE sha256 OF THE DUMP (.gsa) THAT YtjddimoeodecgaaGreatProg.lean LOADS. Nothing in Lean hashes anything: it is a label: what it is worth is what the hold of that sum in a sandbox is worth. -/
noncomputable def Tryz.pinned : Pinned := { name := "ytjddimoeodecgaagreat", sum := "1336525be01268b56e51acdfc723e9d48d0a5e5ecf82f70f91777b1b1cd5c3d6", checked := Tryz.checked }
namespace Rows
def none {H : Type} : Left H := { results := [], args := [] }

/-- 'flyoverlaw13.CliqueHeavier': WHATEVER THE INPUT: true; the input reads as it did. -/
def cliqueHeavierSpec : ChangeSpec := { name := "cliqueHeavier", fn := fun _ => fun
  | [d1, d2, d3] => { results := [.lit (.bool true)], args := [d1, d2, d3] }
  | _ => none }
def cliqueHeavierRow : OpenClaim := { program := "ytjddimoeodecgaagreat", sum := "1336525be01268b56e51acdfc723e9d48d0a5e5ecf82f70f91777b1b1cd5c3d6", func := "flyover/flyoverlaw13.CliqueHeavier", spec := "cliqueHeavier", inPlace := ["math/bits.Add64"], unfollowed := true, recurses := true, apart := false }
def CliqueHeavierSaid : Prop := cliqueHeavierRow.holds Tryz.pinned (OpenSpec.ofChange cliqueHeavierSpec)

/-- ITS FALSE NEIGHBOUR: 'it returns false'. Refute it at one input. -/
def cliqueHeavierWrong : ChangeSpec := { name := "cliqueHeavier", fn := fun _ => fun
  | [d1, d2, d3] => { results := [.lit (.bool false)], args := [d1, d2, d3] }
  | _ => none }
def CliqueHeavierWrongFalsely : Prop := cliqueHeavierRow.holds Tryz.pinned (OpenSpec.ofChange cliqueHeavierWrong)

/-- 'flyoverlaw13.CliqueWeighs': WHATEVER THE INPUT: true; the input reads as it did. -/
def cliqueWeighsSpec : ChangeSpec := { name := "cliqueWeighs", fn := fun _ => fun
  | [d1, d2] => { results := [.lit (.bool true)], args := [d1, d2] }
  | _ => none }
def cliqueWeighsRow : OpenClaim := { program := "ytjddimoeodecgaagreat", sum := "1336525be01268b56e51acdfc723e9d48d0a5e5ecf82f70f91777b1b1cd5c3d6", func := "flyover/flyoverlaw13.CliqueWeighs", spec := "cliqueWeighs", inPlace := ["math/bits.Add64"], unfollowed := true, recurses := true, apart := false }
def CliqueWeighsSaid : Prop := cliqueWeighsRow.holds Tryz.pinned (OpenSpec.ofChange cliqueWeighsSpec)

/-- ITS FALSE NEIGHBOUR: 'it returns false'. Refute it at one input. -/
def cliqueWeighsWrong : ChangeSpec := { name := "cliqueWeighs", fn := fun _ => fun
  | [d1, d2] => { results := [.lit (.bool false)], args := [d1, d2] }
  | _ => none }
def CliqueWeighsWrongFalsely : Prop := cliqueWeighsRow.holds Tryz.pinned (OpenSpec.ofChange cliqueWeighsWrong)

/-- 'flyoverlaw13.CliqueMetric': WHATEVER THE INPUT: true; the input reads as it did. -/
def cliqueMetricSpec : ChangeSpec := { name := "cliqueMetric", fn := fun _ => fun
  | [d1, d2, d3] => { results := [.lit (.bool true)], args := [d1, d2, d3] }
  | _ => none }
def cliqueMetricRow : OpenClaim := { program := "ytjddimoeodecgaagreat", sum := "1336525be01268b56e51acdfc723e9d48d0a5e5ecf82f70f91777b1b1cd5c3d6", func := "flyover/flyoverlaw13.CliqueMetric", spec := "cliqueMetric", inPlace := ["math/bits.Add64"], unfollowed := true, recurses := true, apart := false }
def CliqueMetricSaid : Prop := cliqueMetricRow.holds Tryz.pinned (OpenSpec.ofChange cliqueMetricSpec)

/-- ITS FALSE NEIGHBOUR: 'it returns false'. Refute it at one input. -/
def cliqueMetricWrong : ChangeSpec := { name := "cliqueMetric", fn := fun _ => fun
  | [d1, d2, d3] => { results := [.lit (.bool false)], args := [d1, d2, d3] }
  | _ => none }
def CliqueMetricWrongFalsely : Prop := cliqueMetricRow.holds Tryz.pinned (OpenSpec.ofChange cliqueMetricWrong)

/-- 'flyoverlaw13.CliqueRises': WHATEVER THE INPUT: true; the input reads as it did. -/
def cliqueRisesSpec : ChangeSpec := { name := "cliqueRises", fn := fun _ => fun
  | [d1, d2] => { results := [.lit (.bool true)], args := [d1, d2] }
  | _ => none }
def cliqueRisesRow : OpenClaim := { program := "ytjddimoeodecgaagreat", sum := "1336525be01268b56e51acdfc723e9d48d0a5e5ecf82f70f91777b1b1cd5c3d6", func := "flyover/flyoverlaw13.CliqueRises", spec := "cliqueRises", inPlace := ["math/bits.Add64"], unfollowed := true, recurses := true, apart := false }
def CliqueRisesSaid : Prop := cliqueRisesRow.holds Tryz.pinned (OpenSpec.ofChange cliqueRisesSpec)

/-- ITS FALSE NEIGHBOUR: 'it returns false'. Refute it at one input. -/
def cliqueRisesWrong : ChangeSpec := { name := "cliqueRises", fn := fun _ => fun
  | [d1, d2] => { results := [.lit (.bool false)], args := [d1, d2] }
  | _ => none }
def CliqueRisesWrongFalsely : Prop := cliqueRisesRow.holds Tryz.pinned (OpenSpec.ofChange cliqueRisesWrong)

/-- 'flyoverlaw14.OverlayAlls': WHATEVER THE INPUT: true; the input reads as it did. -/
def overlayAllsSpec : ChangeSpec := { name := "overlayAlls", fn := fun _ => fun
  | [d1, d2, d3] => { results := [.lit (.bool true)], args := [d1, d2, d3] }
  | _ => none }
def overlayAllsRow : OpenClaim := { program := "ytjddimoeodecgaagreat", sum := "1336525be01268b56e51acdfc723e9d48d0a5e5ecf82f70f91777b1b1cd5c3d6", func := "flyover/flyoverlaw14.OverlayAlls", spec := "overlayAlls", inPlace := ["math/bits.Add64"], unfollowed := true, recurses := true, apart := false }
def OverlayAllsSaid : Prop := overlayAllsRow.holds Tryz.pinned (OpenSpec.ofChange overlayAllsSpec)

/-- ITS FALSE NEIGHBOUR: 'it returns false'. Refute it at one input. -/
def overlayAllsWrong : ChangeSpec := { name := "overlayAlls", fn := fun _ => fun
  | [d1, d2, d3] => { results := [.lit (.bool false)], args := [d1, d2, d3] }
  | _ => none }
def OverlayAllsWrongFalsely : Prop := overlayAllsRow.holds Tryz.pinned (OpenSpec.ofChange overlayAllsWrong)

/-- 'flyoverlaw14.OverlayStays': WHATEVER THE INPUT: true; the input reads as it did. -/
def overlayStaysSpec : ChangeSpec := { name := "overlayStays", fn := fun _ => fun
  | [d1, d2, d3] => { results := [.lit (.bool true)], args := [d1, d2, d3] }
  | _ => none }
def overlayStaysRow : OpenClaim := { program := "ytjddimoeodecgaagreat", sum := "1336525be01268b56e51acdfc723e9d48d0a5e5ecf82f70f91777b1b1cd5c3d6", func := "flyover/flyoverlaw14.OverlayStays", spec := "overlayStays", inPlace := ["math/bits.Add64"], unfollowed := true, recurses := true, apart := false }
def OverlayStaysSaid : Prop := overlayStaysRow.holds Tryz.pinned (OpenSpec.ofChange overlayStaysSpec)

/-- ITS FALSE NEIGHBOUR: 'it returns false'. Refute it at one input. -/
def overlayStaysWrong : ChangeSpec := { name := "overlayStays", fn := fun _ => fun
  | [d1, d2, d3] => { results := [.lit (.bool false)], args := [d1, d2, d3] }
  | _ => none }
def OverlayStaysWrongFalsely : Prop := overlayStaysRow.holds Tryz.pinned (OpenSpec.ofChange overlayStaysWrong)

/-- 'flyoverlaw14.OverlayTwice': WHATEVER THE INPUT: true; the input reads as it did. -/
def overlayTwiceSpec : ChangeSpec := { name := "overlayTwice", fn := fun _ => fun
  | [d1, d2, d3] => { results := [.lit (.bool true)], args := [d1, d2, d3] }
  | _ => none }
def overlayTwiceRow : OpenClaim := { program := "ytjddimoeodecgaagreat", sum := "1336525be01268b56e51acdfc723e9d48d0a5e5ecf82f70f91777b1b1cd5c3d6", func := "flyover/flyoverlaw14.OverlayTwice", spec := "overlayTwice", inPlace := ["math/bits.Add64"], unfollowed := true, recurses := true, apart := false }
def OverlayTwiceSaid : Prop := overlayTwiceRow.holds Tryz.pinned (OpenSpec.ofChange overlayTwiceSpec)

/-- ITS FALSE NEIGHBOUR: 'it returns false'. Refute it at one input. -/
def overlayTwiceWrong : ChangeSpec := { name := "overlayTwice", fn := fun _ => fun
  | [d1, d2, d3] => { results := [.lit (.bool false)], args := [d1, d2, d3] }
  | _ => none }
def OverlayTwiceWrongFalsely : Prop := overlayTwiceRow.holds Tryz.pinned (OpenSpec.ofChange overlayTwiceWrong)

/-- 'flyoverlaw14.OverlayHolds': WHATEVER THE INPUT: true; the input reads as it did. -/
def overlayHoldsSpec : ChangeSpec := { name := "overlayHolds", fn := fun _ => fun
  | [d1, d2, d3] => { results := [.lit (.bool true)], args := [d1, d2, d3] }
  | _ => none }
def overlayHoldsRow : OpenClaim := { program := "ytjddimoeodecgaagreat", sum := "1336525be01268b56e51acdfc723e9d48d0a5e5ecf82f70f91777b1b1cd5c3d6", func := "flyover/flyoverlaw14.OverlayHolds", spec := "overlayHolds", inPlace := ["math/bits.Add64"], unfollowed := true, recurses := true, apart := false }
def OverlayHoldsSaid : Prop := overlayHoldsRow.holds Tryz.pinned (OpenSpec.ofChange overlayHoldsSpec)

/-- ITS FALSE NEIGHBOUR: 'it returns false'. Refute it at one input. -/
def overlayHoldsWrong : ChangeSpec := { name := "overlayHolds", fn := fun _ => fun
  | [d1, d2, d3] => { results := [.lit (.bool false)], args := [d1, d2, d3] }
  | _ => none }
def OverlayHoldsWrongFalsely : Prop := overlayHoldsRow.holds Tryz.pinned (OpenSpec.ofChange overlayHoldsWrong)

/-- 'flyoverlaw14.OverlayOuter': WHATEVER THE INPUT: true; the input reads as it did. -/
def overlayOuterSpec : ChangeSpec := { name := "overlayOuter", fn := fun _ => fun
  | [d1, d2, d3] => { results := [.lit (.bool true)], args := [d1, d2, d3] }
  | _ => none }
def overlayOuterRow : OpenClaim := { program := "ytjddimoeodecgaagreat", sum := "1336525be01268b56e51acdfc723e9d48d0a5e5ecf82f70f91777b1b1cd5c3d6", func := "flyover/flyoverlaw14.OverlayOuter", spec := "overlayOuter", inPlace := ["math/bits.Add64"], unfollowed := true, recurses := true, apart := false }
def OverlayOuterSaid : Prop := overlayOuterRow.holds Tryz.pinned (OpenSpec.ofChange overlayOuterSpec)

/-- ITS FALSE NEIGHBOUR: 'it returns false'. Refute it at one input. -/
def overlayOuterWrong : ChangeSpec := { name := "overlayOuter", fn := fun _ => fun
  | [d1, d2, d3] => { results := [.lit (.bool false)], args := [d1, d2, d3] }
  | _ => none }
def OverlayOuterWrongFalsely : Prop := overlayOuterRow.holds Tryz.pinned (OpenSpec.ofChange overlayOuterWrong)

/- THE SECOND FORM. 'bulk': how many values and letters a reading holds, each counted each time it is reached (what is shared counts as often as it is met; a slice's spare places count too). A statement '..UptoSaid' is the law's where the arguments, and the package variables that the reading takes, are together of bulk at most 1048576: NARROWER than '..Said'. Prove '..Said' where nothing that the law and all that it calls make is longer than what came in: it says more and counts as full. Else prove '..UptoSaid'. A law counts once. -/
mutual
def uptoBulk {H : Type} : DataW H → Nat
  | .lit (.string bytes) => bytes.length + 1
  | .lit _ => 1
  | .nil => 1
  | .ptr d => uptoBulk d + 1
  | .slice elems spare => uptoBulkAll elems + uptoBulkAll spare + 1
  | .agg parts => uptoBulkAll parts + 1
  | .iface _ d => uptoBulk d + 1
  | .map entries => uptoBulkEntries entries + 1
  | .held _ => 1
def uptoBulkAll {H : Type} : List (DataW H) → Nat
  | [] => 0
  | d :: r => uptoBulk d + uptoBulkAll r
def uptoBulkEntries {H : Type} : List (Lit × DataW H) → Nat
  | [] => 0
  | x :: r => uptoBulkEntry x + uptoBulkEntries r
def uptoBulkEntry {H : Type} : Lit × DataW H → Nat
  | (.string bytes, d) => bytes.length + uptoBulk d + 1
  | (_, d) => uptoBulk d + 1
 end
def uptoSmall : (H : Type) → List (DataW H) → Bool := fun _ ds => decide (uptoBulkAll ds ≤ 1048576)
def OpenSpec.upto (s : _root_.Go.ChangeSpec) : _root_.Go.OpenSpec := { _root_.Go.OpenSpec.ofChange s with cond := some uptoSmall }

/-- 'flyoverlaw13.CliqueHeavier', WHERE WHAT IT READS IS OF BULK AT MOST 1048576: true; the input reads as it did. -/
def cliqueHeavierUptoRow : OpenClaim := { program := "ytjddimoeodecgaagreat", sum := "1336525be01268b56e51acdfc723e9d48d0a5e5ecf82f70f91777b1b1cd5c3d6", func := "flyover/flyoverlaw13.CliqueHeavier", spec := "cliqueHeavier", inPlace := ["math/bits.Add64"], unfollowed := true, recurses := true, apart := false, narrowed := true }
def CliqueHeavierUptoSaid : Prop := cliqueHeavierUptoRow.holds Tryz.pinned (OpenSpec.upto cliqueHeavierSpec)

/-- 'flyoverlaw13.CliqueWeighs', WHERE WHAT IT READS IS OF BULK AT MOST 1048576: true; the input reads as it did. -/
def cliqueWeighsUptoRow : OpenClaim := { program := "ytjddimoeodecgaagreat", sum := "1336525be01268b56e51acdfc723e9d48d0a5e5ecf82f70f91777b1b1cd5c3d6", func := "flyover/flyoverlaw13.CliqueWeighs", spec := "cliqueWeighs", inPlace := ["math/bits.Add64"], unfollowed := true, recurses := true, apart := false, narrowed := true }
def CliqueWeighsUptoSaid : Prop := cliqueWeighsUptoRow.holds Tryz.pinned (OpenSpec.upto cliqueWeighsSpec)

/-- 'flyoverlaw13.CliqueMetric', WHERE WHAT IT READS IS OF BULK AT MOST 1048576: true; the input reads as it did. -/
def cliqueMetricUptoRow : OpenClaim := { program := "ytjddimoeodecgaagreat", sum := "1336525be01268b56e51acdfc723e9d48d0a5e5ecf82f70f91777b1b1cd5c3d6", func := "flyover/flyoverlaw13.CliqueMetric", spec := "cliqueMetric", inPlace := ["math/bits.Add64"], unfollowed := true, recurses := true, apart := false, narrowed := true }
def CliqueMetricUptoSaid : Prop := cliqueMetricUptoRow.holds Tryz.pinned (OpenSpec.upto cliqueMetricSpec)

/-- 'flyoverlaw13.CliqueRises', WHERE WHAT IT READS IS OF BULK AT MOST 1048576: true; the input reads as it did. -/
def cliqueRisesUptoRow : OpenClaim := { program := "ytjddimoeodecgaagreat", sum := "1336525be01268b56e51acdfc723e9d48d0a5e5ecf82f70f91777b1b1cd5c3d6", func := "flyover/flyoverlaw13.CliqueRises", spec := "cliqueRises", inPlace := ["math/bits.Add64"], unfollowed := true, recurses := true, apart := false, narrowed := true }
def CliqueRisesUptoSaid : Prop := cliqueRisesUptoRow.holds Tryz.pinned (OpenSpec.upto cliqueRisesSpec)

/-- 'flyoverlaw14.OverlayAlls', WHERE WHAT IT READS IS OF BULK AT MOST 1048576: true; the input reads as it did. -/
def overlayAllsUptoRow : OpenClaim := { program := "ytjddimoeodecgaagreat", sum := "1336525be01268b56e51acdfc723e9d48d0a5e5ecf82f70f91777b1b1cd5c3d6", func := "flyover/flyoverlaw14.OverlayAlls", spec := "overlayAlls", inPlace := ["math/bits.Add64"], unfollowed := true, recurses := true, apart := false, narrowed := true }
def OverlayAllsUptoSaid : Prop := overlayAllsUptoRow.holds Tryz.pinned (OpenSpec.upto overlayAllsSpec)

/-- 'flyoverlaw14.OverlayStays', WHERE WHAT IT READS IS OF BULK AT MOST 1048576: true; the input reads as it did. -/
def overlayStaysUptoRow : OpenClaim := { program := "ytjddimoeodecgaagreat", sum := "1336525be01268b56e51acdfc723e9d48d0a5e5ecf82f70f91777b1b1cd5c3d6", func := "flyover/flyoverlaw14.OverlayStays", spec := "overlayStays", inPlace := ["math/bits.Add64"], unfollowed := true, recurses := true, apart := false, narrowed := true }
def OverlayStaysUptoSaid : Prop := overlayStaysUptoRow.holds Tryz.pinned (OpenSpec.upto overlayStaysSpec)

/-- 'flyoverlaw14.OverlayTwice', WHERE WHAT IT READS IS OF BULK AT MOST 1048576: true; the input reads as it did. -/
def overlayTwiceUptoRow : OpenClaim := { program := "ytjddimoeodecgaagreat", sum := "1336525be01268b56e51acdfc723e9d48d0a5e5ecf82f70f91777b1b1cd5c3d6", func := "flyover/flyoverlaw14.OverlayTwice", spec := "overlayTwice", inPlace := ["math/bits.Add64"], unfollowed := true, recurses := true, apart := false, narrowed := true }
def OverlayTwiceUptoSaid : Prop := overlayTwiceUptoRow.holds Tryz.pinned (OpenSpec.upto overlayTwiceSpec)

/-- 'flyoverlaw14.OverlayHolds', WHERE WHAT IT READS IS OF BULK AT MOST 1048576: true; the input reads as it did. -/
def overlayHoldsUptoRow : OpenClaim := { program := "ytjddimoeodecgaagreat", sum := "1336525be01268b56e51acdfc723e9d48d0a5e5ecf82f70f91777b1b1cd5c3d6", func := "flyover/flyoverlaw14.OverlayHolds", spec := "overlayHolds", inPlace := ["math/bits.Add64"], unfollowed := true, recurses := true, apart := false, narrowed := true }
def OverlayHoldsUptoSaid : Prop := overlayHoldsUptoRow.holds Tryz.pinned (OpenSpec.upto overlayHoldsSpec)

/-- 'flyoverlaw14.OverlayOuter', WHERE WHAT IT READS IS OF BULK AT MOST 1048576: true; the input reads as it did. -/
def overlayOuterUptoRow : OpenClaim := { program := "ytjddimoeodecgaagreat", sum := "1336525be01268b56e51acdfc723e9d48d0a5e5ecf82f70f91777b1b1cd5c3d6", func := "flyover/flyoverlaw14.OverlayOuter", spec := "overlayOuter", inPlace := ["math/bits.Add64"], unfollowed := true, recurses := true, apart := false, narrowed := true }
def OverlayOuterUptoSaid : Prop := overlayOuterUptoRow.holds Tryz.pinned (OpenSpec.upto overlayOuterSpec)

end Rows
end Go.Proofs.YtjddimoeodecgaaGreat
