/-
  DERIVED. GIVEN WITH THE SEED: THE CARDS: each row of YtkakngnfbahhiaaDoorRows.lean that lists a variable, with what it lists TIED to the program's text (the seventh form; the later family's looks); each row that meets fmt, with fmt's text TOLD by the authors' own Lean function (tested against real Go, not proved from fmt's source: count such statements apart). THE CARD IS WHAT COUNTS. Prove the row's statement (the work); the ties are given (YtkakngnfbahhiaaDoorTie.lean); close each card by the builder's one call (the guide's Derived/Test/ToyasCard.lean, 'card_holds'). Laid BY PROGRAM, IN A SANDBOX (cutbox-door.mjs). By AI agents, Wed Nov 11 2026. No macro, syntax, notation, axiom, sorry.
-/
import Derived.Test.YtkakngnfbahhiaaDoorRows
import GoSem.ClaimSeven
namespace Go.Proofs.YtkakngnfbahhiaaDoor
namespace Rows

/-- THE TIED CARD OF 'flyoverlaw01.DistAdds'. -/
def distAddsCard : Claim7 := { stood := { row := distAddsRow, standIns := [], harness := (true, "712330de64182c1226fb550675a5d445942fe83802d9768a92e472867d1aee34"), looks := true }, kinds := [], alts := [], laidByText := true, laidKinds := [.data, .data, .data, .sentinel, .sentinel], laidTests := true, laidLooks := .later }
def DistAddsCardSaid : Prop := Claim7.holds Tryd.pinned (.plain (OpenSpec.ofChange distAddsSpec)) distAddsCard

/-- THE TIED CARD OF 'flyoverlaw01.DistTexts'. -/
def distTextsCard : Claim7 := { stood := { row := distTextsRow, standIns := [], harness := (true, "712330de64182c1226fb550675a5d445942fe83802d9768a92e472867d1aee34"), looks := true }, kinds := [], alts := [], laidByText := true, laidKinds := [.data, .data, .data, .sentinel, .sentinel], laidTests := true, laidLooks := .later }
def DistTextsCardSaid : Prop := Claim7.holds Tryd.pinned (.plain (OpenSpec.ofChange distTextsSpec)) distTextsCard

/-- THE TIED CARD OF 'flyoverlaw01.DistTimes'. -/
def distTimesCard : Claim7 := { stood := { row := distTimesRow, standIns := [], harness := (true, "712330de64182c1226fb550675a5d445942fe83802d9768a92e472867d1aee34"), looks := true }, kinds := [], alts := [], laidByText := true, laidKinds := [.data, .data, .data, .sentinel, .sentinel], laidTests := true, laidLooks := .later }
def DistTimesCardSaid : Prop := Claim7.holds Tryd.pinned (.plain (OpenSpec.ofChange distTimesSpec)) distTimesCard

/-- THE TIED CARD OF 'flyoverlaw01.DistBack'. -/
def distBackCard : Claim7 := { stood := { row := distBackRow, standIns := [], harness := (true, "712330de64182c1226fb550675a5d445942fe83802d9768a92e472867d1aee34"), looks := true }, kinds := [], alts := [], laidByText := true, laidKinds := [.data, .data, .data, .sentinel, .sentinel], laidTests := true, laidLooks := .later }
def DistBackCardSaid : Prop := Claim7.holds Tryd.pinned (.plain (OpenSpec.ofChange distBackSpec)) distBackCard

/-- THE TIED CARD OF 'flyoverlaw01.DistGroups'. -/
def distGroupsCard : Claim7 := { stood := { row := distGroupsRow, standIns := [], harness := (true, "712330de64182c1226fb550675a5d445942fe83802d9768a92e472867d1aee34"), looks := true }, kinds := [], alts := [], laidByText := true, laidKinds := [.data, .data, .data, .sentinel, .sentinel], laidTests := true, laidLooks := .later }
def DistGroupsCardSaid : Prop := Claim7.holds Tryd.pinned (.plain (OpenSpec.ofChange distGroupsSpec)) distGroupsCard

/-- THE TIED CARD OF 'flyoverlaw01.DistLists'. -/
def distListsCard : Claim7 := { stood := { row := distListsRow, standIns := [], harness := (true, "712330de64182c1226fb550675a5d445942fe83802d9768a92e472867d1aee34"), looks := true }, kinds := [], alts := [], laidByText := true, laidKinds := [.data, .data, .data, .sentinel, .sentinel], laidTests := true, laidLooks := .later }
def DistListsCardSaid : Prop := Claim7.holds Tryd.pinned (.plain (OpenSpec.ofChange distListsSpec)) distListsCard

/-- THE TIED CARD OF 'flyoverlaw01.DistJoins'. -/
def distJoinsCard : Claim7 := { stood := { row := distJoinsRow, standIns := [], harness := (true, "712330de64182c1226fb550675a5d445942fe83802d9768a92e472867d1aee34"), looks := true }, kinds := [], alts := [], laidByText := true, laidKinds := [.data, .data, .data, .sentinel, .sentinel], laidTests := true, laidLooks := .later }
def DistJoinsCardSaid : Prop := Claim7.holds Tryd.pinned (.plain (OpenSpec.ofChange distJoinsSpec)) distJoinsCard

/-- THE SECOND FORM's CARD OF 'flyoverlaw01.DistAdds'. -/
def distAddsUptoCard : Claim7 := { stood := { row := distAddsUptoRow, standIns := [], harness := (true, "712330de64182c1226fb550675a5d445942fe83802d9768a92e472867d1aee34"), looks := true }, kinds := [], alts := [], laidByText := true, laidKinds := [.data, .data, .data, .sentinel, .sentinel], laidTests := true, laidLooks := .later }
def DistAddsUptoCardSaid : Prop := Claim7.holds Tryd.pinned (.plain (OpenSpec.upto distAddsSpec)) distAddsUptoCard

/-- THE SECOND FORM's CARD OF 'flyoverlaw01.DistTexts'. -/
def distTextsUptoCard : Claim7 := { stood := { row := distTextsUptoRow, standIns := [], harness := (true, "712330de64182c1226fb550675a5d445942fe83802d9768a92e472867d1aee34"), looks := true }, kinds := [], alts := [], laidByText := true, laidKinds := [.data, .data, .data, .sentinel, .sentinel], laidTests := true, laidLooks := .later }
def DistTextsUptoCardSaid : Prop := Claim7.holds Tryd.pinned (.plain (OpenSpec.upto distTextsSpec)) distTextsUptoCard

/-- THE SECOND FORM's CARD OF 'flyoverlaw01.DistTimes'. -/
def distTimesUptoCard : Claim7 := { stood := { row := distTimesUptoRow, standIns := [], harness := (true, "712330de64182c1226fb550675a5d445942fe83802d9768a92e472867d1aee34"), looks := true }, kinds := [], alts := [], laidByText := true, laidKinds := [.data, .data, .data, .sentinel, .sentinel], laidTests := true, laidLooks := .later }
def DistTimesUptoCardSaid : Prop := Claim7.holds Tryd.pinned (.plain (OpenSpec.upto distTimesSpec)) distTimesUptoCard

/-- THE SECOND FORM's CARD OF 'flyoverlaw01.DistBack'. -/
def distBackUptoCard : Claim7 := { stood := { row := distBackUptoRow, standIns := [], harness := (true, "712330de64182c1226fb550675a5d445942fe83802d9768a92e472867d1aee34"), looks := true }, kinds := [], alts := [], laidByText := true, laidKinds := [.data, .data, .data, .sentinel, .sentinel], laidTests := true, laidLooks := .later }
def DistBackUptoCardSaid : Prop := Claim7.holds Tryd.pinned (.plain (OpenSpec.upto distBackSpec)) distBackUptoCard

/-- THE SECOND FORM's CARD OF 'flyoverlaw01.DistGroups'. -/
def distGroupsUptoCard : Claim7 := { stood := { row := distGroupsUptoRow, standIns := [], harness := (true, "712330de64182c1226fb550675a5d445942fe83802d9768a92e472867d1aee34"), looks := true }, kinds := [], alts := [], laidByText := true, laidKinds := [.data, .data, .data, .sentinel, .sentinel], laidTests := true, laidLooks := .later }
def DistGroupsUptoCardSaid : Prop := Claim7.holds Tryd.pinned (.plain (OpenSpec.upto distGroupsSpec)) distGroupsUptoCard

/-- THE SECOND FORM's CARD OF 'flyoverlaw01.DistLists'. -/
def distListsUptoCard : Claim7 := { stood := { row := distListsUptoRow, standIns := [], harness := (true, "712330de64182c1226fb550675a5d445942fe83802d9768a92e472867d1aee34"), looks := true }, kinds := [], alts := [], laidByText := true, laidKinds := [.data, .data, .data, .sentinel, .sentinel], laidTests := true, laidLooks := .later }
def DistListsUptoCardSaid : Prop := Claim7.holds Tryd.pinned (.plain (OpenSpec.upto distListsSpec)) distListsUptoCard

/-- THE SECOND FORM's CARD OF 'flyoverlaw01.DistJoins'. -/
def distJoinsUptoCard : Claim7 := { stood := { row := distJoinsUptoRow, standIns := [], harness := (true, "712330de64182c1226fb550675a5d445942fe83802d9768a92e472867d1aee34"), looks := true }, kinds := [], alts := [], laidByText := true, laidKinds := [.data, .data, .data, .sentinel, .sentinel], laidTests := true, laidLooks := .later }
def DistJoinsUptoCardSaid : Prop := Claim7.holds Tryd.pinned (.plain (OpenSpec.upto distJoinsSpec)) distJoinsUptoCard
end Rows
end Go.Proofs.YtkakngnfbahhiaaDoor
