/-
  DERIVED. GIVEN WITH THE SEED: THE CARDS: each row of YtmlmjchifelpkaaDoorRows.lean that lists a variable, with what it lists TIED to the program's text (the seventh form; the later family's looks); each row that meets fmt, with fmt's text TOLD by the authors' own Lean function (tested against real Go, not proved from fmt's source: count such statements apart). THE CARD IS WHAT COUNTS. Prove the row's statement (the work); the ties are given (YtmlmjchifelpkaaDoorTie.lean); close each card by the builder's one call (the guide's Derived/Test/ToyasCard.lean, 'card_holds'). Laid BY PROGRAM, IN A SANDBOX (cutbox-door.mjs). By AI agents, Wed Nov 11 2026. No macro, syntax, notation, axiom, sorry.
-/
import Derived.Test.YtmlmjchifelpkaaDoorRows
import GoSem.ClaimSeven
namespace Go.Proofs.YtmlmjchifelpkaaDoor
namespace Rows

/-- THE TIED CARD OF 'flyoverlaw18.StoreCompacts'. -/
def storeCompactsCard : Claim7 := { stood := { row := storeCompactsRow, standIns := [], harness := (true, "9f25abe9e95d66018898fef689f2a8a3e24dc655a9df41560626a2667d02d0bc"), looks := true }, kinds := [], alts := [], laidByText := true, laidKinds := [.data], laidTests := true, laidLooks := .later }
def StoreCompactsCardSaid : Prop := Claim7.holds Tryd.pinned (.plain (OpenSpec.ofChange storeCompactsSpec)) storeCompactsCard

/-- THE TIED CARD OF 'flyoverlaw18.StoreSame'. -/
def storeSameCard : Claim7 := { stood := { row := storeSameRow, standIns := [], harness := (true, "9f25abe9e95d66018898fef689f2a8a3e24dc655a9df41560626a2667d02d0bc"), looks := true }, kinds := [], alts := [], laidByText := true, laidKinds := [.data], laidTests := true, laidLooks := .later }
def StoreSameCardSaid : Prop := Claim7.holds Tryd.pinned (.plain (OpenSpec.ofChange storeSameSpec)) storeSameCard

/-- THE TIED CARD OF 'flyoverlaw18.StoreSurvives'. -/
def storeSurvivesCard : Claim7 := { stood := { row := storeSurvivesRow, standIns := [], harness := (true, "9f25abe9e95d66018898fef689f2a8a3e24dc655a9df41560626a2667d02d0bc"), looks := true }, kinds := [], alts := [], laidByText := true, laidKinds := [.data], laidTests := true, laidLooks := .later }
def StoreSurvivesCardSaid : Prop := Claim7.holds Tryd.pinned (.plain (OpenSpec.ofChange storeSurvivesSpec)) storeSurvivesCard

/-- THE SECOND FORM's CARD OF 'flyoverlaw18.StoreCompacts'. -/
def storeCompactsUptoCard : Claim7 := { stood := { row := storeCompactsUptoRow, standIns := [], harness := (true, "9f25abe9e95d66018898fef689f2a8a3e24dc655a9df41560626a2667d02d0bc"), looks := true }, kinds := [], alts := [], laidByText := true, laidKinds := [.data], laidTests := true, laidLooks := .later }
def StoreCompactsUptoCardSaid : Prop := Claim7.holds Tryd.pinned (.plain (OpenSpec.upto storeCompactsSpec)) storeCompactsUptoCard

/-- THE SECOND FORM's CARD OF 'flyoverlaw18.StoreSame'. -/
def storeSameUptoCard : Claim7 := { stood := { row := storeSameUptoRow, standIns := [], harness := (true, "9f25abe9e95d66018898fef689f2a8a3e24dc655a9df41560626a2667d02d0bc"), looks := true }, kinds := [], alts := [], laidByText := true, laidKinds := [.data], laidTests := true, laidLooks := .later }
def StoreSameUptoCardSaid : Prop := Claim7.holds Tryd.pinned (.plain (OpenSpec.upto storeSameSpec)) storeSameUptoCard

/-- THE SECOND FORM's CARD OF 'flyoverlaw18.StoreSurvives'. -/
def storeSurvivesUptoCard : Claim7 := { stood := { row := storeSurvivesUptoRow, standIns := [], harness := (true, "9f25abe9e95d66018898fef689f2a8a3e24dc655a9df41560626a2667d02d0bc"), looks := true }, kinds := [], alts := [], laidByText := true, laidKinds := [.data], laidTests := true, laidLooks := .later }
def StoreSurvivesUptoCardSaid : Prop := Claim7.holds Tryd.pinned (.plain (OpenSpec.upto storeSurvivesSpec)) storeSurvivesUptoCard
end Rows
end Go.Proofs.YtmlmjchifelpkaaDoor
