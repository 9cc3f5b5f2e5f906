/-
  DERIVED. GIVEN WITH THE SEED: THE CARDS: each row of YthbekoofiienjaaDoorRows.lean that lists a variable, with what it lists TIED to the program's text (the seventh form; the later family's looks); each row that meets fmt, with fmt's text TOLD by the authors' own Lean function (tested against real Go, not proved from fmt's source: count such statements apart). THE CARD IS WHAT COUNTS. Prove the row's statement (the work); the ties are given (YthbekoofiienjaaDoorTie.lean); close each card by the builder's one call (the guide's Derived/Test/ToyasCard.lean, 'card_holds'). Laid BY PROGRAM, IN A SANDBOX (cutbox-door.mjs). By AI agents, Wed Nov 11 2026. No macro, syntax, notation, axiom, sorry.
-/
import Derived.Test.YthbekoofiienjaaDoorRows
import GoSem.ClaimSeven
namespace Go.Proofs.YthbekoofiienjaaDoor
namespace Rows

/-- THE TIED CARD OF 'wishbooklaw09.ClaimTruths'. -/
def claimTruthsCard : Claim7 := { stood := { row := claimTruthsRow, standIns := [], harness := (true, "40f3040427be0c04aec3da7b6c5351f9e8b48b4d873cea388ad5d327d937ef06"), looks := false }, kinds := [], alts := [], laidByText := true, laidKinds := [.funcs], laidTests := true, laidLooks := .later }
def ClaimTruthsCardSaid : Prop := Claim7.holds Tryd.pinned (.plain (OpenSpec.ofChange claimTruthsSpec)) claimTruthsCard

/-- THE TIED CARD OF 'wishbooklaw09.ClaimBoxes'. -/
def claimBoxesCard : Claim7 := { stood := { row := claimBoxesRow, standIns := [], harness := (true, "40f3040427be0c04aec3da7b6c5351f9e8b48b4d873cea388ad5d327d937ef06"), looks := false }, kinds := [], alts := [], laidByText := true, laidKinds := [.funcs], laidTests := true, laidLooks := .later }
def ClaimBoxesCardSaid : Prop := Claim7.holds Tryd.pinned (.plain (OpenSpec.ofChange claimBoxesSpec)) claimBoxesCard

/-- THE TIED CARD OF 'wishbooklaw09.ClaimBacks'. -/
def claimBacksCard : Claim7 := { stood := { row := claimBacksRow, standIns := [], harness := (true, "40f3040427be0c04aec3da7b6c5351f9e8b48b4d873cea388ad5d327d937ef06"), looks := false }, kinds := [], alts := [], laidByText := true, laidKinds := [.funcs], laidTests := true, laidLooks := .later }
def ClaimBacksCardSaid : Prop := Claim7.holds Tryd.pinned (.plain (OpenSpec.ofChange claimBacksSpec)) claimBacksCard

/-- THE TIED CARD OF 'wishbooklaw09.ClaimWrongs'. -/
def claimWrongsCard : Claim7 := { stood := { row := claimWrongsRow, standIns := [], harness := (true, "40f3040427be0c04aec3da7b6c5351f9e8b48b4d873cea388ad5d327d937ef06"), looks := false }, kinds := [], alts := [], laidByText := true, laidKinds := [.funcs], laidTests := true, laidLooks := .later }
def ClaimWrongsCardSaid : Prop := Claim7.holds Tryd.pinned (.plain (OpenSpec.ofChange claimWrongsSpec)) claimWrongsCard

/-- THE TIED CARD OF 'wishbooklaw09.ClaimTrue'. -/
def claimTrueCard : Claim7 := { stood := { row := claimTrueRow, standIns := [], harness := (true, "40f3040427be0c04aec3da7b6c5351f9e8b48b4d873cea388ad5d327d937ef06"), looks := false }, kinds := [], alts := [], laidByText := true, laidKinds := [.funcs], laidTests := true, laidLooks := .later }
def ClaimTrueCardSaid : Prop := Claim7.holds Tryd.pinned (.plain (OpenSpec.ofChange claimTrueSpec)) claimTrueCard

/-- THE TIED CARD OF 'wishbooklaw09.ClaimEach'. -/
def claimEachCard : Claim7 := { stood := { row := claimEachRow, standIns := [], harness := (true, "40f3040427be0c04aec3da7b6c5351f9e8b48b4d873cea388ad5d327d937ef06"), looks := false }, kinds := [], alts := [], laidByText := true, laidKinds := [.funcs], laidTests := true, laidLooks := .later }
def ClaimEachCardSaid : Prop := Claim7.holds Tryd.pinned (.plain (OpenSpec.ofChange claimEachSpec)) claimEachCard

/-- THE TIED CARD OF 'wishbooklaw09.ClaimCould'. -/
def claimCouldCard : Claim7 := { stood := { row := claimCouldRow, standIns := [], harness := (true, "40f3040427be0c04aec3da7b6c5351f9e8b48b4d873cea388ad5d327d937ef06"), looks := false }, kinds := [], alts := [], laidByText := true, laidKinds := [.funcs], laidTests := true, laidLooks := .later }
def ClaimCouldCardSaid : Prop := Claim7.holds Tryd.pinned (.plain (OpenSpec.ofChange claimCouldSpec)) claimCouldCard

/-- THE TIED CARD OF 'wishbooklaw09.ClaimFalse'. -/
def claimFalseCard : Claim7 := { stood := { row := claimFalseRow, standIns := [], harness := (true, "40f3040427be0c04aec3da7b6c5351f9e8b48b4d873cea388ad5d327d937ef06"), looks := false }, kinds := [], alts := [], laidByText := true, laidKinds := [.funcs], laidTests := true, laidLooks := .later }
def ClaimFalseCardSaid : Prop := Claim7.holds Tryd.pinned (.plain (OpenSpec.ofChange claimFalseSpec)) claimFalseCard

/-- THE TIED CARD OF 'wishbooklaw09.ClaimMore'. -/
def claimMoreCard : Claim7 := { stood := { row := claimMoreRow, standIns := [], harness := (true, "40f3040427be0c04aec3da7b6c5351f9e8b48b4d873cea388ad5d327d937ef06"), looks := false }, kinds := [], alts := [], laidByText := true, laidKinds := [.funcs], laidTests := true, laidLooks := .later }
def ClaimMoreCardSaid : Prop := Claim7.holds Tryd.pinned (.plain (OpenSpec.ofChange claimMoreSpec)) claimMoreCard

/-- THE TIED CARD OF 'wishbooklaw09.ClaimKnown'. -/
def claimKnownCard : Claim7 := { stood := { row := claimKnownRow, standIns := [], harness := (true, "40f3040427be0c04aec3da7b6c5351f9e8b48b4d873cea388ad5d327d937ef06"), looks := false }, kinds := [], alts := [], laidByText := true, laidKinds := [.funcs], laidTests := true, laidLooks := .later }
def ClaimKnownCardSaid : Prop := Claim7.holds Tryd.pinned (.plain (OpenSpec.ofChange claimKnownSpec)) claimKnownCard

/-- THE SECOND FORM's CARD OF 'wishbooklaw09.ClaimTruths'. -/
def claimTruthsUptoCard : Claim7 := { stood := { row := claimTruthsUptoRow, standIns := [], harness := (true, "40f3040427be0c04aec3da7b6c5351f9e8b48b4d873cea388ad5d327d937ef06"), looks := false }, kinds := [], alts := [], laidByText := true, laidKinds := [.funcs], laidTests := true, laidLooks := .later }
def ClaimTruthsUptoCardSaid : Prop := Claim7.holds Tryd.pinned (.plain (OpenSpec.upto claimTruthsSpec)) claimTruthsUptoCard

/-- THE SECOND FORM's CARD OF 'wishbooklaw09.ClaimBoxes'. -/
def claimBoxesUptoCard : Claim7 := { stood := { row := claimBoxesUptoRow, standIns := [], harness := (true, "40f3040427be0c04aec3da7b6c5351f9e8b48b4d873cea388ad5d327d937ef06"), looks := false }, kinds := [], alts := [], laidByText := true, laidKinds := [.funcs], laidTests := true, laidLooks := .later }
def ClaimBoxesUptoCardSaid : Prop := Claim7.holds Tryd.pinned (.plain (OpenSpec.upto claimBoxesSpec)) claimBoxesUptoCard

/-- THE SECOND FORM's CARD OF 'wishbooklaw09.ClaimBacks'. -/
def claimBacksUptoCard : Claim7 := { stood := { row := claimBacksUptoRow, standIns := [], harness := (true, "40f3040427be0c04aec3da7b6c5351f9e8b48b4d873cea388ad5d327d937ef06"), looks := false }, kinds := [], alts := [], laidByText := true, laidKinds := [.funcs], laidTests := true, laidLooks := .later }
def ClaimBacksUptoCardSaid : Prop := Claim7.holds Tryd.pinned (.plain (OpenSpec.upto claimBacksSpec)) claimBacksUptoCard

/-- THE SECOND FORM's CARD OF 'wishbooklaw09.ClaimWrongs'. -/
def claimWrongsUptoCard : Claim7 := { stood := { row := claimWrongsUptoRow, standIns := [], harness := (true, "40f3040427be0c04aec3da7b6c5351f9e8b48b4d873cea388ad5d327d937ef06"), looks := false }, kinds := [], alts := [], laidByText := true, laidKinds := [.funcs], laidTests := true, laidLooks := .later }
def ClaimWrongsUptoCardSaid : Prop := Claim7.holds Tryd.pinned (.plain (OpenSpec.upto claimWrongsSpec)) claimWrongsUptoCard

/-- THE SECOND FORM's CARD OF 'wishbooklaw09.ClaimTrue'. -/
def claimTrueUptoCard : Claim7 := { stood := { row := claimTrueUptoRow, standIns := [], harness := (true, "40f3040427be0c04aec3da7b6c5351f9e8b48b4d873cea388ad5d327d937ef06"), looks := false }, kinds := [], alts := [], laidByText := true, laidKinds := [.funcs], laidTests := true, laidLooks := .later }
def ClaimTrueUptoCardSaid : Prop := Claim7.holds Tryd.pinned (.plain (OpenSpec.upto claimTrueSpec)) claimTrueUptoCard

/-- THE SECOND FORM's CARD OF 'wishbooklaw09.ClaimEach'. -/
def claimEachUptoCard : Claim7 := { stood := { row := claimEachUptoRow, standIns := [], harness := (true, "40f3040427be0c04aec3da7b6c5351f9e8b48b4d873cea388ad5d327d937ef06"), looks := false }, kinds := [], alts := [], laidByText := true, laidKinds := [.funcs], laidTests := true, laidLooks := .later }
def ClaimEachUptoCardSaid : Prop := Claim7.holds Tryd.pinned (.plain (OpenSpec.upto claimEachSpec)) claimEachUptoCard

/-- THE SECOND FORM's CARD OF 'wishbooklaw09.ClaimCould'. -/
def claimCouldUptoCard : Claim7 := { stood := { row := claimCouldUptoRow, standIns := [], harness := (true, "40f3040427be0c04aec3da7b6c5351f9e8b48b4d873cea388ad5d327d937ef06"), looks := false }, kinds := [], alts := [], laidByText := true, laidKinds := [.funcs], laidTests := true, laidLooks := .later }
def ClaimCouldUptoCardSaid : Prop := Claim7.holds Tryd.pinned (.plain (OpenSpec.upto claimCouldSpec)) claimCouldUptoCard

/-- THE SECOND FORM's CARD OF 'wishbooklaw09.ClaimFalse'. -/
def claimFalseUptoCard : Claim7 := { stood := { row := claimFalseUptoRow, standIns := [], harness := (true, "40f3040427be0c04aec3da7b6c5351f9e8b48b4d873cea388ad5d327d937ef06"), looks := false }, kinds := [], alts := [], laidByText := true, laidKinds := [.funcs], laidTests := true, laidLooks := .later }
def ClaimFalseUptoCardSaid : Prop := Claim7.holds Tryd.pinned (.plain (OpenSpec.upto claimFalseSpec)) claimFalseUptoCard

/-- THE SECOND FORM's CARD OF 'wishbooklaw09.ClaimMore'. -/
def claimMoreUptoCard : Claim7 := { stood := { row := claimMoreUptoRow, standIns := [], harness := (true, "40f3040427be0c04aec3da7b6c5351f9e8b48b4d873cea388ad5d327d937ef06"), looks := false }, kinds := [], alts := [], laidByText := true, laidKinds := [.funcs], laidTests := true, laidLooks := .later }
def ClaimMoreUptoCardSaid : Prop := Claim7.holds Tryd.pinned (.plain (OpenSpec.upto claimMoreSpec)) claimMoreUptoCard

/-- THE SECOND FORM's CARD OF 'wishbooklaw09.ClaimKnown'. -/
def claimKnownUptoCard : Claim7 := { stood := { row := claimKnownUptoRow, standIns := [], harness := (true, "40f3040427be0c04aec3da7b6c5351f9e8b48b4d873cea388ad5d327d937ef06"), looks := false }, kinds := [], alts := [], laidByText := true, laidKinds := [.funcs], laidTests := true, laidLooks := .later }
def ClaimKnownUptoCardSaid : Prop := Claim7.holds Tryd.pinned (.plain (OpenSpec.upto claimKnownSpec)) claimKnownUptoCard
end Rows
end Go.Proofs.YthbekoofiienjaaDoor
