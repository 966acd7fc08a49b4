/-
  DERIVED. GIVEN WITH THE SEED: THE CARDS: each row of YtpjbjdheeemdiaaGreatDoorRows.lean that lists a variable, with what it lists TIED to the program's text (the seventh form; the later family's looks); each row that meets fmt, with fmt's text TOLD by the authors' own Lean function (tested against real Go, not proved from fmt's source: count such statements apart). THE CARD IS WHAT COUNTS. Prove the row's statement (the work); the ties are given (YtpjbjdheeemdiaaGreatDoorTie.lean); close each card by the builder's one call (the guide's Derived/Test/ToyasCard.lean, 'card_holds'). Laid BY PROGRAM, IN A SANDBOX (cutbox-door.mjs). By AI agents, Wed Nov 11 2026. No macro, syntax, notation, axiom, sorry.
-/
import Derived.Test.YtpjbjdheeemdiaaGreatDoorRows
import GoSem.ClaimSeven
namespace Go.Proofs.YtpjbjdheeemdiaaGreatDoor
namespace Rows

/-- THE TIED CARD OF 'spillwaylaw09.RulejsonValues'. -/
def rulejsonValuesCard : Claim7 := { stood := { row := rulejsonValuesRow, standIns := [], harness := (true, "684b2f0c203348fe2d091f1d8078034be40a0268b7000170aeda4a25036f1225"), looks := true }, kinds := [], alts := [], laidByText := true, laidKinds := [.data, .data, .data, .data, .sentinel, .sentinel, .pinned], laidTests := true, laidLooks := .later }
def RulejsonValuesCardSaid : Prop := Claim7.holds Tryz.pinned (.plain (OpenSpec.ofChange rulejsonValuesSpec)) rulejsonValuesCard

/-- THE TIED CARD OF 'spillwaylaw09.RulejsonOrder'. -/
def rulejsonOrderCard : Claim7 := { stood := { row := rulejsonOrderRow, standIns := [], harness := (true, "684b2f0c203348fe2d091f1d8078034be40a0268b7000170aeda4a25036f1225"), looks := true }, kinds := [], alts := [], laidByText := true, laidKinds := [.data, .data, .data, .data, .sentinel, .sentinel, .pinned], laidTests := true, laidLooks := .later }
def RulejsonOrderCardSaid : Prop := Claim7.holds Tryz.pinned (.plain (OpenSpec.ofChange rulejsonOrderSpec)) rulejsonOrderCard

/-- THE TIED CARD OF 'spillwaylaw09.RulejsonBack'. -/
def rulejsonBackCard : Claim7 := { stood := { row := rulejsonBackRow, standIns := [], harness := (true, "684b2f0c203348fe2d091f1d8078034be40a0268b7000170aeda4a25036f1225"), looks := true }, kinds := [], alts := [], laidByText := true, laidKinds := [.data, .data, .data, .data, .sentinel, .sentinel, .pinned], laidTests := true, laidLooks := .later }
def RulejsonBackCardSaid : Prop := Claim7.holds Tryz.pinned (.plain (OpenSpec.ofChange rulejsonBackSpec)) rulejsonBackCard

/-- THE TIED CARD OF 'spillwaylaw08.JsonReads'. -/
def jsonReadsCard : Claim7 := { stood := { row := jsonReadsRow, standIns := [], harness := (true, "684b2f0c203348fe2d091f1d8078034be40a0268b7000170aeda4a25036f1225"), looks := true }, kinds := [], alts := [], laidByText := true, laidKinds := [.data, .data, .data, .data, .sentinel, .sentinel, .pinned, .pinned], laidTests := true, laidLooks := .later }
def JsonReadsCardSaid : Prop := Claim7.holds Tryz.pinned (.plain (OpenSpec.ofChange jsonReadsSpec)) jsonReadsCard

/-- THE TIED CARD OF 'spillwaylaw08.JsonBlanks'. -/
def jsonBlanksCard : Claim7 := { stood := { row := jsonBlanksRow, standIns := [], harness := (true, "684b2f0c203348fe2d091f1d8078034be40a0268b7000170aeda4a25036f1225"), looks := true }, kinds := [], alts := [], laidByText := true, laidKinds := [.data, .data, .data, .data, .sentinel, .sentinel, .pinned, .pinned], laidTests := true, laidLooks := .later }
def JsonBlanksCardSaid : Prop := Claim7.holds Tryz.pinned (.plain (OpenSpec.ofChange jsonBlanksSpec)) jsonBlanksCard

/-- THE TIED CARD OF 'spillwaylaw08.JsonPlaces'. -/
def jsonPlacesCard : Claim7 := { stood := { row := jsonPlacesRow, standIns := [], harness := (true, "684b2f0c203348fe2d091f1d8078034be40a0268b7000170aeda4a25036f1225"), looks := true }, kinds := [], alts := [], laidByText := true, laidKinds := [.data, .data, .data, .data, .sentinel, .sentinel, .pinned, .pinned], laidTests := true, laidLooks := .later }
def JsonPlacesCardSaid : Prop := Claim7.holds Tryz.pinned (.plain (OpenSpec.ofChange jsonPlacesSpec)) jsonPlacesCard

/-- THE TIED CARD OF 'spillwaylaw08.JsonNumbers'. -/
def jsonNumbersCard : Claim7 := { stood := { row := jsonNumbersRow, standIns := [], harness := (true, "684b2f0c203348fe2d091f1d8078034be40a0268b7000170aeda4a25036f1225"), looks := true }, kinds := [], alts := [], laidByText := true, laidKinds := [.data, .data, .data, .data, .sentinel, .sentinel, .pinned, .pinned], laidTests := true, laidLooks := .later }
def JsonNumbersCardSaid : Prop := Claim7.holds Tryz.pinned (.plain (OpenSpec.ofChange jsonNumbersSpec)) jsonNumbersCard

/-- THE TIED CARD OF 'spillwaylaw08.JsonWrites'. -/
def jsonWritesCard : Claim7 := { stood := { row := jsonWritesRow, standIns := [], harness := (true, "684b2f0c203348fe2d091f1d8078034be40a0268b7000170aeda4a25036f1225"), looks := true }, kinds := [], alts := [], laidByText := true, laidKinds := [.data, .data, .data, .data, .sentinel, .sentinel, .pinned, .pinned], laidTests := true, laidLooks := .later }
def JsonWritesCardSaid : Prop := Claim7.holds Tryz.pinned (.plain (OpenSpec.ofChange jsonWritesSpec)) jsonWritesCard

/-- THE TIED CARD OF 'spillwaylaw08.JsonBack'. -/
def jsonBackCard : Claim7 := { stood := { row := jsonBackRow, standIns := [], harness := (true, "684b2f0c203348fe2d091f1d8078034be40a0268b7000170aeda4a25036f1225"), looks := true }, kinds := [], alts := [], laidByText := true, laidKinds := [.data, .data, .data, .data, .sentinel, .sentinel, .pinned, .pinned], laidTests := true, laidLooks := .later }
def JsonBackCardSaid : Prop := Claim7.holds Tryz.pinned (.plain (OpenSpec.ofChange jsonBackSpec)) jsonBackCard

/-- THE SECOND FORM's CARD OF 'spillwaylaw09.RulejsonValues'. -/
def rulejsonValuesUptoCard : Claim7 := { stood := { row := rulejsonValuesUptoRow, standIns := [], harness := (true, "684b2f0c203348fe2d091f1d8078034be40a0268b7000170aeda4a25036f1225"), looks := true }, kinds := [], alts := [], laidByText := true, laidKinds := [.data, .data, .data, .data, .sentinel, .sentinel, .pinned], laidTests := true, laidLooks := .later }
def RulejsonValuesUptoCardSaid : Prop := Claim7.holds Tryz.pinned (.plain (OpenSpec.upto rulejsonValuesSpec)) rulejsonValuesUptoCard

/-- THE SECOND FORM's CARD OF 'spillwaylaw09.RulejsonOrder'. -/
def rulejsonOrderUptoCard : Claim7 := { stood := { row := rulejsonOrderUptoRow, standIns := [], harness := (true, "684b2f0c203348fe2d091f1d8078034be40a0268b7000170aeda4a25036f1225"), looks := true }, kinds := [], alts := [], laidByText := true, laidKinds := [.data, .data, .data, .data, .sentinel, .sentinel, .pinned], laidTests := true, laidLooks := .later }
def RulejsonOrderUptoCardSaid : Prop := Claim7.holds Tryz.pinned (.plain (OpenSpec.upto rulejsonOrderSpec)) rulejsonOrderUptoCard

/-- THE SECOND FORM's CARD OF 'spillwaylaw09.RulejsonBack'. -/
def rulejsonBackUptoCard : Claim7 := { stood := { row := rulejsonBackUptoRow, standIns := [], harness := (true, "684b2f0c203348fe2d091f1d8078034be40a0268b7000170aeda4a25036f1225"), looks := true }, kinds := [], alts := [], laidByText := true, laidKinds := [.data, .data, .data, .data, .sentinel, .sentinel, .pinned], laidTests := true, laidLooks := .later }
def RulejsonBackUptoCardSaid : Prop := Claim7.holds Tryz.pinned (.plain (OpenSpec.upto rulejsonBackSpec)) rulejsonBackUptoCard

/-- THE SECOND FORM's CARD OF 'spillwaylaw08.JsonReads'. -/
def jsonReadsUptoCard : Claim7 := { stood := { row := jsonReadsUptoRow, standIns := [], harness := (true, "684b2f0c203348fe2d091f1d8078034be40a0268b7000170aeda4a25036f1225"), looks := true }, kinds := [], alts := [], laidByText := true, laidKinds := [.data, .data, .data, .data, .sentinel, .sentinel, .pinned, .pinned], laidTests := true, laidLooks := .later }
def JsonReadsUptoCardSaid : Prop := Claim7.holds Tryz.pinned (.plain (OpenSpec.upto jsonReadsSpec)) jsonReadsUptoCard

/-- THE SECOND FORM's CARD OF 'spillwaylaw08.JsonBlanks'. -/
def jsonBlanksUptoCard : Claim7 := { stood := { row := jsonBlanksUptoRow, standIns := [], harness := (true, "684b2f0c203348fe2d091f1d8078034be40a0268b7000170aeda4a25036f1225"), looks := true }, kinds := [], alts := [], laidByText := true, laidKinds := [.data, .data, .data, .data, .sentinel, .sentinel, .pinned, .pinned], laidTests := true, laidLooks := .later }
def JsonBlanksUptoCardSaid : Prop := Claim7.holds Tryz.pinned (.plain (OpenSpec.upto jsonBlanksSpec)) jsonBlanksUptoCard

/-- THE SECOND FORM's CARD OF 'spillwaylaw08.JsonPlaces'. -/
def jsonPlacesUptoCard : Claim7 := { stood := { row := jsonPlacesUptoRow, standIns := [], harness := (true, "684b2f0c203348fe2d091f1d8078034be40a0268b7000170aeda4a25036f1225"), looks := true }, kinds := [], alts := [], laidByText := true, laidKinds := [.data, .data, .data, .data, .sentinel, .sentinel, .pinned, .pinned], laidTests := true, laidLooks := .later }
def JsonPlacesUptoCardSaid : Prop := Claim7.holds Tryz.pinned (.plain (OpenSpec.upto jsonPlacesSpec)) jsonPlacesUptoCard

/-- THE SECOND FORM's CARD OF 'spillwaylaw08.JsonNumbers'. -/
def jsonNumbersUptoCard : Claim7 := { stood := { row := jsonNumbersUptoRow, standIns := [], harness := (true, "684b2f0c203348fe2d091f1d8078034be40a0268b7000170aeda4a25036f1225"), looks := true }, kinds := [], alts := [], laidByText := true, laidKinds := [.data, .data, .data, .data, .sentinel, .sentinel, .pinned, .pinned], laidTests := true, laidLooks := .later }
def JsonNumbersUptoCardSaid : Prop := Claim7.holds Tryz.pinned (.plain (OpenSpec.upto jsonNumbersSpec)) jsonNumbersUptoCard

/-- THE SECOND FORM's CARD OF 'spillwaylaw08.JsonWrites'. -/
def jsonWritesUptoCard : Claim7 := { stood := { row := jsonWritesUptoRow, standIns := [], harness := (true, "684b2f0c203348fe2d091f1d8078034be40a0268b7000170aeda4a25036f1225"), looks := true }, kinds := [], alts := [], laidByText := true, laidKinds := [.data, .data, .data, .data, .sentinel, .sentinel, .pinned, .pinned], laidTests := true, laidLooks := .later }
def JsonWritesUptoCardSaid : Prop := Claim7.holds Tryz.pinned (.plain (OpenSpec.upto jsonWritesSpec)) jsonWritesUptoCard

/-- THE SECOND FORM's CARD OF 'spillwaylaw08.JsonBack'. -/
def jsonBackUptoCard : Claim7 := { stood := { row := jsonBackUptoRow, standIns := [], harness := (true, "684b2f0c203348fe2d091f1d8078034be40a0268b7000170aeda4a25036f1225"), looks := true }, kinds := [], alts := [], laidByText := true, laidKinds := [.data, .data, .data, .data, .sentinel, .sentinel, .pinned, .pinned], laidTests := true, laidLooks := .later }
def JsonBackUptoCardSaid : Prop := Claim7.holds Tryz.pinned (.plain (OpenSpec.upto jsonBackSpec)) jsonBackUptoCard
end Rows
end Go.Proofs.YtpjbjdheeemdiaaGreatDoor
