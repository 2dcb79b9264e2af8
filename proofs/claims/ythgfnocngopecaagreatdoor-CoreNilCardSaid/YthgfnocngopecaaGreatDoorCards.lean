/-
  DERIVED. GIVEN WITH THE SEED: THE CARDS: each row of YthgfnocngopecaaGreatDoorRows.lean that lists a variable, with what it lists TIED to the program's text (the seventh form; the later family's looks); each row that meets fmt, with fmt's text TOLD by the authors' own Lean function (tested against real Go, not proved from fmt's source: count such statements apart). THE CARD IS WHAT COUNTS. Prove the row's statement (the work); the ties are given (YthgfnocngopecaaGreatDoorTie.lean); close each card by the builder's one call (the guide's Derived/Test/ToyasCard.lean, 'card_holds'). Laid BY PROGRAM, IN A SANDBOX (cutbox-door.mjs). By AI agents, Wed Nov 11 2026. No macro, syntax, notation, axiom, sorry.
-/
import Derived.Test.YthgfnocngopecaaGreatDoorRows
import GoSem.ClaimSeven
namespace Go.Proofs.YthgfnocngopecaaGreatDoor
namespace Rows

/-- THE TIED CARD OF 'dispatcherlaw09.BoundNoMore'. -/
def boundNoMoreCard : Claim7 := { stood := { row := boundNoMoreRow, standIns := [], harness := (true, "40848ca67fe21999c4ff79f4a7e393ed4ea0c16eb6d3ca23e046771c4b0d6757"), looks := false }, kinds := [], alts := [], laidByText := true, laidKinds := [.widerDeep, .data, .widerDeep, .widerDeep], laidTests := true, laidLooks := .later }
def BoundNoMoreCardSaid : Prop := Claim7.holds Tryz.pinned (.plain (OpenSpec.ofChange boundNoMoreSpec)) boundNoMoreCard

/-- THE TIED CARD OF 'dispatcherlaw09.BoundJust'. -/
def boundJustCard : Claim7 := { stood := { row := boundJustRow, standIns := [], harness := (true, "40848ca67fe21999c4ff79f4a7e393ed4ea0c16eb6d3ca23e046771c4b0d6757"), looks := false }, kinds := [], alts := [], laidByText := true, laidKinds := [.widerDeep, .data, .widerDeep, .widerDeep], laidTests := true, laidLooks := .later }
def BoundJustCardSaid : Prop := Claim7.holds Tryz.pinned (.plain (OpenSpec.ofChange boundJustSpec)) boundJustCard

/-- THE TIED CARD OF 'dispatcherlaw17.CoreGrows'. -/
def coreGrowsCard : Claim7 := { stood := { row := coreGrowsRow, standIns := [], harness := (true, "40848ca67fe21999c4ff79f4a7e393ed4ea0c16eb6d3ca23e046771c4b0d6757"), looks := false }, kinds := [], alts := [], laidByText := true, laidKinds := [.data, .data, .data], laidTests := true, laidLooks := .later }
def CoreGrowsCardSaid : Prop := Claim7.holds Tryz.pinned (.plain (OpenSpec.ofChange coreGrowsSpec)) coreGrowsCard

/-- THE TIED CARD OF 'dispatcherlaw17.CoreOnce'. -/
def coreOnceCard : Claim7 := { stood := { row := coreOnceRow, standIns := [], harness := (true, "40848ca67fe21999c4ff79f4a7e393ed4ea0c16eb6d3ca23e046771c4b0d6757"), looks := false }, kinds := [], alts := [], laidByText := true, laidKinds := [.data, .data, .data], laidTests := true, laidLooks := .later }
def CoreOnceCardSaid : Prop := Claim7.holds Tryz.pinned (.plain (OpenSpec.ofChange coreOnceSpec)) coreOnceCard

/-- THE TIED CARD OF 'dispatcherlaw17.CoreSame'. -/
def coreSameCard : Claim7 := { stood := { row := coreSameRow, standIns := [], harness := (true, "40848ca67fe21999c4ff79f4a7e393ed4ea0c16eb6d3ca23e046771c4b0d6757"), looks := false }, kinds := [], alts := [], laidByText := true, laidKinds := [.data, .data, .data], laidTests := true, laidLooks := .later }
def CoreSameCardSaid : Prop := Claim7.holds Tryz.pinned (.plain (OpenSpec.ofChange coreSameSpec)) coreSameCard

/-- THE TIED CARD OF 'dispatcherlaw17.CoreEither'. -/
def coreEitherCard : Claim7 := { stood := { row := coreEitherRow, standIns := [], harness := (true, "40848ca67fe21999c4ff79f4a7e393ed4ea0c16eb6d3ca23e046771c4b0d6757"), looks := false }, kinds := [], alts := [], laidByText := true, laidKinds := [.data, .data, .data], laidTests := true, laidLooks := .later }
def CoreEitherCardSaid : Prop := Claim7.holds Tryz.pinned (.plain (OpenSpec.ofChange coreEitherSpec)) coreEitherCard

/-- THE TIED CARD OF 'dispatcherlaw17.CoreNil'. -/
def coreNilCard : Claim7 := { stood := { row := coreNilRow, standIns := [], harness := (true, "40848ca67fe21999c4ff79f4a7e393ed4ea0c16eb6d3ca23e046771c4b0d6757"), looks := false }, kinds := [], alts := [], laidByText := true, laidKinds := [.data, .data, .data], laidTests := true, laidLooks := .later }
def CoreNilCardSaid : Prop := Claim7.holds Tryz.pinned (.plain (OpenSpec.ofChange coreNilSpec)) coreNilCard

/-- THE SECOND FORM's CARD OF 'dispatcherlaw09.BoundNoMore'. -/
def boundNoMoreUptoCard : Claim7 := { stood := { row := boundNoMoreUptoRow, standIns := [], harness := (true, "40848ca67fe21999c4ff79f4a7e393ed4ea0c16eb6d3ca23e046771c4b0d6757"), looks := false }, kinds := [], alts := [], laidByText := true, laidKinds := [.widerDeep, .data, .widerDeep, .widerDeep], laidTests := true, laidLooks := .later }
def BoundNoMoreUptoCardSaid : Prop := Claim7.holds Tryz.pinned (.plain (OpenSpec.upto boundNoMoreSpec)) boundNoMoreUptoCard

/-- THE SECOND FORM's CARD OF 'dispatcherlaw09.BoundJust'. -/
def boundJustUptoCard : Claim7 := { stood := { row := boundJustUptoRow, standIns := [], harness := (true, "40848ca67fe21999c4ff79f4a7e393ed4ea0c16eb6d3ca23e046771c4b0d6757"), looks := false }, kinds := [], alts := [], laidByText := true, laidKinds := [.widerDeep, .data, .widerDeep, .widerDeep], laidTests := true, laidLooks := .later }
def BoundJustUptoCardSaid : Prop := Claim7.holds Tryz.pinned (.plain (OpenSpec.upto boundJustSpec)) boundJustUptoCard

/-- THE SECOND FORM's CARD OF 'dispatcherlaw17.CoreGrows'. -/
def coreGrowsUptoCard : Claim7 := { stood := { row := coreGrowsUptoRow, standIns := [], harness := (true, "40848ca67fe21999c4ff79f4a7e393ed4ea0c16eb6d3ca23e046771c4b0d6757"), looks := false }, kinds := [], alts := [], laidByText := true, laidKinds := [.data, .data, .data], laidTests := true, laidLooks := .later }
def CoreGrowsUptoCardSaid : Prop := Claim7.holds Tryz.pinned (.plain (OpenSpec.upto coreGrowsSpec)) coreGrowsUptoCard

/-- THE SECOND FORM's CARD OF 'dispatcherlaw17.CoreOnce'. -/
def coreOnceUptoCard : Claim7 := { stood := { row := coreOnceUptoRow, standIns := [], harness := (true, "40848ca67fe21999c4ff79f4a7e393ed4ea0c16eb6d3ca23e046771c4b0d6757"), looks := false }, kinds := [], alts := [], laidByText := true, laidKinds := [.data, .data, .data], laidTests := true, laidLooks := .later }
def CoreOnceUptoCardSaid : Prop := Claim7.holds Tryz.pinned (.plain (OpenSpec.upto coreOnceSpec)) coreOnceUptoCard

/-- THE SECOND FORM's CARD OF 'dispatcherlaw17.CoreSame'. -/
def coreSameUptoCard : Claim7 := { stood := { row := coreSameUptoRow, standIns := [], harness := (true, "40848ca67fe21999c4ff79f4a7e393ed4ea0c16eb6d3ca23e046771c4b0d6757"), looks := false }, kinds := [], alts := [], laidByText := true, laidKinds := [.data, .data, .data], laidTests := true, laidLooks := .later }
def CoreSameUptoCardSaid : Prop := Claim7.holds Tryz.pinned (.plain (OpenSpec.upto coreSameSpec)) coreSameUptoCard

/-- THE SECOND FORM's CARD OF 'dispatcherlaw17.CoreEither'. -/
def coreEitherUptoCard : Claim7 := { stood := { row := coreEitherUptoRow, standIns := [], harness := (true, "40848ca67fe21999c4ff79f4a7e393ed4ea0c16eb6d3ca23e046771c4b0d6757"), looks := false }, kinds := [], alts := [], laidByText := true, laidKinds := [.data, .data, .data], laidTests := true, laidLooks := .later }
def CoreEitherUptoCardSaid : Prop := Claim7.holds Tryz.pinned (.plain (OpenSpec.upto coreEitherSpec)) coreEitherUptoCard

/-- THE SECOND FORM's CARD OF 'dispatcherlaw17.CoreNil'. -/
def coreNilUptoCard : Claim7 := { stood := { row := coreNilUptoRow, standIns := [], harness := (true, "40848ca67fe21999c4ff79f4a7e393ed4ea0c16eb6d3ca23e046771c4b0d6757"), looks := false }, kinds := [], alts := [], laidByText := true, laidKinds := [.data, .data, .data], laidTests := true, laidLooks := .later }
def CoreNilUptoCardSaid : Prop := Claim7.holds Tryz.pinned (.plain (OpenSpec.upto coreNilSpec)) coreNilUptoCard
end Rows
end Go.Proofs.YthgfnocngopecaaGreatDoor
