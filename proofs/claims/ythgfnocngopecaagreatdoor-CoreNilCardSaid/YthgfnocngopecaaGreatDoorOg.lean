/- CoreNil: closed facts of the card, one theorem each (the kernel gives its memory back behind each). Conditions: none. -/
import Derived.Test.YthgfnocngopecaaGreatDoorRows
import Derived.Test.YthgfnocngopecaaGreatDoorCards
import Derived.SevenTiedAt
import Derived.ProofKit
namespace Go.Proofs.YthgfnocngopecaaGreatDoor.coreNil
open Go.ChangeShapes Go.WideShapes Go.ChangeAt Go.RowKit
theorem k1 : Rows.coreNilRow.wfByText (OpenSpec.ofChange Rows.coreNilSpec) = true := by kernel_rfl
theorem k2 : Tryz.pinned.checked.prog.mainIs = some (Rows.coreNilCard.stood.harness.1, Rows.coreNilCard.stood.harness.2.toList) := by kernel_rfl
theorem k3 : Tryz.prog.funcNamed "dispatcher/dispatcherlaw17.CoreNil" = some 9 := by kernel_rfl
theorem k4 : false = Tryz.pinned.checked.prog.looks [] := by kernel_rfl
theorem k5 : ([67].all fun t => !Tryz.prog.wantsStandIn t) = true := by kernel_rfl
theorem k6 : false = Rows.coreNilRow.goesBy Tryz.pinned.checked.prog := by kernel_rfl
end Go.Proofs.YthgfnocngopecaaGreatDoor.coreNil
