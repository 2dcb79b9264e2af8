/- CoreNil: closed facts of the row, one theorem each. Conditions: none but the card's. -/
import Derived.Test.YthgfnocngopecaaGreatDoorRows
import Derived.Test.YthgfnocngopecaaGreatDoorCards
import Derived.SevenTiedAt
import Derived.ProofKit
import Derived.JoinedOf
namespace Go.Proofs.YthgfnocngopecaaGreatDoor.coreNil
open Go.ChangeShapes Go.WideShapes Go.ChangeAt Go.RowKit
set_option linter.unusedVariables false

theorem j1 : (Rows.coreNilRow.wf (OpenSpec.ofChange Rows.coreNilSpec)) = true := by kernel_rfl
theorem j2 : (laidOutB Tryz.prog) = true := by kernel_rfl
theorem j3 : (mapsRowed Tryz.prog) = true := by kernel_rfl
theorem j4 : (Tryz.f9.params.all (Tryz.prog.readableRec ·)) = true := by kernel_rfl
theorem j5 : (namedTie Tryz.prog Rows.coreNilRow.named Rows.coreNilSpec.vars) = true := by kernel_rfl
theorem j6 : ((Rows.coreNilRow.stops == [])) = true := by kernel_rfl
theorem j7 : ((Tryz.prog.stops == [])) = true := by kernel_rfl
theorem j8 : ((Rows.coreNilRow.knobs == [])) = true := by kernel_rfl
theorem j9 : ((Tryz.prog.stopKnobs == [])) = true := by kernel_rfl
theorem j10 : ((Rows.coreNilRow.inPlace == Tryz.prog.inPlace 9)) = true := by kernel_rfl
end Go.Proofs.YthgfnocngopecaaGreatDoor.coreNil
