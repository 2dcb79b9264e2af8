/- CoreNil: closed facts of the row, one theorem each. Conditions: none but the card's. -/
import Derived.Test.YthgfnocngopecaaGreatDoorRows
import Derived.Test.YthgfnocngopecaaGreatDoorCards
import Derived.SevenTiedAt
import Derived.ProofKit
import Derived.JoinedOf
namespace Go.Proofs.YthgfnocngopecaaGreatDoor.coreNil
open Go.ChangeShapes Go.WideShapes Go.ChangeAt Go.RowKit
set_option linter.unusedVariables false

theorem j11 : ((Rows.coreNilRow.unfollowed == Tryz.prog.unfollowed 9)) = true := by kernel_rfl
theorem j12 : ((Rows.coreNilRow.recurses == Tryz.prog.recurses 9)) = true := by kernel_rfl
theorem j13 : ((Rows.coreNilRow.named == Tryz.prog.varsNamed 9)) = true := by kernel_rfl
end Go.Proofs.YthgfnocngopecaaGreatDoor.coreNil
