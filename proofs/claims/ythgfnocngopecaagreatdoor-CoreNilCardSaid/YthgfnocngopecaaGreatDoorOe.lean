/- CoreNil: the row holds of the program. Conditions: none but the card's. -/
import Derived.Test.YthgfnocngopecaaGreatDoorRows
import Derived.Test.YthgfnocngopecaaGreatDoorCards
import Derived.Test.YthgfnocngopecaaGreatDoorTie
import Derived.SevenTiedAt
import Derived.ProofKit
import Derived.JoinedOf
import Derived.Test.YthgfnocngopecaaGreatDoorOd
import Derived.Test.YthgfnocngopecaaGreatDoorOh
import Derived.Test.YthgfnocngopecaaGreatDoorOi
import Derived.Test.YthgfnocngopecaaGreatDoorOc
namespace Go.Proofs.YthgfnocngopecaaGreatDoor.coreNil
open Go.ChangeShapes Go.WideShapes Go.ChangeAt Go.RowKit
set_option linter.unusedVariables false

theorem andI {a b : Bool} (ha : a = true) (hb : b = true) : (a && b) = true := by rw [ha, hb]; rfl
set_option maxRecDepth 100000 in
theorem closed : joinedFacts Tryz.prog 9 Tryz.f9 Rows.coreNilSpec Rows.coreNilRow = true := (andI (andI (andI (andI (andI (andI (andI (andI (andI (andI (andI (andI (andI (andI (andI (andI (andI (andI (andI (andI (andI (andI (andI (andI (andI (andI (andI (andI (andI (andI (andI j1 j2) j3) j4) j5) j6) j7) j8) j9) j10) j11) j12) j13) j14) j15) j16) j17) j18) j19) j20) j21) j22) j23) j24) j25) j26) j27) j28) j29) j30) j31) j32)
theorem over : Rows.coreNilRow.holds Tryz.pinned (OpenSpec.ofChange Rows.coreNilSpec) :=
  OpenClaim.holds_of_wide 9 Tryz.f9 rfl rfl rfl rfl rfl rfl rfl ⟨rfl, rfl, rfl, rfl, rfl⟩ rfl rfl rfl rfl rfl hfn Tryz.func9 closed
    (of_decide_eq_true hinst) (by unfold Func.isWrapper; first | (rw [if_pos (by decide +kernel)]; kernel_rfl) | (rw [if_neg (by decide +kernel)]; exact ⟨rfl, rfl⟩))
    (fun os started H enc _ => lifted os started H enc)

end Go.Proofs.YthgfnocngopecaaGreatDoor.coreNil
