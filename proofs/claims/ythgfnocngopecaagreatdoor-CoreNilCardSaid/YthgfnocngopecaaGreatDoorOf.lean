/- CoreNil: the card. Conditions: none but the card's. -/
import Derived.Test.YthgfnocngopecaaGreatDoorRows
import Derived.Test.YthgfnocngopecaaGreatDoorCards
import Derived.Test.YthgfnocngopecaaGreatDoorTie
import Derived.SevenTiedAt
import Derived.ProofKit
import Derived.Test.YthgfnocngopecaaGreatDoorOe
import Derived.Test.YthgfnocngopecaaGreatDoorOg
namespace Go.Proofs.YthgfnocngopecaaGreatDoor.coreNil
open Go.ChangeShapes Go.WideShapes Go.ChangeAt Go.RowKit
set_option linter.unusedVariables false

/-- THE STATEMENT -/
theorem proved : Rows.CoreNilCardSaid :=
  Claim7.holds_tied_plain_at .later [] Rows.coreNilCard.laidKinds true Rows.coreNilCard.stood.harness false
    over (fun _ h => by cases h) (k1) (fun _ h => by cases h) coreNil_row_tie rfl ⟨rfl, rfl⟩ (k2) rfl
    (fun f fn hf hfn => by
      obtain rfl : f = 9 := Option.some.inj ((show Tryz.prog.funcNamed "dispatcher/dispatcherlaw17.CoreNil" = some 9 from k3).symm.trans hf) |>.symm
      obtain rfl : fn = Tryz.f9 := (Option.some.inj (Tryz.func9.symm.trans hfn)).symm
      exact ⟨k4, fun j t ht => by
        rw [Tryz.params9] at ht
        have hall : ∀ t ∈ [67], Tryz.prog.wantsStandIn t = false := List.all_eq_true.1 (show ([67].all fun t => !Tryz.prog.wantsStandIn t) = true from k5) |> fun h t ht => by simpa using h t ht
        exact hall t (by have := Array.mem_of_getElem? ht; simpa using this)⟩)
    (k6)
#print axioms proved
end Go.Proofs.YthgfnocngopecaaGreatDoor.coreNil
