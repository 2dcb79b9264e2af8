/- Stable sorting of at most one message. Conditions: none. -/
import Derived.Test.YtdaojmkbjkaakaaQi
import Derived.Test.YtdaojmkbjkaakaaVs
set_option linter.unusedVariables false
set_option linter.unusedSimpArgs false
namespace Go.Proofs.Ytdaojmkbjkaakaa
open Go.Vc Go.Q13 Go.RowKit

theorem sortsM_small {l : List Msg} (hl : l.length ≤ 1) : SortsM l := by
  intro w A n c hR
  have hn := RowM.len hR
  refine (V.slices_SortStableFunc_calls (cap1 := []) (R := fun v w' => v = .tuple #[] ∧ w' = w) ?_).mono ?_
  · refine (V.slices_stableCmpFunc_calls (cap2 := []) (R := fun v w' => v = .tuple #[] ∧ w' = w) ?_).mono ?_
    · refine ⟨fun i j w' => i = 0 ∧ j = 20 ∧ w' = w, fun _ _ _ => 0, ⟨rfl, rfl, rfl⟩, ?_⟩
      rintro i j jk w1 ⟨rfl, rfl, rfl⟩
      refine ifb_not (by rw [decide_eq_false_iff_not]; omega) ?_
      refine (V.slices_insertionSortCmpFunc_calls (cap3 := []) (R := fun v w' => v = .tuple #[] ∧ w' = w1) ?_).mono ?_
      · refine ⟨_, w64 (by omega), fun i w' => i = 1 ∧ w' = w1, fun _ _ => 0, ⟨rfl, rfl⟩, ?_⟩
        rintro i jk w2 ⟨rfl, rfl⟩
        exact ifb_not (by rw [decide_eq_false_iff_not]; omega) ⟨rfl, rfl⟩
      · rintro e w2 ⟨v, rfl, rfl, rfl⟩
        refine ⟨rfl, fun i w' => i = 20 ∧ w' = w2, fun _ _ => 0, ⟨rfl, rfl⟩, ?_⟩
        rintro i jk w3 ⟨rfl, rfl⟩
        exact ifb_not (by rw [decide_eq_false_iff_not]; omega) ⟨rfl, rfl⟩
    · rintro e w1 ⟨v, rfl, rfl, rfl⟩
      exact ⟨rfl, rfl, rfl⟩
  · rintro e w1 ⟨v, rfl, rfl, rfl⟩
    refine ⟨rfl, l, hR, ⟨?_, fun _ => rfl⟩, Step.refl _ _⟩
    rcases l with _ | ⟨x, _ | ⟨y, l⟩⟩
    · exact List.Pairwise.nil
    · simp
    · simp at hl

end Go.Proofs.Ytdaojmkbjkaakaa
