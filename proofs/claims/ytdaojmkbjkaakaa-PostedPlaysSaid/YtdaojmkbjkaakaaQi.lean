/- The library's sort of ints, at this program. Conditions: none. -/
import Derived.Test.YtdaojmkbjkaakaaQh
import Derived.Test.YtdaojmkbjkaakaaSh
import Derived.Sort.OwnSortedInts
set_option linter.unusedVariables false
set_option linter.unusedSimpArgs false
namespace Go.Proofs.Ytdaojmkbjkaakaa
open Go.Vc Go.Q13 Go.RowKit Go.Shelf Go.Proofs

theorem flat_iv (zs : List Int) : zs.flatMap iv = zs.map (Value.int .i64) := by
  induction zs with
  | nil => rfl
  | cons x zs ih => rw [List.flatMap_cons, ih]; rfl
theorem sortsI (zs : List Int) (hz : zs.length ≤ 1000000000) : SortsI zs := by
  intro w A n c hR
  have hn := RowI.len hR
  rcases hR.out.2 with ⟨rfl, rfl, rfl⟩ | ⟨b, l, rfl, hB, hnc, hc, hl, ht⟩
  · have : zs = [] := List.eq_nil_of_length_eq_zero hn.symm
    subst this
    refine (AnyM.slices_Sort_int_none Try.sortI none 0 w).mono ?_
    rintro e w' ⟨rfl, rfl⟩
    exact ⟨rfl, by rw [List.mergeSort_nil]; exact Row.nil _ _ _, Step.refl _ _⟩
  · subst hn
    rw [Nat.mul_one, flat_iv] at ht
    have hB' : w.heap[b]? = some (.cells l.toArray tInt (0, 0)) := hB
    refine (AnyM.slices_Sort_int Try.sortI b 0 c zs w (holds_of_blockI hB' (by simpa using ht)) hB.lt (by omega)).mono ?_
    rintro e w' ⟨rfl, n, os, rfl⟩
    refine ⟨rfl, ?_, (Step.of_grown (grownBy_sortedI _)).mono fun i _ hi => ?_⟩
    · show World.ownsRow _ _ _ _ _ _ _
      rw [flat_iv]
      exact ownsRow_sortedI (by simp) (Nat.zero_le _) hB' hnc hc (by simpa using hl)
    · rw [at_some]; cases hi; rfl

end Go.Proofs.Ytdaojmkbjkaakaa
