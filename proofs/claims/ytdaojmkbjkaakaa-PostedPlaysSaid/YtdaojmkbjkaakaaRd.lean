/- Contracts: slices.Clone of messages. Conditions: none. -/
import Derived.Test.YtdaojmkbjkaakaaRc
set_option linter.unusedVariables false
set_option linter.unusedSimpArgs false
namespace Go.Proofs.Ytdaojmkbjkaakaa
open Go.Vc Go.Q13 Go.RowKit

/-- a whole row read -/
theorem reads_row {w : World} {A : Option Addr} {n c k : Nat} {e : TypeId} {xs : List Value} (h : Row w A n c e k xs) (h1 : ∀ v ∈ xs, v.oneCell' = true) : Reads w A n k xs := by
  refine ⟨h.out.1, h1, fun hpos => ?_⟩
  rcases h.out.2 with ⟨_, h0, _⟩ | ⟨b1, l, rfl, hBl, _, _, _, hx⟩
  · omega
  · refine ⟨_, rfl, hBl.cells 0 _ fun j x hj => ?_⟩
    rw [← hx, List.getElem?_take] at hj
    split at hj
    · rw [Nat.zero_add]; exact hj
    · cases hj
theorem mvs_one (Q : List Msg) : ∀ v ∈ Q.flatMap mv, v.oneCell' = true := by
  intro v hv
  obtain ⟨m, _, hm⟩ := List.mem_flatMap.1 hv
  exact mv_one m v hm
theorem cloneM_calls {w : World} {A : Option Addr} {n c : Nat} {l : List Msg} (hR : RowM w A n c l) (hQ : n ≤ 1000000000) :
    Calls Try.prog 70 #[.slice A n c] w fun e w' => ∃ A' c', e = .returned (.slice A' n c') ∧ RowM w' A' n c' l ∧ (∀ k, At A' k → w.heap.size ≤ k) ∧ Step NoB w w' := by
  refine (V.slices_Clone_queue_Message_queue_Message_calls (R := fun v w' => ∃ A' c', v = .slice A' n c' ∧ RowM w' A' n c' l ∧ (∀ k, At A' k → w.heap.size ≤ k) ∧ Step NoB w w') ?_).mono ?_
  · refine ifb_intro (fun hA => ?_) (fun hA => ?_)
    · rcases hR.out.2 with ⟨rfl, rfl, rfl⟩ | ⟨b1, x, rfl, _⟩
      · exact ⟨none, 0, rfl, hR, fun k hk => absurd hk at_none, Step.refl _ _⟩
      · cases hA
    · intro b2 w3 h3
      have hR3 := Row.then hR h3.step
      have s3 := (Step.refl NoB w).new h3
      have hz : maxLen = 9223372036854775807 := rfl
      refine ⟨[], l.flatMap mv, Row.whole h3.blk (Nat.zero_le _) rfl, reads_row hR3 (mvs_one l), by omega, by omega, fun A7 C7 w6 h6 hap => ?_⟩
      have hg := h3.at_
      have hat0 : ∀ k, At (some ⟨b2, 0, none⟩) k → w.heap.size ≤ k := fun k hk => by rw [at_some] at hk; omega
      have hR6 : Row w6 A7 (0 + n) C7 tMsg 8 (l.flatMap mv) := h6
      rw [Nat.zero_add] at hR6
      exact ⟨A7, C7, by rw [Nat.zero_add], hR6, hap.at' s3 hat0, hap.new s3 fun k hk => .inl (hat0 k hk)⟩
  · rintro e w' ⟨v, rfl, A', c', rfl, h⟩
    exact ⟨A', c', rfl, h⟩

end Go.Proofs.Ytdaojmkbjkaakaa
