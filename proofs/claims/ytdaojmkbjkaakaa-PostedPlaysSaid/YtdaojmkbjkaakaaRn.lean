/- Contracts: Copy of receives. Conditions: none. -/
import Derived.Test.YtdaojmkbjkaakaaRm
set_option linter.unusedVariables false
set_option linter.unusedSimpArgs false
namespace Go.Proofs.Ytdaojmkbjkaakaa
open Go.Vc Go.Q13 Go.RowKit

theorem pcells_one (A : Nat → Option Addr) (n c : Nat → Nat) : ∀ v ∈ pcells A n c, v.oneCell' = true := by
  intro v hv
  unfold pcells at hv
  rcases List.mem_cons.1 hv with rfl | hv
  · rfl
  · obtain ⟨i, _, rfl⟩ := List.mem_map.1 hv; rfl
/-- the copy of receives, part way -/
structure PCP (w0 w : World) (b : Nat) (P : List Recv) (A0 : Nat → Option Addr) (n0 c0 : Nat → Nat) (i : Nat) (A : Nat → Option Addr) (n c : Nat → Nat) : Prop where
  blk : Blk w b (pcells A n c) tPosted
  old : ∀ j, i ≤ j → A j = A0 j ∧ n j = n0 j ∧ c j = c0 j
  row : ∀ j, j < i → RowR w (A j) (n j) (c j) (rrow P j)
  new : ∀ j k, j < i → At (A j) k → w0.heap.size ≤ k ∧ k ≠ b
  apart : ∀ j j' k, j < i → j' < i → At (A j) k → At (A j') k → j = j'
theorem PRep.copy_calls {F : Nat → Prop} {w : World} {a : Option Addr} {P : List Recv} (h : PRep w a P F) (hl : P.length ≤ 1000000) :
    Calls Try.prog 47 #[.pointer a] w fun e w' => ∃ a' F', e = .returned (.pointer a') ∧ PRep w' a' P F' ∧ (∀ k, F' k → w.heap.size ≤ k) ∧ Step NoB w w' := by
  obtain ⟨b, A, n, c, rfl, h, hF⟩ := h
  refine (V.posted_Posted_Copy_calls (R := fun v w' => ∃ a' F', v = .pointer a' ∧ PRep w' a' P F' ∧ (∀ k, F' k → w.heap.size ≤ k) ∧ Step NoB w w') ?_).mono ?_
  · refine ifb_f (nilC_in ⟨pcells A n c, pcells_length A n c, h.blk.all, fun b4 w1 h1 => ?_⟩)
    have s1 := (Step.refl NoB w).new h1
    have ge4 := h1.ge (Step.refl NoB w)
    refine cellsOk_intro (pcells_length A n c) (pcells_one A n c) ⟨_, _, h1.blk, by rw [pcells_length]; decide, fun w2 u2 => ?_⟩
    have hset : ∀ l : List Value, l.length = 65 → setSeg l 0 (pcells A n c) = pcells A n c := fun l hl => setSeg_whole _ _ (by rw [pcells_length, hl])
    have B2 := u2.blk
    rw [hset _ rfl] at B2
    have s2 := s1.upd u2 (.inl ge4)
    refine ⟨(List.range 64).map fun i => .slice (A i) (n i) (c i), by simp, B2.cells 1 _ fun j x hj => ?_, fun i w' => 0 ≤ i ∧ i ≤ 64 ∧ Step NoB w w' ∧ ∃ A' n' c', PCP w w' b4 P A n c i.toNat A' n' c', fun i _ => (64 - i).toNat, ⟨by omega, by omega, s2, A, n, c, B2, fun j _ => ⟨rfl, rfl, rfl⟩, fun j hj => absurd hj (by omega), fun j k hj => absurd hj (by omega), fun j j' k hj => absurd hj (by omega)⟩, ?_⟩
    · unfold pcells; rw [Nat.add_comm, List.getElem?_cons_succ]; exact hj
    rintro i jk w3 ⟨i0, i1, s3, A', n', c', hC⟩
    refine ifb_intro (fun hi => ?_) (fun hi => ?_)
    · simp only [decide_eq_true_eq] at hi
      have hi64 : i.toNat < 64 := by omega
      have hR := (h.then s3).row i.toNat hi64
      have hn := RowR.len hR
      have hrl := rrow_length P i.toNat
      refine ⟨i0, hi, _, _, _, ?_, (cloneR_calls hR (by omega)).mono ?_⟩
      · rw [List.getElem?_map, List.getElem?_range hi64]; rfl
      rintro e w4 ⟨A4, c4, rfl, hR4, hat4, s4⟩
      have B4 := hC.blk.then s4
      refine ⟨_, _, _, rfl, i0, hi, b4, 1, rfl, _, _, B4, by rw [pcells_length]; omega, fun w5 u5 => ?_⟩
      have hu := u5.blk
      rw [show 1 + i.toNat * 1 = 0 + 1 + i.toNat * 1 by omega, pcells_set _ _ _ hi64] at hu
      have lt4 : b4 < w3.heap.size := hC.blk.lt
      have e3 : (i + 1).toNat = i.toNat + 1 := by omega
      refine ⟨_, w64 (by omega), ⟨by omega, by omega, (s3.then s4).upd u5 (.inl ge4), _, _, _, hu, fun j hj => ?_, fun j hj => ?_, fun j k hj hk => ?_, fun j j' k hj hj' hk hk' => ?_⟩, by dsimp only; omega⟩
      · rw [e3] at hj
        rw [putN_ne _ _ (by omega), putN_ne _ _ (by omega), putN_ne _ _ (by omega)]
        exact hC.old j (by omega)
      · rw [e3] at hj
        by_cases he : j = i.toNat
        · subst he
          rw [putN_at, putN_at, putN_at]
          exact Row.keep hR4 u5.step fun k hk e => by have := hat4 k hk; omega
        · rw [putN_ne _ _ he, putN_ne _ _ he, putN_ne _ _ he]
          exact Row.keep (Row.then (hC.row j (by omega)) s4) u5.step fun k hk e => (hC.new j k (by omega) hk).2 e
      · rw [e3] at hj
        by_cases he : j = i.toNat
        · subst he
          rw [putN_at] at hk
          have := hat4 k hk
          have := s3.size
          exact ⟨by omega, by omega⟩
        · rw [putN_ne _ _ he] at hk
          exact hC.new j k (by omega) hk
      · rw [e3] at hj hj'
        by_cases he : j = i.toNat <;> by_cases he' : j' = i.toNat
        · omega
        · rw [he, putN_at] at hk
          rw [putN_ne _ _ he'] at hk'
          have := Row.lt (hC.row j' (by omega)) hk'
          have := hat4 k hk
          omega
        · rw [he', putN_at] at hk'
          rw [putN_ne _ _ he] at hk
          have := Row.lt (hC.row j (by omega)) hk
          have := hat4 k hk'
          omega
        · rw [putN_ne _ _ he] at hk
          rw [putN_ne _ _ he'] at hk'
          exact hC.apart j j' k (by omega) (by omega) hk hk'
    · simp only [decide_eq_false_iff_not] at hi
      have e64 : i.toNat = 64 := by omega
      rw [e64] at hC
      refine ⟨_, PF b4 A', rfl, ⟨b4, A', n', c', rfl, ⟨hC.blk, hC.row, fun j j' k hj hj' h1 h2 => hC.apart j j' k hj hj' h1 h2, fun j hj hk => (hC.new j b4 hj hk).2 rfl⟩, fun _ => Iff.rfl⟩, ?_, s3⟩
      rintro k (rfl | ⟨j, hj, hk⟩)
      · exact ge4
      · exact (hC.new j k hj hk).1
  · rintro e w' ⟨v, rfl, a', F', rfl, h⟩
    exact ⟨a', F', rfl, h⟩

end Go.Proofs.Ytdaojmkbjkaakaa
