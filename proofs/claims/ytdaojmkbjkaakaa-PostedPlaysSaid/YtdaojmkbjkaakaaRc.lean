/- Contracts: the reference's queue: Send. Conditions: none. -/
import Derived.Test.YtdaojmkbjkaakaaRb
set_option linter.unusedVariables false
set_option linter.unusedSimpArgs false
namespace Go.Proofs.Ytdaojmkbjkaakaa
open Go.Vc Go.Q13 Go.RowKit

theorem TRep.send_calls {F : Nat → Prop} {w : World} {p : Option Addr} {Q : List Msg} (h : TRep w p Q F) (m : Msg) (hQ : Q.length ≤ 1000000000) :
    Calls Try.prog 41 #[.pointer p, mvA m] w fun e w' => e = .returned (.int .i64 (sendE Q m)) ∧ ∃ F', TRep w' p (send Q m) F' ∧ Step F w w' ∧ ∀ k, F' k → F k ∨ w.heap.size ≤ k := by
  have h0 := h
  obtain ⟨b, A, n, c, rfl, hB, hR, hn, hF⟩ := h
  have hl := RowM.len hR
  refine (V.dispatcherref13_Queue_Send_calls (s2 := m.key) (n3 := m.fr) (n4 := m.to) (n5 := m.call) (n6 := m.tag) (n7 := m.val) (n8 := m.size) (t9 := m.taken)
    (R := fun v w' => v = .int .i64 (sendE Q m) ∧ ∃ F', TRep w' (some ⟨b, 0, none⟩) (send Q m) F' ∧ Step F w w' ∧ ∀ k, F' k → F k ∨ w.heap.size ≤ k) ?_).mono ?_
  · have bad : ∀ w', Step NoB w w' → ((find Q m.fr m.call).isSome || !m.may) = true → Value.int .i64 2 = .int .i64 (sendE Q m) ∧ ∃ F', TRep w' (some ⟨b, 0, none⟩) (send Q m) F' ∧ Step F w w' ∧ ∀ k, F' k → F k ∨ w.heap.size ≤ k := by
      intro w' s hb
      obtain ⟨e1, e2⟩ := send_no hb
      rw [e1, e2]
      exact ⟨rfl, F, h0.then s, s.none, fun k hk => .inl hk⟩
    intro b1 w1 h1
    have s1 := (Step.refl NoB w).new h1
    have C := h1.blk
    have nomay : m.may = false → ((find Q m.fr m.call).isSome || !m.may) = true := fun e => by rw [e]; simp
    refine ⟨_, C.cell rfl, ifb_intro (fun g => bad _ s1 (nomay ?_)) (fun g1 => ⟨_, C.cell rfl, ifb_intro (fun g => bad _ s1 (nomay ?_)) (fun g2 => ⟨_, C.cell rfl, ifb_intro (fun g => bad _ s1 (nomay ?_)) (fun g3 => ⟨_, C.cell rfl, ifb_intro (fun g => bad _ s1 (nomay ?_)) (fun g4 => ⟨_, C.cell rfl, ifb_intro (fun g => bad _ s1 (nomay ?_)) (fun g5 => ⟨_, C.cell rfl, ifb_intro (fun g => bad _ s1 (nomay ?_)) (fun g6 => ⟨_, C.cell rfl, ifb_intro (fun g => bad _ s1 (nomay ?_)) (fun g7 => ⟨_, C.cell rfl, ifb_intro (fun g => bad _ s1 (nomay ?_)) (fun g8 => ⟨_, C.cell rfl, ifb_intro (fun g => bad _ s1 (nomay ?_)) (fun g9 => ⟨_, C.cell rfl, ifb_intro (fun g => bad _ s1 (nomay ?_)) (fun g10 => ⟨_, C.cell rfl, _, C.cell rfl, ?_⟩)⟩)⟩)⟩)⟩)⟩)⟩)⟩)⟩)⟩)⟩
    all_goals try (first
      | (simp only [decide_eq_true_eq] at g
         rcases hm : m.may with _ | _
         · rfl
         · exfalso
           simp only [Msg.may, Bool.and_eq_true, decide_eq_true_eq, Bool.not_eq_true', decide_eq_false_iff_not] at hm
           omega)
      | (simp [Msg.may, g]; done))
    simp only [decide_eq_false_iff_not] at g1 g2 g3 g4 g5 g6 g7 g8 g9
    have hmay : m.may = true := by
      simp only [Msg.may, Bool.and_eq_true, decide_eq_true_eq, Bool.not_eq_true', decide_eq_false_iff_not]
      refine ⟨⟨⟨⟨⟨⟨⟨⟨⟨g10, ?_⟩, ?_⟩, ?_⟩, ?_⟩, ?_⟩, ?_⟩, ?_⟩, ?_⟩, ?_⟩ <;> first | omega | exact decide_eq_true (by omega) | exact decide_eq_false (by omega)
    refine (place_calls (h0.then s1) m.fr m.call).mono ?_
    rintro e w2 ⟨rfl, rfl⟩
    rcases place_find Q m.fr m.call with ⟨hf, hp⟩ | ⟨x, i, hf, hp, hi⟩
    · rw [hp]
      have e1 : sendE Q m = 0 := by simp [sendE, hf, hmay]
      have e2 : send Q m = Q ++ [m] := by simp [send, hf, hmay]
      rw [e1, e2]
      refine ⟨_, rfl, ifb_f (nilC_in ⟨A, n, c, (hB.then s1).cell rfl, _, _, _, _, _, _, _, _, C.all, fun b3 w3 h3 => ?_⟩)⟩
      replace h3 := h3.undrew
      have s3 := s1.new h3
      have hR3 := Row.then hR s3
      have hz : maxLen = 9223372036854775807 := rfl
      refine ⟨(hB.then s3).cell rfl, _, _, hR3, reads_blk h3.blk rfl (mv_one m), by omega, by omega, fun A4 C4 w4 h4 hap => ?_⟩
      have lb := hB.lt
      have hnA4 : ¬ At A4 b := by
        intro hk
        rcases hap.at_ with hc | hc
        · exact hn (by unfold At at hk ⊢; rw [← hc]; exact hk)
        · unfold At at hk
          rw [hc] at hk
          cases hk
          have := s3.size; omega
      have B4 := (hB.then s3).keep hap.step hn
      refine nilC_in ⟨_, _, B4, by simp, fun w5 hu => ⟨rfl, fun k => k = b ∨ At A4 k, ⟨b, A4, n + 1, C4, rfl, hu.blk, ?_, hnA4, fun _ => Iff.rfl⟩, ?_, ?_⟩⟩
      · have hR4 : RowM w4 A4 (n + 1) C4 (Q ++ [m]) := by
          show Row _ _ _ _ _ _ _
          rw [List.flatMap_append, show ([m] : List Msg).flatMap mv = mv m by simp]; exact h4
        exact Row.keep hR4 hu.step fun k hk e => hnA4 (e ▸ hk)
      · have s4 : Step F w w4 := hap.new s3.none fun k hk => .inr ((hF k).2 (.inr hk))
        exact s4.upd hu (.inr ((hF b).2 (.inl rfl)))
      · rintro k (rfl | hk)
        · exact .inl ((hF k).2 (.inl rfl))
        · rcases hap.at_ with hc | hc
          · exact .inl ((hF k).2 (.inr (by unfold At at hk ⊢; rw [← hc]; exact hk)))
          · unfold At at hk
            rw [hc] at hk
            cases hk
            exact .inr s3.size
    · rw [hp]
      exact ⟨_, rfl, ifb_of (by rw [decide_eq_true_eq]; omega) (bad _ s1 (by simp [hf]))⟩
  · rintro e w' ⟨v, rfl, rfl, h⟩
    exact ⟨rfl, h⟩

end Go.Proofs.Ytdaojmkbjkaakaa
