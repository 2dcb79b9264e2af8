/- Contracts: the reference's receives: which messages may be theirs. Conditions: none. -/
import Derived.Test.YtdaojmkbjkaakaaRo
set_option linter.unusedVariables false
set_option linter.unusedSimpArgs false
namespace Go.Proofs.Ytdaojmkbjkaakaa
open Go.Vc Go.Q13 Go.RowKit

def itsB (Q : List Msg) (P : List Recv) (r : Recv) (m : Msg) (probe : Bool) : Bool :=
  !m.taken && (rfits r m && (!(aheadOf Q m.fr m.call).any (fun x => rfits r x) && !(waitL (rrow P r.rank)).any fun x => (probe || decide (x.call < r.call)) && rfits x m))
theorem any_take {α : Type} {p : α → Bool} {l : List α} {i : Nat} {x : α} (hi : l[i]? = some x) (hb : ∀ (j : Nat) (y : α), j < i → l[j]? = some y → p y = false) (hx : p x = false) : ∀ (j : Nat) (y : α), j < i + 1 → l[j]? = some y → p y = false := by
  intro j y hj hy
  rcases Nat.lt_or_ge j i with h | h
  · exact hb j y h hy
  · have : j = i := by omega
    subst this; rw [hi] at hy; cases hy; exact hx
theorem any_all {α : Type} {p : α → Bool} {l : List α} (hb : ∀ (j : Nat) (y : α), j < l.length → l[j]? = some y → p y = false) : l.any p = false := by
  rw [List.any_eq_false]
  intro x hx
  obtain ⟨j, hj, rfl⟩ := List.getElem_of_mem hx
  rw [hb j _ hj (List.getElem?_eq_getElem hj)]; simp
theorem its_calls {F G : Nat → Prop} {w : World} {p q : Option Addr} {P : List Recv} {Q : List Msg} (hp : SRep w p P F) (hq : TRep w q Q G) (hu : Uniq Q) (hQ : Q.length ≤ 1000000) (hPl : P.length ≤ 1000000) (r : Recv) (m : Msg) (probe : Bool) :
    Calls Try.prog 99 #[.pointer p, .pointer q, rvA r, mvA m, .bool probe] w fun e w' => e = .returned (.bool (itsB Q P r m probe)) ∧ Step NoB w w' := by
  refine (V.dispatcherref14_Posted_its_calls (s3 := r.key) (n4 := r.rank) (n5 := r.call) (n6 := r.peer) (n7 := r.tag) (n8 := r.req) (t9 := r.done) (n10 := r.fr) (n11 := r.seq) (s12 := m.key) (n13 := m.fr) (n14 := m.to) (n15 := m.call) (n16 := m.tag) (n17 := m.val) (n18 := m.size) (t19 := m.taken)
    (R := fun v w' => v = .bool (itsB Q P r m probe) ∧ Step NoB w w') ?_).mono ?_
  · intro b1 w1 h1 b2 w2 h2
    have s2 := ((Step.refl NoB w).new h1).new h2
    have B := h1.blk.new h2
    have C := h2.blk
    refine ⟨_, C.cell rfl, ifb_intro (fun g0 => ⟨by simp [itsB, g0], s2⟩) (fun g0 => ?_)⟩
    refine ⟨_, _, _, _, _, _, _, _, _, B.all, _, _, _, _, _, _, _, _, C.all, (refFits_calls r m w2).mono ?_⟩
    rintro e w3 ⟨rfl, s3⟩
    refine ⟨_, rfl, ifb_intro (fun g1 => ⟨by simp only [Bool.not_eq_true'] at g1; simp [itsB, g1], s2.then s3⟩) (fun g1 => ?_)⟩
    simp only [Bool.not_eq_false'] at g1
    have s23 := s2.then s3
    refine ⟨_, _, _, _, _, _, _, _, (C.then s3).all, (refAheadL_calls (hq.then s23) hu hQ m).mono ?_⟩
    rintro e w4 ⟨A4, n4, c4, rfl, hR4, _, s4⟩
    have s24 := s23.then s4
    have hn4 := RowM.len hR4
    have hN4 := Row.le hR4
    refine ⟨_, _, _, rfl, fun i w' => 0 ≤ i ∧ i ≤ n4 ∧ Step NoB w4 w' ∧ ∀ (j : Nat) (y : Msg), j < i.toNat → (aheadOf Q m.fr m.call)[j]? = some y → rfits r y = false, fun i _ => (n4 - i).toNat, ⟨by omega, by omega, Step.refl _ _, fun j y hj => absurd hj (by omega)⟩, ?_⟩
    rintro i jk w5 ⟨i0, i1, s5, hb⟩
    have s25 := s24.then s5
    refine ifb_intro (fun hi => ?_) (fun hi => ?_)
    · simp only [decide_eq_true_eq] at hi
      obtain ⟨y, hy⟩ : ∃ y, (aheadOf Q m.fr m.call)[i.toNat]? = some y := ⟨_, List.getElem?_eq_getElem (by omega)⟩
      obtain ⟨b6, rfl, hc⟩ := RowM.elem (Row.then hR4 s5.drew) hy
      refine ⟨_, _, _, _, _, _, _, _, _, ((((B.then s3).then s4).then s5).then (Step.refl NoB w5).drew).all, i0, hi, b6, 0, rfl, _, _, _, _, _, _, _, _, hc, (refFits_calls r y _).mono ?_⟩
      rintro e w6 ⟨rfl, s6⟩
      replace s6 := s6.undrew
      refine ⟨_, rfl, ifb_intro (fun g => ⟨?_, s25.then s6⟩) (fun g => ?_)⟩
      · have : (aheadOf Q m.fr m.call).any (fun x => rfits r x) = true := List.any_eq_true.2 ⟨y, List.mem_of_getElem? hy, g⟩
        simp [itsB, this]
      · refine ⟨_, w64 (by omega), ⟨by omega, by omega, s5.then s6, ?_⟩, by dsimp only; omega⟩
        rw [show (i + 1).toNat = i.toNat + 1 by omega]
        exact any_take hy hb g
    · simp only [decide_eq_false_iff_not] at hi
      have hah : (aheadOf Q m.fr m.call).any (fun x => rfits r x) = false := any_all fun j y hj hy => hb j y (by omega) hy
      have B5 := ((B.then s3).then s4).then s5
      have C5 := ((C.then s3).then s4).then s5
      refine ⟨_, B5.cell rfl, ((hp.then s25).waiting_calls hPl r.rank).mono ?_⟩
      rintro e w6 ⟨A6, n6, c6, rfl, hR6, _, s6⟩
      have hn6 := RowR.len hR6
      have hN6 := Row.le hR6
      have s26 := s25.then s6
      have B6 := B5.then s6
      have C6 := C5.then s6
      refine ⟨_, _, _, rfl, fun i w' => 0 ≤ i ∧ i ≤ n6 ∧ Step NoB w6 w' ∧ ∀ (j : Nat) (y : Recv), j < i.toNat → (waitL (rrow P r.rank))[j]? = some y → ((probe || decide (y.call < r.call)) && rfits y m) = false, fun i _ => (n6 - i).toNat, ⟨by omega, by omega, Step.refl _ _, fun j y hj => absurd hj (by omega)⟩, ?_⟩
      rintro i jk2 w7 ⟨i0, i1, s7, hb2⟩
      have s27 := s26.then s7
      refine ifb_intro (fun hi => ?_) (fun hi => ?_)
      · simp only [decide_eq_true_eq] at hi
        obtain ⟨y, hy⟩ : ∃ y, (waitL (rrow P r.rank))[i.toNat]? = some y := ⟨_, List.getElem?_eq_getElem (by omega)⟩
        obtain ⟨b8, rfl, hc⟩ := RowR.elem (Row.then hR6 s7.drew) hy
        have c2 := hc 2 _ rfl
        rw [add_none] at c2
        have B7 := (B6.then s7).then (Step.refl NoB w7).drew
        have C7 := (C6.then s7).then (Step.refl NoB w7).drew
        have yes : (probe || decide (y.call < r.call)) = true → rfits y m = true → itsB Q P r m probe = false := by
          intro h1 h2
          have : (waitL (rrow P r.rank)).any (fun x => (probe || decide (x.call < r.call)) && rfits x m) = true := List.any_eq_true.2 ⟨y, List.mem_of_getElem? hy, by simp only [h1, h2, Bool.and_self]⟩
          unfold itsB
          rw [this]; simp
        have go : ∀ w8, Step NoB w7 w8 → ((probe || decide (y.call < r.call)) && rfits y m) = false → ∃ k : Int, IntKind.wrap .i64 (i + 1) = k ∧ (0 ≤ k ∧ k ≤ n6 ∧ Step NoB w6 w8 ∧ ∀ (j : Nat) (y : Recv), j < k.toNat → (waitL (rrow P r.rank))[j]? = some y → ((probe || decide (y.call < r.call)) && rfits y m) = false) ∧ ((n6 : Int) - k).toNat < ((n6 : Int) - i).toNat := by
          intro w8 s8 hf
          refine ⟨_, w64 (by omega), ⟨by omega, by omega, s7.then s8, ?_⟩, by omega⟩
          rw [show (i + 1).toNat = i.toNat + 1 by omega]
          exact any_take hy hb2 hf
        refine ifb_intro (fun gp => ?_) (fun gp => ?_)
        · refine ⟨i0, hi, b8, 0, rfl, _, _, _, _, _, _, _, _, _, hc, _, _, _, _, _, _, _, _, C7.all, (refFits_calls y m _).mono ?_⟩
          rintro e w8 ⟨rfl, s8⟩
          replace s8 := s8.undrew
          refine ⟨_, rfl, ifb_intro (fun g => ⟨by rw [yes (by rw [gp]; rfl) g], s27.then s8⟩) (fun g => go w8 s8 (by rw [g, Bool.and_false]))⟩
        · refine ⟨i0, hi, b8, 0, rfl, _, c2, _, B7.cell rfl, ifb_intro (fun g2 => ?_) (fun g2 => go _ (Step.refl NoB w7).drew (by rw [gp, g2]; rfl))⟩
          refine ⟨i0, hi, b8, 0, rfl, _, _, _, _, _, _, _, _, _, hc, _, _, _, _, _, _, _, _, C7.all, (refFits_calls y m _).mono ?_⟩
          rintro e w8 ⟨rfl, s8⟩
          replace s8 := s8.undrew
          refine ⟨_, rfl, ifb_intro (fun g => ⟨by rw [yes (by rw [g2, Bool.or_true]) g], s27.then s8⟩) (fun g => go w8 s8 (by rw [g, Bool.and_false]))⟩
      · simp only [decide_eq_false_iff_not] at hi
        have hw : (waitL (rrow P r.rank)).any (fun x => (probe || decide (x.call < r.call)) && rfits x m) = false := any_all fun j y hj hy => hb2 j y (by omega) hy
        refine ⟨?_, s27⟩
        unfold itsB
        rw [hah, hw, g1, g0]; rfl
  · rintro e w' ⟨v, rfl, rfl, h⟩
    exact ⟨rfl, h⟩

/-- those that may be its, of a row of those that are left -/
def AllL (Q : List Msg) (P : List Recv) (r : Recv) (probe : Bool) (out : List Msg) : Prop := ∀ m, m ∈ out ↔ m ∈ Q ∧ 0 ≤ m.fr ∧ m.fr < 64 ∧ itsB Q P r m probe = true
theorem open_iff {Q l : List Msg} (h : ∀ c, row l c = row (open_ Q) c) (m : Msg) : m ∈ l ↔ m ∈ Q ∧ m.taken = false := by
  rw [(perm_of_rows h).mem_iff]
  unfold open_
  rw [List.mem_filter]; simp
theorem mem_take_succ {l : List Msg} {i : Nat} {x m : Msg} (hi : l[i]? = some x) : m ∈ l.take (i + 1) ↔ m ∈ l.take i ∨ m = x := by
  rw [List.take_add_one, hi, Option.toList_some, List.mem_append, List.mem_singleton]
theorem allR_calls {F G : Nat → Prop} {w : World} {p q : Option Addr} {P : List Recv} {Q : List Msg} (hp : SRep w p P F) (hq : TRep w q Q G) (hu : Uniq Q) (hQ : Q.length ≤ 1000000) (hPl : P.length ≤ 1000000) (r : Recv) (probe : Bool) :
    Calls Try.prog 90 #[.pointer p, .pointer q, rvA r, .bool probe] w fun e w' => ∃ A n c out, e = .returned (.slice A n c) ∧ RowM w' A n c out ∧ AllL Q P r probe out ∧ (∀ k, At A k → w.heap.size ≤ k) ∧ Step NoB w w' := by
  refine (V.dispatcherref14_Posted_all_calls (s3 := r.key) (n4 := r.rank) (n5 := r.call) (n6 := r.peer) (n7 := r.tag) (n8 := r.req) (t9 := r.done) (n10 := r.fr) (n11 := r.seq)
    (R := fun v w' => ∃ A n c out, v = .slice A n c ∧ RowM w' A n c out ∧ AllL Q P r probe out ∧ (∀ k, At A k → w.heap.size ≤ k) ∧ Step NoB w w') ?_).mono ?_
  · intro b1 w1 h1
    have s1 := (Step.refl NoB w).new h1
    refine (refLeft_calls (hq.then s1) hQ).mono ?_
    rintro e w2 ⟨A2, n2, c2, l, rfl, hR2, _, hrow, _, s2⟩
    have hop := open_iff hrow
    have hll : l.length ≤ Q.length := by
      have := (perm_of_rows hrow).length_eq
      have := open_length Q
      omega
    have hn2 := RowM.len hR2
    have s12 := s1.then s2
    have B2 := h1.blk.then s2
    refine ⟨_, _, _, rfl, fun A N C f w' => 0 ≤ f ∧ f ≤ 64 ∧ Step NoB w2 w' ∧ (∀ k, At A k → w2.heap.size ≤ k) ∧ ∃ out : List Msg, RowM w' A N C out ∧ (out.length : Int) ≤ f * 1000000 ∧ ∀ m, m ∈ out ↔ m ∈ l ∧ 0 ≤ m.fr ∧ m.fr < f ∧ itsB Q P r m probe = true, fun _ _ _ f _ => (64 - f).toNat, ⟨by omega, by omega, Step.refl _ _, fun k hk => absurd hk at_none, [], Row.nil _ _ _, by simp, fun m => ⟨fun h => (by cases h), fun h => by omega⟩⟩, ?_⟩
    rintro A3 N3 C3 f jk w3 ⟨f0, f1, s3, hat3, out3, hO3, hl3, hm3⟩
    refine ifb_intro (fun hf => ?_) (fun hf => ?_)
    · simp only [decide_eq_true_eq] at hf
      refine ⟨fun A N C i w' => 0 ≤ i ∧ i ≤ n2 ∧ Step NoB w2 w' ∧ (∀ k, At A k → w2.heap.size ≤ k) ∧ ∃ out : List Msg, RowM w' A N C out ∧ (out.length : Int) ≤ f * 1000000 + i ∧ ∀ m, m ∈ out ↔ (m ∈ l ∧ 0 ≤ m.fr ∧ m.fr < f ∧ itsB Q P r m probe = true) ∨ (m ∈ l.take i.toNat ∧ m.fr = f ∧ itsB Q P r m probe = true), fun _ _ _ i _ => (n2 - i).toNat, ⟨by omega, by omega, s3, hat3, out3, hO3, by omega, fun m => by rw [hm3]; simp⟩, ?_⟩
      rintro A4 N4 C4 i jk2 w4 ⟨i0, i1, s4, hat4, out4, hO4, hl4, hm4⟩
      refine ifb_intro (fun hi => ?_) (fun hi => ?_)
      · simp only [decide_eq_true_eq] at hi
        obtain ⟨x, hx⟩ : ∃ x, l[i.toNat]? = some x := ⟨_, List.getElem?_eq_getElem (by omega)⟩
        have s4d := s4.drew
        obtain ⟨b5, rfl, hc⟩ := RowM.elem (Row.then hR2 s4d) hx
        have c1 := hc 1 _ rfl
        rw [add_none] at c1
        have e3 : (i + 1).toNat = i.toNat + 1 := by omega
        have skip : ∀ w', Step NoB w4 w' → ¬ (x.fr = f ∧ itsB Q P r x probe = true) → ∃ k : Int, IntKind.wrap .i64 (i + 1) = k ∧ (0 ≤ k ∧ k ≤ n2 ∧ Step NoB w2 w' ∧ (∀ k, At A4 k → w2.heap.size ≤ k) ∧ ∃ out : List Msg, RowM w' A4 N4 C4 out ∧ (out.length : Int) ≤ f * 1000000 + k ∧ ∀ m, m ∈ out ↔ (m ∈ l ∧ 0 ≤ m.fr ∧ m.fr < f ∧ itsB Q P r m probe = true) ∨ (m ∈ l.take k.toNat ∧ m.fr = f ∧ itsB Q P r m probe = true)) ∧ ((n2 : Int) - k).toNat < ((n2 : Int) - i).toNat := by
          intro w' s hno
          refine ⟨_, w64 (by omega), ⟨by omega, by omega, s4.then s, hat4, out4, Row.then hO4 s, by omega, fun m => ?_⟩, by omega⟩
          rw [hm4, e3, mem_take_succ hx]
          constructor
          · rintro (h | ⟨h1, h2⟩)
            · exact .inl h
            · exact .inr ⟨.inl h1, h2⟩
          · rintro (h | ⟨h1 | rfl, h2⟩)
            · exact .inl h
            · exact .inr ⟨h1, h2⟩
            · exact absurd h2 hno
        refine ⟨i0, hi, b5, 0, rfl, _, c1, ifb_intro (fun g1 => ?_) (fun g1 => skip _ (Step.refl NoB w4).drew fun h => by simp [h.1] at g1)⟩
        simp only [beq_iff_eq] at g1
        refine ⟨_, _, _, _, _, _, _, _, _, (B2.then s4d).all, i0, hi, b5, 0, rfl, _, _, _, _, _, _, _, _, hc, (its_calls ((hp.then s12).then s4d) ((hq.then s12).then s4d) hu hQ hPl r x probe).mono ?_⟩
        rintro e w6 ⟨rfl, s6⟩
        replace s6 := s6.undrew
        refine ⟨_, rfl, ifb_intro (fun g2 => ?_) (fun g2 => skip w6 s6 fun h => by rw [h.2] at g2; cases g2)⟩
        obtain ⟨b7, hb7, hc7⟩ := RowM.elem (Row.then hR2 (s4.then s6)) hx
        cases hb7
        refine ⟨i0, hi, b5, 0, rfl, _, _, _, _, _, _, _, _, hc7, fun b8 w8 h8 => ?_⟩
        have s8 := (s4.then s6).new h8
        have hO8 := Row.then (Row.then hO4 s6) h8.step
        have hlO := RowM.len hO8
        refine ⟨_, _, hO8, reads_blk h8.blk rfl (mv_one x), ?_, by omega, fun A9 C9 w9 h9 hap => ?_⟩
        · have : maxLen = 9223372036854775807 := rfl
          omega
        · refine ⟨_, w64 (by omega), ⟨by omega, by omega, hap.new s8 fun k hk => .inl (hat4 k hk), hap.at' s8 hat4, out4 ++ [x], ?_, by simp only [List.length_append, List.length_singleton]; omega, fun m => ?_⟩, by dsimp only; omega⟩
          · show Row _ _ _ _ _ _ _
            rw [List.flatMap_append, show ([x] : List Msg).flatMap mv = mv x by simp]
            exact h9
          · rw [e3, mem_take_succ hx, List.mem_append, List.mem_singleton, hm4]
            constructor
            · rintro ((h | ⟨h1, h2⟩) | rfl)
              · exact .inl h
              · exact .inr ⟨.inl h1, h2⟩
              · exact .inr ⟨.inr rfl, g1, g2⟩
            · rintro (h | ⟨h1 | h1, h2⟩)
              · exact .inl (.inl h)
              · exact .inl (.inr ⟨h1, h2⟩)
              · exact .inr h1
      · simp only [decide_eq_false_iff_not] at hi
        refine ⟨_, w64 (by omega), ⟨by omega, by omega, s4, hat4, out4, hO4, by omega, fun m => ?_⟩, by dsimp only; omega⟩
        rw [hm4, List.take_of_length_le (by omega)]
        constructor
        · rintro (⟨h1, h2, h3, h4⟩ | ⟨h1, h2, h3⟩)
          · exact ⟨h1, h2, by omega, h4⟩
          · exact ⟨h1, by omega, by omega, h3⟩
        · rintro ⟨h1, h2, h3, h4⟩
          by_cases hc : m.fr = f
          · exact .inr ⟨h1, hc, h4⟩
          · exact .inl ⟨h1, h2, by omega, h4⟩
    · simp only [decide_eq_false_iff_not] at hf
      have : f = 64 := by omega
      subst this
      refine ⟨A3, N3, C3, out3, rfl, hO3, fun m => ?_, fun k hk => Nat.le_trans s12.size (hat3 k hk), s12.then s3⟩
      rw [hm3, hop]
      constructor
      · rintro ⟨⟨h1, _⟩, h2⟩; exact ⟨h1, h2⟩
      · rintro ⟨h1, h2, h3, h4⟩
        refine ⟨⟨h1, ?_⟩, h2, h3, h4⟩
        unfold itsB at h4
        simp only [Bool.and_eq_true, Bool.not_eq_true'] at h4
        exact h4.1
  · rintro e w' ⟨v, rfl, A, n, c, out, rfl, h⟩
    exact ⟨A, n, c, out, rfl, h⟩
/-- the two ways of saying which may be a receive's -/
theorem its_may {Q : List Msg} {P : List Recv} {r : Recv} {rank call : Int} (hat : at_ P rank call = some r) (hd : r.done = false) (m : Msg) : itsB Q P r m false = mayB Q P rank call m := by
  obtain ⟨_, rfl, rfl⟩ := at_call hat
  unfold itsB mayB waitL
  rw [hat]
  simp only [hd, Bool.not_false, Bool.true_and, Bool.false_or, List.any_filter, Bool.and_assoc]
def MayR (Q : List Msg) (P : List Recv) (rank call : Int) (L : List Msg) : Prop := ∀ m, m ∈ L ↔ m ∈ Q ∧ 0 ≤ m.fr ∧ m.fr < 64 ∧ mayB Q P rank call m = true
theorem mayR_calls {F G : Nat → Prop} {w : World} {p q : Option Addr} {P : List Recv} {Q : List Msg} (hp : SRep w p P F) (hq : TRep w q Q G) (hu : Uniq Q) (hQ : Q.length ≤ 1000000) (hPl : P.length ≤ 1000000) (rank call : Int) :
    Calls Try.prog 68 #[.pointer p, .pointer q, .int .i64 rank, .int .i64 call] w fun e w' => ∃ A n c L, e = .returned (.slice A n c) ∧ RowM w' A n c L ∧ MayR Q P rank call L ∧ (∀ k, At A k → w.heap.size ≤ k) ∧ Step NoB w w' := by
  refine (V.dispatcherref14_Posted_May_calls (R := fun v w' => ∃ A n c L, v = .slice A n c ∧ RowM w' A n c L ∧ MayR Q P rank call L ∧ (∀ k, At A k → w.heap.size ≤ k) ∧ Step NoB w w') ?_).mono ?_
  · refine (hp.at_calls rank call).mono ?_
    rintro e w1 ⟨rfl, s1⟩
    refine ⟨_, _, _, _, _, _, _, _, _, _, rfl, ?_⟩
    refine new_set (by simp) rfl fun b2 w2 h2 => ?_
    have s2 := s1.new h2
    have none' : (∀ m, mayB Q P rank call m = false) → MayR Q P rank call [] := fun h m => ⟨fun h => (by cases h), fun hm => by rw [h m] at hm; simp at hm⟩
    refine ifb_intro (fun g => ?_) (fun g => ?_)
    · have ha : at_ P rank call = none := by simpa using g
      exact ⟨_, _, _, [], rfl, Row.nil _ _ _, none' fun m => by unfold mayB; rw [ha], fun k hk => absurd hk at_none, s2⟩
    · obtain ⟨r, ha⟩ : ∃ r, at_ P rank call = some r := Option.isSome_iff_exists.1 (by simpa using g)
      rw [ha] at h2
      refine ⟨_, h2.blk.cell rfl, ifb_intro (fun g2 => ?_) (fun g2 => ?_)⟩
      · replace g2 : r.done = true := g2
        exact ⟨_, _, _, [], rfl, Row.nil _ _ _, none' fun m => by unfold mayB; rw [ha]; simp [g2], fun k hk => absurd hk at_none, s2⟩
      · replace g2 : r.done = false := g2
        refine ⟨_, _, _, _, _, _, _, _, _, h2.blk.all, (allR_calls (hp.then s2) (hq.then s2) hu hQ hPl r false).mono ?_⟩
        rintro e w3 ⟨A3, n3, c3, out, rfl, hR3, hA, hat3, s3⟩
        refine ⟨_, _, _, rfl, _, _, _, out, rfl, hR3, fun m => ?_, fun k hk => Nat.le_trans s2.size (hat3 k hk), s2.then s3⟩
        rw [hA m, its_may ha g2]
  · rintro e w' ⟨v, rfl, A, n, c, out, rfl, h⟩
    exact ⟨A, n, c, out, rfl, h⟩

end Go.Proofs.Ytdaojmkbjkaakaa
