/- Contracts: insertion, ranges that change places, rotation. Conditions: none. -/
import Derived.Test.YtdaojmkbjkaakaaQp
set_option linter.unusedVariables false
set_option linter.unusedSimpArgs false
namespace Go.Proofs.Ytdaojmkbjkaakaa
open Go.Vc Go.Q13 Go.RowKit

/-- in the midst of insertion: all from a to i in order, but for the one at j, that comes before those behind it -/
def Ins (l : List Msg) (a i j : Nat) : Prop := (∀ p q, a ≤ p → p < q → q ≤ i → q ≠ j → p ≠ j → le (el_ l p) (el_ l q)) ∧ ∀ q, j < q → q ≤ i → lt (el_ l j) (el_ l q)
theorem Ins.start {l : List Msg} {a i : Nat} (h : SortedOn l a i) : Ins l a i i := ⟨fun p q h1 h2 h3 h4 _ => h p q h1 h2 (by omega), fun q h1 h2 => by omega⟩
theorem Ins.low {l : List Msg} {a i : Nat} (h : Ins l a i a) : SortedOn l a (i + 1) := by
  intro p q h1 h2 h3
  by_cases hp : p = a
  · subst hp; exact lt_le (h.2 q h2 (by omega))
  · exact h.1 p q h1 h2 (by omega) (by omega) hp
theorem Ins.stop {l : List Msg} {a i j : Nat} (h : Ins l a i j) (hj : a < j) (hle : le (el_ l (j - 1)) (el_ l j)) : SortedOn l a (i + 1) := by
  intro p q h1 h2 h3
  by_cases hp : p = j
  · subst hp; exact lt_le (h.2 q h2 (by omega))
  · by_cases hq : q = j
    · subst hq
      by_cases hp1 : p = q - 1
      · subst hp1; exact hle
      · exact le_trans (h.1 p (q - 1) h1 (by omega) (by omega) (by omega) hp) hle
    · exact h.1 p q h1 h2 (by omega) hq hp
theorem Ins.step {l : List Msg} {a i j : Nat} (h : Ins l a i j) (hj : a < j) (hji : j ≤ i) (hi : i < l.length) (hlt : lt (el_ l j) (el_ l (j - 1))) : Ins (swp l j (j - 1)) a i (j - 1) := by
  have e : ∀ p, el_ (swp l j (j - 1)) p = if p = j - 1 then el_ l j else if p = j then el_ l (j - 1) else el_ l p := el_swp (by omega) (by omega)
  constructor
  · intro p q h1 h2 h3 h4 h5
    rw [e p, e q, if_neg h5, if_neg h4]
    by_cases hp : p = j
    · rw [if_pos hp, if_neg (by omega)]
      exact h.1 (j - 1) q (by omega) (by omega) h3 (by omega) (by omega)
    · rw [if_neg hp]
      by_cases hq : q = j
      · rw [if_pos hq]
        exact h.1 p (j - 1) h1 (by omega) (by omega) (by omega) hp
      · rw [if_neg hq]
        exact h.1 p q h1 h2 h3 hq hp
  · intro q h1 h2
    rw [e (j - 1), e q, if_pos rfl, if_neg (by omega)]
    by_cases hq : q = j
    · rw [if_pos hq]; exact hlt
    · rw [if_neg hq]; exact h.2 q (by omega) h2

theorem insertion_calls {w : World} {A : Option Addr} {n c : Nat} {l : List Msg} (hR : RowM w A n c l) {a b : Nat} (hab : a ≤ b) (hb : b ≤ n) (hN : n ≤ 1000000000) :
    Calls Try.prog 74 #[.slice A n c, .int .i64 a, .int .i64 b, .func (.func 36) #[] #[]] w fun e w' => e = .returned (.tuple #[]) ∧ ∃ l', RowM w' A n c l' ∧ Same l l' a b ∧ SortedOn l' a b ∧ Step (At A) w w' := by
  have hn := hR.len
  refine (V.slices_insertionSortCmpFunc_calls (cap3 := []) (R := fun v w' => v = .tuple #[] ∧ ∃ l', RowM w' A n c l' ∧ Same l l' a b ∧ SortedOn l' a b ∧ Step (At A) w w') ?_).mono ?_
  · refine ⟨_, w64 (by omega), fun i w' => ∃ k : Nat, i = k ∧ a + 1 ≤ k ∧ k ≤ max b (a + 1) ∧ ∃ l', RowM w' A n c l' ∧ Same l l' a b ∧ SortedOn l' a k ∧ Step (At A) w w', fun i _ => (b - i).toNat, ⟨a + 1, by omega, by omega, by omega, l, hR, Same.refl _ _ _, fun p q h1 h2 h3 => by omega, Step.refl _ _⟩, ?_⟩
    rintro i jk w1 ⟨k, rfl, hk1, hk2, l1, R1, S1, O1, T1⟩
    refine ifb_intro (fun hi => ?_) (fun hi => ?_)
    · simp only [decide_eq_true_eq] at hi
      have hkb : k < b := by omega
      refine ⟨fun j w' => ∃ q : Nat, j = q ∧ a ≤ q ∧ q ≤ k ∧ ∃ l', RowM w' A n c l' ∧ Same l l' a b ∧ Ins l' a k q ∧ Step (At A) w w', fun j _ => (j - a).toNat, ⟨k, rfl, by omega, Nat.le_refl _, l1, R1, S1, Ins.start O1, T1⟩, ?_⟩
      rintro j jk2 w2 ⟨q, rfl, hq1, hq2, l2, R2, S2, I2, T2⟩
      have hl2 := RowM.len R2
      refine ifb_intro (fun hj => ?_) (fun hj => ?_)
      · simp only [gt_iff_lt, decide_eq_true_eq] at hj
        have R2d : RowM w2.drew A n c l2 := Row.then R2 (Step.refl _ _).drew
        obtain ⟨b1, rfl, hc1⟩ := R2d.at_ (i := q) (by omega)
        obtain ⟨b2, hA2, hc2⟩ := R2d.at_ (i := q - 1) (by omega)
        cases hA2
        have e1 : ((q : Int) - 1).toNat = q - 1 := by omega
        refine ⟨by omega, by omega, b1, 0, rfl, _, _, _, _, _, _, _, _, hc1, _, w64 (by omega), by omega, by omega, b1, 0, rfl, _, _, _, _, _, _, _, _, by rw [e1]; exact hc2, entersB_out (by kernel_rfl), ?_⟩
        refine (order_calls (el_ l2 q) (el_ l2 (q - 1)) _).mono ?_
        rintro e w3 ⟨rfl, s3⟩
        replace s3 := s3.undrew
        have T3 := T2.then s3
        refine ⟨_, rfl, ifb_intro (fun hlt => ?_) (fun hlt => ?_)⟩
        · simp only [decide_eq_true_eq, ord_lt] at hlt
          refine ⟨_, w64 (by omega), _, w64 (by omega), ?_⟩
          have R3d : RowM w3.drew (some ⟨b1, 0, none⟩) n c l2 := Row.then (Row.then R2 s3) (Step.refl _ _).drew
          refine swap_in R3d (by omega) (by omega) rfl rfl fun w4 R4 s4 => ?_
          rw [e1, Int.toNat_natCast] at R4
          refine ⟨_, w64 (by omega), ⟨q - 1, by omega, by omega, by omega, _, R4, S2.trans ?_, I2.step (by omega) hq2 (by omega) hlt, T3.both s4.undrew⟩, by dsimp only; omega⟩
          have hs := same_swap (l := l2) (i := q - 1) (by omega) (by rw [show q - 1 + 1 = q by omega]; exact (lt_ch hlt).symm) (swp l2 q (q - 1)) (.inr (by rw [show q - 1 + 1 = q by omega]))
          exact hs.mono (by omega) (by omega)
        · simp only [decide_eq_false_iff_not, ord_lt] at hlt
          exact ⟨_, w64 (by omega), ⟨k + 1, by omega, by omega, by omega, l2, Row.then R2 s3, S2, I2.stop (by omega) hlt, T3⟩, by dsimp only; omega⟩
      · simp only [gt_iff_lt, decide_eq_false_iff_not] at hj
        have hqa : q = a := by omega
        subst hqa
        exact ⟨_, w64 (by omega), ⟨k + 1, by omega, by omega, by omega, l2, Row.then R2 (Step.refl _ _).drew, S2, I2.low, T2.drew⟩, by dsimp only; omega⟩
    · simp only [decide_eq_false_iff_not] at hi
      refine ⟨rfl, l1, R1, S1, fun p q h1 h2 h3 => O1 p q h1 h2 (by omega), T1⟩
  · rintro e w' ⟨v, rfl, rfl, h⟩
    exact ⟨rfl, h⟩

/-! ### ranges change places -/
def swrF (f : Nat → Msg) (a b k p : Nat) : Msg := if a ≤ p ∧ p < a + k then f (p - a + b) else if b ≤ p ∧ p < b + k then f (p - b + a) else f p
theorem swapRange_calls {w : World} {A : Option Addr} {n c : Nat} {l : List Msg} (hR : RowM w A n c l) {a b k : Nat} (hab : a + k ≤ b) (hb : b + k ≤ n) (hN : n ≤ 1000000000) :
    Calls Try.prog 100 #[.slice A n c, .int .i64 a, .int .i64 b, .int .i64 k, .func (.func 36) #[] #[]] w fun e w' => e = .returned (.tuple #[]) ∧ ∃ l', RowM w' A n c l' ∧ l'.length = l.length ∧ (∀ p, el_ l' p = swrF (el_ l) a b k p) ∧ Step (At A) w w' := by
  have hn := hR.len
  refine (V.slices_swapRangeCmpFunc_calls (cap4 := []) (R := fun v w' => v = .tuple #[] ∧ ∃ l', RowM w' A n c l' ∧ l'.length = l.length ∧ (∀ p, el_ l' p = swrF (el_ l) a b k p) ∧ Step (At A) w w') ?_).mono ?_
  · refine ⟨fun i w' => ∃ q : Nat, i = q ∧ q ≤ k ∧ ∃ l', RowM w' A n c l' ∧ l'.length = l.length ∧ (∀ p, el_ l' p = swrF (el_ l) a b q p) ∧ Step (At A) w w', fun i _ => (k - i).toNat, ⟨0, rfl, Nat.zero_le _, l, hR, rfl, fun p => ?_, Step.refl _ _⟩, ?_⟩
    · unfold swrF; rw [if_neg (by omega), if_neg (by omega)]
    rintro i jk w1 ⟨q, rfl, hq, l1, R1, hl1, E1, T1⟩
    refine ifb_intro (fun hi => ?_) (fun hi => ?_)
    · simp only [decide_eq_true_eq] at hi
      refine ⟨_, w64 (by omega), _, w64 (by omega), _, w64 (by omega), ?_⟩
      have R1d : RowM w1.drew A n c l1 := Row.then R1 (Step.refl _ _).drew
      obtain ⟨b1, rfl, hc1⟩ := R1d.at_ (i := b + q) (by omega)
      have e1 : ((b : Int) + q).toNat = b + q := by omega
      have e2 : ((a : Int) + q).toNat = a + q := by omega
      have main := swap_in (K := fun w' => ∃ c44 : Int, IntKind.wrap .i64 ((q : Int) + (1 : Int)) = c44 ∧ (∃ q : Nat, c44 = q ∧ q ≤ k ∧ ∃ l', RowM w' (some ⟨b1, 0, none⟩) n c l' ∧ l'.length = l.length ∧ (∀ p, el_ l' p = swrF (el_ l) a b q p) ∧ Step (At (some ⟨b1, 0, none⟩)) w w') ∧ (k - c44).toNat < ((k : Int) - (q : Int)).toNat)
        R1d (i := (a : Int) + q) (i' := (a : Int) + q) (j := (b : Int) + q) (j' := (b : Int) + q) (by omega) (by omega) rfl rfl (fun w4 R4 s4 => by
          rw [e1, e2] at R4
          refine ⟨_, w64 (by omega), ⟨q + 1, by omega, by omega, _, R4, (swp_length ..).trans hl1, fun p => ?_, T1.both s4.undrew⟩, by omega⟩
          rw [el_swp (by omega) (by omega), E1, E1, E1]
          unfold swrF
          repeat' split
          all_goals first
            | omega
            | (congr 1; omega)
            | rfl)
      obtain ⟨g1, g2, b', o', hA', s1, x1, x2, x3, x4, x5, x6, t1, gc, g3, g4, rest⟩ := main
      refine ⟨g1, g2, b', o', hA', s1, x1, x2, x3, x4, x5, x6, t1, gc, _, w64 (by omega), g3, g4, rest⟩
    · simp only [decide_eq_false_iff_not] at hi
      have : q = k := by omega
      subst this
      exact ⟨rfl, l1, R1, hl1, E1, T1⟩
  · rintro e w' ⟨v, rfl, rfl, h⟩
    exact ⟨rfl, h⟩

theorem rotate_calls {w : World} {A : Option Addr} {n c : Nat} {l : List Msg} (hR : RowM w A n c l) {a m b : Nat} (h1 : a < m) (h2 : m < b) (hb : b ≤ n) (hN : n ≤ 1000000000) :
    Calls Try.prog 91 #[.slice A n c, .int .i64 a, .int .i64 m, .int .i64 b, .func (.func 36) #[] #[]] w fun e w' => e = .returned (.tuple #[]) ∧ ∃ l', RowM w' A n c l' ∧ l'.length = l.length ∧ (∀ p, el_ l' p = rotF (el_ l) a m b p) ∧ Step (At A) w w' := by
  have hn := hR.len
  refine (V.slices_rotateCmpFunc_calls (cap4 := []) (R := fun v w' => v = .tuple #[] ∧ ∃ l', RowM w' A n c l' ∧ l'.length = l.length ∧ (∀ p, el_ l' p = rotF (el_ l) a m b p) ∧ Step (At A) w w') ?_).mono ?_
  · refine ⟨_, w64 (by omega), _, w64 (by omega), fun i j w' => ∃ p q : Nat, i = p ∧ j = q ∧ 0 < p ∧ 0 < q ∧ p ≤ m - a ∧ q ≤ b - m ∧ ∃ l', RowM w' A n c l' ∧ l'.length = l.length ∧ (∀ x, rotF (el_ l') (m - p) m (m + q) x = rotF (el_ l) a m b x) ∧ Step (At A) w w', fun i j _ => (i + j).toNat, ⟨m - a, b - m, by omega, by omega, by omega, by omega, by omega, by omega, l, hR, rfl, fun x => ?_, Step.refl _ _⟩, ?_⟩
    · rw [show m - (m - a) = a by omega, show m + (b - m) = b by omega]
    rintro i j jk w1 ⟨p, q, rfl, rfl, p0, q0, pm, qm, l1, R1, hl1, E1, T1⟩
    refine ifb_intro (fun hij => ?_) (fun hij => ?_)
    · simp only [bne_iff_ne, ne_eq] at hij
      refine ifb_intro (fun hgt => ?_) (fun hgt => ?_)
      · simp only [gt_iff_lt, decide_eq_true_eq] at hgt
        refine ⟨((m - p : Nat) : Int), by rw [w64 (by omega)]; omega, ?_⟩
        refine (swapRange_calls R1 (a := m - p) (b := m) (k := q) (by omega) (by omega) hN).mono ?_
        rintro e w2 ⟨rfl, l2, R2, hl2, E2, T2⟩
        refine ⟨rfl, _, w64 (by omega), ⟨p - q, q, by omega, rfl, by omega, q0, by omega, qm, l2, R2, hl2.trans hl1, fun x => ?_, T1.both T2⟩, by dsimp only; omega⟩
        rw [← E1 x]
        unfold rotF
        simp only [E2]
        unfold swrF
        repeat' split
        all_goals first
          | omega
          | (congr 1; omega)
          | rfl
      · simp only [gt_iff_lt, decide_eq_false_iff_not] at hgt
        refine ⟨((m - p : Nat) : Int), by rw [w64 (by omega)]; omega, _, w64 (by omega), ((m + q - p : Nat) : Int), by rw [w64 (by omega)]; omega, ?_⟩
        refine (swapRange_calls R1 (a := m - p) (b := m + q - p) (k := p) (by omega) (by omega) hN).mono ?_
        rintro e w2 ⟨rfl, l2, R2, hl2, E2, T2⟩
        refine ⟨rfl, _, w64 (by omega), ⟨p, q - p, rfl, by omega, p0, by omega, pm, by omega, l2, R2, hl2.trans hl1, fun x => ?_, T1.both T2⟩, by dsimp only; omega⟩
        rw [← E1 x]
        unfold rotF
        simp only [E2]
        unfold swrF
        repeat' split
        all_goals first
          | omega
          | (congr 1; omega)
          | rfl
    · simp only [bne_eq_false_iff_eq] at hij
      have hpq : p = q := by omega
      subst hpq
      refine ⟨((m - p : Nat) : Int), by rw [w64 (by omega)]; omega, ?_⟩
      refine (swapRange_calls R1 (a := m - p) (b := m) (k := p) (by omega) (by omega) hN).mono ?_
      rintro e w2 ⟨rfl, l2, R2, hl2, E2, T2⟩
      refine ⟨rfl, rfl, l2, R2, hl2.trans hl1, fun x => ?_, T1.both T2⟩
      rw [← E1 x, E2]
      unfold rotF swrF
      repeat' split
      all_goals first
        | omega
        | (congr 1; omega)
        | rfl
  · rintro e w' ⟨v, rfl, rfl, h⟩
    exact ⟨rfl, h⟩

end Go.Proofs.Ytdaojmkbjkaakaa
