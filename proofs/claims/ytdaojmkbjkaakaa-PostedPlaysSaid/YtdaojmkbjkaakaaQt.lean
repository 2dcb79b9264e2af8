/- Contracts: stable sorting of however many messages. Conditions: none. -/
import Derived.Test.YtdaojmkbjkaakaaQs
set_option linter.unusedVariables false
set_option linter.unusedSimpArgs false
namespace Go.Proofs.Ytdaojmkbjkaakaa
open Go.Vc Go.Q13 Go.RowKit

/-- sorted in blocks of s each -/
def Blocks (l : List Msg) (s n : Nat) : Prop := ∀ t, SortedOn l (t * s) (min ((t + 1) * s) n)
theorem Blocks.all {l : List Msg} {s n : Nat} (h : Blocks l s n) (hs : n ≤ s) : SortedOn l 0 n := by
  have := h 0
  rwa [Nat.zero_mul, Nat.zero_add, Nat.one_mul, Nat.min_eq_right hs] at this
theorem SortedOn.same {l l' : List Msg} {a b x y : Nat} (h : SortedOn l a b) (s : Same l l' x y) (hd : b ≤ x ∨ y ≤ a) : SortedOn l' a b := fun p q h1 h2 h3 => by
  rw [s.out p (by omega), s.out q (by omega)]; exact h p q h1 h2 h3
theorem SortedOn.nil (l : List Msg) {a b : Nat} (h : b ≤ a + 1) : SortedOn l a b := fun p q h1 h2 h3 => by omega

theorem stable_calls {w : World} {A : Option Addr} {n c : Nat} {l : List Msg} (hR : RowM w A n c l) (hN : n ≤ 1000000) :
    Calls Try.prog 58 #[.slice A n c, .int .i64 n, .func (.func 36) #[] #[]] w fun e w' => e = .returned (.tuple #[]) ∧ Merged w A n c l 0 n w' := by
  have hn := hR.len
  refine (V.slices_stableCmpFunc_calls (cap2 := []) (R := fun v w' => v = .tuple #[] ∧ Merged w A n c l 0 n w') ?_).mono ?_
  · -- blocks of 20
    refine ⟨fun x y w' => ∃ t : Nat, x = ((t * 20 : Nat) : Int) ∧ y = ((t * 20 + 20 : Nat) : Int) ∧ t * 20 ≤ n ∧ ∃ l', RowM w' A n c l' ∧ Same l l' 0 n ∧ (∀ u, u < t → SortedOn l' (u * 20) (u * 20 + 20)) ∧ Step (At A) w w', fun x _ _ => (n + 20 - x).toNat, ⟨0, rfl, rfl, Nat.zero_le _, l, hR, Same.refl _ _ _, fun u hu => by omega, Step.refl _ _⟩, ?_⟩
    rintro x y jk w1 ⟨t, rfl, rfl, ht, l1, R1, S1, O1, T1⟩
    refine ifb_intro (fun g1 => ?_) (fun g1 => ?_)
    · simp only [decide_eq_true_eq] at g1
      refine (insertion_calls R1 (a := t * 20) (b := t * 20 + 20) (by omega) (by omega) (by omega)).mono ?_
      rintro e w2 ⟨rfl, l2, R2, S2, O2, T2⟩
      refine ⟨rfl, ((t * 20 + 40 : Nat) : Int), by rw [w64 (by omega)]; omega, ⟨t + 1, by omega, by omega, by omega, l2, R2, S1.trans (S2.mono (by omega) (by omega)), fun u hu => ?_, T1.both T2⟩, by dsimp only; omega⟩
      by_cases hc : u = t
      · subst hc; exact O2
      · exact (O1 u (by omega)).same S2 (.inl (by omega))
    · simp only [decide_eq_false_iff_not] at g1
      refine (insertion_calls R1 (a := t * 20) (b := n) ht (Nat.le_refl _) (by omega)).mono ?_
      rintro e w2 ⟨rfl, l2, R2, S2, O2, T2⟩
      have hB : Blocks l2 20 n := by
        intro u
        by_cases hu : u < t
        · have := (O1 u hu).same S2 (.inl (by omega))
          intro p q h1 h2 h3
          exact this p q h1 h2 (by omega)
        · by_cases hc : u = t
          · subst hc
            intro p q h1 h2 h3
            exact O2 p q h1 h2 (by omega)
          · intro p q h1 h2 h3
            have : (t + 1) * 20 ≤ u * 20 := Nat.mul_le_mul_right 20 (by omega)
            omega
      -- merging
      refine ⟨rfl, fun x w' => ∃ s : Nat, x = s ∧ 0 < s ∧ s ≤ 2000000 ∧ ∃ l', RowM w' A n c l' ∧ Same l l' 0 n ∧ Blocks l' s n ∧ Step (At A) w w', fun x _ => (n - x).toNat, ⟨20, rfl, by omega, by omega, l2, R2, S1.trans (S2.mono (Nat.zero_le _) (Nat.le_refl _)), hB, T1.both T2⟩, ?_⟩
      rintro x jk2 w3 ⟨s, rfl, s0, s1, l3, R3, S3, B3, T3⟩
      refine ifb_intro (fun g2 => ?_) (fun g2 => ?_)
      · simp only [decide_eq_true_eq] at g2
        have hsn : s < n := by omega
        refine ⟨((2 * s : Nat) : Int), by rw [w64 (by omega)]; omega, fun x y w' => ∃ t : Nat, x = ((t * (2 * s) : Nat) : Int) ∧ y = ((t * (2 * s) + 2 * s : Nat) : Int) ∧ t * (2 * s) ≤ n ∧ ∃ l', RowM w' A n c l' ∧ Same l l' 0 n ∧ (∀ u, u < t → SortedOn l' (u * (2 * s)) (u * (2 * s) + 2 * s)) ∧ (∀ u, 2 * t ≤ u → SortedOn l' (u * s) (min ((u + 1) * s) n)) ∧ Step (At A) w w', fun x _ _ => (n + 2 * s - x).toNat, ⟨0, by simp, by simp, by omega, l3, R3, S3, fun u hu => by omega, fun u _ => B3 u, T3⟩, ?_⟩
        rintro x y jk3 w4 ⟨t, rfl, rfl, ht, l4, R4, S4, O4, P4, T4⟩
        have e1 : (2 * t) * s = t * (2 * s) := by rw [Nat.mul_comm 2 t, Nat.mul_assoc]
        have e2 : (2 * t + 1) * s = t * (2 * s) + s := by rw [Nat.add_mul, e1, Nat.one_mul]
        have e3 : (2 * t + 1 + 1) * s = t * (2 * s) + 2 * s := by rw [Nat.add_mul, e2, Nat.one_mul]; omega
        generalize hT : t * (2 * s) = T at *
        have p0 := P4 (2 * t) (Nat.le_refl _)
        have p1 := P4 (2 * t + 1) (by omega)
        rw [e1, e2] at p0
        rw [e2, e3] at p1
        refine ifb_intro (fun g3 => ?_) (fun g3 => ?_)
        · simp only [decide_eq_true_eq] at g3
          rw [Nat.min_eq_left (by omega)] at p0 p1
          refine ⟨((T + s : Nat) : Int), by rw [w64 (by omega)]; omega, ?_⟩
          refine (symMerge_calls n R4 (a := T) (m := T + s) (b := T + 2 * s) (by omega) (by omega) (by omega) (by omega) (by omega) p0 p1).mono ?_
          rintro e w5 ⟨rfl, l5, R5, S5, O5, T5⟩
          have e4 : (t + 1) * (2 * s) = T + 2 * s := by rw [Nat.add_mul, hT, Nat.one_mul]
          refine ⟨rfl, ((2 * s : Nat) : Int), by rw [w64 (by omega)]; omega, ((T + 4 * s : Nat) : Int), by rw [w64 (by omega)]; omega, ⟨t + 1, by rw [e4], by rw [e4]; omega, by rw [e4]; omega, l5, R5, S4.trans (S5.mono (Nat.zero_le _) (by omega)), fun u hu => ?_, fun u hu => ?_, T4.both T5⟩, by dsimp only; omega⟩
          · by_cases hc : u = t
            · subst hc; rw [hT]; exact O5
            · have hle : (u + 1) * (2 * s) ≤ t * (2 * s) := Nat.mul_le_mul_right _ (by omega)
              rw [Nat.add_mul, Nat.one_mul, hT] at hle
              exact (O4 u (by omega)).same S5 (.inl hle)
          · have hle : (2 * (t + 1)) * s ≤ u * s := Nat.mul_le_mul_right _ hu
            rw [show 2 * (t + 1) = 2 * t + 1 + 1 by omega, e3] at hle
            exact (P4 u (by omega)).same S5 (.inr hle)
        · simp only [decide_eq_false_iff_not] at g3
          have hblk : ∀ l5 : List Msg, (∀ u, u < t → SortedOn l5 (u * (2 * s)) (u * (2 * s) + 2 * s)) → SortedOn l5 T n → Blocks l5 (2 * s) n := by
            intro l5 h5 h6 u
            by_cases hu : u < t
            · intro p q q1 q2 q3
              have e5 : (u + 1) * (2 * s) = u * (2 * s) + 2 * s := by rw [Nat.add_mul, Nat.one_mul]
              exact h5 u hu p q q1 q2 (by omega)
            · by_cases hc : u = t
              · subst hc
                rw [hT]
                intro p q q1 q2 q3
                exact h6 p q q1 q2 (by omega)
              · have hle : (t + 1) * (2 * s) ≤ u * (2 * s) := Nat.mul_le_mul_right _ (by omega)
                rw [Nat.add_mul, Nat.one_mul, hT] at hle
                intro p q q1 q2 q3
                omega
          refine ⟨((T + s : Nat) : Int), by rw [w64 (by omega)]; omega, ifb_intro (fun g4 => ?_) (fun g4 => ?_)⟩
          · simp only [decide_eq_true_eq] at g4
            rw [Nat.min_eq_left (by omega)] at p0
            rw [Nat.min_eq_right (by omega)] at p1
            refine (symMerge_calls n R4 (a := T) (m := T + s) (b := n) (by omega) (by omega) (by omega) (Nat.le_refl _) (by omega) p0 p1).mono ?_
            rintro e w5 ⟨rfl, l5, R5, S5, O5, T5⟩
            refine ⟨rfl, ((2 * s : Nat) : Int), by rw [w64 (by omega)]; omega, ⟨2 * s, rfl, by omega, by omega, l5, R5, S4.trans (S5.mono (Nat.zero_le _) (Nat.le_refl _)), hblk l5 (fun u hu => ?_) O5, T4.both T5⟩, by dsimp only; omega⟩
            have hle : (u + 1) * (2 * s) ≤ t * (2 * s) := Nat.mul_le_mul_right _ (by omega)
            rw [Nat.add_mul, Nat.one_mul, hT] at hle
            exact (O4 u hu).same S5 (.inl hle)
          · simp only [decide_eq_false_iff_not] at g4
            rw [Nat.min_eq_right (by omega)] at p0
            exact ⟨((2 * s : Nat) : Int), by rw [w64 (by omega)]; omega, ⟨2 * s, rfl, by omega, by omega, l4, R4, S4, hblk l4 O4 p0, T4⟩, by dsimp only; omega⟩
      · simp only [decide_eq_false_iff_not] at g2
        exact ⟨rfl, l3, R3, S3, B3.all (by omega), T3⟩
  · rintro e w' ⟨v, rfl, rfl, h⟩
    exact ⟨rfl, h⟩

/-- THE STABLE SORT SORTS, whatever the list (of at most a million). -/
theorem sortsM (l : List Msg) (hl : l.length ≤ 1000000) : SortsM l := by
  intro w A n c hR
  have hn := RowM.len hR
  refine (V.slices_SortStableFunc_calls (cap1 := []) (R := fun v w' => v = .tuple #[] ∧ Merged w A n c l 0 n w') ?_).mono ?_
  · refine (stable_calls hR (by omega)).mono ?_
    rintro e w1 ⟨rfl, h⟩
    exact ⟨rfl, rfl, h⟩
  · rintro e w1 ⟨v, rfl, rfl, l', R', S', O', T'⟩
    have hl' := RowM.len R'
    refine ⟨rfl, l', R', ⟨?_, S'.rows⟩, T'⟩
    rw [List.pairwise_iff_getElem]
    intro i j hi hj hij
    have := O' i j (Nat.zero_le _) hij (by omega)
    have e1 : el_ l' i = l'[i] := by have := el_get hi; rw [List.getElem?_eq_getElem hi] at this; exact (Option.some.inj this).symm
    have e2 : el_ l' j = l'[j] := by have := el_get hj; rw [List.getElem?_eq_getElem hj] at this; exact (Option.some.inj this).symm
    rw [e1, e2] at this
    rw [ord_lt]; exact this

end Go.Proofs.Ytdaojmkbjkaakaa
