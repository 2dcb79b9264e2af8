/- Contracts: merging in place, and stable sorting. Conditions: none. -/
import Derived.Test.YtdaojmkbjkaakaaQr
set_option linter.unusedVariables false
set_option linter.unusedSimpArgs false
namespace Go.Proofs.Ytdaojmkbjkaakaa
open Go.Vc Go.Q13 Go.RowKit

theorem half (x : Nat) (h : x ≤ 4000000000) : IntKind.wrap .i64 (Int.fdiv (x : Int) (2 ^ 1)) = ((x / 2 : Nat) : Int) := by
  have : Int.fdiv (x : Int) (2 ^ 1) = ((x / 2 : Nat) : Int) := by
    rw [Int.fdiv_eq_ediv_of_nonneg _ (by decide)]; rfl
  rw [this]; exact w64 (by omega)
theorem wu64 (x : Nat) (h : x ≤ 4000000000) : IntKind.wrap .u64 (x : Int) = (x : Int) := IntWalk.u64_in _ (by omega)

/-- the first is let down to its place -/
theorem down_sorted {l l' : List Msg} {a i b : Nat} (hab : a + 1 ≤ i) (hib : i ≤ b) (hs : SortedOn l (a + 1) b) (hlo : ∀ h, a + 1 ≤ h → h < i → lt (el_ l h) (el_ l a)) (hhi : ∀ h, i ≤ h → h < b → le (el_ l a) (el_ l h))
    (e : ∀ p, el_ l' p = if a ≤ p ∧ p < i - 1 then el_ l (p + 1) else if p = i - 1 then el_ l a else el_ l p) : SortedOn l' a b := by
  intro p q h1 h2 h3
  rw [e p, e q]
  by_cases c1 : q < i - 1
  · rw [if_pos ⟨h1, by omega⟩, if_pos ⟨by omega, c1⟩]
    exact hs _ _ (by omega) (by omega) (by omega)
  · by_cases c2 : q = i - 1
    · subst c2
      rw [if_pos ⟨h1, h2⟩, if_neg (by omega), if_pos rfl]
      exact lt_le (hlo _ (by omega) (by omega))
    · rw [if_neg (c := a ≤ q ∧ q < i - 1) (by omega), if_neg c2]
      by_cases c3 : p < i - 1
      · rw [if_pos ⟨h1, c3⟩]
        exact hs _ _ (by omega) (by omega) (by omega)
      · rw [if_neg (by omega)]
        by_cases c4 : p = i - 1
        · rw [if_pos c4]; exact hhi _ (by omega) h3
        · rw [if_neg c4]; exact hs _ _ (by omega) (by omega) (by omega)
/-- the last is lifted up to its place -/
theorem up_sorted {l l' : List Msg} {a i m : Nat} (hai : a ≤ i) (him : i ≤ m) (hs : SortedOn l a m) (hlo : ∀ h, a ≤ h → h < i → le (el_ l h) (el_ l m)) (hhi : ∀ h, i ≤ h → h < m → lt (el_ l m) (el_ l h))
    (e : ∀ p, el_ l' p = if i < p ∧ p ≤ m then el_ l (p - 1) else if p = i then el_ l m else el_ l p) : SortedOn l' a (m + 1) := by
  intro p q h1 h2 h3
  rw [e p, e q]
  by_cases c1 : i < p
  · rw [if_pos ⟨c1, by omega⟩, if_pos ⟨by omega, by omega⟩]
    exact hs _ _ (by omega) (by omega) (by omega)
  · rw [if_neg (c := i < p ∧ p ≤ m) (by omega)]
    by_cases c2 : p = i
    · rw [if_pos c2, if_pos ⟨by omega, by omega⟩]
      exact lt_le (hhi _ (by omega) (by omega))
    · rw [if_neg c2]
      by_cases c3 : i < q
      · rw [if_pos ⟨c3, by omega⟩]
        exact hs _ _ (by omega) (by omega) (by omega)
      · rw [if_neg (by omega)]
        by_cases c4 : q = i
        · rw [if_pos c4]; exact hlo _ h1 (by omega)
        · rw [if_neg c4]; exact hs _ _ (by omega) (by omega) (by omega)

def Merged (w : World) (A : Option Addr) (n c : Nat) (l : List Msg) (a b : Nat) (w' : World) : Prop := ∃ l', RowM w' A n c l' ∧ Same l l' a b ∧ SortedOn l' a b ∧ Step (At A) w w'

theorem symMerge_calls : ∀ (k : Nat) {w : World} {A : Option Addr} {n c : Nat} {l : List Msg} (hR : RowM w A n c l) {a m b : Nat} (hk : b - a ≤ k) (h1 : a < m) (h2 : m < b) (hb : b ≤ n) (hN : n ≤ 1000000000) (s1 : SortedOn l a m) (s2 : SortedOn l m b),
    Calls Try.prog 75 #[.slice A n c, .int .i64 a, .int .i64 m, .int .i64 b, .func (.func 36) #[] #[]] w fun e w' => e = .returned (.tuple #[]) ∧ Merged w A n c l a b w' := by
  intro k
  induction k with
  | zero => intro w A n c l hR a m b hk h1 h2; omega
  | succ k ih =>
  intro w A n c l hR a m b hk h1 h2 hb hN s1 s2
  have hn := hR.len
  refine (V.slices_symMergeCmpFunc_calls (cap4 := []) (R := fun v w' => v = .tuple #[] ∧ Merged w A n c l a b w') ?_).mono ?_
  · refine ⟨_, w64 (by omega), ifb_intro (fun g1 => ?_) (fun g1 => ?_)⟩
    · simp only [beq_iff_eq] at g1
      have hma : m = a + 1 := by omega
      subst hma
      refine ⟨fun i j w' => ∃ p q : Nat, i = p ∧ j = q ∧ a + 1 ≤ p ∧ p ≤ q ∧ q ≤ b ∧ RowM w' A n c l ∧ Step NoB w w' ∧ (∀ h, a + 1 ≤ h → h < p → lt (el_ l h) (el_ l a)) ∧ (∀ h, q ≤ h → h < b → le (el_ l a) (el_ l h)), fun i j _ => (j - i).toNat, ⟨a + 1, b, rfl, rfl, by omega, by omega, by omega, hR, Step.refl _ _, fun h _ _ => by omega, fun h _ _ => by omega⟩, ?_⟩
      rintro i j jk w1 ⟨p, q, rfl, rfl, hp, hpq, hq, R1, T1, lo, hi⟩
      refine ifb_intro (fun hij => ?_) (fun hij => ?_)
      · simp only [decide_eq_true_eq] at hij
        have e0 : ((p : Int) + (q : Int)) = ((p + q : Nat) : Int) := by omega
        refine ⟨((p + q : Nat) : Int), by rw [e0]; exact w64 (by omega), _, wu64 _ (by omega), _, half _ (by omega), ?_⟩
        have R1d : RowM w1.drew A n c l := Row.then R1 (Step.refl _ _).drew
        obtain ⟨b1, rfl, hc1⟩ := R1d.at_ (i := (p + q) / 2) (by omega)
        obtain ⟨b2, hA2, hc2⟩ := R1d.at_ (i := a) (by omega)
        cases hA2
        refine ⟨by omega, by omega, b1, 0, rfl, _, _, _, _, _, _, _, _, hc1, by omega, by omega, b1, 0, rfl, _, _, _, _, _, _, _, _, hc2, entersB_out (by kernel_rfl), ?_⟩
        refine (order_calls (el_ l ((p + q) / 2)) (el_ l a) _).mono ?_
        rintro e w2 ⟨rfl, t2⟩
        replace t2 := t2.undrew
        refine ⟨_, rfl, ifb_intro (fun hlt => ?_) (fun hlt => ?_)⟩
        · simp only [decide_eq_true_eq, ord_lt] at hlt
          refine ⟨_, w64 (by omega), ⟨(p + q) / 2 + 1, q, by omega, rfl, by omega, by omega, hq, Row.then R1 t2, T1.then t2, fun h g1 g2 => ?_, hi⟩, by dsimp only; omega⟩
          by_cases hc : h = (p + q) / 2
          · subst hc; exact hlt
          · exact le_lt_trans (lt_le (lt_le_trans hlt (fun x => lt_irrefl _ x)) |> fun _ => s2 h ((p + q) / 2) g1 (by omega) (by omega)) hlt
        · simp only [decide_eq_false_iff_not, ord_lt] at hlt
          refine ⟨⟨p, (p + q) / 2, rfl, rfl, hp, by omega, by omega, Row.then R1 t2, T1.then t2, lo, fun h g1 g2 => ?_⟩, by dsimp only; omega⟩
          by_cases hc : h = (p + q) / 2
          · subst hc; exact hlt
          · exact le_trans hlt (s2 ((p + q) / 2) h (by omega) (by omega) g2)
      · simp only [decide_eq_false_iff_not] at hij
        have hpq' : p = q := by omega
        subst hpq'
        refine ⟨fun x w' => ∃ y : Nat, x = y ∧ a ≤ y ∧ y ≤ p - 1 ∧ ∃ l', RowM w' A n c l' ∧ Same l l' a b ∧ (∀ z, el_ l' z = if a ≤ z ∧ z < y then el_ l (z + 1) else if z = y then el_ l a else el_ l z) ∧ Step (At A) w w', fun x _ => (p - x).toNat, ⟨a, rfl, by omega, by omega, l, R1, Same.refl _ _ _, fun z => ?_, T1.none⟩, ?_⟩
        · rw [if_neg (by omega)]; split
          · rename_i hz; rw [hz]
          · rfl
        rintro x jk2 w2 ⟨y, rfl, hy1, hy2, l2, R2, S2, E2, T2⟩
        have hl2 := RowM.len R2
        refine ⟨_, w64 (by omega), ifb_intro (fun hx => ?_) (fun hx => ?_)⟩
        · simp only [decide_eq_true_eq] at hx
          refine ⟨_, w64 (by omega), _, w64 (by omega), ?_⟩
          have R2d : RowM w2.drew A n c l2 := Row.then R2 (Step.refl _ _).drew
          have e1 : ((y : Int) + 1).toNat = y + 1 := by omega
          refine swap_in R2d (by omega) (by omega) rfl rfl fun w4 R4 t4 => ?_
          rw [e1, Int.toNat_natCast] at R4
          have hlt : lt (el_ l2 (y + 1)) (el_ l2 y) := by
            rw [E2, E2, if_neg (by omega), if_neg (by omega), if_neg (by omega), if_pos rfl]
            exact lo _ (by omega) (by omega)
          have hs := same_swap (l := l2) (i := y) (by omega) (lt_ch hlt).symm (swp l2 y (y + 1)) (.inl rfl)
          refine ⟨_, w64 (by omega), ⟨y + 1, by omega, by omega, by omega, _, R4, S2.trans (hs.mono hy1 (by omega)), fun z => ?_, T2.both t4.undrew⟩, by dsimp only; omega⟩
          rw [el_swp (by omega) (by omega), E2, E2, E2]
          repeat' split
          all_goals first
            | omega
            | (congr 1; omega)
            | rfl
        · simp only [decide_eq_false_iff_not] at hx
          have hyp : y = p - 1 := by omega
          subst hyp
          exact ⟨rfl, l2, R2, S2, down_sorted hp hq s2 lo hi E2, T2⟩
    · simp only [beq_eq_false_iff_ne, ne_eq] at g1
      refine ⟨_, w64 (by omega), ifb_intro (fun g2 => ?_) (fun g2 => ?_)⟩
      · simp only [beq_iff_eq] at g2
        have hbm : b = m + 1 := by omega
        subst hbm
        refine ⟨fun i j w' => ∃ p q : Nat, i = p ∧ j = q ∧ a ≤ p ∧ p ≤ q ∧ q ≤ m ∧ RowM w' A n c l ∧ Step NoB w w' ∧ (∀ h, a ≤ h → h < p → le (el_ l h) (el_ l m)) ∧ (∀ h, q ≤ h → h < m → lt (el_ l m) (el_ l h)), fun i j _ => (j - i).toNat, ⟨a, m, rfl, rfl, by omega, by omega, by omega, hR, Step.refl _ _, fun h _ _ => by omega, fun h _ _ => by omega⟩, ?_⟩
        rintro i j jk w1 ⟨p, q, rfl, rfl, hp, hpq, hq, R1, T1, lo, hi⟩
        refine ifb_intro (fun hij => ?_) (fun hij => ?_)
        · simp only [decide_eq_true_eq] at hij
          have e0 : ((p : Int) + (q : Int)) = ((p + q : Nat) : Int) := by omega
          refine ⟨((p + q : Nat) : Int), by rw [e0]; exact w64 (by omega), _, wu64 _ (by omega), _, half _ (by omega), ?_⟩
          have R1d : RowM w1.drew A n c l := Row.then R1 (Step.refl _ _).drew
          obtain ⟨b1, rfl, hc1⟩ := R1d.at_ (i := m) (by omega)
          obtain ⟨b2, hA2, hc2⟩ := R1d.at_ (i := (p + q) / 2) (by omega)
          cases hA2
          refine ⟨by omega, by omega, b1, 0, rfl, _, _, _, _, _, _, _, _, hc1, by omega, by omega, b1, 0, rfl, _, _, _, _, _, _, _, _, hc2, entersB_out (by kernel_rfl), ?_⟩
          refine (order_calls (el_ l m) (el_ l ((p + q) / 2)) _).mono ?_
          rintro e w2 ⟨rfl, t2⟩
          replace t2 := t2.undrew
          refine ⟨_, rfl, ifb_intro (fun hlt => ?_) (fun hlt => ?_)⟩
          · simp only [Bool.not_eq_true', decide_eq_false_iff_not, ord_lt] at hlt
            refine ⟨_, w64 (by omega), ⟨(p + q) / 2 + 1, q, by omega, rfl, by omega, by omega, hq, Row.then R1 t2, T1.then t2, fun h g1 g2 => ?_, hi⟩, by dsimp only; omega⟩
            by_cases hc : h = (p + q) / 2
            · subst hc; exact hlt
            · exact le_trans (s1 h ((p + q) / 2) g1 (by omega) (by omega)) hlt
          · simp only [Bool.not_eq_false', decide_eq_true_eq, ord_lt] at hlt
            refine ⟨⟨p, (p + q) / 2, rfl, rfl, hp, by omega, by omega, Row.then R1 t2, T1.then t2, lo, fun h g1 g2 => ?_⟩, by dsimp only; omega⟩
            by_cases hc : h = (p + q) / 2
            · subst hc; exact hlt
            · exact lt_le_trans hlt (s1 ((p + q) / 2) h (by omega) (by omega) g2)
        · simp only [decide_eq_false_iff_not] at hij
          have hpq' : p = q := by omega
          subst hpq'
          refine ⟨fun x w' => ∃ y : Nat, x = y ∧ p ≤ y ∧ y ≤ m ∧ ∃ l', RowM w' A n c l' ∧ Same l l' a (m + 1) ∧ (∀ z, el_ l' z = if y < z ∧ z ≤ m then el_ l (z - 1) else if z = y then el_ l m else el_ l z) ∧ Step (At A) w w', fun x _ => (x - p).toNat, ⟨m, rfl, by omega, by omega, l, R1, Same.refl _ _ _, fun z => ?_, T1.none⟩, ?_⟩
          · rw [if_neg (by omega)]; split
            · rename_i hz; rw [hz]
            · rfl
          rintro x jk2 w2 ⟨y, rfl, hy1, hy2, l2, R2, S2, E2, T2⟩
          have hl2 := RowM.len R2
          refine ifb_intro (fun hx => ?_) (fun hx => ?_)
          · simp only [gt_iff_lt, decide_eq_true_eq] at hx
            refine ⟨_, w64 (by omega), _, w64 (by omega), ?_⟩
            have R2d : RowM w2.drew A n c l2 := Row.then R2 (Step.refl _ _).drew
            have e1 : ((y : Int) - 1).toNat = y - 1 := by omega
            refine swap_in R2d (by omega) (by omega) rfl rfl fun w4 R4 t4 => ?_
            rw [e1, Int.toNat_natCast] at R4
            have hlt : lt (el_ l2 y) (el_ l2 (y - 1)) := by
              rw [E2, E2, if_neg (by omega), if_pos rfl, if_neg (by omega), if_neg (by omega)]
              exact hi _ (by omega) (by omega)
            have hs := same_swap (l := l2) (i := y - 1) (by omega) (by rw [show y - 1 + 1 = y by omega]; exact (lt_ch hlt).symm) (swp l2 y (y - 1)) (.inr (by rw [show y - 1 + 1 = y by omega]))
            refine ⟨_, w64 (by omega), ⟨y - 1, by omega, by omega, by omega, _, R4, S2.trans (hs.mono (by omega) (by omega)), fun z => ?_, T2.both t4.undrew⟩, by dsimp only; omega⟩
            rw [el_swp (by omega) (by omega), E2, E2, E2]
            repeat' split
            all_goals first
              | omega
              | (congr 1; omega)
              | rfl
          · simp only [gt_iff_lt, decide_eq_false_iff_not] at hx
            have hyp : y = p := by omega
            subst hyp
            exact ⟨rfl, l2, R2, S2, up_sorted hp hq s1 lo hi E2, T2⟩
      · simp only [beq_eq_false_iff_ne, ne_eq] at g2
        have e0 : ((a : Int) + (b : Int)) = ((a + b : Nat) : Int) := by omega
        refine ⟨((a + b : Nat) : Int), by rw [e0]; exact w64 (by omega), _, wu64 _ (by omega), _, half _ (by omega), ?_⟩
        generalize hmid : (a + b) / 2 = mid
        have hm1 : 2 * mid ≤ a + b := by omega
        have hm2 : a + b ≤ 2 * mid + 1 := by omega
        refine ⟨((mid + m : Nat) : Int), by rw [w64 (by omega)]; omega, fun x y w' => ∃ s0 r0 : Nat, x = s0 ∧ y = r0 ∧ w' = w ∧ ((mid < m ∧ s0 = mid + m - b ∧ r0 = mid) ∨ (m ≤ mid ∧ s0 = a ∧ r0 = m)), ?_, ?_⟩
        · refine ifb_intro (fun hm => ?_) (fun hm => ?_)
          · simp only [gt_iff_lt, decide_eq_true_eq] at hm
            exact ⟨((mid + m - b : Nat) : Int), by rw [w64 (by omega)]; omega, mid + m - b, mid, rfl, rfl, rfl, .inl ⟨by omega, rfl, rfl⟩⟩
          · simp only [gt_iff_lt, decide_eq_false_iff_not] at hm
            exact ⟨a, m, rfl, rfl, rfl, .inr ⟨by omega, rfl, rfl⟩⟩
        · rintro x y jk w1 ⟨s0, r0, rfl, rfl, rfl, hsr⟩
          have hs0 : a ≤ s0 ∧ s0 ≤ r0 ∧ r0 ≤ m ∧ r0 ≤ mid ∧ mid + m ≤ s0 + b := by omega
          refine ⟨((mid + m - 1 : Nat) : Int), by rw [w64 (by omega)]; omega, fun i j w' => ∃ p q : Nat, i = p ∧ j = q ∧ s0 ≤ p ∧ p ≤ q ∧ q ≤ r0 ∧ RowM w' A n c l ∧ Step NoB w1 w' ∧ (∀ h, s0 ≤ h → h < p → le (el_ l h) (el_ l (mid + m - 1 - h))) ∧ (∀ h, q ≤ h → h < r0 → lt (el_ l (mid + m - 1 - h)) (el_ l h)), fun i j _ => (j - i).toNat, ⟨s0, r0, rfl, rfl, by omega, by omega, by omega, hR, Step.refl _ _, fun h _ _ => by omega, fun h _ _ => by omega⟩, ?_⟩
          rintro i j jk2 w2 ⟨p, q, rfl, rfl, hp, hpq, hq, R2, T2, lo, hi⟩
          refine ifb_intro (fun hij => ?_) (fun hij => ?_)
          · simp only [decide_eq_true_eq] at hij
            have e0 : ((p : Int) + (q : Int)) = ((p + q : Nat) : Int) := by omega
            refine ⟨((p + q : Nat) : Int), by rw [e0]; exact w64 (by omega), _, wu64 _ (by omega), _, half _ (by omega), ((mid + m - 1 - (p + q) / 2 : Nat) : Int), by rw [w64 (by omega)]; omega, ?_⟩
            have R2d : RowM w2.drew A n c l := Row.then R2 (Step.refl _ _).drew
            obtain ⟨b1, rfl, hc1⟩ := R2d.at_ (i := mid + m - 1 - (p + q) / 2) (by omega)
            obtain ⟨b2, hA2, hc2⟩ := R2d.at_ (i := (p + q) / 2) (by omega)
            cases hA2
            refine ⟨by omega, by omega, b1, 0, rfl, _, _, _, _, _, _, _, _, hc1, by omega, by omega, b1, 0, rfl, _, _, _, _, _, _, _, _, hc2, entersB_out (by kernel_rfl), ?_⟩
            refine (order_calls (el_ l (mid + m - 1 - (p + q) / 2)) (el_ l ((p + q) / 2)) _).mono ?_
            rintro e w3 ⟨rfl, t3⟩
            replace t3 := t3.undrew
            refine ⟨_, rfl, ifb_intro (fun hlt => ?_) (fun hlt => ?_)⟩
            · simp only [Bool.not_eq_true', decide_eq_false_iff_not, ord_lt] at hlt
              refine ⟨_, w64 (by omega), ⟨(p + q) / 2 + 1, q, by omega, rfl, by omega, by omega, hq, Row.then R2 t3, T2.then t3, fun h g1 g2 => ?_, hi⟩, by dsimp only; omega⟩
              by_cases hc : h = (p + q) / 2
              · subst hc; exact hlt
              · by_cases hc2 : h < p
                · exact lo h g1 hc2
                · refine le_trans (le_trans (s1 h ((p + q) / 2) (by omega) (by omega) (by omega)) hlt) ?_
                  exact s2 _ _ (by omega) (by omega) (by omega)
            · simp only [Bool.not_eq_false', decide_eq_true_eq, ord_lt] at hlt
              refine ⟨⟨p, (p + q) / 2, rfl, rfl, hp, by omega, by omega, Row.then R2 t3, T2.then t3, lo, fun h g1 g2 => ?_⟩, by dsimp only; omega⟩
              by_cases hc : h = (p + q) / 2
              · subst hc; exact hlt
              · refine lt_le_trans (le_lt_trans (s2 _ _ (by omega) (by omega) (by omega)) hlt) ?_
                exact s1 _ _ (by omega) (by omega) (by omega)
          · simp only [decide_eq_false_iff_not] at hij
            have hpq' : p = q := by omega
            subst hpq'
            refine ⟨((mid + m - p : Nat) : Int), by rw [w64 (by omega)]; omega, fun w' => ∃ l1, RowM w' A n c l1 ∧ Same l l1 a b ∧ (∀ z, el_ l1 z = rotF (el_ l) p m (mid + m - p) z) ∧ Step (At A) w1 w', ?_, ?_⟩
            · have idle : (p = m ∨ mid + m - p = m) → ∃ l1, RowM w2 A n c l1 ∧ Same l l1 a b ∧ (∀ z, el_ l1 z = rotF (el_ l) p m (mid + m - p) z) ∧ Step (At A) w1 w2 := by
                intro hid
                refine ⟨l, R2, Same.refl _ _ _, fun z => ?_, T2.none⟩
                unfold rotF
                repeat' split
                all_goals first
                  | rfl
                  | (congr 1; omega)
                  | omega
              refine ifb_intro (fun g3 => ifb_intro (fun g4 => ?_) (fun g4 => ?_)) (fun g3 => ?_)
              · simp only [decide_eq_true_eq] at g3 g4
                refine (rotate_calls R2 (a := p) (m := m) (b := mid + m - p) (by omega) (by omega) (by omega) hN).mono ?_
                rintro e w3 ⟨rfl, l1, R3, hl3, E3, T3⟩
                refine ⟨rfl, l1, R3, (same_rot (by omega) (by omega) (by omega) hl3 E3 fun u v u1 u2 v1 v2 => ?_).mono (by omega) (by omega), E3, T2.none.both T3⟩
                have hlt : lt (el_ l v) (el_ l u) := by
                  have g5 := hi p (Nat.le_refl _) (by omega)
                  have a1 : le (el_ l v) (el_ l (mid + m - 1 - p)) := by
                    by_cases hv : v = mid + m - 1 - p
                    · rw [hv]; exact fun x => lt_irrefl _ x
                    · exact s2 _ _ v1 (by omega) (by omega)
                  have a2 : le (el_ l p) (el_ l u) := by
                    by_cases hv : u = p
                    · rw [hv]; exact fun x => lt_irrefl _ x
                    · exact s1 _ _ (by omega) (by omega) (by omega)
                  exact lt_le_trans (le_lt_trans a1 g5) a2
                exact (lt_ch hlt).symm
              · simp only [decide_eq_false_iff_not] at g4
                exact idle (.inr (by omega))
              · simp only [decide_eq_false_iff_not] at g3
                exact idle (.inl (by omega))
            · rintro jk3 w3 ⟨l1, R3, S3, E3, T3⟩
              have hl1 := RowM.len R3
              -- the four parts
              have cross : ∀ u v, a ≤ u → u < mid → mid ≤ v → v < b → le (el_ l1 u) (el_ l1 v) := by
                intro u v u1 u2 v1 v2
                rw [E3, E3]
                unfold rotF
                rw [if_neg (c := p ≤ v ∧ v < p + (mid + m - p - m)) (by omega)]
                by_cases hu : u < p
                · rw [if_neg (by omega), if_neg (by omega)]
                  by_cases hv : v < mid + m - p
                  · rw [if_pos (by omega)]
                    exact s1 _ _ u1 (by omega) (by omega)
                  · rw [if_neg (by omega)]
                    have g5 := lo (p - 1) (by omega) (by omega)
                    have a1 : le (el_ l u) (el_ l (p - 1)) := by
                      by_cases hc : u = p - 1
                      · rw [hc]; exact fun x => lt_irrefl _ x
                      · exact s1 _ _ u1 (by omega) (by omega)
                    have a2 : le (el_ l (mid + m - 1 - (p - 1))) (el_ l v) := by
                      by_cases hc : v = mid + m - 1 - (p - 1)
                      · rw [hc]; exact fun x => lt_irrefl _ x
                      · exact s2 _ _ (by omega) (by omega) v2
                    exact le_trans (le_trans a1 g5) a2
                · rw [if_pos (by omega)]
                  by_cases hv : v < mid + m - p
                  · rw [if_pos (by omega)]
                    have g5 := hi p (Nat.le_refl _) (by omega)
                    have a1 : le (el_ l (u - p + m)) (el_ l (mid + m - 1 - p)) := by
                      by_cases hc : u - p + m = mid + m - 1 - p
                      · rw [hc]; exact fun x => lt_irrefl _ x
                      · exact s2 _ _ (by omega) (by omega) (by omega)
                    have a2 : le (el_ l p) (el_ l (v - (mid + m - p - m))) := by
                      by_cases hc : v - (mid + m - p - m) = p
                      · rw [hc]; exact fun x => lt_irrefl _ x
                      · exact s1 _ _ (by omega) (by omega) (by omega)
                    exact le_trans a1 (le_trans (lt_le g5) a2)
                  · rw [if_neg (by omega)]
                    exact s2 _ _ (by omega) (by omega) v2
              have q1 : SortedOn l1 a p := by
                intro u v u1 u2 u3
                rw [E3, E3]; unfold rotF
                rw [if_neg (by omega), if_neg (by omega), if_neg (by omega), if_neg (by omega)]
                exact s1 _ _ u1 u2 (by omega)
              have q2 : SortedOn l1 p mid := by
                intro u v u1 u2 u3
                rw [E3, E3]; unfold rotF
                rw [if_pos (by omega), if_pos (by omega)]
                exact s2 _ _ (by omega) (by omega) (by omega)
              have q3 : SortedOn l1 mid (mid + m - p) := by
                intro u v u1 u2 u3
                rw [E3, E3]; unfold rotF
                rw [if_neg (by omega), if_pos (by omega), if_neg (by omega), if_pos (by omega)]
                exact s1 _ _ (by omega) (by omega) (by omega)
              have q4 : SortedOn l1 (mid + m - p) b := by
                intro u v u1 u2 u3
                rw [E3, E3]; unfold rotF
                rw [if_neg (by omega), if_neg (by omega), if_neg (by omega), if_neg (by omega)]
                exact s2 _ _ (by omega) u2 u3
              refine ⟨fun w' => ∃ l2, RowM w' A n c l2 ∧ Same l1 l2 a mid ∧ SortedOn l2 a mid ∧ Step (At A) w1 w', ?_, ?_⟩
              · refine ifb_intro (fun g3 => ifb_intro (fun g4 => ?_) (fun g4 => ?_)) (fun g3 => ?_)
                · simp only [decide_eq_true_eq] at g3 g4
                  refine (ih R3 (a := a) (m := p) (b := mid) (by omega) (by omega) (by omega) (by omega) hN q1 q2).mono ?_
                  rintro e w4 ⟨rfl, l2, R4, S4, O4, T4⟩
                  exact ⟨rfl, l2, R4, S4, O4, T3.both T4⟩
                · simp only [decide_eq_false_iff_not] at g4
                  exact ⟨l1, R3, Same.refl _ _ _, fun u v u1 u2 u3 => q1 u v u1 u2 (by omega), T3⟩
                · simp only [decide_eq_false_iff_not] at g3
                  exact ⟨l1, R3, Same.refl _ _ _, fun u v u1 u2 u3 => q2 u v (by omega) u2 u3, T3⟩
              · rintro jk4 w4 ⟨l2, R4, S4, O4, T4⟩
                have hl2 := RowM.len R4
                have q3' : SortedOn l2 mid (mid + m - p) := fun u v u1 u2 u3 => by rw [S4.out u (by omega), S4.out v (by omega)]; exact q3 u v u1 u2 u3
                have q4' : SortedOn l2 (mid + m - p) b := fun u v u1 u2 u3 => by rw [S4.out u (by omega), S4.out v (by omega)]; exact q4 u v u1 u2 u3
                have fin : ∀ (l3 : List Msg) (w5 : World), RowM w5 A n c l3 → Same l2 l3 mid b → SortedOn l3 mid b → Step (At A) w1 w5 → Merged w1 A n c l a b w5 := by
                  intro l3 w5 R5 S5 O5 T5
                  refine ⟨l3, R5, (S3.trans (S4.mono (Nat.le_refl _) (by omega))).trans (S5.mono (by omega) (Nat.le_refl _)), fun u v u1 u2 u3 => ?_, T5⟩
                  by_cases hv : v < mid
                  · rw [S5.out u (by omega), S5.out v (by omega)]; exact O4 u v u1 u2 hv
                  · by_cases hu : mid ≤ u
                    · exact O5 u v hu u2 u3
                    · rw [S5.out u (by omega)]
                      obtain ⟨u', a1, a2, a3⟩ := S4.from_ u u1 (by omega)
                      obtain ⟨v', b1, b2, b3⟩ := S5.from_ v (by omega) u3
                      rw [a3, b3, S4.out v' (by omega)]
                      exact cross u' v' a1 a2 b1 b2
                refine ifb_intro (fun g3 => ifb_intro (fun g4 => ?_) (fun g4 => ?_)) (fun g3 => ?_)
                · simp only [decide_eq_true_eq] at g3 g4
                  refine (ih R4 (a := mid) (m := mid + m - p) (b := b) (by omega) (by omega) (by omega) (by omega) hN q3' q4').mono ?_
                  rintro e w5 ⟨rfl, l3, R5, S5, O5, T5⟩
                  exact ⟨rfl, rfl, fin l3 w5 R5 S5 O5 (T4.both T5)⟩
                · simp only [decide_eq_false_iff_not] at g4
                  exact ⟨rfl, fin l2 w4 R4 (Same.refl _ _ _) (fun u v u1 u2 u3 => q3' u v u1 u2 (by omega)) T4⟩
                · simp only [decide_eq_false_iff_not] at g3
                  exact ⟨rfl, fin l2 w4 R4 (Same.refl _ _ _) (fun u v u1 u2 u3 => q4' u v (by omega) u2 u3) T4⟩
  · rintro e w' ⟨v, rfl, rfl, h⟩
    exact ⟨rfl, h⟩

end Go.Proofs.Ytdaojmkbjkaakaa
