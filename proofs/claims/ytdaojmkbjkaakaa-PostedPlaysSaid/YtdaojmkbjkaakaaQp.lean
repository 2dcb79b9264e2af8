/- Contracts: the order of channels, swaps, insertion, ranges that change places, rotation. Conditions: none. -/
import Derived.Test.YtdaojmkbjkaakaaQo
import Derived.Test.YtdaojmkbjkaakaaVs
set_option linter.unusedVariables false
set_option linter.unusedSimpArgs false
namespace Go.Proofs.Ytdaojmkbjkaakaa
open Go.Vc Go.Q13 Go.RowKit

theorem compareS_calls (a b : ByteArray) (w : World) :
    Calls Try.prog 60 #[.string a, .string b] w fun e w' => e = .returned (.int .i64 (cmpS a b)) ∧ w' = w := by
  have nan : ∀ (s : ByteArray) (w : World), Calls Try.prog 76 #[.string s] w fun e w' => e = .returned (.bool false) ∧ w' = w := by
    intro s w
    refine (V.cmp_isNaN_string_calls (R := fun v w' => v = .bool false ∧ w' = w) ⟨by simp, rfl⟩).mono ?_
    rintro e w' ⟨v, rfl, rfl, rfl⟩
    exact ⟨rfl, rfl⟩
  refine (V.cmp_Compare_string_calls (R := fun v w' => v = .int .i64 (cmpS a b) ∧ w' = w) ?_).mono ?_
  · refine (nan a w).mono ?_
    rintro e w1 ⟨rfl, rfl⟩
    refine ⟨_, rfl, (nan b _).mono ?_⟩
    rintro e w2 ⟨rfl, rfl⟩
    refine ⟨_, rfl, ifb_f (ifb_f (ifb_intro (fun h => ?_) (fun h => ifb_intro (fun g => ?_) (fun g => ?_))))⟩
    · exact ⟨by unfold cmpS; rw [if_pos h], rfl⟩
    · exact ⟨by unfold cmpS; rw [if_neg (by simp [h]), if_pos g], rfl⟩
    · exact ⟨by unfold cmpS; rw [if_neg (by simp [h]), if_neg (by simp only [g]; simp)], rfl⟩
  · rintro e w' ⟨v, rfl, rfl, rfl⟩
    exact ⟨rfl, rfl⟩
theorem compareI_calls (a b : Int) (w : World) :
    Calls Try.prog 61 #[.int .i64 a, .int .i64 b] w fun e w' => e = .returned (.int .i64 (cmpI a b)) ∧ w' = w := by
  have nan : ∀ (s : Int) (w : World), Calls Try.prog 77 #[.int .i64 s] w fun e w' => e = .returned (.bool false) ∧ w' = w := by
    intro s w
    refine (V.cmp_isNaN_int_calls (R := fun v w' => v = .bool false ∧ w' = w) ⟨by simp, rfl⟩).mono ?_
    rintro e w' ⟨v, rfl, rfl, rfl⟩
    exact ⟨rfl, rfl⟩
  refine (V.cmp_Compare_int_calls (R := fun v w' => v = .int .i64 (cmpI a b) ∧ w' = w) ?_).mono ?_
  · refine (nan a w).mono ?_
    rintro e w1 ⟨rfl, rfl⟩
    refine ⟨_, rfl, (nan b _).mono ?_⟩
    rintro e w2 ⟨rfl, rfl⟩
    refine ⟨_, rfl, ifb_f (ifb_f (ifb_intro (fun h => ?_) (fun h => ifb_intro (fun g => ?_) (fun g => ?_))))⟩
    · exact ⟨by unfold cmpI; rw [if_pos (of_decide_eq_true h)], rfl⟩
    · exact ⟨by unfold cmpI; rw [if_neg (of_decide_eq_false h), if_pos (of_decide_eq_true g)], rfl⟩
    · exact ⟨by unfold cmpI; rw [if_neg (of_decide_eq_false h), if_neg (of_decide_eq_false g)], rfl⟩
  · rintro e w' ⟨v, rfl, rfl, rfl⟩
    exact ⟨rfl, rfl⟩
theorem or_calls {w : World} {A : Option Addr} {n c : Nat} {l : List Int} (hR : RowI w A n c l) :
    Calls Try.prog 59 #[.slice A n c] w fun e w' => e = .returned (.int .i64 ((l.find? fun x => x != 0).getD 0)) ∧ w' = w := by
  have hn := RowI.len hR
  have hN := Row.le hR
  refine (V.cmp_Or_calls (R := fun v w' => v = .int .i64 ((l.find? fun x => x != 0).getD 0) ∧ w' = w) ?_).mono ?_
  · refine ⟨fun i w' => 0 ≤ i ∧ i ≤ n ∧ w' = w ∧ (l.find? fun x => x != 0) = ((l.drop i.toNat).find? fun x => x != 0), fun i _ => (n - i).toNat, ⟨by omega, by omega, rfl, rfl⟩, ?_⟩
    rintro i jk w1 ⟨h0, h1, rfl, hb⟩
    refine ifb_intro (fun hi => ?_) (fun hi => ?_)
    · simp only [decide_eq_true_eq] at hi
      obtain ⟨x, hx⟩ : ∃ x, l[i.toNat]? = some x := ⟨_, List.getElem?_eq_getElem (by omega)⟩
      obtain ⟨b, rfl, hc⟩ := RowI.elem hR hx
      have hd : l.drop i.toNat = x :: l.drop (i.toNat + 1) := by
        obtain ⟨h, rfl⟩ := List.getElem?_eq_some_iff.1 hx
        exact List.drop_eq_getElem_cons h
      rw [hd, List.find?_cons] at hb
      refine ⟨h0, hi, b, 0, rfl, x, hc, ifb_intro (fun hxz => ?_) (fun hxz => ?_)⟩
      · rw [hxz] at hb
        exact ⟨by rw [hb]; rfl, rfl⟩
      · rw [hxz] at hb
        refine ⟨_, w64 (by omega), ⟨by omega, by omega, rfl, ?_⟩, by dsimp only; omega⟩
        rw [show (i + 1).toNat = i.toNat + 1 by omega]; exact hb
    · simp only [decide_eq_false_iff_not] at hi
      rw [List.drop_of_length_le (by omega)] at hb
      exact ⟨by rw [hb]; rfl, rfl⟩
  · rintro e w' ⟨v, rfl, rfl, rfl⟩
    exact ⟨rfl, rfl⟩
theorem order_calls (a b : Msg) (w : World) :
    Calls Try.prog 36 #[mvA a, mvA b] w fun e w' => e = .returned (.int .i64 (ord a b)) ∧ Step NoB w w' := by
  refine (V.queue_order_calls (R := fun v w' => v = .int .i64 (ord a b) ∧ Step NoB w w') ?_).mono ?_
  · intro b1 w1 h1 b2 w2 h2
    have B1 := h1.blk.new h2
    have s2 := ((Step.refl NoB w).new h1).new h2
    refine ⟨_, B1.cell rfl, _, h2.blk.cell rfl, _, B1.cell rfl, _, h2.blk.cell rfl, _, B1.cell rfl, _, h2.blk.cell rfl, (compareS_calls _ _ _).mono ?_⟩
    rintro e w3 ⟨rfl, rfl⟩
    refine ⟨_, rfl, h2.blk.cell rfl, B1.cell rfl, h2.blk.cell rfl, B1.cell rfl, (compareI_calls _ _ _).mono ?_⟩
    rintro e w3 ⟨rfl, rfl⟩
    refine ⟨_, rfl, h2.blk.cell rfl, B1.cell rfl, (compareI_calls _ _ _).mono ?_⟩
    rintro e w3 ⟨rfl, rfl⟩
    refine ⟨_, rfl, fun b4 w4 h4 => ?_⟩
    refine (or_calls (l := [cmpS a.key b.key, cmpI a.fr b.fr, cmpI a.to b.to]) (Row.whole h4.blk (by decide) rfl)).mono ?_
    rintro e w5 ⟨rfl, rfl⟩
    refine ⟨_, rfl, ?_, (s2.drew).new h4⟩
    congr 1
    unfold ord
    by_cases h1 : cmpS a.key b.key = 0 <;> by_cases h2 : cmpI a.fr b.fr = 0 <;> by_cases h3 : cmpI a.to b.to = 0 <;> simp [h1, h2, h3, List.find?_cons]
  · rintro e w' ⟨v, rfl, rfl, h⟩
    exact ⟨rfl, h⟩

/-! ### swaps -/
def swp (l : List Msg) (i j : Nat) : List Msg := (l.set i (el_ l j)).set j (el_ l i)
theorem swp_length (l : List Msg) (i j : Nat) : (swp l i j).length = l.length := by simp [swp]
theorem el_set {l : List Msg} {i : Nat} (hi : i < l.length) (m : Msg) (p : Nat) : el_ (l.set i m) p = if p = i then m else el_ l p := by
  unfold el_
  rw [List.getD_eq_getElem?_getD, List.getElem?_set]
  by_cases h : i = p
  · subst h; rw [if_pos rfl, if_pos hi, if_pos rfl]; rfl
  · rw [if_neg h, if_neg (Ne.symm h), List.getD_eq_getElem?_getD]
theorem el_swp {l : List Msg} {i j : Nat} (hi : i < l.length) (hj : j < l.length) (p : Nat) : el_ (swp l i j) p = if p = j then el_ l i else if p = i then el_ l j else el_ l p := by
  unfold swp
  rw [el_set (by simpa using hj), el_set hi]
theorem same_swap {l : List Msg} {i : Nat} (hi : i + 1 < l.length) (hc : (el_ l i).ch ≠ (el_ l (i + 1)).ch) (l' : List Msg) (hl : l' = swp l i (i + 1) ∨ l' = swp l (i + 1) i) : Same l l' i (i + 2) := by
  refine same_rot (m := i + 1) (by omega) (by omega) (by omega) (by rcases hl with rfl | rfl <;> exact swp_length ..) (fun p => ?_) (fun p q p1 p2 q1 q2 => ?_)
  · unfold rotF
    have e : el_ l' p = if p = i + 1 then el_ l i else if p = i then el_ l (i + 1) else el_ l p := by
      rcases hl with rfl | rfl
      · exact el_swp (by omega) hi p
      · rw [el_swp hi (by omega)]
        by_cases h1 : p = i
        · subst h1; rw [if_pos rfl, if_neg (by omega), if_pos rfl]
        · rw [if_neg h1]; by_cases h2 : p = i + 1
          · rw [if_pos h2, if_pos h2]
          · rw [if_neg h2, if_neg h2, if_neg h1]
    rw [e]
    repeat' split
    all_goals first
      | omega
      | (congr 1; omega)
      | rfl
  · have : p = i := by omega
    have : q = i + 1 := by omega
    subst p; subst q
    exact hc

theorem RowM.at_ {w : World} {A : Option Addr} {n c : Nat} {l : List Msg} (h : RowM w A n c l) {i : Nat} (hi : i < n) : ∃ b, A = some ⟨b, 0, none⟩ ∧ Cells w ⟨b, 0 + i * 8, none⟩ (mv (el_ l i)) := h.elem (el_get (by rw [← h.len]; exact hi))
theorem RowM.write {w : World} {A : Option Addr} {n c : Nat} {l : List Msg} (h : RowM w A n c l) {i : Nat} (hi : i < n) (m : Msg) :
    ∃ b cells, A = some ⟨b, 0, none⟩ ∧ Blk w b cells tMsg ∧ 0 + i * 8 + 8 ≤ cells.length ∧ ∀ w', Upd w w' b (setSeg cells (0 + i * 8) (mv m)) tMsg → RowM w' A n c (l.set i m) ∧ Step (At A) w w' :=
  Row.write mv 8 mv_len h h.len hi m

/-- two elements change places: what the machine asks for it -/
theorem swap_in {w : World} {A : Option Addr} {n c : Nat} {l : List Msg} (hR : RowM w A n c l) {i i' j j' : Int} (hi : 0 ≤ i ∧ i < n) (hj : 0 ≤ j ∧ j < n) (hii : i' = i) (hjj : j' = j) {K : World → Prop}
    (hK : ∀ w', RowM w' A n c (swp l i.toNat j.toNat) → Step (At A) w w' → K w') :
    0 ≤ j ∧ j < ((n : Nat) : Int) ∧ ∃ b1 o1 : Nat, (A : Option Addr) = some ⟨b1, o1, none⟩ ∧
    ∃ s1 : ByteArray, ∃ x1 : Int, ∃ x2 : Int, ∃ x3 : Int, ∃ x4 : Int, ∃ x5 : Int, ∃ x6 : Int, ∃ t1 : Bool, Cells w ⟨b1, o1 + j.toNat * 8, none⟩ [.string s1, .int .i64 x1, .int .i64 x2, .int .i64 x3, .int .i64 x4, .int .i64 x5, .int .i64 x6, .bool t1] ∧
    0 ≤ i ∧ i < ((n : Nat) : Int) ∧ ∃ b2 o2 : Nat, (A : Option Addr) = some ⟨b2, o2, none⟩ ∧
    ∃ s2 : ByteArray, ∃ y1 : Int, ∃ y2 : Int, ∃ y3 : Int, ∃ y4 : Int, ∃ y5 : Int, ∃ y6 : Int, ∃ t2 : Bool, Cells w ⟨b2, o2 + i.toNat * 8, none⟩ [.string s2, .int .i64 y1, .int .i64 y2, .int .i64 y3, .int .i64 y4, .int .i64 y5, .int .i64 y6, .bool t2] ∧
    0 ≤ i' ∧ i' < ((n : Nat) : Int) ∧ ∃ b3 o3 : Nat, (A : Option Addr) = some ⟨b3, o3, none⟩ ∧
    ∃ (l1 : List Value) (e1 : TypeId), Blk w b3 l1 e1 ∧ o3 + i'.toNat * 8 + 8 ≤ l1.length ∧ ∀ w1 : World, Upd w w1 b3 (setSeg l1 (o3 + i'.toNat * 8) [.string s1, .int .i64 x1, .int .i64 x2, .int .i64 x3, .int .i64 x4, .int .i64 x5, .int .i64 x6, .bool t1]) e1 →
    0 ≤ j' ∧ j' < ((n : Nat) : Int) ∧ ∃ b4 o4 : Nat, (A : Option Addr) = some ⟨b4, o4, none⟩ ∧
    ∃ (l2 : List Value) (e2 : TypeId), Blk w1 b4 l2 e2 ∧ o4 + j'.toNat * 8 + 8 ≤ l2.length ∧ ∀ w2 : World, Upd w1 w2 b4 (setSeg l2 (o4 + j'.toNat * 8) [.string s2, .int .i64 y1, .int .i64 y2, .int .i64 y3, .int .i64 y4, .int .i64 y5, .int .i64 y6, .bool t2]) e2 → K w2 := by
  subst hii; subst hjj
  have hn := hR.len
  obtain ⟨b, hA, hcj⟩ := hR.at_ (i := j'.toNat) (by omega)
  obtain ⟨b', hA', hci⟩ := hR.at_ (i := i'.toNat) (by omega)
  subst hA
  cases hA'
  obtain ⟨b3, l1, e3, B1, len1, w1⟩ := hR.write (i := i'.toNat) (by omega) (el_ l j'.toNat)
  cases e3
  refine ⟨hj.1, hj.2, b, 0, rfl, _, _, _, _, _, _, _, _, hcj, hi.1, hi.2, b, 0, rfl, _, _, _, _, _, _, _, _, hci, hi.1, hi.2, b, 0, rfl, l1, _, B1, len1, fun v1 hu1 => ?_⟩
  obtain ⟨R1, S1⟩ := w1 v1 hu1
  obtain ⟨b4, l2, e4, B2, len2, w2⟩ := R1.write (i := j'.toNat) (by omega) (el_ l i'.toNat)
  cases e4
  refine ⟨hj.1, hj.2, b, 0, rfl, l2, _, B2, len2, fun v2 hu2 => ?_⟩
  obtain ⟨R2, S2⟩ := w2 v2 hu2
  exact hK v2 R2 (S1.both S2)

end Go.Proofs.Ytdaojmkbjkaakaa
