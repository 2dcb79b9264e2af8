/- Contracts: acts that came in, Great, of, Same. Conditions: none. -/
import Derived.Test.YtdaojmkbjkaakaaQl
import Derived.Test.YtdaojmkbjkaakaaQt
set_option linter.unusedVariables false
set_option linter.unusedSimpArgs false
namespace Go.Proofs.Ytdaojmkbjkaakaa
open Go.Vc Go.Q13 Go.RowKit

/-- An act: its kind, and its message. -/
structure Act where
  kind : Int
  m : Msg
def av (a : Act) : List Value := .int .u8 a.kind :: mv a.m
/-- acts that came in -/
structure InA (w : World) (A : Option Addr) (n : Nat) (acts : List Act) : Prop where
  len : acts.length = n
  at_ : ∀ i a, acts[i]? = some a → ∃ b o, A = some ⟨b, o, none⟩ ∧ Cells w ⟨b, o + i * 9, none⟩ (av a)
  fit : ∀ a ∈ acts, MFit a.m ∧ 0 ≤ a.kind ∧ a.kind ≤ 255
theorem cellStep {w w' : World} (s : Step NoB w w') {a : Addr} {v : Value} (h : w.cell? a = some v) : w'.cell? a = some v := by
  have hlt : a.block < w.heap.size := by
    rcases Nat.lt_or_ge a.block w.heap.size with hlt | hge
    · exact hlt
    · simp [World.cell?, Array.getElem?_eq_none hge] at h
  unfold World.cell? at h ⊢
  rw [s.block' hlt]; exact h
theorem InA.then {w w' : World} {A : Option Addr} {n : Nat} {acts : List Act} (h : InA w A n acts) (s : Step NoB w w') : InA w' A n acts :=
  ⟨h.len, fun i a hi => by
    obtain ⟨b, o, h1, h2⟩ := h.at_ i a hi
    exact ⟨b, o, h1, fun j x hj => cellStep s (h2 j x hj)⟩, h.fit⟩
theorem InA.get {w : World} {A : Option Addr} {n : Nat} {acts : List Act} (h : InA w A n acts) {i : Nat} (hi : i < n) : ∃ a b o, acts[i]? = some a ∧ A = some ⟨b, o, none⟩ ∧ Cells w ⟨b, o + i * 9 + 1, none⟩ (mv a.m) ∧ w.cell? ⟨b, o + i * 9, none⟩ = some (.int .u8 a.kind) ∧ MFit a.m ∧ 0 ≤ a.kind ∧ a.kind ≤ 255 := by
  have hl := h.len
  obtain ⟨a, ha⟩ : ∃ a, acts[i]? = some a := ⟨_, List.getElem?_eq_getElem (by omega)⟩
  obtain ⟨b, o, h1, h2⟩ := h.at_ i a ha
  refine ⟨a, b, o, ha, h1, fun j x hj => ?_, ?_, h.fit a (List.mem_of_getElem? ha)⟩
  · have := h2 (j + 1) x (by simpa [av] using hj)
    rw [add_none] at this ⊢
    rw [show o + i * 9 + 1 + j = o + i * 9 + (j + 1) by omega]; exact this
  · have := h2 0 (.int .u8 a.kind) rfl
    rw [add_none] at this; exact this

def great (acts : List Act) : Bool := decide (acts.length > 200) || acts.any fun a => decide (a.m.key.size > 100)
theorem great_calls {w : World} {A : Option Addr} {n c : Nat} {acts : List Act} (h : InA w A n acts) :
    Calls Try.prog 12 #[.slice A n c] w fun e w' => e = .returned (.bool (great acts)) ∧ w' = w := by
  have hl := h.len
  refine (V.dispatcherlaw13_Great_calls (R := fun v w' => v = .bool (great acts) ∧ w' = w) ?_).mono ?_
  · refine ifb_intro (fun g => ?_) (fun g => ?_)
    · simp only [decide_eq_true_eq] at g
      have : acts.length > 200 := by omega
      exact ⟨by simp [great, this], rfl⟩
    · simp only [decide_eq_false_iff_not] at g
      have hng : decide (acts.length > 200) = false := by rw [decide_eq_false_iff_not]; omega
      refine ⟨fun i w' => 0 ≤ i ∧ i ≤ n ∧ w' = w ∧ ∀ (j : Nat) (a : Act), (j : Int) < i → acts[j]? = some a → ¬ a.m.key.size > 100, fun i _ => (n - i).toNat, ⟨by omega, by omega, rfl, fun j a hj => by omega⟩, ?_⟩
      rintro i jk w1 ⟨h0, h1, rfl, hb⟩
      refine ifb_intro (fun hi => ?_) (fun hi => ?_)
      · simp only [decide_eq_true_eq] at hi
        obtain ⟨a, b, o, ha, rfl, hc, _⟩ := h.get (i := i.toNat) (by omega)
        have hc0 := hc 0 _ rfl
        rw [add_none] at hc0
        refine ⟨h0, hi, b, o, rfl, _, hc0, ifb_intro (fun g1 => ?_) (fun g1 => ?_)⟩
        · simp only [decide_eq_true_eq] at g1
          refine ⟨?_, rfl⟩
          have : (acts.any fun a => decide (a.m.key.size > 100)) = true := List.any_eq_true.2 ⟨a, List.mem_of_getElem? ha, by simp only [decide_eq_true_eq]; omega⟩
          simp [great, this]
        · simp only [decide_eq_false_iff_not] at g1
          refine ⟨_, w64 (by omega), ⟨by omega, by omega, rfl, fun j a' hj hja => ?_⟩, by dsimp only; omega⟩
          rcases Nat.lt_or_ge j i.toNat with hlt | hge
          · exact hb j a' (by omega) hja
          · have : j = i.toNat := by omega
            subst this
            rw [ha] at hja; cases hja
            intro hk; exact g1 (by omega)
      · simp only [decide_eq_false_iff_not] at hi
        refine ⟨?_, rfl⟩
        have : (acts.any fun a => decide (a.m.key.size > 100)) = false := List.any_eq_false.2 fun a ha => by
          obtain ⟨j, hj, rfl⟩ := List.getElem_of_mem ha
          have := hb j _ (by omega) (List.getElem?_eq_getElem hj)
          simpa using this
        unfold great; rw [hng, this]; rfl
  · rintro e w' ⟨v, rfl, rfl, rfl⟩
    exact ⟨rfl, rfl⟩

theorem Row.take {α : Type} {f : α → List Value} {k : Nat} (hf : ∀ x, (f x).length = k) {w : World} {A : Option Addr} {n c : Nat} {e : TypeId} {l : List α} (h : Row w A n c e k (l.flatMap f)) (hl : n = l.length) {i : Nat} (hi : i ≤ n) : Row w A i c e k ((l.take i).flatMap f) := by
  rcases h.out.2 with ⟨rfl, rfl, rfl⟩ | ⟨b, cells, rfl, hB, hn, hc, hlen, hx⟩
  · have : i = 0 := by omega
    subst this
    exact Row.nil _ _ _
  · have := Row.mk' (n := i) (c := c) (k := k) hB (by omega) hc hlen
    have e : cells.take (i * k) = (l.take i).flatMap f := by
      have h1 : cells.take (i * k) = (cells.take (n * k)).take (i * k) := by
        rw [List.take_take, Nat.min_eq_left (Nat.mul_le_mul_right k hi)]
      rw [h1, hx]
      conv => lhs; rw [← List.take_append_drop i l, List.flatMap_append]
      rw [List.take_append_of_le_length (by rw [flat_length f k hf, List.length_take]; rw [Nat.min_eq_left (by omega)]; exact Nat.le_refl _), List.take_of_length_le (by rw [flat_length f k hf, List.length_take]; rw [Nat.min_eq_left (by omega)]; exact Nat.le_refl _)]
    rw [e] at this; exact this

theorem of_calls {w : World} {A : Option Addr} {n c : Nat} {l : List Msg} (hR : RowM w A n c l) (ch : Ch) (hN : n ≤ 1000000000) :
    Calls Try.prog 13 #[.slice A n c, .string ch.key, .int .i64 ch.fr, .int .i64 ch.to] w fun e w' => ∃ A' n' c', e = .returned (.slice A' n' c') ∧ RowM w' A' n' c' (row l ch) ∧ (∀ b, At A' b → w.heap.size ≤ b) ∧ Step NoB w w' := by
  have hn := hR.len
  refine (V.dispatcherlaw13_of_calls (R := fun v w' => ∃ A' n' c', v = .slice A' n' c' ∧ RowM w' A' n' c' (row l ch) ∧ (∀ b, At A' b → w.heap.size ≤ b) ∧ Step NoB w w') ?_).mono ?_
  · refine ⟨fun A' N' C' i w' => 0 ≤ i ∧ i ≤ n ∧ Step NoB w w' ∧ RowM w' A' N' C' (row (l.take i.toNat) ch) ∧ (∀ b, At A' b → w.heap.size ≤ b), fun _ _ _ i _ => (n - i).toNat, ⟨by omega, by omega, Step.refl _ _, Row.nil _ _ _, fun b hb => absurd hb at_none⟩, ?_⟩
    rintro A' N' C' i jk w1 ⟨h0, h1, s1, hO, hat⟩
    refine ifb_intro (fun hi => ?_) (fun hi => ?_)
    · simp only [decide_eq_true_eq] at hi
      obtain ⟨m, hm⟩ : ∃ m, l[i.toNat]? = some m := ⟨_, List.getElem?_eq_getElem (by omega)⟩
      obtain ⟨b, rfl, hc⟩ := RowM.elem (Row.then hR s1) hm
      have c0 := hc 0 _ rfl
      have c1 := hc 1 _ rfl
      have c2 := hc 2 _ rfl
      rw [add_none] at c0 c1 c2
      have e3 : (i + 1).toNat = i.toNat + 1 := by omega
      have hts : l.take (i.toNat + 1) = l.take i.toNat ++ [m] := by rw [List.take_add_one, hm]; rfl
      have skip : m.ch ≠ ch → ∃ k : Int, IntKind.wrap .i64 (i + 1) = k ∧ (0 ≤ k ∧ k ≤ n ∧ Step NoB w w1 ∧ RowM w1 A' N' C' (row (l.take k.toNat) ch) ∧ (∀ b, At A' b → w.heap.size ≤ b)) ∧ ((n : Int) - k).toNat < ((n : Int) - i).toNat := by
        intro hne
        refine ⟨_, w64 (by omega), ⟨by omega, by omega, s1, ?_, hat⟩, by omega⟩
        rw [e3, hts, row_append, show row [m] ch = [] by simp [row, hne], List.append_nil]
        exact hO
      refine ⟨h0, hi, b, 0, rfl, _, c0, ifb_intro (fun g1 => ?_) (fun g1 => ?_)⟩
      · refine ⟨h0, hi, b, 0, rfl, _, c1, ifb_intro (fun g2 => ?_) (fun g2 => ?_)⟩
        · refine ⟨h0, hi, b, 0, rfl, _, c2, ifb_intro (fun g3 => ?_) (fun g3 => ?_)⟩
          · have hch : m.ch = ch := by
              obtain ⟨k', f', t'⟩ := ch
              simp only [Msg.ch, Ch.mk.injEq]
              exact ⟨toList_inj (by simpa using g1), by simpa using g2, by simpa using g3⟩
            refine ⟨h0, hi, b, 0, rfl, _, _, _, _, _, _, _, _, hc, fun b2 w2 h2 => ?_⟩
            have hO2 := Row.then hO h2.step
            have hl2 := RowM.len hO2
            have hle : (row (l.take i.toNat) ch).length ≤ l.length := Nat.le_trans (List.length_filter_le ..) (by rw [List.length_take]; omega)
            refine ⟨_, _, hO2, reads_blk h2.blk rfl (mv_one m), ?_, by omega, fun A3 C3 w3 h3 hap => ?_⟩
            · have : maxLen = 9223372036854775807 := rfl
              omega
            · refine ⟨_, w64 (by omega), ⟨by omega, by omega, hap.new (s1.new h2) fun b hb => .inl (hat b hb), ?_, hap.at' (s1.new h2) hat⟩, by dsimp only; omega⟩
              show Row _ _ _ _ _ _ _
              rw [e3, hts, row_append, show row [m] ch = [m] by simp [row, hch], List.flatMap_append, show ([m] : List Msg).flatMap mv = mv m by simp]
              exact h3
          · exact skip fun e => by rw [← e] at g3; simp [Msg.ch] at g3
        · exact skip fun e => by rw [← e] at g2; simp [Msg.ch] at g2
      · exact skip fun e => by rw [← e] at g1; simp [Msg.ch] at g1
    · simp only [decide_eq_false_iff_not] at hi
      rw [List.take_of_length_le (by omega)] at hO
      exact ⟨A', N', C', rfl, hO, hat, s1⟩
  · rintro e w' ⟨v, rfl, A', n', c', rfl, h⟩
    exact ⟨A', n', c', rfl, h⟩

def mEq (a b : Msg) : Bool := (a.key == b.key) && ((a.fr == b.fr) && ((a.to == b.to) && ((a.call == b.call) && ((a.tag == b.tag) && ((a.val == b.val) && ((a.size == b.size) && ((a.taken == b.taken) && (true))))))))
theorem mEq_iff {a b : Msg} : mEq a b = true ↔ a = b := by
  obtain ⟨a1, a2, a3, a4, a5, a6, a7, a8⟩ := a
  obtain ⟨b1, b2, b3, b4, b5, b6, b7, b8⟩ := b
  simp only [mEq, ba_beq, Bool.and_eq_true, decide_eq_true_eq, beq_iff_eq, Msg.mk.injEq, and_true]
theorem same_calls {w : World} {A B : Option Addr} {n c m d : Nat} {xs ys : List Msg} (hA : RowM w A n c xs) (hB : RowM w B m d ys) :
    Calls Try.prog 16 #[.slice A n c, .slice B m d] w fun e w' => e = .returned (.bool (decide (xs = ys))) ∧ Step NoB w w' := by
  have hn := RowM.len hA
  have hm := RowM.len hB
  have hN := Row.le hA
  refine (V.dispatcherref13_Same_calls (R := fun v w' => v = .bool (decide (xs = ys)) ∧ Step NoB w w') ?_).mono ?_
  · refine ifb_intro (fun h => ?_) (fun h => ?_)
    · simp only [bne_iff_ne, ne_eq] at h
      refine ⟨by rw [decide_eq_false]; rintro rfl; omega, Step.refl _ _⟩
    · have hnm : n = m := by
        simp only [bne_eq_false_iff_eq] at h
        omega
      refine ⟨fun i w' => 0 ≤ i ∧ i ≤ n ∧ Step NoB w w' ∧ ∀ j : Nat, (j : Int) < i → xs[j]? = ys[j]?, fun i _ => (n - i).toNat, ⟨by omega, by omega, Step.refl _ _, fun j hj => by omega⟩, ?_⟩
      rintro i jk w1 ⟨h0, h1, s1, hb⟩
      refine ifb_intro (fun hi => ?_) (fun hi => ?_)
      · simp only [decide_eq_true_eq] at hi
        obtain ⟨x, hx⟩ : ∃ x, xs[i.toNat]? = some x := ⟨_, List.getElem?_eq_getElem (by omega)⟩
        obtain ⟨y, hy⟩ : ∃ y, ys[i.toNat]? = some y := ⟨_, List.getElem?_eq_getElem (by omega)⟩
        obtain ⟨b, rfl, hc⟩ := RowM.elem (Row.then hA s1) hx
        obtain ⟨b', rfl, hc'⟩ := RowM.elem (Row.then hB s1) hy
        refine ⟨h0, hi, b, 0, rfl, _, _, _, _, _, _, _, _, hc, h0, by omega, b', 0, rfl, _, _, _, _, _, _, _, _, hc', ifb_intro (fun hxy => ?_) (fun hxy => ?_)⟩
        · replace hxy : (!mEq x y) = true := hxy
          refine ⟨(by rw [decide_eq_false]; rintro rfl; rw [hx] at hy; rw [mEq_iff.2 (Option.some.inj hy)] at hxy; cases hxy), s1.drew⟩
        · replace hxy : (!mEq x y) = false := hxy
          have hxy' : x = y := mEq_iff.1 (by simpa using hxy)
          refine ⟨_, w64 (by omega), ⟨by omega, by omega, s1.drew, fun j hj => ?_⟩, by dsimp only; omega⟩
          rcases Nat.lt_or_ge j i.toNat with hlt | hge
          · exact hb j (by omega)
          · have : j = i.toNat := by omega
            rw [this, hx, hy, hxy']
      · simp only [decide_eq_false_iff_not] at hi
        refine ⟨?_, s1⟩
        have : xs = ys := List.ext_getElem? fun j => by
          rcases Nat.lt_or_ge j n with hlt | hge
          · exact hb j (by omega)
          · rw [List.getElem?_eq_none (by omega), List.getElem?_eq_none (by omega)]
        rw [this]; simp
  · rintro e w' ⟨v, rfl, rfl, h⟩
    exact ⟨rfl, h⟩

end Go.Proofs.Ytdaojmkbjkaakaa
