/- Contracts: slices' functions at receives; kept, waits, fits. Conditions: none. -/
import Derived.Test.YtdaojmkbjkaakaaRg
import Derived.Test.YtdaojmkbjkaakaaRh
set_option linter.unusedVariables false
set_option linter.unusedSimpArgs false
namespace Go.Proofs.Ytdaojmkbjkaakaa
open Go.Vc Go.Q13 Go.RowKit

theorem beq_dec (a b : Int) : (a == b) = decide (a = b) := by rw [Bool.eq_iff_iff]; simp

/-- the place of the first that meets p, or -1 -/
def idxR (p : Recv → Bool) (l : List Recv) : Int := match l.findIdx? p with | some i => (i : Int) | none => -1
theorem idxR_hit {p : Recv → Bool} {l : List Recv} {i : Nat} {m : Recv} (hi : l[i]? = some m) (hp : p m = true) (hb : ∀ (j : Nat) (m : Recv), j < i → l[j]? = some m → p m = false) : idxR p l = i := by
  have : l.findIdx? p = some i := by
    rw [List.findIdx?_eq_some_iff_getElem]
    obtain ⟨h, rfl⟩ := List.getElem?_eq_some_iff.1 hi
    exact ⟨h, hp, fun j hj => by simp [hb j _ hj (List.getElem?_eq_getElem (Nat.lt_trans hj h))]⟩
  simp [idxR, this]
theorem idxR_miss {p : Recv → Bool} {l : List Recv} (hb : ∀ (j : Nat) (m : Recv), l[j]? = some m → p m = false) : idxR p l = -1 := by
  have : l.findIdx? p = none := by
    rw [List.findIdx?_eq_none_iff]
    intro m hm
    obtain ⟨j, hj, rfl⟩ := List.getElem_of_mem hm
    exact hb j _ (List.getElem?_eq_getElem hj)
  simp [idxR, this]

theorem indexR_calls {w : World} {A : Option Addr} {n c : Nat} {l : List Recv} {g : Nat} {cap : List Value} (p : Recv → Bool) (hr : RowR w A n c l) (hg : Enters Try.prog g)
    (hp : ∀ m ∈ l, ∀ w', Step NoB w w' → Calls Try.prog g (rvA m :: cap).toArray w' fun e w'' => e = .returned (.bool (p m)) ∧ Step NoB w' w'') :
    Calls Try.prog 72 [.slice A n c, .func (.func g) #[] cap.toArray].toArray w fun e w' => e = .returned (.int .i64 (idxR p l)) ∧ Step NoB w w' := by
  refine (V.slices_IndexFunc_posted_Receive_posted_Receive_calls (R := fun v w' => v = .int .i64 (idxR p l) ∧ Step NoB w w') ?_).mono ?_
  · have hn := hr.len
    have hN := Row.le hr
    refine ⟨fun i w' => 0 ≤ i ∧ i ≤ n ∧ Step NoB w w' ∧ ∀ (j : Nat) (m : Recv), (j : Int) < i → l[j]? = some m → p m = false, fun i _ => (n - i).toNat, ⟨by omega, by omega, Step.refl _ _, fun j m hj => by omega⟩, ?_⟩
    rintro i jk w1 ⟨h0, h1, s1, hb⟩
    refine ifb_intro (fun hi => ?_) (fun hi => ?_)
    · simp only [decide_eq_true_eq] at hi
      have hi' : i.toNat < l.length := by omega
      obtain ⟨m, hm⟩ : ∃ m, l[i.toNat]? = some m := ⟨_, List.getElem?_eq_getElem hi'⟩
      obtain ⟨b, rfl, hc⟩ := (RowR.elem (Row.then hr s1) hm)
      refine ⟨h0, hi, b, 0, rfl, _, _, _, _, _, _, _, _, _, hc, hg, ?_⟩
      refine (hp m (List.mem_of_getElem? hm) w1 s1).mono ?_
      rintro e w2 ⟨rfl, s2⟩
      refine ⟨_, rfl, ifb_intro (fun hpm => ?_) (fun hpm => ?_)⟩
      · exact ⟨by rw [idxR_hit hm hpm (fun j m' hj hm' => hb j m' (by omega) hm')]; congr 1; omega, s1.both s2⟩
      · refine ⟨_, w64 (by omega), ⟨by omega, by omega, s1.both s2, fun j m' hj hm' => ?_⟩, by dsimp only; omega⟩
        rcases Nat.lt_or_ge j i.toNat with hlt | hge
        · exact hb j m' (by omega) hm'
        · have : j = i.toNat := by omega
          subst this
          rw [hm] at hm'; cases hm'; exact hpm
    · simp only [decide_eq_false_iff_not] at hi
      exact ⟨by rw [idxR_miss fun j m hm => hb j m (by have := (List.getElem?_eq_some_iff.1 hm).1; omega) hm], s1⟩
  · rintro e w' ⟨v, rfl, rfl, h⟩
    exact ⟨rfl, h⟩
theorem containsR_calls {w : World} {A : Option Addr} {n c : Nat} {l : List Recv} {g : Nat} {cap : List Value} (p : Recv → Bool) (hr : RowR w A n c l) (hg : Enters Try.prog g)
    (hp : ∀ m ∈ l, ∀ w', Step NoB w w' → Calls Try.prog g (rvA m :: cap).toArray w' fun e w'' => e = .returned (.bool (p m)) ∧ Step NoB w' w'') :
    Calls Try.prog 97 [.slice A n c, .func (.func g) #[] cap.toArray].toArray w fun e w' => e = .returned (.bool (l.any p)) ∧ Step NoB w w' := by
  refine (V.slices_ContainsFunc_posted_Receive_posted_Receive_calls (R := fun v w' => v = .bool (l.any p) ∧ Step NoB w w') ?_).mono ?_
  · refine (indexR_calls p hr hg hp).mono ?_
    rintro e w' ⟨rfl, s⟩
    refine ⟨_, rfl, ?_, s⟩
    congr 1
    rcases ha : l.any p with _ | _
    · rw [idxR_miss fun j m hm => by
        have := List.any_eq_false.1 ha m (List.mem_of_getElem? hm)
        simpa using this]
      rfl
    · obtain ⟨m, hm, hpm⟩ := List.any_eq_true.1 ha
      have : 0 ≤ idxR p l := by
        unfold idxR
        rcases hf : l.findIdx? p with _ | i
        · rw [List.findIdx?_eq_none_iff] at hf
          rw [hf m hm] at hpm; cases hpm
        · simp
      simp [this]
  · rintro e w' ⟨v, rfl, rfl, h⟩
    exact ⟨rfl, h⟩

theorem cloneR_calls {w : World} {A : Option Addr} {n c : Nat} {l : List Recv} (hR : RowR w A n c l) (hQ : n ≤ 1000000000) :
    Calls Try.prog 71 #[.slice A n c] w fun e w' => ∃ A' c', e = .returned (.slice A' n c') ∧ RowR w' A' n c' l ∧ (∀ k, At A' k → w.heap.size ≤ k) ∧ Step NoB w w' := by
  refine (V.slices_Clone_posted_Receive_posted_Receive_calls (R := fun v w' => ∃ A' c', v = .slice A' n c' ∧ RowR w' A' n c' l ∧ (∀ k, At A' k → w.heap.size ≤ k) ∧ Step NoB w w') ?_).mono ?_
  · refine ifb_intro (fun hA => ?_) (fun hA => ?_)
    · rcases hR.out.2 with ⟨rfl, rfl, rfl⟩ | ⟨b1, x, rfl, _⟩
      · exact ⟨none, 0, rfl, hR, fun k hk => absurd hk at_none, Step.refl _ _⟩
      · cases hA
    · intro b2 w3 h3
      have hR3 := Row.then hR h3.step
      have s3 := (Step.refl NoB w).new h3
      have hz : maxLen = 9223372036854775807 := rfl
      refine ⟨[], l.flatMap rv, Row.whole h3.blk (Nat.zero_le _) rfl, reads_row hR3 (rvs_one l), by omega, by omega, fun A7 C7 w6 h6 hap => ?_⟩
      have hg := h3.at_
      have hat0 : ∀ k, At (some ⟨b2, 0, none⟩) k → w.heap.size ≤ k := fun k hk => by rw [at_some] at hk; omega
      have hR6 : Row w6 A7 (0 + n) C7 tRecv 9 (l.flatMap rv) := h6
      rw [Nat.zero_add] at hR6
      exact ⟨A7, C7, by rw [Nat.zero_add], hR6, hap.at' s3 hat0, hap.new s3 fun k hk => .inl (hat0 k hk)⟩
  · rintro e w' ⟨v, rfl, A', c', rfl, h⟩
    exact ⟨A', c', rfl, h⟩

theorem take_succ_filterR {p : Recv → Bool} {l : List Recv} {i : Nat} {m : Recv} (hi : l[i]? = some m) : (l.take (i + 1)).filter p = (l.take i).filter p ++ (if p m then [m] else []) := by
  rw [List.take_add_one, hi, Option.toList_some, List.filter_append]
  congr 1
  rw [List.filter_cons, List.filter_nil]
theorem waits_calls (r : Recv) (w : World) : Calls Try.prog 53 [rvA r].toArray w fun e w' => e = .returned (.bool (!r.done)) ∧ Step NoB w w' := by
  refine (V.posted_Receive_waits_calls (R := fun v w' => v = .bool (!r.done) ∧ Step NoB w w') ?_).mono ?_
  · intro b w1 h1
    exact ⟨_, h1.blk.cell rfl, rfl, (Step.refl _ _).new h1⟩
  · rintro e w' ⟨v, rfl, rfl, h⟩
    exact ⟨rfl, h⟩
/-- those that wait -/
def waitL (l : List Recv) : List Recv := l.filter fun r => !r.done
theorem kept_calls {w : World} {A : Option Addr} {n c : Nat} {l : List Recv} (hr : RowR w A n c l) (hN : n ≤ 1000000000) :
    Calls Try.prog 52 #[.slice A n c, .func (.func 53) #[] #[]] w fun e w' => ∃ A' n' c', e = .returned (.slice A' n' c') ∧ RowR w' A' n' c' (waitL l) ∧ (∀ k, At A' k → w.heap.size ≤ k) ∧ Step NoB w w' := by
  refine (V.posted_kept_calls (cap1 := []) (R := fun v w' => ∃ A' n' c', v = .slice A' n' c' ∧ RowR w' A' n' c' (waitL l) ∧ (∀ k, At A' k → w.heap.size ≤ k) ∧ Step NoB w w') ?_).mono ?_
  · have hn := hr.len
    refine ⟨fun A' N' C' i w' => 0 ≤ i ∧ i ≤ n ∧ Step NoB w w' ∧ RowR w' A' N' C' (waitL (l.take i.toNat)) ∧ (∀ b, At A' b → w.heap.size ≤ b), fun _ _ _ i _ => (n - i).toNat, ⟨by omega, by omega, Step.refl _ _, Row.nil _ _ _, fun b hb => absurd hb at_none⟩, ?_⟩
    rintro A' N' C' i jk w1 ⟨h0, h1, s1, hO, hat⟩
    refine ifb_intro (fun hi => ?_) (fun hi => ?_)
    · simp only [decide_eq_true_eq] at hi
      obtain ⟨m, hm⟩ : ∃ m, l[i.toNat]? = some m := ⟨_, List.getElem?_eq_getElem (by omega)⟩
      obtain ⟨b, rfl, hc⟩ := RowR.elem (Row.then hr s1) hm
      have e3 : (i + 1).toNat = i.toNat + 1 := by omega
      refine ⟨h0, hi, b, 0, rfl, _, _, _, _, _, _, _, _, _, hc, ?_⟩
      refine new_set (by simp) rfl fun b2 w2 h2 => ?_
      have s2 := s1.new h2
      refine ⟨_, _, _, _, _, _, _, _, _, h2.blk.all, entersB_out (by kernel_rfl), (waits_calls m w2).mono ?_⟩
      rintro e w3 ⟨rfl, s3⟩
      refine ⟨_, rfl, ifb_intro (fun hd => ?_) (fun hd => ?_)⟩
      · refine ⟨_, _, _, _, _, _, _, _, _, (h2.blk.then s3).all, fun b4 w4 h4 => ?_⟩
        have s4 := (s2.then s3).new h4
        have hO4 := Row.then (Row.then (Row.then hO h2.step) s3) h4.step
        have hl4 := RowR.len hO4
        have hle : (waitL (l.take i.toNat)).length ≤ l.length := Nat.le_trans (List.length_filter_le ..) (by rw [List.length_take]; omega)
        refine ⟨_, _, hO4, reads_blk h4.blk rfl (rv_one m), ?_, by omega, fun A5 C5 w5 h5 hap => ?_⟩
        · have : maxLen = 9223372036854775807 := rfl
          omega
        · refine ⟨_, w64 (by omega), ⟨by omega, by omega, hap.new s4 fun b hb => .inl (hat b hb), ?_, hap.at' s4 hat⟩, by dsimp only; omega⟩
          show Row _ _ _ _ _ _ _
          unfold waitL at h5 ⊢
          rw [e3, take_succ_filterR hm, hd, if_pos rfl, List.flatMap_append, show ([m] : List Recv).flatMap rv = rv m by simp]
          exact h5
      · refine ⟨_, w64 (by omega), ⟨by omega, by omega, s2.then s3, ?_, hat⟩, by dsimp only; omega⟩
        unfold waitL at hO ⊢
        rw [e3, take_succ_filterR hm, hd, if_neg (by simp), List.append_nil]
        exact Row.then (Row.then hO h2.step) s3
    · simp only [decide_eq_false_iff_not] at hi
      rw [List.take_of_length_le (by omega)] at hO
      exact ⟨A', N', C', rfl, hO, hat, s1⟩
  · rintro e w' ⟨v, rfl, A', n', c', rfl, h⟩
    exact ⟨A', n', c', rfl, h⟩

theorem rfits_eq (r : Recv) (m : Msg) : rfits r m = (decide (r.key.toList = m.key.toList) && (decide (r.rank = m.to) && ((decide (r.peer = -1) || decide (r.peer = m.fr)) && (decide (r.tag = -1) || decide (r.tag = m.tag))))) := by
  have : (r.key = m.key) ↔ (r.key.toList = m.key.toList) := ⟨fun h => by rw [h], toList_inj⟩
  simp only [rfits, this, beq_dec]
  cases decide (r.key.toList = m.key.toList) <;> cases decide (r.rank = m.to) <;> simp
theorem fits_calls (r : Recv) (m : Msg) (w : World) : Calls Try.prog 55 #[rvA r, mvA m] w fun e w' => e = .returned (.bool (rfits r m)) ∧ Step NoB w w' := by
  refine (V.posted_Receive_fits_calls (R := fun v w' => v = .bool (rfits r m) ∧ Step NoB w w') ?_).mono ?_
  · intro b1 w1 h1 b2 w2 h2
    have B := h1.blk.new h2
    have s2 := ((Step.refl NoB w).new h1).new h2
    rw [rfits_eq]
    refine ⟨_, B.cell rfl, _, h2.blk.cell rfl, ifb_intro (fun g1 => ?_) (fun g1 => ?_)⟩
    · simp only [beq_iff_eq] at g1
      refine ⟨_, B.cell rfl, _, h2.blk.cell rfl, ifb_intro (fun g2 => ?_) (fun g2 => ?_)⟩
      · simp only [beq_iff_eq] at g2
        refine ⟨_, B.cell rfl, ifb_intro (fun g3 => ?_) (fun g3 => ?_)⟩
        · simp only [beq_iff_eq] at g3
          refine ⟨_, B.cell rfl, ifb_intro (fun g4 => ?_) (fun g4 => ?_)⟩
          · simp only [beq_iff_eq] at g4
            exact ⟨by simp [g1, g2, g3, g4], s2⟩
          · simp only [beq_eq_false_iff_ne, ne_eq] at g4
            exact ⟨_, B.cell rfl, _, h2.blk.cell rfl, by simp [g1, g2, g3, g4, beq_dec], s2⟩
        · simp only [beq_eq_false_iff_ne, ne_eq] at g3
          refine ⟨_, B.cell rfl, _, h2.blk.cell rfl, ifb_intro (fun g5 => ?_) (fun g5 => ?_)⟩
          · simp only [beq_iff_eq] at g5
            refine ⟨_, B.cell rfl, ifb_intro (fun g4 => ?_) (fun g4 => ?_)⟩
            · simp only [beq_iff_eq] at g4
              exact ⟨by simp [g1, g2, g5, g4], s2⟩
            · simp only [beq_eq_false_iff_ne, ne_eq] at g4
              exact ⟨_, B.cell rfl, _, h2.blk.cell rfl, by simp [g1, g2, g5, g4, beq_dec], s2⟩
          · simp only [beq_eq_false_iff_ne, ne_eq] at g5
            exact ⟨by simp [g3, g5], s2⟩
      · simp only [beq_eq_false_iff_ne, ne_eq] at g2
        exact ⟨by simp [g2], s2⟩
    · simp only [beq_eq_false_iff_ne, ne_eq] at g1
      exact ⟨by simp [g1], s2⟩
  · rintro e w' ⟨v, rfl, rfl, h⟩
    exact ⟨rfl, h⟩
theorem Fits_calls (r : Recv) (m : Msg) (w : World) : Calls Try.prog 28 #[rvA r, mvA m] w fun e w' => e = .returned (.bool (rfits r m)) ∧ Step NoB w w' := by
  refine (V.posted_Fits_calls (R := fun v w' => v = .bool (rfits r m) ∧ Step NoB w w') ?_).mono ?_
  · intro b1 w1 h1 b2 w2 h2
    have B := h1.blk.new h2
    have s2 := ((Step.refl NoB w).new h1).new h2
    refine ⟨_, _, _, _, _, _, _, _, _, B.all, _, _, _, _, _, _, _, _, h2.blk.all, (fits_calls r m w2).mono ?_⟩
    rintro e w3 ⟨rfl, s3⟩
    exact ⟨_, rfl, rfl, s2.then s3⟩
  · rintro e w' ⟨v, rfl, rfl, h⟩
    exact ⟨rfl, h⟩

end Go.Proofs.Ytdaojmkbjkaakaa
