/- Contracts: the reference's receives: Post, Match. Conditions: none. -/
import Derived.Test.YtdaojmkbjkaakaaRp
set_option linter.unusedVariables false
set_option linter.unusedSimpArgs false
namespace Go.Proofs.Ytdaojmkbjkaakaa
open Go.Vc Go.Q13 Go.RowKit

theorem SRep.post_calls {F : Nat → Prop} {w : World} {p : Option Addr} {P : List Recv} (h : SRep w p P F) (hl1 : P.length ≤ 1000000) (r : Recv) :
    Calls Try.prog 43 #[.pointer p, rvA r] w fun e w' => e = .returned (.int .i64 (postE P r)) ∧ ∃ F', SRep w' p (post P r) F' ∧ Step F w w' ∧ ∀ k, F' k → F k ∨ w.heap.size ≤ k := by
  have h0 := h
  obtain ⟨b, A, n, c, rfl, hB, hR, hn, hF⟩ := h
  have hl := RowR.len hR
  have hN := Row.le hR
  refine (V.dispatcherref14_Posted_Post_calls (s2 := r.key) (n3 := r.rank) (n4 := r.call) (n5 := r.peer) (n6 := r.tag) (n7 := r.req) (t8 := r.done) (n9 := r.fr) (n10 := r.seq)
    (R := fun v w' => v = .int .i64 (postE P r) ∧ ∃ F', SRep w' (some ⟨b, 0, none⟩) (post P r) F' ∧ Step F w w' ∧ ∀ k, F' k → F k ∨ w.heap.size ≤ k) ?_).mono ?_
  · intro b1 w1 h1
    have s1 := (Step.refl NoB w).new h1
    have C := h1.blk
    have bad : ∀ w', Step NoB w w' → (!rmay r || late P r) = true → Value.int .i64 2 = .int .i64 (postE P r) ∧ ∃ F', SRep w' (some ⟨b, 0, none⟩) (post P r) F' ∧ Step F w w' ∧ ∀ k, F' k → F k ∨ w.heap.size ≤ k := by
      intro w' s hb
      unfold postE post
      rw [if_pos hb, if_pos hb]
      exact ⟨rfl, F, h0.then s, s.none, fun k hk => .inl hk⟩
    have no : ∀ {x : Bool}, rmay r = false → (!rmay r || x) = true := fun h => by rw [h]; rfl
    have nf : ∀ {q : Prop} [Decidable q], ¬ q → decide q = false := fun h => decide_eq_false h
    refine ⟨_, C.cell rfl, ifb_intro (fun g => bad _ s1 (no ?_)) (fun g1 => ?_)⟩
    · simp only [decide_eq_true_eq] at g
      have : ¬ 0 ≤ r.rank := by omega
      simp [rmay, this]
    refine ⟨_, C.cell rfl, ifb_intro (fun g => bad _ s1 (no ?_)) (fun g2 => ?_)⟩
    · simp only [decide_eq_true_eq] at g
      have : ¬ r.rank ≤ 63 := by omega
      simp [rmay, this]
    refine ⟨_, C.cell rfl, ifb_intro (fun g => bad _ s1 (no ?_)) (fun g3 => ?_)⟩
    · simp only [decide_eq_true_eq] at g
      have : ¬ -1 ≤ r.peer := by omega
      simp [rmay, this]
    refine ⟨_, C.cell rfl, ifb_intro (fun g => bad _ s1 (no ?_)) (fun g4 => ?_)⟩
    · simp only [decide_eq_true_eq] at g
      have : ¬ r.peer ≤ 63 := by omega
      simp [rmay, this]
    refine ⟨_, C.cell rfl, ifb_intro (fun g => bad _ s1 (no ?_)) (fun g5 => ?_)⟩
    · simp only [decide_eq_true_eq] at g
      have : ¬ -1 ≤ r.tag := by omega
      simp [rmay, this]
    refine ⟨_, C.cell rfl, ifb_intro (fun g => bad _ s1 (no ?_)) (fun g6 => ?_)⟩
    · simp only [decide_eq_true_eq] at g
      have : ¬ r.tag ≤ 32767 := by omega
      simp [rmay, this]
    refine ⟨_, C.cell rfl, ifb_intro (fun g => bad _ s1 (no (by simp [rmay, g]))) (fun g7 => ?_)⟩
    refine ⟨_, C.cell rfl, ifb_intro (fun g => bad _ s1 (no (by simp [rmay, g]))) (fun g8 => ?_)⟩
    have hmay : rmay r = true := by
      simp only [decide_eq_false_iff_not] at g1 g2 g3 g4 g5 g6
      have a1 : 0 ≤ r.rank := by omega
      have a2 : r.rank ≤ 63 := by omega
      have a3 : -1 ≤ r.peer := by omega
      have a4 : r.peer ≤ 63 := by omega
      have a5 : -1 ≤ r.tag := by omega
      have a6 : r.tag ≤ 32767 := by omega
      simp [rmay, a1, a2, a3, a4, a5, a6, g7, g8]
    refine ⟨fun i w' => 0 ≤ i ∧ i ≤ n ∧ Step NoB w1 w' ∧ ∀ (j : Nat) (m : Recv), j < i.toNat → P[j]? = some m → (decide (m.rank = r.rank) && decide (m.call ≥ r.call)) = false, fun i _ => (n - i).toNat, ⟨by omega, by omega, Step.refl _ _, fun j m hj => absurd hj (by omega)⟩, ?_⟩
    rintro i jk w2 ⟨i0, i1, s2, hb⟩
    have s12 := s1.then s2
    refine nilC_in ⟨A, n, c, (hB.then s12).cell rfl, ifb_intro (fun hi => ?_) (fun hi => ?_)⟩
    · simp only [decide_eq_true_eq] at hi
      obtain ⟨m, hm⟩ : ∃ m, P[i.toNat]? = some m := ⟨_, List.getElem?_eq_getElem (by omega)⟩
      have s12d := s12.drew
      have hBd := hB.then s12d
      have Cd := (C.then s2).then (Step.refl NoB w2).drew
      obtain ⟨b2, rfl, hc⟩ := RowR.elem (Row.then hR s12d) hm
      have c1 := hc 1 _ rfl
      have c2 := hc 2 _ rfl
      rw [add_none] at c1 c2
      have next : (decide (m.rank = r.rank) && decide (m.call ≥ r.call)) = false → ∃ k : Int, IntKind.wrap .i64 (i + 1) = k ∧ (0 ≤ k ∧ k ≤ n ∧ Step NoB w1 w2.drew ∧ ∀ (j : Nat) (m : Recv), j < k.toNat → P[j]? = some m → (decide (m.rank = r.rank) && decide (m.call ≥ r.call)) = false) ∧ ((n : Int) - k).toNat < ((n : Int) - i).toNat := by
        intro hf
        refine ⟨_, w64 (by omega), ⟨by omega, by omega, s2.drew, ?_⟩, by omega⟩
        rw [show (i + 1).toNat = i.toNat + 1 by omega]
        exact any_take hm hb hf
      refine nilC_in ⟨_, n, c, hBd.cell rfl, i0, hi, b2, 0, rfl, _, c1, _, Cd.cell rfl, ifb_intro (fun g => ?_) (fun g => next (by simp only [beq_eq_false_iff_ne, ne_eq] at g; simp [g]))⟩
      simp only [beq_iff_eq] at g
      refine nilC_in ⟨_, n, c, hBd.cell rfl, i0, hi, b2, 0, rfl, _, c2, _, Cd.cell rfl, ifb_intro (fun g' => bad _ s12d ?_) (fun g' => next (by rw [g', Bool.and_false]))⟩
      have : late P r = true := List.any_eq_true.2 ⟨m, List.mem_of_getElem? hm, by rw [g']; simp [g]⟩
      rw [this, Bool.or_true]
    · simp only [decide_eq_false_iff_not] at hi
      have hnl : late P r = false := any_all fun j y hj hy => hb j y (by omega) hy
      have e1 : postE P r = 0 := by unfold postE; rw [if_neg (by simp [hmay, hnl])]
      have e2 : post P r = P ++ [clean r] := by unfold post; rw [if_neg (by simp [hmay, hnl])]
      rw [e1, e2]
      have s12d := s12.drew
      have hBd := hB.then s12d
      have Cd := (C.then s2).then (Step.refl NoB w2).drew
      refine nilC_in ⟨A, n, c, hBd.cell rfl, _, Cd.cell rfl, _, Cd.cell rfl, _, Cd.cell rfl, _, Cd.cell rfl, _, Cd.cell rfl, _, Cd.cell rfl, fun b3 w3 h3 => ?_⟩
      have s13 := s12d.new h3
      have hB3 := hB.then s13
      have hR3 := Row.then hR s13
      refine ⟨hB3.cell rfl, _, _, hR3, reads_blk h3.blk rfl (rv_one (clean r)), ?_, by omega, fun A4 C4 w4 h4 hap => ?_⟩
      · have : maxLen = 9223372036854775807 := rfl
        omega
      have hB4 := hB3.keep hap.step hn
      have S4 : Step F w w4 := hap.new s13.none fun k hk => .inr ((hF k).2 (.inr hk))
      refine nilC_in ⟨_, _, hB4, by simp, fun w5 u5 => ⟨rfl, fun k => k = b ∨ At A4 k, ⟨b, A4, n + 1, C4, rfl, u5.blk, ?_, ?_, fun _ => Iff.rfl⟩, S4.upd u5 (.inr ((hF b).2 (.inl rfl))), ?_⟩⟩
      · have hnb : ∀ k, At A4 k → ¬ k = b := by
          rintro k hk rfl
          rcases hap.at_ with hc | hc
          · exact hn (by unfold At at hk ⊢; rw [← hc]; exact hk)
          · unfold At at hk; rw [hc] at hk; cases hk; have := hB3.lt; omega
        have : Row w4 A4 (n + 1) C4 tRecv 9 ((P ++ [clean r]).flatMap rv) := by
          rw [List.flatMap_append, show ([clean r] : List Recv).flatMap rv = rv (clean r) by simp]; exact h4
        exact Row.keep this u5.step hnb
      · intro hk
        rcases hap.at_ with hc | hc
        · exact hn (by unfold At at hk ⊢; rw [← hc]; exact hk)
        · unfold At at hk; rw [hc] at hk; cases hk; have := hB3.lt; omega
      · rintro k (rfl | hk)
        · exact .inl ((hF k).2 (.inl rfl))
        · rcases hap.at_ with hc | hc
          · exact .inl ((hF k).2 (.inr (by unfold At at hk ⊢; rw [← hc]; exact hk)))
          · unfold At at hk; rw [hc] at hk; cases hk; exact .inr s13.size
  · rintro e w' ⟨v, rfl, rfl, h⟩
    exact ⟨rfl, h⟩

theorem mark_step {P : List Recv} {f : Recv → Recv} {k : Nat} {x : Recv} (hx : P[k]? = some x) : ((P.take k).map f ++ P.drop k).set k (f x) = (P.take (k + 1)).map f ++ P.drop (k + 1) := by
  obtain ⟨hk, rfl⟩ := List.getElem?_eq_some_iff.1 hx
  have hl : ((P.take k).map f).length = k := by rw [List.length_map, List.length_take]; omega
  rw [List.set_append_right _ _ (by omega), hl, Nat.sub_self, List.drop_eq_getElem_cons hk, List.set_cons_zero, List.take_add_one, List.getElem?_eq_getElem hk, Option.toList_some, List.map_append, List.append_assoc]
  rfl
theorem mark_get {P : List Recv} {f : Recv → Recv} {k : Nat} {x : Recv} (hx : P[k]? = some x) : ((P.take k).map f ++ P.drop k)[k]? = some x := by
  obtain ⟨hk, _⟩ := List.getElem?_eq_some_iff.1 hx
  have hl : ((P.take k).map f).length = k := by rw [List.length_map, List.length_take]; omega
  rw [List.getElem?_append_right (by omega), hl, Nat.sub_self, List.getElem?_drop, Nat.add_zero]; exact hx
theorem SRep.match_calls {F G : Nat → Prop} {w : World} {p q : Option Addr} {P : List Recv} {Q : List Msg} (hp : SRep w p P F) (hPl : P.length ≤ 1000000) (hq : TRep w q Q G) (hu : Uniq Q) (hQ : Q.length ≤ 1000000) (hd : ∀ k, F k → ¬ G k) (hfr : ∀ m ∈ Q, 0 ≤ m.fr ∧ m.fr < 64) (rank call fr seq : Int) :
    Calls Try.prog 45 #[.pointer p, .pointer q, .int .i64 rank, .int .i64 call, .int .i64 fr, .int .i64 seq] w fun e w' =>
      e = .returned (.int .i64 (matchE Q P rank call fr seq)) ∧ SRep w' p (matchP Q P rank call fr seq) F ∧ TRep w' q (matchQ Q P rank call fr seq) G ∧ Step (fun k => F k ∨ G k) w w' := by
  have hp0 := hp
  obtain ⟨b, A, n, c, rfl, hB, hR, hn, hF⟩ := hp
  have hl := RowR.len hR
  refine (V.dispatcherref14_Posted_Match_calls (R := fun v w' => v = .int .i64 (matchE Q P rank call fr seq) ∧ SRep w' (some ⟨b, 0, none⟩) (matchP Q P rank call fr seq) F ∧ TRep w' q (matchQ Q P rank call fr seq) G ∧ Step (fun k => F k ∨ G k) w w') ?_).mono ?_
  · refine (mayR_calls hp0 hq hu hQ hPl rank call).mono ?_
    rintro e w1 ⟨A1, n1, c1, L, rfl, hR1, hL, _, s1⟩
    have hn1 := RowM.len hR1
    have hN1 := Row.le hR1
    refine ⟨_, _, _, rfl, fun i w' => 0 ≤ i ∧ i ≤ n1 ∧ w' = w1 ∧ ∀ (j : Nat) (m : Msg), j < i.toNat → L[j]? = some m → decide (m.fr = fr ∧ m.call = seq) = false, fun i _ => (n1 - i).toNat, ⟨by omega, by omega, rfl, fun j m hj => absurd hj (by omega)⟩, ?_⟩
    rintro i jk w2 ⟨i0, i1, rfl, hb⟩
    refine ifb_intro (fun hi => ?_) (fun hi => ?_)
    · simp only [decide_eq_true_eq] at hi
      obtain ⟨m, hm⟩ : ∃ m, L[i.toNat]? = some m := ⟨_, List.getElem?_eq_getElem (by omega)⟩
      obtain ⟨b2, rfl, hc⟩ := RowM.elem hR1 hm
      have k1 := hc 1 _ rfl
      have k3 := hc 3 _ rfl
      rw [add_none] at k1 k3
      have next : decide (m.fr = fr ∧ m.call = seq) = false → ∃ k : Int, IntKind.wrap .i64 (i + 1) = k ∧ (0 ≤ k ∧ k ≤ n1 ∧ w2 = w2 ∧ ∀ (j : Nat) (m : Msg), j < k.toNat → L[j]? = some m → decide (m.fr = fr ∧ m.call = seq) = false) ∧ ((n1 : Int) - k).toNat < ((n1 : Int) - i).toNat := by
        intro hf
        refine ⟨_, w64 (by omega), ⟨by omega, by omega, rfl, ?_⟩, by omega⟩
        rw [show (i + 1).toNat = i.toNat + 1 by omega]
        exact any_take hm hb hf
      refine ⟨i0, hi, b2, 0, rfl, _, k1, ifb_intro (fun g => next (by simp only [bne_iff_ne, ne_eq] at g; simp [g])) (fun g1 => ?_)⟩
      refine ⟨i0, hi, b2, 0, rfl, _, k3, ifb_intro (fun g => next (by simp only [bne_iff_ne, ne_eq] at g; simp [g])) (fun g2 => ?_)⟩
      simp only [bne_eq_false_iff_eq] at g1 g2
      subst g1 g2
      obtain ⟨hmQ, _, _, hmb⟩ := (hL m).1 (List.mem_of_getElem? hm)
      have hcm : canM Q P rank call m.fr m.call = true := by unfold canM; rw [find_in hu hmQ]; exact hmb
      have e1 : matchE Q P rank call m.fr m.call = 0 := by unfold matchE; rw [if_pos hcm]
      have e2 : matchP Q P rank call m.fr m.call = P.map (mark rank call m.fr m.call) := by unfold matchP; rw [if_pos hcm]
      have e3 : matchQ Q P rank call m.fr m.call = take Q m.fr m.call := by unfold matchQ; rw [if_pos hcm]
      rw [e1, e2, e3]
      refine ((hq.then s1).take_calls hu m.fr m.call).mono ?_
      rintro e w3 ⟨rfl, hq3, s3⟩
      have hp3 := (hp0.then s1).keep s3 hd
      obtain ⟨b', A', n', c', hbb, hB3, hR3, hn3, hF3⟩ := hp3
      cases hbb
      have hBu : (.slice A' n' c' : Value) = .slice A n c := by
        have := (hB.then s1).keep s3 (hd b ((hF b).2 (.inl rfl)))
        unfold Blk at this hB3
        rw [this] at hB3
        have := Option.some.inj hB3
        simpa using this.symm
      cases hBu
      have S3 : Step (fun k => F k ∨ G k) w w3 := (s1.none (F := fun k => F k ∨ G k)).fresh s3 fun i hi => .inr (.inr hi)
      refine ⟨_, rfl, fun i w' => 0 ≤ i ∧ i ≤ n ∧ Blk w' b [.slice A n c] tRP ∧ RowR w' A n c ((P.take i.toNat).map (mark rank call m.fr m.call) ++ P.drop i.toNat) ∧ Step (At A) w3 w', fun i _ => (n - i).toNat, ⟨by omega, by omega, hB3, by simpa using hR3, Step.refl _ _⟩, ?_⟩
      rintro i jk2 w4 ⟨i0, i1, hB4, hR4, s4⟩
      refine nilC_in ⟨A, n, c, hB4.cell rfl, ifb_intro (fun hi => ?_) (fun hi => ?_)⟩
      · simp only [decide_eq_true_eq] at hi
        obtain ⟨x, hx⟩ : ∃ x, P[i.toNat]? = some x := ⟨_, List.getElem?_eq_getElem (by omega)⟩
        have hx4 := mark_get (f := mark rank call m.fr m.call) hx
        obtain ⟨b5, rfl, hc⟩ := RowR.elem hR4 hx4
        have k1 := hc 1 _ rfl
        have k2 := hc 2 _ rfl
        rw [add_none] at k1 k2
        have e4 : (i + 1).toNat = i.toNat + 1 := by omega
        have hbk : ¬ b = b5 := fun e => hn (at_some.2 e.symm)
        refine ⟨fun t w' => w' = w4 ∧ t = decide (x.rank = rank ∧ x.call = call), nilC_in ⟨_, n, c, hB4.cell rfl, i0, hi, b5, 0, rfl, _, k1, ifb_intro (fun g => ?_) (fun g => ?_)⟩, ?_⟩
        · simp only [beq_iff_eq] at g
          refine nilC_in ⟨_, n, c, hB4.cell rfl, i0, hi, b5, 0, rfl, _, k2, rfl, by simp [g, beq_dec]⟩
        · simp only [beq_eq_false_iff_ne, ne_eq] at g
          exact ⟨rfl, by simp [g]⟩
        rintro t jk3 w5 ⟨rfl, ht⟩
        refine ifb_intro (fun gt => ?_) (fun gt => ?_)
        · rw [gt] at ht
          have hmk : x.rank = rank ∧ x.call = call := of_decide_eq_true ht.symm
          obtain ⟨l1, d1, d2, d3⟩ := RowR.set1 hR4 hx4 (j := 6) (v := .bool true) (x' := { x with done := true }) (by omega) rfl
          refine nilC_in ⟨_, n, c, hB4.cell rfl, i0, hi, b5, 0, rfl, l1, _, d1, d2, fun w6 u6 => ?_⟩
          have hB6 := hB4.keep u6.step hbk
          have hR6 := d3 w6 u6
          have hB6d := hB6.then (Step.refl NoB w6).drew
          have hR6d := Row.then hR6 (Step.refl NoB w6).drew
          have hil : i.toNat < ((P.take i.toNat).map (mark rank call m.fr m.call) ++ P.drop i.toNat).length := (List.getElem?_eq_some_iff.1 hx4).1
          have hx6 : (((P.take i.toNat).map (mark rank call m.fr m.call) ++ P.drop i.toNat).set i.toNat { x with done := true })[i.toNat]? = some { x with done := true } := by rw [List.getElem?_set, if_pos rfl, if_pos hil]
          obtain ⟨l2, f1, f2, f3⟩ := RowR.set1 hR6d hx6 (j := 7) (v := .int .i64 m.fr) (x' := { x with done := true, fr := m.fr }) (by omega) rfl
          refine nilC_in ⟨_, n, c, hB6d.cell rfl, nilC_in ⟨_, n, c, hB6d.cell rfl, i0, hi, b5, 0, rfl, l2, _, f1, f2, fun w7 u7 => ?_⟩⟩
          have hR7 := f3 w7 u7
          rw [List.set_set] at hR7
          have hx7 : (((P.take i.toNat).map (mark rank call m.fr m.call) ++ P.drop i.toNat).set i.toNat { x with done := true, fr := m.fr })[i.toNat]? = some { x with done := true, fr := m.fr } := by rw [List.getElem?_set, if_pos rfl, if_pos hil]
          obtain ⟨l3, q1, q2, q3⟩ := RowR.set1 hR7 hx7 (j := 8) (v := .int .i64 m.call) (x' := { x with done := true, fr := m.fr, seq := m.call }) (by omega) rfl
          refine ⟨i0, hi, b5, 0, rfl, l3, _, q1, q2, fun w8 u8 => ?_⟩
          have hR8 := q3 w8 u8
          rw [List.set_set] at hR8
          replace u7 := u7.undrew
          have T : Step (fun k => k = b5) w5 w8 := (u6.step.both u7.step).both u8.step
          have hmx : mark rank call m.fr m.call x = { x with done := true, fr := m.fr, seq := m.call } := by unfold mark; rw [if_pos hmk]
          refine ⟨_, w64 (by omega), ⟨by omega, by omega, hB4.keep T hbk, ?_, s4.both (T.mono fun k _ hk => by rw [at_some]; exact hk.symm)⟩, by dsimp only; omega⟩
          rw [e4, ← mark_step hx, hmx]
          exact hR8
        · rw [gt] at ht
          have hmk : ¬ (x.rank = rank ∧ x.call = call) := of_decide_eq_false ht.symm
          refine ⟨_, w64 (by omega), ⟨by omega, by omega, hB4, ?_, s4⟩, by dsimp only; omega⟩
          have hmx : mark rank call m.fr m.call x = x := by unfold mark; rw [if_neg hmk]
          rw [e4, ← mark_step hx, hmx]
          have : ((P.take i.toNat).map (mark rank call m.fr m.call) ++ P.drop i.toNat).set i.toNat x = (P.take i.toNat).map (mark rank call m.fr m.call) ++ P.drop i.toNat := by
            refine List.ext_getElem? fun j => ?_
            rw [List.getElem?_set]
            split
            · rename_i e; subst e; rw [hx4, if_pos (List.getElem?_eq_some_iff.1 hx4).1]
            · rfl
          rw [this]; exact hR4
      · simp only [decide_eq_false_iff_not] at hi
        rw [List.take_of_length_le (by omega), List.drop_of_length_le (by omega), List.append_nil] at hR4
        refine ⟨rfl, ⟨b, A, n, c, rfl, hB4, hR4, hn, hF⟩, hq3.keep s4 fun k hk hA => hd k ((hF k).2 (.inr hA)) hk, S3.fresh s4 fun k hk => .inr (.inl ((hF k).2 (.inr hk)))⟩
    · simp only [decide_eq_false_iff_not] at hi
      have hcm : canM Q P rank call fr seq = false := by
        rw [Bool.eq_false_iff]
        intro hc
        unfold canM at hc
        rcases hfd : find Q fr seq with _ | m
        · rw [hfd] at hc; cases hc
        · rw [hfd] at hc
          obtain ⟨hmQ, rfl, rfl⟩ := find_some hfd
          obtain ⟨j, hj, he⟩ := List.getElem_of_mem ((hL m).2 ⟨hmQ, (hfr m hmQ).1, (hfr m hmQ).2, hc⟩)
          have := hb j m (by omega) (by rw [List.getElem?_eq_getElem hj, he])
          simp at this
      unfold matchE matchP matchQ
      rw [hcm]
      exact ⟨rfl, hp0.then s1, hq.then s1, s1.none⟩
  · rintro e w' ⟨v, rfl, rfl, h⟩
    exact ⟨rfl, h⟩

end Go.Proofs.Ytdaojmkbjkaakaa
