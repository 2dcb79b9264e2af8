/- Contracts: the reference's queue: place, Take, ahead; two sorted lists of equal rows are equal. Conditions: none. -/
import Derived.Test.YtdaojmkbjkaakaaQv
import Derived.Test.YtdaojmkbjkaakaaVp
set_option linter.unusedVariables false
set_option linter.unusedSimpArgs false
namespace Go.Proofs.Ytdaojmkbjkaakaa
open Go.Vc Go.Q13 Go.RowKit

theorem sorted_eq : ∀ {l l' : List Msg}, l.Pairwise le → l'.Pairwise le → (∀ c, row l c = row l' c) → l = l'
  | [], [], _, _, _ => rfl
  | [], y :: l', _, _, h => by have := (perm_of_rows h).length_eq; simp at this
  | x :: l, [], _, _, h => by have := (perm_of_rows h).length_eq; simp at this
  | x :: l, y :: l', h1, h2, h => by
    have hp := perm_of_rows h
    rw [List.pairwise_cons] at h1 h2
    have hxy : x = y := by
      by_cases hc : x.ch = y.ch
      · have hr := h x.ch
        have e1 : row (x :: l) x.ch = x :: row l x.ch := by simp [row]
        have e2 : row (y :: l') x.ch = y :: row l' x.ch := by simp [row, hc]
        rw [e1, e2] at hr
        exact (List.cons.inj hr).1
      · exfalso
        have hx : x ∈ y :: l' := hp.mem_iff.1 (List.mem_cons_self ..)
        have hy : y ∈ x :: l := hp.mem_iff.2 (List.mem_cons_self ..)
        rcases List.mem_cons.1 hx with e | hx
        · exact hc (by rw [e])
        · rcases List.mem_cons.1 hy with e | hy
          · exact hc (by rw [e])
          · rcases lt_tri x y with q | q | q
            · exact h2.1 x hx q
            · exact h1.1 y hy q
            · exact hc q
    subst hxy
    rw [sorted_eq h1.2 h2.2 fun c => by
      have hr := h c
      by_cases hc : x.ch = c
      · have e1 : ∀ l, row (x :: l) c = x :: row l c := fun l => by simp [row, hc]
        rw [e1, e1] at hr
        exact (List.cons.inj hr).2
      · have e1 : ∀ l, row (x :: l) c = row l c := fun l => by simp [row, hc]
        rw [e1, e1] at hr; exact hr]

abbrev tRQ : TypeId := 88
/-- The reference's queue: a block that holds a slice of all messages. -/
def TRep (w : World) (p : Option Addr) (Q : List Msg) (F : Nat → Prop) : Prop := ∃ b A n c, p = some ⟨b, 0, none⟩ ∧ Blk w b [.slice A n c] tRQ ∧ RowM w A n c Q ∧ ¬ At A b ∧ ∀ k, F k ↔ (k = b ∨ At A k)
theorem TRep.keep {F G : Nat → Prop} {w w' : World} {p : Option Addr} {Q : List Msg} (h : TRep w p Q F) (s : Step G w w') (hF : ∀ k, F k → ¬ G k) : TRep w' p Q F := by
  obtain ⟨b, A, n, c, rfl, hB, hR, hn, hk⟩ := h
  exact ⟨b, A, n, c, rfl, hB.keep s (hF b ((hk b).2 (.inl rfl))), Row.keep hR s (fun k hA => hF k ((hk k).2 (.inr hA))), hn, hk⟩
theorem TRep.then {F : Nat → Prop} {w w' : World} {p : Option Addr} {Q : List Msg} (h : TRep w p Q F) (s : Step NoB w w') : TRep w' p Q F := h.keep s (fun _ _ f => f)
theorem TRep.lt {F : Nat → Prop} {w : World} {p : Option Addr} {Q : List Msg} (h : TRep w p Q F) {k : Nat} (hk : F k) : k < w.heap.size := by
  obtain ⟨b, A, n, c, rfl, hB, hR, hn, hF⟩ := h
  rcases (hF k).1 hk with rfl | h
  · exact hB.lt
  · exact Row.lt hR h
/-- where a sender's call stands, or -1 -/
def placeI (Q : List Msg) (fr call : Int) : Int := idx (is fr call) Q
theorem place_calls {F : Nat → Prop} {w : World} {p : Option Addr} {Q : List Msg} (h : TRep w p Q F) (fr call : Int) :
    Calls Try.prog 64 #[.pointer p, .int .i64 fr, .int .i64 call] w fun e w' => e = .returned (.int .i64 (placeI Q fr call)) ∧ w' = w := by
  obtain ⟨b, A, n, c, rfl, hB, hR, hn, hF⟩ := h
  have hl := RowM.len hR
  have hN := Row.le hR
  refine (V.dispatcherref13_Queue_place_calls (R := fun v w' => v = .int .i64 (placeI Q fr call) ∧ w' = w) ?_).mono ?_
  · refine ⟨fun i w' => 0 ≤ i ∧ i ≤ n ∧ w' = w ∧ ∀ (j : Nat) (m : Msg), (j : Int) < i → Q[j]? = some m → is fr call m = false, fun i _ => (n - i).toNat, ⟨by omega, by omega, rfl, fun j m hj => by omega⟩, ?_⟩
    rintro i jk w1 ⟨h0, h1, rfl, hb⟩
    refine nilC_in ⟨A, n, c, hB.cell rfl, ifb_intro (fun hi => ?_) (fun hi => ?_)⟩
    · simp only [decide_eq_true_eq] at hi
      obtain ⟨m, hm⟩ : ∃ m, Q[i.toNat]? = some m := ⟨_, List.getElem?_eq_getElem (by omega)⟩
      obtain ⟨b1, rfl, hc⟩ := RowM.elem hR hm
      have c1 := hc 1 _ rfl
      have c3 := hc 3 _ rfl
      rw [add_none] at c1 c3
      have next : is fr call m = false → ∃ k : Int, IntKind.wrap .i64 (i + 1) = k ∧ (0 ≤ k ∧ k ≤ n ∧ w1 = w1 ∧ ∀ (j : Nat) (m : Msg), (j : Int) < k → Q[j]? = some m → is fr call m = false) ∧ ((n : Int) - k).toNat < ((n : Int) - i).toNat := by
        intro hf
        refine ⟨_, w64 (by omega), ⟨by omega, by omega, rfl, fun j m' hj hm' => ?_⟩, by omega⟩
        rcases Nat.lt_or_ge j i.toNat with hlt | hge
        · exact hb j m' (by omega) hm'
        · have : j = i.toNat := by omega
          subst this
          rw [hm] at hm'; cases hm'; exact hf
      refine nilC_in ⟨_, n, c, hB.cell rfl, h0, hi, b1, 0, rfl, _, c1, ifb_intro (fun g1 => ?_) (fun g1 => next ?_)⟩
      · refine nilC_in ⟨_, n, c, hB.cell rfl, h0, hi, b1, 0, rfl, _, c3, ifb_intro (fun g2 => ?_) (fun g2 => next ?_)⟩
        · simp only [beq_iff_eq] at g1 g2
          refine ⟨?_, rfl⟩
          unfold placeI
          rw [idx_hit hm (by simp [is, g1, g2]) fun j m' hj hm' => hb j m' (by omega) hm']
          congr 1; omega
        · simp only [beq_eq_false_iff_ne, ne_eq] at g2
          simp [is, g2]
      · simp only [beq_eq_false_iff_ne, ne_eq] at g1
        simp [is, g1]
    · simp only [decide_eq_false_iff_not] at hi
      refine ⟨?_, rfl⟩
      unfold placeI
      rw [idx_miss fun j m hm => hb j m (by have := (List.getElem?_eq_some_iff.1 hm).1; omega) hm]
  · rintro e w' ⟨v, rfl, rfl, rfl⟩
    exact ⟨rfl, rfl⟩
/-- the reference's 'ahead' is strictly ahead -/
theorem refAhead_calls (a b : Msg) (w : World) :
    Calls Try.prog 54 #[mvA a, mvA b] w fun e w' => ∃ t : Bool, e = .returned (.bool t) ∧ (t = true ↔ lt a b) ∧ Step NoB w w' := by
  refine (V.dispatcherref13_ahead_calls (R := fun v w' => ∃ t : Bool, v = .bool t ∧ (t = true ↔ lt a b) ∧ Step NoB w w') ?_).mono ?_
  · intro b1 w1 h1 b2 w2 h2
    have B1 := h1.blk.new h2
    have s2 := ((Step.refl NoB w).new h1).new h2
    refine ⟨_, B1.cell rfl, _, h2.blk.cell rfl, ifb_intro (fun g => ?_) (fun g => ?_)⟩
    · have hk : a.key ≠ b.key := fun e => by rw [e] at g; simp at g
      refine ⟨_, B1.cell rfl, _, h2.blk.cell rfl, _, rfl, ?_, s2⟩
      unfold lt slt; simp [hk]
    · have hk : a.key = b.key := toList_inj (by simpa using g)
      refine ⟨_, B1.cell rfl, _, h2.blk.cell rfl, ifb_intro (fun g2 => ?_) (fun g2 => ?_)⟩
      · simp only [bne_iff_ne, ne_eq] at g2
        refine ⟨_, B1.cell rfl, _, h2.blk.cell rfl, _, rfl, ?_, s2⟩
        unfold lt; rw [hk, slt_irrefl]; simp [g2]
      · simp only [bne_eq_false_iff_eq] at g2
        refine ⟨_, B1.cell rfl, _, h2.blk.cell rfl, _, rfl, ?_, s2⟩
        unfold lt; rw [hk, slt_irrefl, g2]; simp
  · rintro e w' ⟨v, rfl, t, rfl, h⟩
    exact ⟨t, rfl, h⟩

end Go.Proofs.Ytdaojmkbjkaakaa
