/- Contracts: the reference's receives: Fits, is, Ahead, Same, At, Waiting, Copy. Conditions: none. -/
import Derived.Test.YtdaojmkbjkaakaaRn
set_option linter.unusedVariables false
set_option linter.unusedSimpArgs false
namespace Go.Proofs.Ytdaojmkbjkaakaa
open Go.Vc Go.Q13 Go.RowKit

theorem refFits_calls (r : Recv) (m : Msg) (w : World) : Calls Try.prog 29 #[rvA r, mvA m] w fun e w' => e = .returned (.bool (rfits r m)) ∧ Step NoB w w' := by
  refine (V.dispatcherref14_Fits_calls (R := fun v w' => v = .bool (rfits r m) ∧ Step NoB w w') ?_).mono ?_
  · intro b1 w1 h1 b2 w2 h2
    have B := h1.blk.new h2
    have s2 := ((Step.refl NoB w).new h1).new h2
    rw [rfits_eq]
    refine ⟨_, B.cell rfl, _, h2.blk.cell rfl, ifb_intro (fun g1 => ?_) (fun g1 => ?_)⟩
    · simp only [Bool.not_eq_true', beq_eq_false_iff_ne, ne_eq] at g1
      exact ⟨by simp [g1], s2⟩
    · simp only [Bool.not_eq_false', beq_iff_eq] at g1
      refine ⟨_, B.cell rfl, _, h2.blk.cell rfl, ifb_intro (fun g2 => ?_) (fun g2 => ?_)⟩
      · simp only [bne_iff_ne, ne_eq] at g2
        exact ⟨by simp [g2], s2⟩
      · simp only [bne_eq_false_iff_eq] at g2
        refine ⟨_, B.cell rfl, ifb_intro (fun g3 => ?_) (fun g3 => ?_)⟩
        · simp only [beq_iff_eq] at g3
          refine ⟨_, B.cell rfl, ifb_intro (fun g4 => ?_) (fun g4 => ?_)⟩
          · simp only [beq_iff_eq] at g4
            exact ⟨by simp [g1, g2, g3, g4], s2⟩
          · simp only [beq_eq_false_iff_ne, ne_eq] at g4
            exact ⟨_, B.cell rfl, _, h2.blk.cell rfl, by simp [g1, g2, g3, g4, beq_dec], s2⟩
        · simp only [beq_eq_false_iff_ne, ne_eq] at g3
          refine ⟨_, B.cell rfl, _, h2.blk.cell rfl, ifb_intro (fun g5 => ?_) (fun g5 => ?_)⟩
          · simp only [beq_iff_eq] at g5
            refine ⟨_, B.cell rfl, ifb_intro (fun g4 => ?_) (fun g4 => ?_)⟩
            · simp only [beq_iff_eq] at g4
              exact ⟨by simp [g1, g2, g5, g4], s2⟩
            · simp only [beq_eq_false_iff_ne, ne_eq] at g4
              exact ⟨_, B.cell rfl, _, h2.blk.cell rfl, by simp [g1, g2, g5, g4, beq_dec], s2⟩
          · simp only [beq_eq_false_iff_ne, ne_eq] at g5
            exact ⟨by simp [g3, g5], s2⟩
  · rintro e w' ⟨v, rfl, rfl, h⟩
    exact ⟨rfl, h⟩
def isB (m : Msg) (c : Ch) : Bool := !m.taken && decide (m.ch = c)
theorem is_calls (m : Msg) (c : Ch) (w : World) : Calls Try.prog 103 #[mvA m, .string c.key, .int .i64 c.fr, .int .i64 c.to] w fun e w' => e = .returned (.bool (isB m c)) ∧ Step NoB w w' := by
  have hch : (m.ch = c) ↔ (m.key.toList = c.key.toList ∧ m.fr = c.fr ∧ m.to = c.to) := by
    obtain ⟨k, f, t⟩ := c
    simp only [Msg.ch, Ch.mk.injEq]
    exact ⟨fun ⟨a, b, c⟩ => ⟨by rw [a], b, c⟩, fun ⟨a, b, c⟩ => ⟨toList_inj a, b, c⟩⟩
  refine (V.dispatcherref13_is_calls (R := fun v w' => v = .bool (isB m c) ∧ Step NoB w w') ?_).mono ?_
  · intro b1 w1 h1
    have s1 := (Step.refl NoB w).new h1
    have no : ¬ m.ch = c → Value.bool false = .bool (isB m c) := fun h => by simp [isB, h]
    refine ⟨_, h1.blk.cell rfl, ifb_intro (fun g0 => ?_) (fun g0 => ?_)⟩
    · refine ⟨_, h1.blk.cell rfl, ifb_intro (fun g1 => ?_) (fun g1 => ?_)⟩
      · simp only [beq_iff_eq] at g1
        refine ⟨_, h1.blk.cell rfl, ifb_intro (fun g2 => ?_) (fun g2 => ?_)⟩
        · simp only [beq_iff_eq] at g2
          refine ⟨_, h1.blk.cell rfl, ?_, s1⟩
          simp only [isB, hch, g0, g1, g2, true_and, Bool.true_and, beq_dec]
        · simp only [beq_eq_false_iff_ne, ne_eq] at g2
          exact ⟨no fun h => g2 (hch.1 h).2.1, s1⟩
      · simp only [beq_eq_false_iff_ne, ne_eq] at g1
        exact ⟨no fun h => g1 (hch.1 h).1, s1⟩
    · exact ⟨by simp only [isB, g0, Bool.false_and], s1⟩
  · rintro e w' ⟨v, rfl, rfl, h⟩
    exact ⟨rfl, h⟩
theorem ahead_take {Q : List Msg} (hu : Uniq Q) {m : Msg} {k : Nat} (hk : Q[k]? = some m) : aheadOf Q m.fr m.call = (Q.take k).filter fun x => isB x m.ch := by
  have hm : m ∈ Q := List.mem_of_getElem? hk
  obtain ⟨hk', he⟩ := List.getElem?_eq_some_iff.1 hk
  have hQ : Q = Q.take k ++ m :: Q.drop (k + 1) := by
    conv => lhs; rw [← List.take_append_drop k Q]
    rw [List.drop_eq_getElem_cons hk', he]
  have hnd : (Q.take k ++ m :: Q.drop (k + 1)).Nodup := by rw [← hQ]; exact Uniq.nodup hu
  have hn : m ∉ Q.take k := fun h => by rw [List.nodup_append] at hnd; exact hnd.2.2 m h m (by simp) rfl
  unfold aheadOf
  rw [find_in hu hm]
  simp only
  have hrow : row Q m.ch = row (Q.take k) m.ch ++ m :: row (Q.drop (k + 1)) m.ch := by
    conv => lhs; rw [hQ]
    rw [row_append]
    congr 1
    simp [row]
  rw [hrow, List.takeWhile_append_of_pos (fun a ha => by simp; rintro rfl; exact hn (mem_row.1 ha).1)]
  simp only [ne_eq, not_true, decide_false, List.takeWhile_cons, if_false, List.append_nil, Bool.false_eq_true]
  unfold row
  rw [List.filter_filter]
  rfl
theorem refAheadL_calls {F : Nat → Prop} {w : World} {p : Option Addr} {Q : List Msg} (h : TRep w p Q F) (hu : Uniq Q) (hQ : Q.length ≤ 1000000) (m : Msg) :
    Calls Try.prog 102 #[.pointer p, mvA m] w fun e w' => ∃ A n c, e = .returned (.slice A n c) ∧ RowM w' A n c (aheadOf Q m.fr m.call) ∧ (∀ k, At A k → w.heap.size ≤ k) ∧ Step NoB w w' := by
  have h0 := h
  obtain ⟨b, A, n, c, rfl, hB, hR, hn, hF⟩ := h
  have hl := RowM.len hR
  refine (V.dispatcherref13_Queue_Ahead_calls (s2 := m.key) (n3 := m.fr) (n4 := m.to) (n5 := m.call) (n6 := m.tag) (n7 := m.val) (n8 := m.size) (t9 := m.taken)
    (R := fun v w' => ∃ A n c, v = .slice A n c ∧ RowM w' A n c (aheadOf Q m.fr m.call) ∧ (∀ k, At A k → w.heap.size ≤ k) ∧ Step NoB w w') ?_).mono ?_
  · intro b1 w1 h1
    have s1 := (Step.refl NoB w).new h1
    refine ⟨_, h1.blk.cell rfl, _, h1.blk.cell rfl, (place_calls (h0.then s1) m.fr m.call).mono ?_⟩
    rintro e w2 ⟨rfl, rfl⟩
    refine ⟨_, rfl, ?_⟩
    rcases place_find Q m.fr m.call with ⟨e1, e2⟩ | ⟨m', k, e1, e2, hk⟩
    · rw [e2]
      refine ⟨fun A N C i w' => A = none ∧ N = 0 ∧ C = 0 ∧ i = 0 ∧ w' = w2, fun _ _ _ _ _ => 0, ⟨rfl, rfl, rfl, rfl, rfl⟩, ?_⟩
      rintro A' N' C' i jk w3 ⟨rfl, rfl, rfl, rfl, rfl⟩
      refine ifb_not (by decide) ⟨_, _, _, rfl, ?_, fun k hk => absurd hk at_none, s1⟩
      rw [show aheadOf Q m.fr m.call = [] by simp [aheadOf, e1]]
      exact Row.nil _ _ _
    · rw [e2]
      obtain ⟨hm', g1, g2⟩ := find_some e1
      have hkl := (List.getElem?_eq_some_iff.1 hk).1
      have hah := ahead_take hu hk
      rw [g1, g2] at hah
      refine ⟨fun A' N' C' i w' => 0 ≤ i ∧ i ≤ k ∧ Step NoB w2 w' ∧ RowM w' A' N' C' ((Q.take i.toNat).filter fun x => isB x m'.ch) ∧ (∀ b, At A' b → w2.heap.size ≤ b), fun _ _ _ i _ => (k - i).toNat, ⟨by omega, by omega, Step.refl _ _, Row.nil _ _ _, fun b hb => absurd hb at_none⟩, ?_⟩
      rintro A' N' C' i jk w3 ⟨i0, i1, s3, hO, hat⟩
      refine ifb_intro (fun hi => ?_) (fun hi => ?_)
      · simp only [decide_eq_true_eq] at hi
        obtain ⟨x, hx⟩ : ∃ x, Q[i.toNat]? = some x := ⟨_, List.getElem?_eq_getElem (by omega)⟩
        have s13d := (s1.then s3).drew
        have hBd := hB.then s13d
        obtain ⟨b2, rfl, hc⟩ := RowM.elem (Row.then hR s13d) hx
        obtain ⟨b3, hb3, hc'⟩ := RowM.elem (Row.then hR s13d) hk
        cases hb3
        have c0 := hc' 0 _ rfl
        have c1 := hc' 1 _ rfl
        have c2 := hc' 2 _ rfl
        rw [add_none] at c0 c1 c2
        have e3 : (i + 1).toNat = i.toNat + 1 := by omega
        refine nilC_in ⟨_, n, c, hBd.cell rfl, i0, by omega, b2, 0, rfl, _, _, _, _, _, _, _, _, hc, ?_⟩
        refine nilC_in ⟨_, n, c, hBd.cell rfl, by omega, by omega, b2, 0, rfl, _, c0, ?_⟩
        refine nilC_in ⟨_, n, c, hBd.cell rfl, by omega, by omega, b2, 0, rfl, _, c1, ?_⟩
        refine nilC_in ⟨_, n, c, hBd.cell rfl, by omega, by omega, b2, 0, rfl, _, c2, (is_calls x m'.ch _).mono ?_⟩
        rintro e w4 ⟨rfl, s4⟩
        replace s4 := s4.undrew
        refine ⟨_, rfl, ifb_intro (fun g => ?_) (fun g => ?_)⟩
        · obtain ⟨b5, hb5, hc5⟩ := RowM.elem (Row.then hR ((s1.then s3).then s4)) hx
          cases hb5
          refine nilC_in ⟨_, n, c, (hB.then ((s1.then s3).then s4)).cell rfl, i0, by omega, b2, 0, rfl, _, _, _, _, _, _, _, _, hc5, fun b6 w6 h6 => ?_⟩
          have s6 := (s3.then s4).new h6
          have hO6 := Row.then (Row.then hO s4) h6.step
          have hlO := RowM.len hO6
          have hle : ((Q.take i.toNat).filter fun x => isB x m'.ch).length ≤ Q.length := Nat.le_trans (List.length_filter_le ..) (by rw [List.length_take]; omega)
          refine ⟨_, _, hO6, reads_blk h6.blk rfl (mv_one x), ?_, by omega, fun A7 C7 w7 h7 hap => ?_⟩
          · have : maxLen = 9223372036854775807 := rfl
            omega
          · refine ⟨_, w64 (by omega), ⟨by omega, by omega, hap.new s6 fun b hb => .inl (hat b hb), ?_, hap.at' s6 hat⟩, by dsimp only; omega⟩
            show Row _ _ _ _ _ _ _
            rw [e3, take_succ_filter hx, g, if_pos rfl, List.flatMap_append, show ([x] : List Msg).flatMap mv = mv x by simp]
            exact h7
        · refine ⟨_, w64 (by omega), ⟨by omega, by omega, s3.then s4, ?_, hat⟩, by dsimp only; omega⟩
          rw [e3, take_succ_filter hx, g, if_neg (by simp), List.append_nil]
          exact Row.then hO s4
      · simp only [decide_eq_false_iff_not] at hi
        have : i.toNat = k := by omega
        rw [this] at hO
        exact ⟨A', N', C', rfl, by rw [hah]; exact hO, fun k hk => Nat.le_trans s1.size (hat k hk), s1.then s3⟩
  · rintro e w' ⟨v, rfl, A', n', c', rfl, h⟩
    exact ⟨A', n', c', rfl, h⟩

def rEq (a b : Recv) : Bool := ((a.key == b.key) && ((a.rank == b.rank) && ((a.call == b.call) && ((a.peer == b.peer) && ((a.tag == b.tag) && ((a.req == b.req) && ((a.done == b.done) && ((a.fr == b.fr) && ((a.seq == b.seq) && (true))))))))))
theorem rEq_iff {a b : Recv} : rEq a b = true ↔ a = b := by
  obtain ⟨a1, a2, a3, a4, a5, a6, a7, a8, a9⟩ := a
  obtain ⟨b1, b2, b3, b4, b5, b6, b7, b8, b9⟩ := b
  simp only [rEq, ba_beq, Bool.and_eq_true, decide_eq_true_eq, beq_iff_eq, Recv.mk.injEq, and_true]
theorem sameR_calls {w : World} {A B : Option Addr} {n c m d : Nat} {xs ys : List Recv} (hA : RowR w A n c xs) (hB : RowR w B m d ys) :
    Calls Try.prog 24 #[.slice A n c, .slice B m d] w fun e w' => e = .returned (.bool (decide (xs = ys))) ∧ Step NoB w w' := by
  have hn := RowR.len hA
  have hm := RowR.len hB
  have hN := Row.le hA
  refine (V.dispatcherref14_Same_calls (R := fun v w' => v = .bool (decide (xs = ys)) ∧ Step NoB w w') ?_).mono ?_
  · refine ifb_intro (fun h => ?_) (fun h => ?_)
    · simp only [bne_iff_ne, ne_eq] at h
      refine ⟨by rw [decide_eq_false]; rintro rfl; omega, Step.refl _ _⟩
    · have hnm : n = m := by
        simp only [bne_eq_false_iff_eq] at h
        omega
      refine ⟨fun i w' => 0 ≤ i ∧ i ≤ n ∧ Step NoB w w' ∧ ∀ j : Nat, (j : Int) < i → xs[j]? = ys[j]?, fun i _ => (n - i).toNat, ⟨by omega, by omega, Step.refl _ _, fun j hj => by omega⟩, ?_⟩
      rintro i jk w1 ⟨h0, h1, s1, hb⟩
      refine ifb_intro (fun hi => ?_) (fun hi => ?_)
      · simp only [decide_eq_true_eq] at hi
        obtain ⟨x, hx⟩ : ∃ x, xs[i.toNat]? = some x := ⟨_, List.getElem?_eq_getElem (by omega)⟩
        obtain ⟨y, hy⟩ : ∃ y, ys[i.toNat]? = some y := ⟨_, List.getElem?_eq_getElem (by omega)⟩
        obtain ⟨b, rfl, hc⟩ := RowR.elem (Row.then hA s1) hx
        obtain ⟨b', rfl, hc'⟩ := RowR.elem (Row.then hB s1) hy
        refine ⟨h0, hi, b, 0, rfl, _, _, _, _, _, _, _, _, _, hc, h0, by omega, b', 0, rfl, _, _, _, _, _, _, _, _, _, hc', ifb_intro (fun hxy => ?_) (fun hxy => ?_)⟩
        · replace hxy : (!rEq x y) = true := hxy
          refine ⟨(by rw [decide_eq_false]; rintro rfl; rw [hx] at hy; rw [rEq_iff.2 (Option.some.inj hy)] at hxy; cases hxy), s1.drew⟩
        · replace hxy : (!rEq x y) = false := hxy
          have hxy' : x = y := rEq_iff.1 (by simpa using hxy)
          refine ⟨_, w64 (by omega), ⟨by omega, by omega, s1.drew, fun j hj => ?_⟩, by dsimp only; omega⟩
          rcases Nat.lt_or_ge j i.toNat with hlt | hge
          · exact hb j (by omega)
          · have : j = i.toNat := by omega
            rw [this, hx, hy, hxy']
      · simp only [decide_eq_false_iff_not] at hi
        refine ⟨?_, s1⟩
        have : xs = ys := List.ext_getElem? fun j => by
          rcases Nat.lt_or_ge j n with hlt | hge
          · exact hb j (by omega)
          · rw [List.getElem?_eq_none (by omega), List.getElem?_eq_none (by omega)]
        rw [this]; simp
  · rintro e w' ⟨v, rfl, rfl, h⟩
    exact ⟨rfl, h⟩

abbrev tRP : TypeId := 90
/-- The reference's receives: a block that holds a slice of all. -/
def SRep (w : World) (p : Option Addr) (P : List Recv) (F : Nat → Prop) : Prop := ∃ b A n c, p = some ⟨b, 0, none⟩ ∧ Blk w b [.slice A n c] tRP ∧ RowR w A n c P ∧ ¬ At A b ∧ ∀ k, F k ↔ (k = b ∨ At A k)
theorem SRep.keep {F G : Nat → Prop} {w w' : World} {p : Option Addr} {P : List Recv} (h : SRep w p P F) (s : Step G w w') (hF : ∀ k, F k → ¬ G k) : SRep w' p P F := by
  obtain ⟨b, A, n, c, rfl, hB, hR, hn, hk⟩ := h
  exact ⟨b, A, n, c, rfl, hB.keep s (hF b ((hk b).2 (.inl rfl))), Row.keep hR s (fun k hA => hF k ((hk k).2 (.inr hA))), hn, hk⟩
theorem SRep.then {F : Nat → Prop} {w w' : World} {p : Option Addr} {P : List Recv} (h : SRep w p P F) (s : Step NoB w w') : SRep w' p P F := h.keep s (fun _ _ f => f)
theorem SRep.lt {F : Nat → Prop} {w : World} {p : Option Addr} {P : List Recv} (h : SRep w p P F) {k : Nat} (hk : F k) : k < w.heap.size := by
  obtain ⟨b, A, n, c, rfl, hB, hR, hn, hF⟩ := h
  rcases (hF k).1 hk with rfl | h
  · exact hB.lt
  · exact Row.lt hR h
theorem SRep.at_calls {F : Nat → Prop} {w : World} {p : Option Addr} {P : List Recv} (h : SRep w p P F) (rank call : Int) :
    Calls Try.prog 23 #[.pointer p, .int .i64 rank, .int .i64 call] w fun e w' => e = .returned (.tuple #[rvA ((at_ P rank call).getD zeroR), .bool (at_ P rank call).isSome]) ∧ Step NoB w w' := by
  obtain ⟨b, A, n, c, rfl, hB, hR, hn, hF⟩ := h
  have hl := RowR.len hR
  have hN := Row.le hR
  refine (V.dispatcherref14_Posted_At_calls (R := fun v w' => v = .tuple #[rvA ((at_ P rank call).getD zeroR), .bool (at_ P rank call).isSome] ∧ Step NoB w w') ?_).mono ?_
  · intro b1 w1 h1
    have s1 := (Step.refl NoB w).new h1
    have ge1 := h1.ge (Step.refl NoB w)
    refine ⟨fun i w' => 0 ≤ i ∧ i ≤ n ∧ w' = w1 ∧ ∀ (j : Nat) (m : Recv), (j : Int) < i → P[j]? = some m → (decide (m.rank = rank) && (m.call == call)) = false, fun i _ => (n - i).toNat, ⟨by omega, by omega, rfl, fun j m hj => by omega⟩, ?_⟩
    rintro i jk w2 ⟨i0, i1, rfl, hb⟩
    have hB2 := hB.then s1
    refine nilC_in ⟨A, n, c, hB2.cell rfl, ifb_intro (fun hi => ?_) (fun hi => ?_)⟩
    · simp only [decide_eq_true_eq] at hi
      obtain ⟨m, hm⟩ : ∃ m, P[i.toNat]? = some m := ⟨_, List.getElem?_eq_getElem (by omega)⟩
      obtain ⟨b2, rfl, hc⟩ := RowR.elem (Row.then hR s1) hm
      have c1 := hc 1 _ rfl
      have c2 := hc 2 _ rfl
      rw [add_none] at c1 c2
      have next : (decide (m.rank = rank) && (m.call == call)) = false → ∃ k : Int, IntKind.wrap .i64 (i + 1) = k ∧ (0 ≤ k ∧ k ≤ n ∧ w2 = w2 ∧ ∀ (j : Nat) (m : Recv), (j : Int) < k → P[j]? = some m → (decide (m.rank = rank) && (m.call == call)) = false) ∧ ((n : Int) - k).toNat < ((n : Int) - i).toNat := by
        intro hf
        refine ⟨_, w64 (by omega), ⟨by omega, by omega, rfl, fun j m' hj hm' => ?_⟩, by omega⟩
        rcases Nat.lt_or_ge j i.toNat with hlt | hge
        · exact hb j m' (by omega) hm'
        · have : j = i.toNat := by omega
          subst this
          rw [hm] at hm'; cases hm'; exact hf
      refine nilC_in ⟨_, n, c, hB2.cell rfl, i0, hi, b2, 0, rfl, _, c1, ifb_intro (fun g1 => ?_) (fun g1 => next ?_)⟩
      · refine nilC_in ⟨_, n, c, hB2.cell rfl, i0, hi, b2, 0, rfl, _, c2, ifb_intro (fun g2 => ?_) (fun g2 => next ?_)⟩
        · have hat : at_ P rank call = some m := by
            unfold at_
            exact findR_at hm (by simp only [beq_iff_eq] at g1 g2; simp [g1, g2]) fun j m' hj hm' => hb j m' (by omega) hm'
          refine nilC_in ⟨_, n, c, hB2.cell rfl, i0, hi, b2, 0, rfl, _, _, _, _, _, _, _, _, _, hc, _, _, h1.blk, by simp, fun w3 h3 => ?_⟩
          exact ⟨_, _, _, _, _, _, _, _, _, h3.blk.all, by rw [hat]; rfl, s1.upd h3 (.inl ge1)⟩
        · rw [g2]; simp
      · simp only [beq_eq_false_iff_ne, ne_eq] at g1
        simp [g1]
    · simp only [decide_eq_false_iff_not] at hi
      have hat : at_ P rank call = none := by
        unfold at_
        rw [List.find?_eq_none]
        intro m hm
        obtain ⟨j, hj, rfl⟩ := List.getElem_of_mem hm
        rw [hb j _ (by omega) (List.getElem?_eq_getElem hj)]; simp
      refine ⟨_, _, h1.blk, by simp, fun w3 h3 => ?_⟩
      exact ⟨_, _, _, _, _, _, _, _, _, h3.blk.all, by rw [hat]; rfl, s1.upd h3 (.inl ge1)⟩
  · rintro e w' ⟨v, rfl, rfl, h⟩
    exact ⟨rfl, h⟩
theorem SRep.waiting_calls {F : Nat → Prop} {w : World} {p : Option Addr} {P : List Recv} (h : SRep w p P F) (hl1 : P.length ≤ 1000000) (rank : Int) :
    Calls Try.prog 26 #[.pointer p, .int .i64 rank] w fun e w' => ∃ A' n' c', e = .returned (.slice A' n' c') ∧ RowR w' A' n' c' (waitL (rrow P rank)) ∧ (∀ k, At A' k → w.heap.size ≤ k) ∧ Step NoB w w' := by
  obtain ⟨b, A, n, c, rfl, hB, hR, hn, hF⟩ := h
  have hl := RowR.len hR
  have hff : ∀ l : List Recv, waitL (rrow l rank) = l.filter fun x => (!x.done) && decide (x.rank = rank) := fun l => by unfold waitL rrow; rw [List.filter_filter]
  refine (V.dispatcherref14_Posted_Waiting_calls (R := fun v w' => ∃ A' n' c', v = .slice A' n' c' ∧ RowR w' A' n' c' (waitL (rrow P rank)) ∧ (∀ k, At A' k → w.heap.size ≤ k) ∧ Step NoB w w') ?_).mono ?_
  · refine ⟨fun A' N' C' i w' => 0 ≤ i ∧ i ≤ n ∧ Step NoB w w' ∧ RowR w' A' N' C' (waitL (rrow (P.take i.toNat) rank)) ∧ (∀ b, At A' b → w.heap.size ≤ b), fun _ _ _ i _ => (n - i).toNat, ⟨by omega, by omega, Step.refl _ _, Row.nil _ _ _, fun b hb => absurd hb at_none⟩, ?_⟩
    rintro A' N' C' i jk w1 ⟨i0, i1, s1, hO, hat⟩
    have hB1 := hB.then s1
    refine nilC_in ⟨A, n, c, hB1.cell rfl, ifb_intro (fun hi => ?_) (fun hi => ?_)⟩
    · simp only [decide_eq_true_eq] at hi
      obtain ⟨m, hm⟩ : ∃ m, P[i.toNat]? = some m := ⟨_, List.getElem?_eq_getElem (by omega)⟩
      obtain ⟨b2, rfl, hc⟩ := RowR.elem (Row.then hR s1) hm
      have c1 := hc 1 _ rfl
      have c6 := hc 6 _ rfl
      rw [add_none] at c1 c6
      have e3 : (i + 1).toNat = i.toNat + 1 := by omega
      have skip : ((!m.done) && decide (m.rank = rank)) = false → ∃ k : Int, IntKind.wrap .i64 (i + 1) = k ∧ (0 ≤ k ∧ k ≤ n ∧ Step NoB w w1 ∧ RowR w1 A' N' C' (waitL (rrow (P.take k.toNat) rank)) ∧ (∀ b, At A' b → w.heap.size ≤ b)) ∧ ((n : Int) - k).toNat < ((n : Int) - i).toNat := by
        intro hf
        refine ⟨_, w64 (by omega), ⟨by omega, by omega, s1, ?_, hat⟩, by omega⟩
        rw [hff] at hO ⊢
        rw [e3, take_succ_filterR hm, hf, if_neg (by simp), List.append_nil]
        exact hO
      refine nilC_in ⟨_, n, c, hB1.cell rfl, i0, hi, b2, 0, rfl, _, c1, ifb_intro (fun g1 => ?_) (fun g1 => skip ?_)⟩
      · refine nilC_in ⟨_, n, c, hB1.cell rfl, i0, hi, b2, 0, rfl, _, c6, ifb_intro (fun g2 => ?_) (fun g2 => skip (by rw [g2]; rfl))⟩
        refine nilC_in ⟨_, n, c, hB1.cell rfl, i0, hi, b2, 0, rfl, _, _, _, _, _, _, _, _, _, hc, fun b3 w3 h3 => ?_⟩
        have s3 := s1.new h3
        have hO3 := Row.then hO h3.step
        have hlO := RowR.len hO3
        have hle : (waitL (rrow (P.take i.toNat) rank)).length ≤ P.length := by rw [hff]; exact Nat.le_trans (List.length_filter_le ..) (by rw [List.length_take]; omega)
        refine ⟨_, _, hO3, reads_blk h3.blk rfl (rv_one m), ?_, by omega, fun A4 C4 w4 h4 hap => ?_⟩
        · have : maxLen = 9223372036854775807 := rfl
          omega
        · refine ⟨_, w64 (by omega), ⟨by omega, by omega, hap.new s3 fun b hb => .inl (hat b hb), ?_, hap.at' s3 hat⟩, by dsimp only; omega⟩
          show Row _ _ _ _ _ _ _
          rw [hff] at h4 ⊢
          simp only [beq_iff_eq] at g1
          rw [e3, take_succ_filterR hm, if_pos (by rw [g2]; simp [g1]), List.flatMap_append, show ([m] : List Recv).flatMap rv = rv m by simp]
          exact h4
      · simp only [beq_eq_false_iff_ne, ne_eq] at g1
        simp [g1]
    · simp only [decide_eq_false_iff_not] at hi
      rw [List.take_of_length_le (by omega)] at hO
      exact ⟨A', N', C', rfl, hO, hat, s1⟩
  · rintro e w' ⟨v, rfl, A', n', c', rfl, h⟩
    exact ⟨A', n', c', rfl, h⟩
theorem SRep.copy_calls {F : Nat → Prop} {w : World} {p : Option Addr} {P : List Recv} (h : SRep w p P F) (hQ : P.length ≤ 1000000) :
    Calls Try.prog 49 #[.pointer p] w fun e w' => ∃ p' F', e = .returned (.pointer p') ∧ SRep w' p' P F' ∧ (∀ k, F' k → w.heap.size ≤ k) ∧ Step NoB w w' := by
  obtain ⟨b, A, n, c, rfl, hB, hR, hn, hF⟩ := h
  have hl := RowR.len hR
  refine (V.dispatcherref14_Posted_Copy_calls (R := fun v w' => ∃ p' F', v = .pointer p' ∧ SRep w' p' P F' ∧ (∀ k, F' k → w.heap.size ≤ k) ∧ Step NoB w w') ?_).mono ?_
  · intro b2 w3 h3
    have hR3 := Row.then hR h3.step
    have s3 := (Step.refl NoB w).new h3
    have hz : maxLen = 9223372036854775807 := rfl
    refine nilC_in ⟨A, n, c, (hB.new h3).cell rfl, [], P.flatMap rv, Row.whole h3.blk (Nat.zero_le _) rfl, reads_row hR3 (rvs_one P), by omega, by omega, fun A9 C9 w8 h8 hap b10 w11 h11 => ?_⟩
    have hg := h3.at_
    have hat0 : ∀ k, At (some ⟨b2, 0, none⟩) k → w.heap.size ≤ k := fun k hk => by rw [at_some] at hk; omega
    have s8 : Step NoB w w8 := hap.new s3 fun k hk => .inl (hat0 k hk)
    have hat9 := hap.at' s3 hat0
    have hR8 : Row w8 A9 (0 + n) C9 tRecv 9 (P.flatMap rv) := h8
    rw [Nat.zero_add] at hR8
    refine ⟨_, fun k => k = b10 ∨ At A9 k, rfl, ⟨b10, A9, n, C9, rfl, ?_, Row.then hR8 h11.step, ?_, fun _ => Iff.rfl⟩, ?_, s8.new h11⟩
    · have := h11.blk; rw [Nat.zero_add] at this; exact this
    · intro hk
      have := Row.lt hR8 hk
      have := h11.at_
      omega
    · rintro k (rfl | hk)
      · exact h11.ge s8
      · exact hat9 k hk
  · rintro e w' ⟨v, rfl, p', F', rfl, h⟩
    exact ⟨p', F', rfl, h⟩

end Go.Proofs.Ytdaojmkbjkaakaa
