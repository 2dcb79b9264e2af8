/- Contracts: small functions of queues. Conditions: none. -/
import Derived.Test.YtdaojmkbjkaakaaQc
import Derived.Test.YtdaojmkbjkaakaaVq
set_option linter.unusedVariables false
set_option linter.unusedSimpArgs false
namespace Go.Proofs.Ytdaojmkbjkaakaa
open Go.Vc Go.Q13 Go.RowKit

theorem none_calls {w : World} {b0 b1 b2 : Nat} {es1 es2 : List MapEntry} {Q : List Msg} (h : QR w b0 b1 b2 es1 es2 Q) :
    Calls Try.prog 32 #[.pointer (some ⟨b0, 0, none⟩)] w fun e w' => e = .returned (.bool false) ∧ w' = w := by
  refine (V.queue_Queue_none_calls (R := fun v w' => v = .bool false ∧ w' = w) ?_).mono ?_
  · exact ifb_f (nilC_in ⟨_, h.blk.cell rfl, rfl, rfl⟩)
  · rintro e w' ⟨v, rfl, rfl, rfl⟩
    exact ⟨rfl, rfl⟩
theorem in_calls (n a b : Int) (w : World) :
    Calls Try.prog 33 #[.int .i64 n, .int .i64 a, .int .i64 b] w fun e w' => e = .returned (.bool (decide (a ≤ n) && decide (n ≤ b))) ∧ w' = w := by
  refine (V.queue_in_calls (R := fun v w' => v = .bool (decide (a ≤ n) && decide (n ≤ b)) ∧ w' = w) ?_).mono ?_
  · refine ifb_intro (fun h => ?_) (fun h => ?_)
    · simp only [ge_iff_le, decide_eq_true_eq] at h
      simp [h]
    · simp only [ge_iff_le, decide_eq_false_iff_not] at h
      simp [h]
  · rintro e w' ⟨v, rfl, rfl, rfl⟩
    exact ⟨rfl, rfl⟩
theorem new_calls (w : World) :
    Calls Try.prog 8 #[] w fun e w' => ∃ a F, e = .returned (.pointer a) ∧ QRep w' a [] F ∧ (∀ k, F k → w.heap.size ≤ k) ∧ Step NoB w w' := by
  refine (V.queue_New_calls (R := fun v w' => ∃ a F, v = .pointer a ∧ QRep w' a [] F ∧ (∀ k, F k → w.heap.size ≤ k) ∧ Step NoB w w') ?_).mono ?_
  · intro b1 w1 h1 b2 w2 h2 b0 w3 h3
    have s1 := (Step.refl NoB w).newM h1
    have s2 := s1.newM h2
    have g1 := h1.at_
    have g2 := h2.at_
    have g0 := h3.at_
    have z1 := h1.size
    have z2 := h2.size
    refine ⟨_, QF b0 b1 b2 [], rfl, ⟨b0, b1, b2, [], [], rfl, ⟨h3.blk, ?_, ?_, by omega, by simp, by simp, by simp, by simp, by simp, by simp [Uniq], by simp⟩, fun _ => Iff.rfl⟩, ?_, s2.new h3⟩
    · exact ((h1.map _ _).keep h2.step id).keep h3.step id
    · exact (h2.map _ _).keep h3.step id
    · rintro k (rfl | rfl | rfl | ⟨e, he, _⟩)
      · omega
      · omega
      · omega
      · cases he
  · rintro e w' ⟨v, rfl, a, F, rfl, h⟩
    exact ⟨a, F, rfl, h⟩

/-- the place of the first that meets p, or -1 -/
def idx (p : Msg → Bool) (l : List Msg) : Int := match l.findIdx? p with | some i => (i : Int) | none => -1
theorem idx_hit {p : Msg → Bool} {l : List Msg} {i : Nat} {m : Msg} (hi : l[i]? = some m) (hp : p m = true) (hb : ∀ (j : Nat) (m : Msg), j < i → l[j]? = some m → p m = false) : idx p l = i := by
  have : l.findIdx? p = some i := by
    rw [List.findIdx?_eq_some_iff_getElem]
    obtain ⟨h, rfl⟩ := List.getElem?_eq_some_iff.1 hi
    exact ⟨h, hp, fun j hj => by simp [hb j _ hj (List.getElem?_eq_getElem (Nat.lt_trans hj h))]⟩
  simp [idx, this]
theorem idx_miss {p : Msg → Bool} {l : List Msg} (hb : ∀ (j : Nat) (m : Msg), l[j]? = some m → p m = false) : idx p l = -1 := by
  have : l.findIdx? p = none := by
    rw [List.findIdx?_eq_none_iff]
    intro m hm
    obtain ⟨j, hj, rfl⟩ := List.getElem_of_mem hm
    exact hb j _ (List.getElem?_eq_getElem hj)
  simp [idx, this]

theorem index_calls {w : World} {A : Option Addr} {n c : Nat} {l : List Msg} {g : Nat} {cap : List Value} (p : Msg → Bool) (hr : RowM w A n c l) (hg : Enters Try.prog g)
    (hp : ∀ m ∈ l, ∀ w', Step NoB w w' → Calls Try.prog g (mvA m :: cap).toArray w' fun e w'' => e = .returned (.bool (p m)) ∧ Step NoB w' w'') :
    Calls Try.prog 56 [.slice A n c, .func (.func g) #[] cap.toArray].toArray w fun e w' => e = .returned (.int .i64 (idx p l)) ∧ Step NoB w w' := by
  refine (V.slices_IndexFunc_queue_Message_queue_Message_calls (R := fun v w' => v = .int .i64 (idx p l) ∧ Step NoB w w') ?_).mono ?_
  · have hn := hr.len
    have hN := Row.le hr
    refine ⟨fun i w' => 0 ≤ i ∧ i ≤ n ∧ Step NoB w w' ∧ ∀ (j : Nat) (m : Msg), (j : Int) < i → l[j]? = some m → p m = false, fun i _ => (n - i).toNat, ⟨by omega, by omega, Step.refl _ _, fun j m hj => by omega⟩, ?_⟩
    rintro i jk w1 ⟨h0, h1, s1, hb⟩
    refine ifb_intro (fun hi => ?_) (fun hi => ?_)
    · simp only [decide_eq_true_eq] at hi
      have hi' : i.toNat < l.length := by omega
      obtain ⟨m, hm⟩ : ∃ m, l[i.toNat]? = some m := ⟨_, List.getElem?_eq_getElem hi'⟩
      obtain ⟨b, rfl, hc⟩ := (RowM.elem (Row.then hr s1) hm)
      refine ⟨h0, hi, b, 0, rfl, _, _, _, _, _, _, _, _, hc, hg, ?_⟩
      refine (hp m (List.mem_of_getElem? hm) w1 s1).mono ?_
      rintro e w2 ⟨rfl, s2⟩
      refine ⟨_, rfl, ifb_intro (fun hpm => ?_) (fun hpm => ?_)⟩
      · exact ⟨by rw [idx_hit hm hpm (fun j m' hj hm' => hb j m' (by omega) hm')]; congr 1; omega, s1.both s2⟩
      · refine ⟨_, w64 (by omega), ⟨by omega, by omega, s1.both s2, fun j m' hj hm' => ?_⟩, by dsimp only; omega⟩
        rcases Nat.lt_or_ge j i.toNat with hlt | hge
        · exact hb j m' (by omega) hm'
        · have : j = i.toNat := by omega
          subst this
          rw [hm] at hm'; cases hm'; exact hpm
    · simp only [decide_eq_false_iff_not] at hi
      exact ⟨by rw [idx_miss fun j m hm => hb j m (by have := (List.getElem?_eq_some_iff.1 hm).1; omega) hm], s1⟩
  · rintro e w' ⟨v, rfl, rfl, h⟩
    exact ⟨rfl, h⟩
theorem contains_calls {w : World} {A : Option Addr} {n c : Nat} {l : List Msg} {g : Nat} {cap : List Value} (p : Msg → Bool) (hr : RowM w A n c l) (hg : Enters Try.prog g)
    (hp : ∀ m ∈ l, ∀ w', Step NoB w w' → Calls Try.prog g (mvA m :: cap).toArray w' fun e w'' => e = .returned (.bool (p m)) ∧ Step NoB w' w'') :
    Calls Try.prog 37 [.slice A n c, .func (.func g) #[] cap.toArray].toArray w fun e w' => e = .returned (.bool (l.any p)) ∧ Step NoB w w' := by
  refine (V.slices_ContainsFunc_queue_Message_queue_Message_calls (R := fun v w' => v = .bool (l.any p) ∧ Step NoB w w') ?_).mono ?_
  · refine (index_calls p hr hg hp).mono ?_
    rintro e w' ⟨rfl, s⟩
    refine ⟨_, rfl, ?_, s⟩
    congr 1
    rcases ha : l.any p with _ | _
    · rw [idx_miss fun j m hm => by
        have := List.any_eq_false.1 ha m (List.mem_of_getElem? hm)
        simpa using this]
      rfl
    · obtain ⟨m, hm, hpm⟩ := List.any_eq_true.1 ha
      have : 0 ≤ idx p l := by
        unfold idx
        rcases hf : l.findIdx? p with _ | i
        · rw [List.findIdx?_eq_none_iff] at hf
          rw [hf m hm] at hpm; cases hpm
        · simp
      simp [this]
  · rintro e w' ⟨v, rfl, rfl, h⟩
    exact ⟨rfl, h⟩

theorem find1_calls {w : World} (m : Msg) {f : Nat} {n : Int} {e : TypeId} (hf : Blk w f [.int .i64 n] e) :
    Calls Try.prog 57 #[mvA m, .pointer (some ⟨f, 0, none⟩)] w fun e w' => e = .returned (.bool (m.call == n)) ∧ Step NoB w w' := by
  refine (V.queue_Queue_find_1_calls (R := fun v w' => v = .bool (m.call == n) ∧ Step NoB w w') ?_).mono ?_
  · intro b w1 h1
    exact ⟨_, h1.blk.cell rfl, _, (hf.new h1).cell rfl, rfl, (Step.refl _ _).new h1⟩
  · rintro e w' ⟨v, rfl, rfl, h⟩
    exact ⟨rfl, h⟩
theorem senders1_calls {w : World} (m : Msg) :
    Calls Try.prog 38 #[mvA m] w fun e w' => e = .returned (.bool (!m.taken)) ∧ Step NoB w w' := by
  refine (V.queue_Queue_Senders_1_calls (R := fun v w' => v = .bool (!m.taken) ∧ Step NoB w w') ?_).mono ?_
  · intro b w1 h1
    exact ⟨_, h1.blk.cell rfl, rfl, (Step.refl _ _).new h1⟩
  · rintro e w' ⟨v, rfl, rfl, h⟩
    exact ⟨rfl, h⟩

theorem idx_row {Q : List Msg} (hu : Uniq Q) {m : Msg} (hm : m ∈ Q) : ∃ i : Nat, idx (fun x => x.call == m.call) (row Q m.ch) = i ∧ (row Q m.ch)[i]? = some m := by
  have hr : m ∈ row Q m.ch := mem_row.2 ⟨hm, rfl⟩
  rcases hf : (row Q m.ch).findIdx? (fun x => x.call == m.call) with _ | i
  · rw [List.findIdx?_eq_none_iff] at hf
    have := hf m hr
    simp at this
  · refine ⟨i, by simp [idx, hf], ?_⟩
    rw [List.findIdx?_eq_some_iff_getElem] at hf
    obtain ⟨h, hp, _⟩ := hf
    have h1 := mem_row.1 (List.getElem_mem h)
    rw [List.getElem?_eq_getElem h]
    congr 1
    refine uniq_eq hu h1.1 hm ?_ (by simpa using hp)
    have h2 := h1.2
    simp only [Msg.ch, Ch.mk.injEq] at h2
    exact h2.2.1
theorem find_calls {w : World} {b0 b1 b2 : Nat} {es1 es2 : List MapEntry} {Q : List Msg} (h : QR w b0 b1 b2 es1 es2 Q) {fr call : Int} (hf : I64 fr) (hc : I64 call) :
    Calls Try.prog 34 #[.pointer (some ⟨b0, 0, none⟩), .int .i64 fr, .int .i64 call] w fun e w' => Step NoB w w' ∧
      ((find Q fr call = none ∧ e = .returned (.tuple #[.slice none 0 0, .int .i64 (-1)])) ∨
       ∃ m A n c, ∃ i : Nat, find Q fr call = some m ∧ e = .returned (.tuple #[.slice A n c, .int .i64 i]) ∧ RowM w' A n c (row Q m.ch) ∧ (row Q m.ch)[i]? = some m ∧ ∃ x ∈ es1, x.key = kv m.ch ∧ x.val = .slice A n c) := by
  refine (V.queue_Queue_find_calls (R := fun v w' => Step NoB w w' ∧
      ((find Q fr call = none ∧ v = .tuple #[.slice none 0 0, .int .i64 (-1)]) ∨
       ∃ m A n c, ∃ i : Nat, find Q fr call = some m ∧ v = .tuple #[.slice A n c, .int .i64 i] ∧ RowM w' A n c (row Q m.ch) ∧ (row Q m.ch)[i]? = some m ∧ ∃ x ∈ es1, x.key = kv m.ch ∧ x.val = .slice A n c)) ?_).mono ?_
  · intro b w1 h1
    have s1 := (Step.refl NoB w).new h1
    refine (none_calls (h.then s1)).mono ?_
    rintro e w2 ⟨rfl, rfl⟩
    refine ⟨_, rfl, ifb_f (nilC_in ⟨_, (h.then s1).blk.cell (j := 1) rfl, _, h1.blk.cell rfl, keyed_sent, key_sent _ _ hf hc, es2, (h.then s1).m2, ?_⟩)⟩
    obtain ⟨c, t, hl, ht⟩ := h.atR fr call
    refine ⟨c.key, c.fr, c.to, t, hl, ?_⟩
    intro b' w2 h2
    replace h2 := h2.undrew
    have s2 := (Step.refl NoB _).new h2
    refine ⟨fun r hr => ?_, (h1.blk.new h2).cell rfl, ((h.then s1).blk.new h2).cell (j := 1) rfl, ?_⟩
    · cases hr; exact h2.step.block' (h.then s1).m2.lt
    · refine ⟨_, _, h2.blk, by simp, fun w3 hu => ?_⟩
      have h3 := h2.upd hu
      have s3 := s1.new h3
      rcases ht with ⟨rfl, m, hfm, rfl, hm, rfl, rfl⟩ | ⟨rfl, hfn, rfl⟩
      · refine ifb_f (nilC_in ⟨_, (h.then s3).blk.cell (j := 0) rfl, _, _, _, h3.blk.all, keyed_ch, key_ch m.ch (h.fit m hm).1 hf (h.fit m hm).2.2.1, es1, (h.then s3).m1, ?_⟩)
        obtain ⟨A, n, cap, b', hL, hR, _, he⟩ := (h.then s3).lookR m.ch
        refine ⟨A, n, cap, b', hL, ?_⟩
        refine (index_calls (fun x => x.call == m.call) (Row.then hR (Step.refl _ _).drew) ?_ ?_).mono ?_
        · exact entersB_out (by kernel_rfl)
        · exact fun x _ w' s => find1_calls x ((h1.blk.then h3.step).then s.undrew)
        · rintro e w4 ⟨rfl, s4⟩
          replace s4 := s4.undrew
          obtain ⟨i, hi, hg⟩ := idx_row h.uniq hm
          refine ⟨_, rfl, s3.then s4, .inr ⟨m, A, n, cap, i, hfm, by rw [hi], Row.then hR s4, hg, he ?_⟩⟩
          intro h0
          rw [h0] at hg; cases hg
      · exact ifb_t ⟨s3, .inl ⟨hfn, rfl⟩⟩
  · rintro e w' ⟨v, rfl, s, h | ⟨m, A, n, c, i, h1, rfl, h2⟩⟩
    · exact ⟨s, .inl ⟨h.1, by rw [h.2]⟩⟩
    · exact ⟨s, .inr ⟨m, A, n, c, i, h1, rfl, h2⟩⟩

end Go.Proofs.Ytdaojmkbjkaakaa
