/- Contracts: Find, First, Take, Ahead of queues. Conditions: none. -/
import Derived.Test.YtdaojmkbjkaakaaQd
set_option linter.unusedVariables false
set_option linter.unusedSimpArgs false
namespace Go.Proofs.Ytdaojmkbjkaakaa
open Go.Vc Go.Q13 Go.RowKit

theorem QRep.find_calls {F : Nat → Prop} {w : World} {a : Option Addr} {Q : List Msg} (h : QRep w a Q F) {fr call : Int} (hf : I64 fr) (hc : I64 call) :
    Calls Try.prog 15 #[.pointer a, .int .i64 fr, .int .i64 call] w fun e w' => e = .returned (.tuple #[mvA ((find Q fr call).getD zeroM), .bool (find Q fr call).isSome]) ∧ Step NoB w w' := by
  obtain ⟨b0, b1, b2, es1, es2, rfl, h, _⟩ := h
  refine (V.queue_Queue_Find_calls (R := fun v w' => v = .tuple #[mvA ((find Q fr call).getD zeroM), .bool (find Q fr call).isSome] ∧ Step NoB w w') ?_).mono ?_
  · intro b w1 h1
    have s1 := (Step.refl NoB w).new h1
    refine (Go.Proofs.Ytdaojmkbjkaakaa.find_calls (h.then s1) hf hc).mono ?_
    rintro e w2 ⟨s2, ⟨h2, rfl⟩ | ⟨m, A, n, c, i, h2, rfl, hR, hi, _⟩⟩
    · refine ⟨_, _, _, _, rfl, ifb_t ⟨_, _, h1.blk.then s2, by simp, fun w3 hu => ?_⟩⟩
      refine ⟨_, _, _, _, _, _, _, _, hu.blk.all, ?_, ?_⟩
      · rw [h2]; rfl
      · exact (s1.then s2).upd hu (.inl (h1.ge (Step.refl NoB w)))
    · obtain ⟨b', rfl, hcl⟩ := hR.elem hi
      have hl := hR.len
      have hil := (List.getElem?_eq_some_iff.1 hi).1
      refine ⟨_, _, _, _, rfl, ifb_not (by simp) ⟨by omega, by omega, b', 0, rfl, _, _, _, _, _, _, _, _, hcl, ?_⟩⟩
      refine ⟨_, _, h1.blk.then s2, by simp, fun w3 hu => ?_⟩
      refine ⟨_, _, _, _, _, _, _, _, hu.blk.all, ?_, ?_⟩
      · rw [h2]; rfl
      · exact (s1.then s2).upd hu (.inl (h1.ge (Step.refl NoB w)))
  · rintro e w' ⟨v, rfl, rfl, h⟩
    exact ⟨rfl, h⟩

theorem find_at {p : Msg → Bool} {l : List Msg} {i : Nat} {m : Msg} (hi : l[i]? = some m) (hp : p m = true) (hb : ∀ (j : Nat) (m : Msg), j < i → l[j]? = some m → p m = false) : l.find? p = some m := by
  induction l generalizing i with
  | nil => cases hi
  | cons x l ih =>
    cases i with
    | zero =>
      simp only [List.getElem?_cons_zero, Option.some.injEq] at hi
      subst hi
      rw [List.find?_cons, hp]
    | succ i =>
      rw [List.find?_cons, hb 0 x (by omega) rfl]
      exact ih (by simpa using hi) (fun j m hj hm => hb (j + 1) m (by omega) (by simpa using hm))
theorem find_not {p : Msg → Bool} {l : List Msg} (hb : ∀ (j : Nat) (m : Msg), l[j]? = some m → p m = false) : l.find? p = none := by
  rw [List.find?_eq_none]
  intro m hm
  obtain ⟨j, hj, rfl⟩ := List.getElem_of_mem hm
  simp [hb j _ (List.getElem?_eq_getElem hj)]

theorem QRep.first_calls {F : Nat → Prop} {w : World} {a : Option Addr} {Q : List Msg} (h : QRep w a Q F) (c : Ch) {tag : Int} (hk : c.key.size ≤ maxLen) (hf : I64 c.fr) (ht : I64 c.to) :
    Calls Try.prog 10 #[.pointer a, .string c.key, .int .i64 c.fr, .int .i64 c.to, .int .i64 tag] w fun e w' => e = .returned (.tuple #[mvA ((first Q c tag).getD zeroM), .bool (first Q c tag).isSome]) ∧ Step NoB w w' := by
  obtain ⟨b0, b1, b2, es1, es2, rfl, h, _⟩ := h
  refine (V.queue_Queue_First_calls (R := fun v w' => v = .tuple #[mvA ((first Q c tag).getD zeroM), .bool (first Q c tag).isSome] ∧ Step NoB w w') ?_).mono ?_
  · intro b w1 h1
    have s1 := (Step.refl NoB w).new h1
    have hge := h1.ge (Step.refl NoB w)
    refine (none_calls (h.then s1)).mono ?_
    rintro e w2 ⟨rfl, rfl⟩
    obtain ⟨A, n, cap, t, hL, hR, _, _⟩ := (h.then s1).lookR c
    refine ⟨_, rfl, ifb_f (nilC_in ⟨_, (h.then s1).blk.cell (j := 0) rfl, keyed_ch, key_ch c hk hf ht, es1, (h.then s1).m1, A, n, cap, t, hL, ?_⟩)⟩
    have hn := hR.len
    have hN := Row.le hR
    refine ⟨fun i w' => 0 ≤ i ∧ i ≤ n ∧ Step NoB w2 w' ∧ ∀ (j : Nat) (m : Msg), (j : Int) < i → (row Q c)[j]? = some m → fits tag m = false, fun i _ => (n - i).toNat, ⟨by omega, by omega, Step.refl _ _, fun j m hj => by omega⟩, ?_⟩
    rintro i jk w3 ⟨h0, hin, s3, hb⟩
    have hB := h1.blk.then s3
    refine ifb_intro (fun hi => ?_) (fun hi => ?_)
    · simp only [decide_eq_true_eq] at hi
      have hi' : i.toNat < (row Q c).length := by omega
      obtain ⟨m, hm⟩ : ∃ m, (row Q c)[i.toNat]? = some m := ⟨_, List.getElem?_eq_getElem hi'⟩
      obtain ⟨b', rfl, hcl⟩ := RowM.elem (Row.then hR s3) hm
      refine ⟨h0, hi, b', 0, rfl, _, _, _, _, _, _, _, _, hcl, ?_⟩
      refine new_set (by simp) rfl fun b4 w4 h4 => ?_
      have s4 := s3.new h4
      have step : fits tag m = false → ∃ k : Int, IntKind.wrap .i64 (i + 1) = k ∧ (0 ≤ k ∧ k ≤ n ∧ Step NoB w2 w4 ∧ ∀ (j : Nat) (m : Msg), (j : Int) < k → (row Q c)[j]? = some m → fits tag m = false) ∧ ((n : Int) - k).toNat < ((n : Int) - i).toNat := by
        intro hfm
        refine ⟨_, w64 (by omega), ⟨by omega, by omega, s4, fun j m' hj hm' => ?_⟩, by omega⟩
        rcases Nat.lt_or_ge j i.toNat with hlt | hge
        · exact hb j m' (by omega) hm'
        · have : j = i.toNat := by omega
          subst this
          rw [hm] at hm'; cases hm'; exact hfm
      have stop : fits tag m = true → ∀ w5, Upd w4 w5 b (mv m) tMsg → Value.tuple #[mvA m, .bool true] = .tuple #[mvA ((first Q c tag).getD zeroM), .bool (first Q c tag).isSome] ∧ Step NoB w w5 := by
        intro hfm w5 hu
        have : first Q c tag = some m := find_at hm hfm (fun j m' hj hm' => hb j m' (by omega) hm')
        rw [this]
        exact ⟨rfl, (s1.then s4).upd hu (.inl hge)⟩
      refine ⟨_, h4.blk.cell rfl, ifb_intro (fun htk => ?_) (fun htk => ?_)⟩
      · simp only [Bool.not_eq_true'] at htk
        refine ifb_intro (fun hany => ?_) (fun hany => ?_)
        · refine ⟨_, _, _, _, _, _, _, _, h4.blk.all, _, _, hB.new h4, by simp, fun w5 hu => ?_⟩
          refine ⟨_, _, _, _, _, _, _, _, hu.blk.all, stop ?_ w5 hu⟩
          simp [fits, htk, hany]
        · refine ⟨_, h4.blk.cell rfl, ifb_intro (fun htag => ?_) (fun htag => ?_)⟩
          · refine ⟨_, _, _, _, _, _, _, _, h4.blk.all, _, _, hB.new h4, by simp, fun w5 hu => ?_⟩
            refine ⟨_, _, _, _, _, _, _, _, hu.blk.all, stop ?_ w5 hu⟩
            simp [fits, htk, htag]
          · exact step (by simp [fits, hany, htag])
      · simp only [Bool.not_eq_false'] at htk
        exact step (by simp [fits, htk])
    · simp only [decide_eq_false_iff_not] at hi
      refine ⟨_, _, hB, by simp, fun w4 hu => ?_⟩
      refine ⟨_, _, _, _, _, _, _, _, hu.blk.all, ?_, (s1.then s3).upd hu (.inl hge)⟩
      have : first Q c tag = none := find_not fun j m hm => hb j m (by have := (List.getElem?_eq_some_iff.1 hm).1; omega) hm
      rw [this]; rfl
  · rintro e w' ⟨v, rfl, rfl, h⟩
    exact ⟨rfl, h⟩

theorem QRep.take_calls {F : Nat → Prop} {w : World} {a : Option Addr} {Q : List Msg} (h : QRep w a Q F) {fr call : Int} (hf : I64 fr) (hc : I64 call) :
    Calls Try.prog 11 #[.pointer a, .int .i64 fr, .int .i64 call] w fun e w' => e = .returned (.int .i64 (takeE Q fr call)) ∧ QRep w' a (take Q fr call) F ∧ Step F w w' := by
  obtain ⟨b0, b1, b2, es1, es2, rfl, h, hF⟩ := h
  refine (V.queue_Queue_Take_calls (R := fun v w' => v = .int .i64 (takeE Q fr call) ∧ QRep w' (some ⟨b0, 0, none⟩) (take Q fr call) F ∧ Step F w w') ?_).mono ?_
  · refine (none_calls h).mono ?_
    rintro e w1 ⟨rfl, rfl⟩
    refine ⟨_, rfl, ifb_f ?_⟩
    refine (Go.Proofs.Ytdaojmkbjkaakaa.find_calls h hf hc).mono ?_
    rintro e w2 ⟨s2, ⟨h2, rfl⟩ | ⟨m, A, n, c, i, h2, rfl, hR, hi, x, hx, hk, hv⟩⟩
    · have e1 : takeE Q fr call = 2 := by simp [takeE, h2]
      refine ⟨_, _, _, _, rfl, ifb_t ⟨by rw [e1], ?_, s2.none⟩⟩
      rw [show take Q fr call = Q by simp [take, e1]]
      exact ⟨b0, b1, b2, es1, es2, rfl, h.then s2, hF⟩
    · obtain ⟨b', rfl, hcl⟩ := hR.elem hi
      have hl := hR.len
      have hil := (List.getElem?_eq_some_iff.1 hi).1
      obtain ⟨hm, rfl, rfl⟩ := find_some h2
      refine ⟨_, _, _, _, rfl, ifb_not (by simp) ⟨by omega, by omega, b', 0, rfl, m.taken, ?_, ifb_intro (fun ht => ?_) (fun ht => ?_)⟩⟩
      · have := hcl 7 _ rfl
        rw [add_none] at this; exact this
      · have e1 : takeE Q m.fr m.call = 2 := by simp [takeE, h2, ht]
        refine ⟨by rw [e1], ?_, s2.none⟩
        rw [show take Q m.fr m.call = Q by simp [take, e1]]
        exact ⟨b0, b1, b2, es1, es2, rfl, h.then s2, hF⟩
      · have e1 : takeE Q m.fr m.call = 0 := by simp [takeE, h2, ht]
        obtain ⟨l, hB, hlen⟩ : ∃ l, Blk w2 b' l tMsg ∧ n * 8 ≤ l.length := by
          rcases hR.out.2 with ⟨h0, _⟩ | ⟨b'', l, h0, hB, hn, hcm, hlen, hxs⟩
          · cases h0
          · cases h0; exact ⟨l, hB, by rw [hlen]; exact Nat.mul_le_mul_right 8 hn⟩
        refine ⟨by omega, by omega, b', 0, rfl, l, _, hB, by omega, fun w3 hu => ?_⟩
        have hb : x.val.ownBlock = some b' := by rw [hv]; rfl
        refine ⟨by rw [e1], ?_, ?_⟩
        · rw [show take Q m.fr m.call = Q.map (tick m.fr m.call) by simp [take, e1]]
          exact ⟨b0, b1, b2, es1, es2, rfl, (h.then s2).took hx hk hv hi hB hu, hF⟩
        · exact s2.none.upd hu (.inr ((hF _).2 (.inr (.inr (.inr ⟨x, hx, hb⟩)))))
  · rintro e w' ⟨v, rfl, rfl, h⟩
    exact ⟨rfl, h⟩

end Go.Proofs.Ytdaojmkbjkaakaa
