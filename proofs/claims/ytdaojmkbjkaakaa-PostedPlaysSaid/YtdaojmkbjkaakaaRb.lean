/- Contracts: the reference's queue: Take, Send, Copy. Conditions: none. -/
import Derived.Test.YtdaojmkbjkaakaaRa
set_option linter.unusedVariables false
set_option linter.unusedSimpArgs false
namespace Go.Proofs.Ytdaojmkbjkaakaa
open Go.Vc Go.Q13 Go.RowKit

theorem place_find (Q : List Msg) (fr call : Int) : (find Q fr call = none ∧ placeI Q fr call = -1) ∨ ∃ m, ∃ i : Nat, find Q fr call = some m ∧ placeI Q fr call = i ∧ Q[i]? = some m := by
  unfold find placeI idx
  rcases h : Q.findIdx? (is fr call) with _ | i
  · rw [List.findIdx?_eq_none_iff] at h
    exact .inl ⟨List.find?_eq_none.2 fun x hx => by simp [h x hx], rfl⟩
  · rw [List.findIdx?_eq_some_iff_getElem] at h
    obtain ⟨hi, hp, hb⟩ := h
    refine .inr ⟨Q[i], i, find_at (List.getElem?_eq_getElem hi) hp fun j m hj hm => ?_, rfl, List.getElem?_eq_getElem hi⟩
    obtain ⟨hj', rfl⟩ := List.getElem?_eq_some_iff.1 hm
    have := hb j hj
    simpa using this
theorem tick_set {l : List Msg} (hu : Uniq l) {m : Msg} {i : Nat} (hi : l[i]? = some m) : l.map (tick m.fr m.call) = l.set i { m with taken := true } := by
  refine List.ext_getElem? fun j => ?_
  rw [List.getElem?_map, List.getElem?_set]
  have hil := (List.getElem?_eq_some_iff.1 hi).1
  by_cases hj : i = j
  · subst hj
    rw [if_pos rfl, if_pos hil, hi]
    simp [tick, is]
  · rw [if_neg hj]
    rcases hx : l[j]? with _ | x
    · rfl
    · simp only [Option.map_some, Option.some.injEq]
      unfold tick
      split
      · rename_i hm
        simp only [is, decide_eq_true_eq] at hm
        exfalso
        obtain ⟨hj', hjx⟩ := List.getElem?_eq_some_iff.1 hx
        obtain ⟨hi', hix⟩ := List.getElem?_eq_some_iff.1 hi
        have := List.pairwise_iff_getElem.1 hu
        rcases Nat.lt_or_gt_of_ne hj with hlt | hgt
        · exact this i j hi' hj' hlt (by rw [hix, hjx]; exact ⟨hm.1.symm, hm.2.symm⟩)
        · exact this j i hj' hi' hgt (by rw [hix, hjx]; exact hm)
      · rfl

theorem TRep.take_calls {F : Nat → Prop} {w : World} {p : Option Addr} {Q : List Msg} (h : TRep w p Q F) (hu : Uniq Q) (fr call : Int) :
    Calls Try.prog 69 #[.pointer p, .int .i64 fr, .int .i64 call] w fun e w' => e = .returned (.int .i64 (takeE Q fr call)) ∧ TRep w' p (take Q fr call) F ∧ Step F w w' := by
  have h0 := h
  obtain ⟨b, A, n, c, rfl, hB, hR, hn, hF⟩ := h
  have hl := RowM.len hR
  refine (V.dispatcherref13_Queue_Take_calls (R := fun v w' => v = .int .i64 (takeE Q fr call) ∧ TRep w' (some ⟨b, 0, none⟩) (take Q fr call) F ∧ Step F w w') ?_).mono ?_
  · refine (place_calls h0 fr call).mono ?_
    rintro e w1 ⟨rfl, rfl⟩
    rcases place_find Q fr call with ⟨hf, hp⟩ | ⟨m, i, hf, hp, hi⟩
    · have e1 : takeE Q fr call = 2 := by simp [takeE, hf]
      exact ⟨_, rfl, ifb_of (by rw [hp]; rfl) ⟨by rw [e1], by rw [take_none hf]; exact h0, Step.refl _ _⟩⟩
    · obtain ⟨hm, rfl, rfl⟩ := find_some hf
      have hil := (List.getElem?_eq_some_iff.1 hi).1
      obtain ⟨b1, rfl, hc⟩ := RowM.elem hR hi
      have c7 := hc 7 _ rfl
      rw [add_none] at c7
      rw [hp]
      refine ⟨_, rfl, ifb_not (by rw [decide_eq_false_iff_not]; omega) (nilC_in ⟨_, n, c, hB.cell rfl, by omega, by omega, b1, 0, rfl, _, c7, ifb_intro (fun g => ?_) (fun g => ?_)⟩)⟩
      · have e1 : takeE Q m.fr m.call = 2 := by simp [takeE, hf, g]
        exact ⟨by rw [e1], by rw [show take Q m.fr m.call = Q by simp [take, e1]]; exact h0, Step.refl _ _⟩
      · have e1 : takeE Q m.fr m.call = 0 := by simp [takeE, hf, g]
        have e2 : take Q m.fr m.call = Q.set i { m with taken := true } := by
          unfold take; rw [if_pos e1]; exact tick_set hu hi
        rcases hR.out.2 with ⟨hx, _⟩ | ⟨b2, l, hx, hBl, hnc, hcm, hlen, hxs⟩
        · cases hx
        · cases hx
          have hle : (i + 1) * 8 ≤ c * 8 := Nat.mul_le_mul_right 8 (by omega)
          refine nilC_in ⟨_, n, c, hB.cell rfl, by omega, by omega, b1, 0, rfl, l, _, hBl, by rw [hlen]; simp only [Int.toNat_natCast]; omega, fun w2 hu2 => ?_⟩
          rw [Int.toNat_natCast] at hu2
          have hnb : ¬ b = b1 := fun e => hn (by rw [at_some]; exact e.symm)
          have hR2 : RowM w2 (some ⟨b1, 0, none⟩) n c (Q.set i { m with taken := true }) := by
            have := Row.mk' (n := n) (c := c) (k := 8) hu2.blk hnc hcm (by simpa using hlen)
            rw [List.take_set, hxs, Nat.zero_add, flat_set mv 8 mv_len hi (by omega) (mv_take m)] at this
            exact this
          rw [e1, e2]
          exact ⟨rfl, ⟨b, _, n, c, rfl, hB.keep hu2.step hnb, hR2, hn, hF⟩, hu2.step.mono fun k _ hk => (hF k).2 (.inr (by rw [at_some]; exact hk.symm))⟩
  · rintro e w' ⟨v, rfl, rfl, h⟩
    exact ⟨rfl, h⟩

theorem TRep.copy_calls {F : Nat → Prop} {w : World} {p : Option Addr} {Q : List Msg} (h : TRep w p Q F) (hQ : Q.length ≤ 1000000000) :
    Calls Try.prog 48 #[.pointer p] w fun e w' => ∃ p' F', e = .returned (.pointer p') ∧ TRep w' p' Q F' ∧ (∀ k, F' k → w.heap.size ≤ k) ∧ Step NoB w w' := by
  obtain ⟨b, A, n, c, rfl, hB, hR, hn, hF⟩ := h
  have hl := RowM.len hR
  refine (V.dispatcherref13_Queue_Copy_calls (R := fun v w' => ∃ p' F', v = .pointer p' ∧ TRep w' p' Q F' ∧ (∀ k, F' k → w.heap.size ≤ k) ∧ Step NoB w w') ?_).mono ?_
  · intro b2 w3 h3
    have hR3 := Row.then hR h3.step
    have s3 := (Step.refl NoB w).new h3
    have hz : maxLen = 9223372036854775807 := rfl
    refine nilC_in ⟨A, n, c, (hB.new h3).cell rfl, [], Q.flatMap mv, Row.whole h3.blk (Nat.zero_le _) rfl, ⟨hR3.out.1, ?_, ?_⟩, by omega, by omega, fun A9 C9 w8 h8 hap b10 w11 h11 => ?_⟩
    · intro v hv
      obtain ⟨m, _, hm⟩ := List.mem_flatMap.1 hv
      exact mv_one m v hm
    · intro hpos
      rcases hR3.out.2 with ⟨_, h0, _⟩ | ⟨b1, l, rfl, hBl, _, _, _, hx⟩
      · omega
      · refine ⟨_, rfl, hBl.cells 0 _ fun j x hj => ?_⟩
        rw [← hx, List.getElem?_take] at hj
        split at hj
        · rw [Nat.zero_add]; exact hj
        · cases hj
    · have hg := h3.at_
      have hat0 : ∀ k, At (some ⟨b2, 0, none⟩) k → w.heap.size ≤ k := fun k hk => by rw [at_some] at hk; omega
      have s8 : Step NoB w w8 := hap.new s3 fun k hk => .inl (hat0 k hk)
      have hat9 := hap.at' s3 hat0
      have hR8 : Row w8 A9 (0 + n) C9 tMsg 8 (Q.flatMap mv) := h8
      rw [Nat.zero_add] at hR8
      refine ⟨_, fun k => k = b10 ∨ At A9 k, rfl, ⟨b10, A9, n, C9, rfl, ?_, Row.then hR8 h11.step, ?_, fun _ => Iff.rfl⟩, ?_, s8.new h11⟩
      · have := h11.blk; rw [Nat.zero_add] at this; exact this
      · intro hk
        have := Row.lt hR8 hk
        have := h11.at_
        omega
      · rintro k (rfl | hk)
        · exact h11.ge s8
        · exact hat9 k hk
  · rintro e w' ⟨v, rfl, p', F', rfl, h⟩
    exact ⟨p', F', rfl, h⟩

end Go.Proofs.Ytdaojmkbjkaakaa
