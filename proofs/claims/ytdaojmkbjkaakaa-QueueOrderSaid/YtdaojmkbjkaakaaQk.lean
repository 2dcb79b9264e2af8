/- Plain: a channel's messages, sent in order and taken by First again and again, come in order. Conditions: none. -/
import Derived.Test.YtdaojmkbjkaakaaQa
set_option linter.unusedVariables false
set_option linter.unusedSimpArgs false
namespace Go.Q13

section
variable (k l : ByteArray) (f t : Int) (tg : Nat → Int) (tag : Int)
def mK (i : Nat) : Msg := ⟨k, f, t, 2 * (i : Int), tg i, 0, 1, false⟩
def mL (i : Nat) : Msg := ⟨l, f, t, 2 * (i : Int) + 1, tg i, 0, 1, false⟩
def wanted (i : Nat) : Bool := tag == -1 || tag == tg i
def wantN (n : Nat) : List Nat := (List.range n).filter (wanted tg tag)
def wants (n : Nat) : List Int := (wantN tg tag n).map fun (i : Nat) => 2 * (i : Int)
theorem wants_succ (n : Nat) : wants tg tag (n + 1) = wants tg tag n ++ if wanted tg tag n then [2 * (n : Int)] else [] := by
  unfold wants wantN
  rw [List.range_succ, List.filter_append, List.map_append]
  congr 1
  rw [List.filter_cons]
  split <;> rfl
/-- what was sent up to i -/
structure Sent (n : Nat) (Q : List Msg) : Prop where
  row : row Q ⟨k, f, t⟩ = (List.range n).map (mK k f t tg)
  calls : ∀ m ∈ Q, m.call < 2 * (n : Int)
  len : Q.length ≤ 2 * n
theorem sent_nil : Sent k f t tg 0 [] := ⟨rfl, by simp, by simp⟩
variable (hf : 0 ≤ f ∧ f ≤ 63) (ht : 0 ≤ t ∧ t ≤ 63) (htg : ∀ i, 0 ≤ tg i ∧ tg i ≤ 3)
include hf ht htg
theorem mK_may (i : Nat) : (mK k f t tg i).may = true := by
  have := htg i
  simp only [Msg.may, mK, Bool.and_eq_true, decide_eq_true_eq, Bool.not_eq_true', decide_eq_false_iff_not, Bool.not_false]
  refine ⟨⟨⟨⟨⟨⟨⟨⟨⟨trivial, ?_⟩, ?_⟩, ?_⟩, ?_⟩, ?_⟩, ?_⟩, ?_⟩, ?_⟩, ?_⟩ <;> first | omega | exact decide_eq_true (by omega) | exact decide_eq_false (by omega)
theorem mL_may (i : Nat) : (mL l f t tg i).may = true := by
  have := htg i
  simp only [Msg.may, mL, Bool.and_eq_true, decide_eq_true_eq, Bool.not_eq_true', decide_eq_false_iff_not, Bool.not_false]
  refine ⟨⟨⟨⟨⟨⟨⟨⟨⟨trivial, ?_⟩, ?_⟩, ?_⟩, ?_⟩, ?_⟩, ?_⟩, ?_⟩, ?_⟩, ?_⟩ <;> first | omega | exact decide_eq_true (by omega) | exact decide_eq_false (by omega)
theorem sendK {n : Nat} {Q : List Msg} (h : Sent k f t tg n Q) : sendE Q (mK k f t tg n) = 0 ∧ send Q (mK k f t tg n) = Q ++ [mK k f t tg n] ∧ ∀ m ∈ Q ++ [mK k f t tg n], m.call < 2 * (n : Int) + 1 := by
  have hn : find Q (mK k f t tg n).fr (mK k f t tg n).call = none := by
    rcases hq : find Q (mK k f t tg n).fr (mK k f t tg n).call with _ | m
    · rfl
    · obtain ⟨h1, _, h3⟩ := find_some hq
      have := h.calls m h1
      rw [h3] at this
      simp [mK] at this
  have hm := mK_may k f t tg hf ht htg n
  refine ⟨by simp [sendE, hn, hm], by simp [send, hn, hm], ?_⟩
  intro m hm
  simp only [List.mem_append, List.mem_singleton] at hm
  rcases hm with hm | rfl
  · have := h.calls m hm; omega
  · simp [mK]; omega
theorem sentK {n : Nat} {Q : List Msg} (h : Sent k f t tg n Q) : Sent k f t tg (n + 1) (Q ++ [mK k f t tg n]) := by
  refine ⟨?_, ?_, ?_⟩
  · rw [row_append, h.row, List.range_succ, List.map_append]
    congr 1
    simp [row, mK, Msg.ch]
  · intro m hm
    have := (sendK k f t tg hf ht htg h).2.2 m hm
    omega
  · have := h.len
    simp; omega
theorem sendL {n : Nat} {Q : List Msg} (h : Sent k f t tg n Q) (hkl : k ≠ l) : Sent k f t tg (n + 1) (send (Q ++ [mK k f t tg n]) (mL l f t tg n)) := by
  have h1 := sendK k f t tg hf ht htg h
  have hn : find (Q ++ [mK k f t tg n]) (mL l f t tg n).fr (mL l f t tg n).call = none := by
    rcases hq : find (Q ++ [mK k f t tg n]) (mL l f t tg n).fr (mL l f t tg n).call with _ | m
    · rfl
    · obtain ⟨g1, _, g3⟩ := find_some hq
      have := h1.2.2 m g1
      rw [g3] at this
      simp [mL] at this
  have hm := mL_may l f t tg hf ht htg n
  have e : send (Q ++ [mK k f t tg n]) (mL l f t tg n) = Q ++ [mK k f t tg n] ++ [mL l f t tg n] := by unfold send; rw [if_neg (by simp [hn, hm])]
  have h2 := sentK k f t tg hf ht htg h
  rw [e]
  refine ⟨?_, ?_, ?_⟩
  · rw [row_append, h2.row]
    have : row [mL l f t tg n] ⟨k, f, t⟩ = [] := by simp [row, mL, Msg.ch, Ne.symm hkl]
    rw [this, List.append_nil]
  · intro m hm
    rcases List.mem_append.1 hm with hm | hm
    · exact h2.calls m hm
    · rw [List.mem_singleton.1 hm]; simp [mL]; omega
  · have := h.len
    simp; omega
omit hf ht htg

/-! taking -/
def el (S : List Nat) (i : Nat) : Msg := if i ∈ S then { mK k f t tg i with taken := true } else mK k f t tg i
/-- what is left when the first j were taken -/
def Took (n j : Nat) (Q : List Msg) : Prop := row Q ⟨k, f, t⟩ = (List.range n).map (el k f t tg ((wantN tg tag n).take j))
theorem took_zero {n : Nat} {Q : List Msg} (h : Sent k f t tg n Q) : Took k f t tg tag n 0 Q := by
  unfold Took
  rw [h.row]
  exact List.map_congr_left fun i _ => by simp [el]
theorem el_fits (S : List Nat) (i : Nat) : fits tag (el k f t tg S i) = (wanted tg tag i && decide (i ∉ S)) := by
  unfold el fits wanted
  split <;> simp_all [mK]
theorem wantN_nodup (n : Nat) : (wantN tg tag n).Nodup := List.Pairwise.filter _ List.nodup_range
theorem find_congr {α : Type} {p q : α → Bool} : ∀ {l : List α}, (∀ x ∈ l, p x = q x) → l.find? p = l.find? q
  | [], _ => rfl
  | x :: l, h => by
    rw [List.find?_cons, List.find?_cons, h x (List.mem_cons_self ..), find_congr fun y hy => h y (List.mem_cons_of_mem _ hy)]
theorem find_drop {ws : List Nat} (h : ws.Nodup) (j : Nat) : (ws.find? fun i => decide (i ∉ ws.take j)) = ws[j]? := by
  induction ws generalizing j with
  | nil => simp
  | cons a ws ih =>
    rw [List.nodup_cons] at h
    cases j with
    | zero => simp
    | succ j =>
      rw [List.take_succ_cons, List.find?_cons]
      simp only [List.mem_cons, true_or, not_true_eq_false, decide_false, List.getElem?_cons_succ]
      rw [← ih h.2 j]
      refine find_congr fun i hi => ?_
      have : i ≠ a := fun e => h.1 (e ▸ hi)
      simp [this]
theorem took_first {n j : Nat} {Q : List Msg} (h : Took k f t tg tag n j Q) : first Q ⟨k, f, t⟩ tag = ((wantN tg tag n)[j]?).map (mK k f t tg) := by
  unfold first
  rw [h, List.find?_map]
  have e : (List.range n).find? (fits tag ∘ el k f t tg ((wantN tg tag n).take j)) = (wantN tg tag n)[j]? := by
    rw [← find_drop (wantN_nodup tg tag n) j]
    unfold wantN
    rw [List.find?_filter]
    refine find_congr fun i hi => ?_
    refine (el_fits k f t tg tag _ i).trans ?_
    simp
  rw [e]
  rcases hj : (wantN tg tag n)[j]? with _ | i
  · rfl
  · simp only [Option.map_some, Option.some.injEq]
    unfold el
    rw [if_neg]
    intro hc
    obtain ⟨q, hq, hqe⟩ := List.getElem_of_mem hc
    rw [List.length_take] at hq
    rw [List.getElem_take] at hqe
    obtain ⟨hj', hje⟩ := List.getElem?_eq_some_iff.1 hj
    have := (List.getElem_inj (h₀ := by omega) (h₁ := hj') (wantN_nodup tg tag n)).1 (hqe.trans hje.symm)
    omega
theorem took_take {n j i : Nat} {Q : List Msg} (hu : Uniq Q) (h : Took k f t tg tag n j Q) (hj : (wantN tg tag n)[j]? = some i) :
    takeE Q f (2 * (i : Int)) = 0 ∧ Took k f t tg tag n (j + 1) (take Q f (2 * (i : Int))) ∧ takeE (take Q f (2 * (i : Int))) f (2 * (i : Int)) = 2 := by
  have hfst := took_first k f t tg tag h
  rw [hj] at hfst
  unfold first at hfst
  have hmr := List.mem_of_find?_eq_some hfst
  have hm := (mem_row.1 hmr).1
  have hfind : find Q f (2 * (i : Int)) = some (mK k f t tg i) := by
    rcases hq : find Q f (2 * (i : Int)) with _ | m
    · exact absurd ⟨rfl, rfl⟩ (find_none hq _ hm)
    · obtain ⟨h1, h2, h3⟩ := find_some hq
      rw [uniq_eq hu h1 hm h2 h3]
  have e1 : takeE Q f (2 * (i : Int)) = 0 := by unfold takeE; rw [hfind]; rfl
  have e2 : take Q f (2 * (i : Int)) = Q.map (tick f (2 * (i : Int))) := by unfold take; rw [if_pos e1]
  refine ⟨e1, ?_, ?_⟩
  · rw [e2]
    unfold Took
    rw [row_map (fun m => tick_ch ..), h, List.map_map]
    refine List.map_congr_left fun i' _ => ?_
    have hjl := (List.getElem?_eq_some_iff.1 hj).1
    have hts : (wantN tg tag n).take (j + 1) = (wantN tg tag n).take j ++ [i] := by rw [List.take_add_one, hj]; rfl
    show tick f (2 * (i : Int)) (el k f t tg _ i') = el k f t tg _ i'
    rw [hts]
    by_cases hi : i' = i
    · subst hi
      unfold el
      rw [if_pos (List.mem_append_right _ (List.mem_singleton_self _))]
      split <;> simp [tick, is, mK]
    · have hc : ((i' : Int) = (i : Int)) = False := by simp; omega
      unfold el
      by_cases hS : i' ∈ (wantN tg tag n).take j
      · rw [if_pos hS, if_pos (List.mem_append_left _ hS)]
        unfold tick; rw [if_neg]; simp [is, mK]; omega
      · rw [if_neg hS, if_neg (by simp [hS, hi])]
        unfold tick; rw [if_neg]; simp [is, mK]; omega
  · rw [e2]
    have hu2 : Uniq (Q.map (tick f (2 * (i : Int)))) := by
      unfold Uniq
      rw [List.pairwise_map]
      exact hu.imp fun h => by rw [tick_fr, tick_fr, tick_call, tick_call]; exact h
    have hm2 : ({ mK k f t tg i with taken := true } : Msg) ∈ Q.map (tick f (2 * (i : Int))) := by
      refine List.mem_map.2 ⟨_, hm, ?_⟩
      simp [tick, is, mK]
    unfold takeE
    rcases hq : find (Q.map (tick f (2 * (i : Int)))) f (2 * (i : Int)) with _ | m
    · rfl
    · obtain ⟨h1, h2, h3⟩ := find_some hq
      rw [uniq_eq hu2 h1 hm2 h2 h3]; rfl
theorem wants_get {n j : Nat} : (wants tg tag n)[j]? = ((wantN tg tag n)[j]?).map fun (i : Nat) => 2 * (i : Int) := by
  unfold wants
  rw [List.getElem?_map]
end

end Go.Q13
