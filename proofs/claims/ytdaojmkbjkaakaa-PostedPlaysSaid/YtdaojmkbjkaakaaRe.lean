/- Plain: one message inserted behind all that aren't behind it. Conditions: none. -/
import Derived.Test.YtdaojmkbjkaakaaRd
set_option linter.unusedVariables false
set_option linter.unusedSimpArgs false
namespace Go.Proofs.Ytdaojmkbjkaakaa
open Go.Vc Go.Q13 Go.RowKit

def insAt (l : List Msg) (q : Nat) (m : Msg) : List Msg := l.take q ++ m :: l.drop q
theorem mem_take_el {l : List Msg} {q : Nat} {x : Msg} (h : x ∈ l.take q) : ∃ p, p < q ∧ p < l.length ∧ el_ l p = x := by
  obtain ⟨i, hi, rfl⟩ := List.getElem_of_mem h
  rw [List.length_take] at hi
  refine ⟨i, by omega, by omega, ?_⟩
  have := el_get (l := l) (p := i) (by omega)
  rw [List.getElem?_eq_getElem (by omega)] at this
  rw [List.getElem_take]; exact (Option.some.inj this).symm
theorem mem_drop_el {l : List Msg} {q : Nat} {x : Msg} (h : x ∈ l.drop q) : ∃ p, q ≤ p ∧ p < l.length ∧ el_ l p = x := by
  obtain ⟨i, hi, rfl⟩ := List.getElem_of_mem h
  rw [List.length_drop] at hi
  refine ⟨q + i, by omega, by omega, ?_⟩
  have := el_get (l := l) (p := q + i) (by omega)
  rw [List.getElem?_eq_getElem (by omega)] at this
  rw [List.getElem_drop]; exact (Option.some.inj this).symm
theorem ins_sorted {l : List Msg} (h : l.Pairwise le) {m : Msg} {q : Nat} (hq : q ≤ l.length) (hi : ∀ p, q ≤ p → p < l.length → lt m (el_ l p)) (lo : q = 0 ∨ le (el_ l (q - 1)) m) : (insAt l q m).Pairwise le := by
  have hs : ∀ a b, a < b → b < l.length → le (el_ l a) (el_ l b) := by
    intro a b hab hb
    have := List.pairwise_iff_getElem.1 h a b (by omega) hb hab
    have e1 := el_get (l := l) (p := a) (by omega)
    have e2 := el_get (l := l) (p := b) hb
    rw [List.getElem?_eq_getElem (by omega)] at e1 e2
    rw [← Option.some.inj e1, ← Option.some.inj e2]; exact this
  have low : ∀ x ∈ l.take q, le x m := by
    intro x hx
    obtain ⟨p, p1, p2, rfl⟩ := mem_take_el hx
    rcases lo with rfl | lo
    · omega
    · by_cases hp : p = q - 1
      · rw [hp]; exact lo
      · exact le_trans (hs p (q - 1) (by omega) (by omega)) lo
  have high : ∀ x ∈ l.drop q, lt m x := by
    intro x hx
    obtain ⟨p, p1, p2, rfl⟩ := mem_drop_el hx
    exact hi p p1 p2
  unfold insAt
  rw [List.pairwise_append, List.pairwise_cons]
  refine ⟨h.sublist (List.take_sublist ..), ⟨fun x hx => lt_le (high x hx), h.sublist (List.drop_sublist ..)⟩, fun x hx y hy => ?_⟩
  rcases List.mem_cons.1 hy with rfl | hy
  · exact low x hx
  · exact le_trans (low x hx) (lt_le (high y hy))
theorem ins_rows {l : List Msg} {m : Msg} {q : Nat} (hi : ∀ p, q ≤ p → p < l.length → lt m (el_ l p)) (c : Ch) : row (insAt l q m) c = row l c ++ row [m] c := by
  unfold insAt
  have e : row l c = row (l.take q) c ++ row (l.drop q) c := by rw [← row_append, List.take_append_drop]
  rw [row_append, show m :: l.drop q = [m] ++ l.drop q from rfl, row_append, e, List.append_assoc]
  congr 1
  refine row_comm ?_ c
  intro u hu v hv
  rw [List.mem_singleton.1 hu]
  obtain ⟨p, p1, p2, rfl⟩ := mem_drop_el hv
  exact lt_ch (hi p p1 p2)

end Go.Proofs.Ytdaojmkbjkaakaa
