/- Acts opened: what a slice of acts that came in looks like in the machine. Conditions: none. -/
import Derived.Test.YtdaojmkbjkaakaaQu
import Derived.Deep.Slices
import Derived.ProofKit
set_option linter.unusedVariables false
set_option linter.unusedSimpArgs false
namespace Go.Proofs.Ytdaojmkbjkaakaa
open Go.Vc Go.Q13 Go.RowKit Go.ChangeShapes Go.WideShapes

abbrev tAct : TypeId := 38
section
variable {H : Type} {enc : TypeId × Value → H} {P : Program} {w : World} {base : Nat} {spare : Nat → Bool} {held : Bool}
theorem cells_get {a : Addr} {n : Nat} {cs : List Value} (h : w.cells? base a n = some cs) : Cells w a cs := by
  intro j x hj
  unfold World.cells? at h
  split at h
  · have hl := mapM_some_length h
    rw [List.length_range] at hl
    have hjl := (List.getElem?_eq_some_iff.1 hj).1
    have := mapM_some_get h j j (List.getElem?_range (by omega))
    rw [this, hj]
  · cases h
theorem trod_field {t : TypeId} {fs : Array Field} {fuel : Nat} {cs : List Value} {x : DataW H × List MemPlace} (ht : P.underlying t = some (.struct fs)) (h : DataW.trod enc P w base spare held fuel t cs = some x) :
    cs.length = P.cellsOf t ∧ ∀ (i : Nat) (ti : TypeId) (oi ci : Nat), (fs[i]?).map (fun f => (f.type, f.offset, P.cellsOf f.type)) = some (ti, oi, ci) → ∃ m y, DataW.trod enc P w base spare held m ti ((cs.drop oi).take ci) = some y := by
  obtain ⟨xs, n, _, rfl, hl, hlen, hf⟩ := DataW.trod_struct ht h
  refine ⟨hl, fun i ti oi ci hi => ?_⟩
  rcases hfi : fs[i]? with _ | f
  · rw [hfi] at hi; cases hi
  · rw [hfi] at hi
    cases hi
    have := hf i f hfi
    have hil : i < xs.length := by rw [hlen]; exact (Array.getElem?_eq_some_iff.1 hfi).1
    rw [List.getElem?_eq_getElem hil] at this
    exact ⟨n, _, this⟩
end
theorem i64b {n : Int} (h : (Lit.int .i64 n).wf = true) : I64 n := by
  simp [Lit.wf, IntKind.min, IntKind.max, IntKind.signed, IntKind.bits] at h
  exact h
theorem u8b {n : Int} (h : (Lit.int .u8 n).wf = true) : 0 ≤ n ∧ n ≤ 255 := by
  simp [Lit.wf, IntKind.min, IntKind.max, IntKind.signed, IntKind.bits] at h
  exact h
section
variable {H : Type} {enc : TypeId × Value → H} {w : World} {base : Nat} {spare : Nat → Bool} {held : Bool}
theorem open_msg {fuel : Nat} {cs : List Value} {x : DataW H × List MemPlace} (h : DataW.trod enc Try.prog w base spare held fuel tMsg cs = some x) : ∃ m : Msg, cs = mv m ∧ MFit m := by
  obtain ⟨hl, hf⟩ := trod_field (fs := Try.prog.fieldsOf tMsg) (by kernel_rfl) h
  rw [show Try.prog.cellsOf tMsg = 8 by kernel_rfl] at hl
  obtain ⟨_, _, f0⟩ := hf 0 9 0 1 (by kernel_rfl)
  obtain ⟨_, _, f1⟩ := hf 1 3 1 1 (by kernel_rfl)
  obtain ⟨_, _, f2⟩ := hf 2 3 2 1 (by kernel_rfl)
  obtain ⟨_, _, f3⟩ := hf 3 3 3 1 (by kernel_rfl)
  obtain ⟨_, _, f4⟩ := hf 4 3 4 1 (by kernel_rfl)
  obtain ⟨_, _, f5⟩ := hf 5 2 5 1 (by kernel_rfl)
  obtain ⟨_, _, f6⟩ := hf 6 3 6 1 (by kernel_rfl)
  obtain ⟨_, _, f7⟩ := hf 7 4 7 1 (by kernel_rfl)
  match cs, hl with
  | [c0, c1, c2, c3, c4, c5, c6, c7], _ =>
    obtain ⟨s, e0, _, hs⟩ := DataW.trod_string (by kernel_rfl) f0
    obtain ⟨n1, e1, _, w1⟩ := DataW.trod_int (k := .i64) (by kernel_rfl) f1
    obtain ⟨n2, e2, _, w2⟩ := DataW.trod_int (k := .i64) (by kernel_rfl) f2
    obtain ⟨n3, e3, _, w3⟩ := DataW.trod_int (k := .i64) (by kernel_rfl) f3
    obtain ⟨n4, e4, _, w4⟩ := DataW.trod_int (k := .i64) (by kernel_rfl) f4
    obtain ⟨n5, e5, _, w5⟩ := DataW.trod_int (k := .i64) (by kernel_rfl) f5
    obtain ⟨n6, e6, _, w6⟩ := DataW.trod_int (k := .i64) (by kernel_rfl) f6
    obtain ⟨t, e7, _⟩ := DataW.trod_bool (by kernel_rfl) f7
    simp only [List.drop, List.take, List.cons.injEq, and_true] at e0 e1 e2 e3 e4 e5 e6 e7
    subst e0 e1 e2 e3 e4 e5 e6 e7
    exact ⟨⟨s, n1, n2, n3, n4, n5, n6, t⟩, rfl, hs, i64b w1, i64b w2, i64b w3, i64b w4, i64b w5, i64b w6⟩
theorem open_act {fuel : Nat} {cs : List Value} {x : DataW H × List MemPlace} (h : DataW.trod enc Try.prog w base spare held fuel tAct cs = some x) : ∃ a : Act, cs = av a ∧ MFit a.m ∧ 0 ≤ a.kind ∧ a.kind ≤ 255 := by
  obtain ⟨hl, hf⟩ := trod_field (fs := Try.prog.fieldsOf tAct) (by kernel_rfl) h
  rw [show Try.prog.cellsOf tAct = 9 by kernel_rfl] at hl
  obtain ⟨_, _, f0⟩ := hf 0 5 0 1 (by kernel_rfl)
  obtain ⟨_, _, f1⟩ := hf 1 tMsg 1 8 (by kernel_rfl)
  match cs, hl with
  | c0 :: cs, hl =>
    obtain ⟨k, e0, _, w0⟩ := DataW.trod_int (k := .u8) (by kernel_rfl) f0
    obtain ⟨m, e1, hm⟩ := open_msg f1
    simp only [List.drop, List.take, List.cons.injEq, and_true] at e0
    subst e0
    have hcs : cs = mv m := by
      rw [← e1]
      simp only [List.drop]
      rw [List.take_of_length_le (by simp only [List.length_cons] at hl; omega)]
    subst hcs
    exact ⟨⟨k, m⟩, rfl, hm, u8b w0⟩
theorem open_acts {t : TypeId} (ht : Try.prog.underlying t = some (.slice tAct)) {A : Option Addr} {n c : Nat} {d : DataW H} {ps : List MemPlace} (h : DataW.Trod enc Try.prog w base spare held t (.slice A n c) d ps) : ∃ acts, InA w A n acts := by
  obtain ⟨fuel, hf⟩ := h
  rcases Go.Deep.open_slice ht hf with ⟨hcs, _⟩ | ⟨a, l, cp, m, k, D, Pl, hcs, _, hl, _, hm, _, hel⟩
  · simp [Value.cells] at hcs
    obtain ⟨rfl, rfl, rfl⟩ := hcs
    exact ⟨[], rfl, fun i a hi => by simp at hi, fun a ha => by cases ha⟩
  · simp [Value.cells] at hcs
    obtain ⟨rfl, rfl, rfl⟩ := hcs
    have hnm : n ≤ m := by rw [hm]; split <;> omega
    have each : ∀ i, i < n → ∃ x : Act, Cells w (a.add (i * 9)) (av x) ∧ MFit x.m ∧ 0 ≤ x.kind ∧ x.kind ≤ 255 := by
      intro i hi
      obtain ⟨cs, h1, h2⟩ := hel i (by omega)
      obtain ⟨x, rfl, hx⟩ := open_act h2
      rw [show Try.prog.cellsOf tAct = 9 by kernel_rfl] at h1
      exact ⟨x, cells_get h1, hx⟩
    have pick : ∀ k, k ≤ n → ∃ acts : List Act, acts.length = k ∧ ∀ i x, acts[i]? = some x → Cells w (a.add (i * 9)) (av x) ∧ MFit x.m ∧ 0 ≤ x.kind ∧ x.kind ≤ 255 := by
      intro k
      induction k with
      | zero => exact fun _ => ⟨[], rfl, fun i x hi => by simp at hi⟩
      | succ k ih =>
        intro hk
        obtain ⟨acts, h1, h2⟩ := ih (by omega)
        obtain ⟨x, hx⟩ := each k (by omega)
        refine ⟨acts ++ [x], by simp [h1], fun i y hi => ?_⟩
        rw [List.getElem?_append] at hi
        split at hi
        · exact h2 i y hi
        · rename_i hge
          have hik : i = k := by
            have := (List.getElem?_eq_some_iff.1 hi).1
            simp at this; omega
          subst hik
          rw [h1, Nat.sub_self] at hi
          simp only [List.getElem?_cons_zero, Option.some.injEq] at hi
          subst hi
          exact hx
    obtain ⟨acts, h1, h2⟩ := pick n (Nat.le_refl _)
    refine ⟨acts, h1, fun i x hi => ?_, fun x hx => ?_⟩
    · obtain ⟨b, o, s⟩ := a
      have hs : s = none := by
        obtain ⟨y, hy⟩ : ∃ y, acts[0]? = some y := ⟨_, List.getElem?_eq_getElem (by have := (List.getElem?_eq_some_iff.1 hi).1; omega)⟩
        have hc := (h2 0 y hy).1 0 _ rfl
        rcases s with _ | s
        · rfl
        · exfalso
          simp only [Nat.zero_mul, Addr.add, if_true, World.cell?] at hc
          split at hc
          · simp at hc
          · cases hc
      subst hs
      have := (h2 i x hi).1
      rw [add_none] at this
      exact ⟨b, o, rfl, this⟩
    · obtain ⟨i, hi, rfl⟩ := List.getElem_of_mem hx
      exact (h2 i _ (List.getElem?_eq_getElem hi)).2
end

end Go.Proofs.Ytdaojmkbjkaakaa
