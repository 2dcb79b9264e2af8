/- An act of chapter 15, opened: what it looks like when it came in by value. Conditions: none. -/
import Derived.Test.YtdaojmkbjkaakaaDoorNa
import Derived.Deep.Slices
import Derived.ProofKit
set_option linter.unusedVariables false
set_option linter.unusedSimpArgs false
namespace Go.Proofs.YtdaojmkbjkaakaaDoor
open Go.Vc Go.RowKit Go.ChangeShapes Go.WideShapes

abbrev tAct15 : TypeId := 36
section
variable {H : Type} {enc : TypeId × Value → H} {P : Program} {w : World} {base : Nat} {spare : Nat → Bool} {held : Bool}
theorem trod_field {t : TypeId} {fs : Array Field} {fuel : Nat} {cs : List Value} {x : DataW H × List MemPlace} (ht : P.underlying t = some (.struct fs)) (h : DataW.trod enc P w base spare held fuel t cs = some x) :
    cs.length = P.cellsOf t ∧ ∀ (i : Nat) (ti : TypeId) (oi ci : Nat), (fs[i]?).map (fun f => (f.type, f.offset, P.cellsOf f.type)) = some (ti, oi, ci) → ∃ m y, DataW.trod enc P w base spare held m ti ((cs.drop oi).take ci) = some y := by
  obtain ⟨xs, n, _, rfl, hl, hlen, hf⟩ := DataW.trod_struct ht h
  refine ⟨hl, fun i ti oi ci hi => ?_⟩
  rcases hfi : fs[i]? with _ | f
  · rw [hfi] at hi; cases hi
  · rw [hfi] at hi
    cases hi
    have := hf i f hfi
    have hil : i < xs.length := by rw [hlen]; exact (Array.getElem?_eq_some_iff.1 hfi).1
    rw [List.getElem?_eq_getElem hil] at this
    exact ⟨n, _, this⟩
/-- a slice's one cell -/
theorem trod_slice1 {t e : TypeId} {fuel : Nat} {c : Value} {x : DataW H × List MemPlace} (ht : P.underlying t = some (.slice e)) (h : DataW.trod enc P w base spare held fuel t [c] = some x) : ∃ A n cap, c = .slice A n cap := by
  rcases Go.Deep.open_slice ht h with ⟨hcs, _⟩ | ⟨a, l, cp, m, k, D, Pl, hcs, _⟩
  · simp only [List.cons.injEq, and_true] at hcs; exact ⟨_, _, _, hcs⟩
  · simp only [List.cons.injEq, and_true] at hcs; exact ⟨_, _, _, hcs⟩
end
set_option maxRecDepth 100000 in
theorem open_act15 {H : Type} {enc : TypeId × Value → H} {w : World} {base b0 : Nat} {spare : Nat → Bool} {held : Bool} {v : Value} {d : DataW H} {ps : List MemPlace} (hv : Value.okWide Tryd.prog w .any b0 tAct15 v) (h : DataW.Trod enc Tryd.prog w base spare held tAct15 v d ps) :
    ∃ x : ByteArray × Option Addr × Nat × Nat × Int × Int × Int × Int × Int × Int × Int × Bool, v = .agg #[.string x.1, .slice x.2.1 x.2.2.1 x.2.2.2.1, .int .i64 x.2.2.2.2.1, .int .u8 x.2.2.2.2.2.1, .int .i64 x.2.2.2.2.2.2.1, .int .u8 x.2.2.2.2.2.2.2.1, .int .i64 x.2.2.2.2.2.2.2.2.1, .int .i64 x.2.2.2.2.2.2.2.2.2.1, .int .i64 x.2.2.2.2.2.2.2.2.2.2.1, .bool x.2.2.2.2.2.2.2.2.2.2.2] ∧ True := by
  have ht : Tryd.prog.underlying tAct15 = some (.struct (Tryd.prog.fieldsOf tAct15)) := by kernel_rfl
  obtain ⟨cs, rfl, hsz⟩ := okWide_struct ht hv
  obtain ⟨fuel, hf⟩ := h
  obtain ⟨l⟩ := cs
  replace hf : DataW.trod enc Tryd.prog w base spare held fuel tAct15 l = some (d, ps) := hf
  obtain ⟨hl, hf⟩ := trod_field (fs := Tryd.prog.fieldsOf tAct15) (by kernel_rfl) hf
  rw [show Tryd.prog.cellsOf tAct15 = 10 by kernel_rfl] at hl
  obtain ⟨_, _, f0⟩ := hf 0 32 0 2 (by kernel_rfl)
  obtain ⟨_, _, f1⟩ := hf 1 3 2 1 (by kernel_rfl)
  obtain ⟨_, _, f2⟩ := hf 2 34 3 6 (by kernel_rfl)
  obtain ⟨_, _, f3⟩ := hf 3 4 9 1 (by kernel_rfl)
  match l, hl with
  | [c0, c1, c2, c3, c4, c5, c6, c7, c8, c9], _ =>
    simp only [List.drop, List.take] at f0 f1 f2 f3
    obtain ⟨_, g⟩ := trod_field (fs := Tryd.prog.fieldsOf 32) (by kernel_rfl) f0
    obtain ⟨_, _, g0⟩ := g 0 9 0 1 (by kernel_rfl)
    obtain ⟨_, _, g1⟩ := g 1 30 1 1 (by kernel_rfl)
    obtain ⟨_, q⟩ := trod_field (fs := Tryd.prog.fieldsOf 34) (by kernel_rfl) f2
    obtain ⟨_, _, q0⟩ := q 0 5 0 1 (by kernel_rfl)
    obtain ⟨_, _, q1⟩ := q 1 3 1 1 (by kernel_rfl)
    obtain ⟨_, _, q2⟩ := q 2 5 2 1 (by kernel_rfl)
    obtain ⟨_, _, q3⟩ := q 3 2 3 1 (by kernel_rfl)
    obtain ⟨_, _, q4⟩ := q 4 3 4 1 (by kernel_rfl)
    obtain ⟨_, _, q5⟩ := q 5 3 5 1 (by kernel_rfl)
    simp only [List.drop, List.take] at g0 g1 q0 q1 q2 q3 q4 q5
    obtain ⟨s, e0, _, _⟩ := DataW.trod_string (by kernel_rfl) g0
    obtain ⟨A, n, cap, e1⟩ := trod_slice1 (e := 3) (by kernel_rfl) g1
    obtain ⟨n2, e2, _, _⟩ := DataW.trod_int (k := .i64) (by kernel_rfl) f1
    obtain ⟨n3, e3, _, _⟩ := DataW.trod_int (k := .u8) (by kernel_rfl) q0
    obtain ⟨n4, e4, _, _⟩ := DataW.trod_int (k := .i64) (by kernel_rfl) q1
    obtain ⟨n5, e5, _, _⟩ := DataW.trod_int (k := .u8) (by kernel_rfl) q2
    obtain ⟨n6, e6, _, _⟩ := DataW.trod_int (k := .i64) (by kernel_rfl) q3
    obtain ⟨n7, e7, _, _⟩ := DataW.trod_int (k := .i64) (by kernel_rfl) q4
    obtain ⟨n8, e8, _, _⟩ := DataW.trod_int (k := .i64) (by kernel_rfl) q5
    obtain ⟨t, e9, _⟩ := DataW.trod_bool (by kernel_rfl) f3
    simp only [List.cons.injEq, and_true] at e0 e2 e3 e4 e5 e6 e7 e8 e9
    subst e0 e1 e2 e3 e4 e5 e6 e7 e8 e9
    exact ⟨(s, A, n, cap, n2, n3, n4, n5, n6, n7, n8, t), rfl, trivial⟩

end Go.Proofs.YtdaojmkbjkaakaaDoor
