/- An act of chapter 17, opened: what it looks like when it came in by value. Conditions: none. -/
import Derived.Test.YthgfnocngopecaaGreatDoorOa
import Derived.Deep.Slices
import Derived.ProofKit
set_option linter.unusedVariables false
set_option linter.unusedSimpArgs false
namespace Go.Proofs.YthgfnocngopecaaGreatDoor
open Go.Vc Go.RowKit Go.ChangeShapes Go.WideShapes

abbrev tAct17 : TypeId := 67
section
variable {H : Type} {enc : TypeId × Value → H} {P : Program} {w : World} {base : Nat} {spare : Nat → Bool} {held : Bool}
theorem trod_field {t : TypeId} {fs : Array Field} {fuel : Nat} {cs : List Value} {x : DataW H × List MemPlace} (ht : P.underlying t = some (.struct fs)) (h : DataW.trod enc P w base spare held fuel t cs = some x) :
    cs.length = P.cellsOf t ∧ ∀ (i : Nat) (ti : TypeId) (oi ci : Nat), (fs[i]?).map (fun f => (f.type, f.offset, P.cellsOf f.type)) = some (ti, oi, ci) → ∃ m y, DataW.trod enc P w base spare held m ti ((cs.drop oi).take ci) = some y := by
  obtain ⟨xs, n, _, rfl, hl, hlen, hf⟩ := DataW.trod_struct ht h
  refine ⟨hl, fun i ti oi ci hi => ?_⟩
  rcases hfi : fs[i]? with _ | f
  · rw [hfi] at hi; cases hi
  · rw [hfi] at hi
    cases hi
    have := hf i f hfi
    have hil : i < xs.length := by rw [hlen]; exact (Array.getElem?_eq_some_iff.1 hfi).1
    rw [List.getElem?_eq_getElem hil] at this
    exact ⟨n, _, this⟩
/-- a slice's one cell -/
theorem trod_slice1 {t e : TypeId} {fuel : Nat} {c : Value} {x : DataW H × List MemPlace} (ht : P.underlying t = some (.slice e)) (h : DataW.trod enc P w base spare held fuel t [c] = some x) : ∃ A n cap, c = .slice A n cap := by
  rcases Go.Deep.open_slice ht h with ⟨hcs, _⟩ | ⟨a, l, cp, m, k, D, Pl, hcs, _⟩
  · simp only [List.cons.injEq, and_true] at hcs; exact ⟨_, _, _, hcs⟩
  · simp only [List.cons.injEq, and_true] at hcs; exact ⟨_, _, _, hcs⟩
end
set_option maxRecDepth 100000 in
set_option maxHeartbeats 1000000 in
theorem open_act17 {H : Type} {enc : TypeId × Value → H} {w : World} {base b0 : Nat} {spare : Nat → Bool} {held : Bool} {v : Value} {d : DataW H} {ps : List MemPlace} (hv : Value.okWide Tryz.prog w .any b0 tAct17 v) (h : DataW.Trod enc Tryz.prog w base spare held tAct17 v d ps) :
    ∃ x : Int × Int × Int × Int × Int × Int × Int × Int × Int × Int × Option Addr × Nat × Nat × Int × Int × Int × Int × Int × Int × Int × Int × Int, v = .agg #[.int .u8 x.1, .int .i64 x.2.1, .int .u8 x.2.2.1, .int .i64 x.2.2.2.1, .int .i64 x.2.2.2.2.1, .int .i64 x.2.2.2.2.2.1, .int .i64 x.2.2.2.2.2.2.1, .int .i64 x.2.2.2.2.2.2.2.1, .int .i64 x.2.2.2.2.2.2.2.2.1, .int .u8 x.2.2.2.2.2.2.2.2.2.1, .slice x.2.2.2.2.2.2.2.2.2.2.1 x.2.2.2.2.2.2.2.2.2.2.2.1 x.2.2.2.2.2.2.2.2.2.2.2.2.1, .int .i64 x.2.2.2.2.2.2.2.2.2.2.2.2.2.1, .int .i64 x.2.2.2.2.2.2.2.2.2.2.2.2.2.2.1, .int .i64 x.2.2.2.2.2.2.2.2.2.2.2.2.2.2.2.1, .int .u8 x.2.2.2.2.2.2.2.2.2.2.2.2.2.2.2.2.1, .int .i64 x.2.2.2.2.2.2.2.2.2.2.2.2.2.2.2.2.2.1, .int .i64 x.2.2.2.2.2.2.2.2.2.2.2.2.2.2.2.2.2.2.1, .int .i64 x.2.2.2.2.2.2.2.2.2.2.2.2.2.2.2.2.2.2.2.1, .int .i64 x.2.2.2.2.2.2.2.2.2.2.2.2.2.2.2.2.2.2.2.2.1, .int .i64 x.2.2.2.2.2.2.2.2.2.2.2.2.2.2.2.2.2.2.2.2.2] ∧ True := by
  have ht : Tryz.prog.underlying tAct17 = some (.struct (Tryz.prog.fieldsOf tAct17)) := by kernel_rfl
  obtain ⟨cs, rfl, hsz⟩ := okWide_struct ht hv
  obtain ⟨fuel, hf⟩ := h
  obtain ⟨l⟩ := cs
  replace hf : DataW.trod enc Tryz.prog w base spare held fuel tAct17 l = some (d, ps) := hf
  obtain ⟨hl, hf⟩ := trod_field (fs := Tryz.prog.fieldsOf tAct17) (by kernel_rfl) hf
  rw [show Tryz.prog.cellsOf tAct17 = 20 by kernel_rfl] at hl
  obtain ⟨_, _, f0⟩ := hf 0 5 0 1 (by kernel_rfl)
  obtain ⟨_, _, f1⟩ := hf 1 3 1 1 (by kernel_rfl)
  obtain ⟨_, _, f2⟩ := hf 2 46 2 11 (by kernel_rfl)
  obtain ⟨_, _, f3⟩ := hf 3 3 13 1 (by kernel_rfl)
  obtain ⟨_, _, f4⟩ := hf 4 65 14 6 (by kernel_rfl)
  match l, hl with
  | [c0, c1, c2, c3, c4, c5, c6, c7, c8, c9, c10, c11, c12, c13, c14, c15, c16, c17, c18, c19], _ =>
    simp only [List.drop, List.take] at f0 f1 f2 f3 f4
    obtain ⟨_, q⟩ := trod_field (fs := Tryz.prog.fieldsOf 46) (by kernel_rfl) f2
    obtain ⟨_, _, q0⟩ := q 0 5 0 1 (by kernel_rfl)
    obtain ⟨_, _, q1⟩ := q 1 3 1 1 (by kernel_rfl)
    obtain ⟨_, _, q2⟩ := q 2 3 2 1 (by kernel_rfl)
    obtain ⟨_, _, q3⟩ := q 3 3 3 1 (by kernel_rfl)
    obtain ⟨_, _, q4⟩ := q 4 2 4 1 (by kernel_rfl)
    obtain ⟨_, _, q5⟩ := q 5 3 5 1 (by kernel_rfl)
    obtain ⟨_, _, q6⟩ := q 6 3 6 1 (by kernel_rfl)
    obtain ⟨_, _, q7⟩ := q 7 5 7 1 (by kernel_rfl)
    obtain ⟨_, _, q8⟩ := q 8 38 8 1 (by kernel_rfl)
    obtain ⟨_, _, q9⟩ := q 9 3 9 1 (by kernel_rfl)
    obtain ⟨_, _, q10⟩ := q 10 3 10 1 (by kernel_rfl)
    obtain ⟨_, p⟩ := trod_field (fs := Tryz.prog.fieldsOf 65) (by kernel_rfl) f4
    obtain ⟨_, _, p0⟩ := p 0 5 0 1 (by kernel_rfl)
    obtain ⟨_, _, p1⟩ := p 1 3 1 1 (by kernel_rfl)
    obtain ⟨_, _, p2⟩ := p 2 3 2 1 (by kernel_rfl)
    obtain ⟨_, _, p3⟩ := p 3 3 3 1 (by kernel_rfl)
    obtain ⟨_, _, p4⟩ := p 4 3 4 1 (by kernel_rfl)
    obtain ⟨_, _, p5⟩ := p 5 3 5 1 (by kernel_rfl)
    simp only [List.drop, List.take] at q0 q1 q2 q3 q4 q5 q6 q7 q8 q9 q10 p0 p1 p2 p3 p4 p5
    obtain ⟨n0, e0, _, _⟩ := DataW.trod_int (k := .u8) (by kernel_rfl) f0
    obtain ⟨n1, e1, _, _⟩ := DataW.trod_int (k := .i64) (by kernel_rfl) f1
    obtain ⟨n2, e2, _, _⟩ := DataW.trod_int (k := .u8) (by kernel_rfl) q0
    obtain ⟨n3, e3, _, _⟩ := DataW.trod_int (k := .i64) (by kernel_rfl) q1
    obtain ⟨n4, e4, _, _⟩ := DataW.trod_int (k := .i64) (by kernel_rfl) q2
    obtain ⟨n5, e5, _, _⟩ := DataW.trod_int (k := .i64) (by kernel_rfl) q3
    obtain ⟨n6, e6, _, _⟩ := DataW.trod_int (k := .i64) (by kernel_rfl) q4
    obtain ⟨n7, e7, _, _⟩ := DataW.trod_int (k := .i64) (by kernel_rfl) q5
    obtain ⟨n8, e8, _, _⟩ := DataW.trod_int (k := .i64) (by kernel_rfl) q6
    obtain ⟨n9, e9, _, _⟩ := DataW.trod_int (k := .u8) (by kernel_rfl) q7
    obtain ⟨A, n, cap, e10⟩ := trod_slice1 (e := 3) (by kernel_rfl) q8
    obtain ⟨n11, e11, _, _⟩ := DataW.trod_int (k := .i64) (by kernel_rfl) q9
    obtain ⟨n12, e12, _, _⟩ := DataW.trod_int (k := .i64) (by kernel_rfl) q10
    obtain ⟨n13, e13, _, _⟩ := DataW.trod_int (k := .i64) (by kernel_rfl) f3
    obtain ⟨n14, e14, _, _⟩ := DataW.trod_int (k := .u8) (by kernel_rfl) p0
    obtain ⟨n15, e15, _, _⟩ := DataW.trod_int (k := .i64) (by kernel_rfl) p1
    obtain ⟨n16, e16, _, _⟩ := DataW.trod_int (k := .i64) (by kernel_rfl) p2
    obtain ⟨n17, e17, _, _⟩ := DataW.trod_int (k := .i64) (by kernel_rfl) p3
    obtain ⟨n18, e18, _, _⟩ := DataW.trod_int (k := .i64) (by kernel_rfl) p4
    obtain ⟨n19, e19, _, _⟩ := DataW.trod_int (k := .i64) (by kernel_rfl) p5
    simp only [List.cons.injEq, and_true] at e0 e1 e2 e3 e4 e5 e6 e7 e8 e9 e11 e12 e13 e14 e15 e16 e17 e18 e19
    subst e0 e1 e2 e3 e4 e5 e6 e7 e8 e9 e10 e11 e12 e13 e14 e15 e16 e17 e18 e19
    exact ⟨(n0, n1, n2, n3, n4, n5, n6, n7, n8, n9, A, n, cap, n11, n12, n13, n14, n15, n16, n17, n18, n19), rfl, trivial⟩

end Go.Proofs.YthgfnocngopecaaGreatDoor
