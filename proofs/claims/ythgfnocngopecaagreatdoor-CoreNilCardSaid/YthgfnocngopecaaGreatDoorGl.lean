/- Small laws that proofs of the session's verification conditions lean on: new blocks, rows of structs, numbers. Conditions: none. -/
import Derived.Test.YthgfnocngopecaaGreatDoorGc
import Derived.IntWalk
import Derived.DeepKeys4
set_option linter.unusedVariables false
set_option linter.unusedSimpArgs false
namespace Go.Vc
open Go.RowKit

theorem w64 {e : Int} (h : -9223372036854775808 ≤ e ∧ e ≤ 9223372036854775807) : IntKind.wrap .i64 e = e := IntWalk.i64_in e h
theorem ifb_t {A B : Prop} (h : A) : ifb true A B := h
theorem ifb_f {A B : Prop} (h : B) : ifb false A B := h
theorem ifb_of {b : Bool} {A B : Prop} (hb : b = true) (h : A) : ifb b A B := by subst hb; exact h
theorem ifb_not {b : Bool} {A B : Prop} (hb : b = false) (h : B) : ifb b A B := by subst hb; exact h

theorem nilC_in {b o : Nat} {Φ : Nat → Nat → Prop} (h : Φ b o) : nilC (some ⟨b, o, none⟩) Φ := h
theorem optC_in {a : Nat} {A : Prop} {Φ : Nat → Prop} (h : Φ a) : optC (some a) A Φ := h

theorem ba_beq (a b : ByteArray) : (a == b) = decide (a = b) := by
  rw [Bool.eq_iff_iff]
  obtain ⟨a⟩ := a; obtain ⟨b⟩ := b
  show (a == b) = true ↔ _
  simp

/-! ### new blocks -/
theorem New.lt {w w' : World} {b : Nat} {l : List Value} {e : TypeId} (h : New w w' b l e) : b < w'.heap.size := by rw [h.size, h.at_]; omega
theorem New.upd {w w1 w2 : World} {b : Nat} {l l' : List Value} {e e' : TypeId} (h : New w w1 b l e) (u : Upd w1 w2 b l' e') : New w w2 b l' e' :=
  ⟨h.at_, ⟨u.step.os.trans h.step.os, u.step.tape.trans h.step.tape, u.step.output.trans h.step.output, Nat.le_trans h.step.size u.step.size, fun k hk _ => (u.step.block k (Nat.lt_of_lt_of_le hk h.step.size) (fun e => by have := h.at_; omega)).trans (h.step.block k hk id)⟩, u.blk, by rw [u.size, h.size]⟩
/-- a variable is made and filled at once -/
theorem new_set {w : World} {z l : List Value} {e : TypeId} {n : Nat} {vs : List Value} {Φ : Nat → World → Prop} (hn : 0 + n ≤ z.length) (hl : setSeg z 0 vs = l) (h : ∀ b w', New w w' b l e → Φ b w') :
    ∀ (b : Nat) (w1 : World), New w w1 b z e → ∃ (l : List Value) (e' : TypeId), Blk w1 b l e' ∧ 0 + n ≤ l.length ∧ ∀ w2 : World, Upd w1 w2 b (setSeg l 0 vs) e' → Φ b w2 :=
  fun b w1 h1 => ⟨_, _, h1.blk, hn, fun w2 h2 => h b w2 (by have := h1.upd h2; rw [hl] at this; exact this)⟩
theorem Step.new {F : Nat → Prop} {a w w' : World} {b : Nat} {l : List Value} {e : TypeId} (s : Step F a w) (h : New w w' b l e) : Step F a w' := s.fresh h.step (fun _ f => f.elim)
theorem New.ge {F : Nat → Prop} {a w w' : World} {b : Nat} {l : List Value} {e : TypeId} (h : New w w' b l e) (s : Step F a w) : a.heap.size ≤ b := by rw [h.at_]; exact s.size
theorem Step.upd {F : Nat → Prop} {a w w' : World} {b : Nat} {l : List Value} {e : TypeId} (s : Step F a w) (h : Upd w w' b l e) (hb : a.heap.size ≤ b ∨ F b) : Step F a w' := s.fresh h.step (fun i hi => by subst hi; exact hb)
theorem Step.then {F : Nat → Prop} {a b c : World} (h : Step F a b) (k : Step NoB b c) : Step F a c := h.fresh k (fun _ f => f.elim)
theorem Step.none {F : Nat → Prop} {a b : World} (h : Step NoB a b) : Step F a b := h.mono (fun _ _ f => f.elim)
theorem Blk.new {w w' : World} {b b' : Nat} {l l' : List Value} {e e' : TypeId} (h : Blk w b l e) (n : New w w' b' l' e') : Blk w' b l e := h.keep n.step id
theorem Blk.then {w w' : World} {b : Nat} {l : List Value} {e : TypeId} (h : Blk w b l e) (s : Step NoB w w') : Blk w' b l e := h.keep s id
theorem Step.block' {w w' : World} (h : Step NoB w w') {k : Nat} (hk : k < w.heap.size) : w'.heap[k]? = w.heap[k]? := h.block k hk id

theorem Step.undrew {F : Nat → Prop} {a b : World} (h : Step F a.drew b) : Step F a b := ⟨h.os, h.tape, h.output, h.size, h.block⟩
theorem New.undrew {w w' : World} {b : Nat} {l : List Value} {e : TypeId} (h : New w.drew w' b l e) : New w w' b l e := ⟨h.at_, h.step.undrew, h.blk, h.size⟩
theorem Upd.undrew {w w' : World} {b : Nat} {l : List Value} {e : TypeId} (h : Upd w.drew w' b l e) : Upd w w' b l e := ⟨h.step.undrew, h.blk, h.size⟩
theorem Wrote.undrew {w w' : World} {b : Nat} (h : Wrote w.drew w' b) : Wrote w w' b := ⟨h.step.undrew, h.size⟩
theorem NewM.undrew {w w' : World} {b : Nat} (h : NewM w.drew w' b) : NewM w w' b := ⟨h.at_, h.step.undrew, h.map, h.size⟩
theorem NewI.undrew {P : Program} {k : TypeId} {w w' : World} {b r : Nat} {es : List MapEntry} (h : NewI P k w.drew w' b r es) : NewI P k w w' b r es := ⟨h.at_, h.step.undrew, h.it, h.size⟩
theorem App.undrew {w w' : World} {A A' : Option Addr} (h : App w.drew w' A A') : App w w' A A' := ⟨h.step.undrew, h.at_⟩

/-- a part of a block -/
theorem Blk.seg {w : World} {b : Nat} {l : List Value} {e : TypeId} (h : Blk w b l e) (o n : Nat) {xs : List Value} (hx : (l.drop o).take n = xs) : Cells w ⟨b, o, none⟩ xs := h.cells o xs fun j x hj => by
  rw [← hx, List.getElem?_take] at hj
  split at hj
  · rw [List.getElem?_drop] at hj; exact hj
  · cases hj

/-! ### rows -/
/-- A slice value that owns these cells. -/
def Row (w : World) (A : Option Addr) (n c : Nat) (e : TypeId) (k : Nat) (xs : List Value) : Prop := w.ownsRow 0 e k (.slice A n c) n xs
def At (A : Option Addr) (b : Nat) : Prop := A.map (·.block) = some b
theorem at_some {b b' o : Nat} {s : Option Nat} : At (some ⟨b, o, s⟩) b' ↔ b = b' := by simp [At]
theorem at_none {b' : Nat} : ¬ At none b' := by simp [At]
theorem Row.nil (w : World) (e : TypeId) (k : Nat) : Row w none 0 0 e k [] := ⟨by simp, .inl ⟨rfl, rfl⟩⟩
theorem Row.out {w : World} {A : Option Addr} {n c : Nat} {e : TypeId} {k : Nat} {xs : List Value} (h : Row w A n c e k xs) :
    xs.length = n * k ∧ ((A = none ∧ n = 0 ∧ c = 0) ∨ ∃ b l, A = some ⟨b, 0, none⟩ ∧ Blk w b l e ∧ n ≤ c ∧ c ≤ maxLen ∧ l.length = c * k ∧ l.take (n * k) = xs) := by
  refine ⟨h.1, ?_⟩
  rcases h.2 with ⟨h1, h2⟩ | ⟨g, cap, cur, h1, h2, h3, h4, h5, h6, h7⟩
  · cases h1; exact .inl ⟨rfl, rfl, rfl⟩
  · cases h1
    exact .inr ⟨g, cur.toList, rfl, by unfold Blk; rw [h3], h4, h5, by simpa using h6, h7⟩
theorem Row.mk' {w : World} {b n c : Nat} {e : TypeId} {k : Nat} {l : List Value} (h : Blk w b l e) (hn : n ≤ c) (hc : c ≤ maxLen) (hl : l.length = c * k) : Row w (some ⟨b, 0, none⟩) n c e k (l.take (n * k)) :=
  ⟨by rw [List.length_take, hl]; exact Nat.min_eq_left (Nat.mul_le_mul_right k hn), .inr ⟨b, c, l.toArray, rfl, Nat.zero_le _, h, hn, hc, by simpa using hl, rfl⟩⟩
theorem Row.whole {w : World} {b n : Nat} {e : TypeId} {k : Nat} {l : List Value} (h : Blk w b l e) (hc : n ≤ maxLen) (hl : l.length = n * k) : Row w (some ⟨b, 0, none⟩) n n e k l := by
  have := Row.mk' (n := n) h (Nat.le_refl n) hc hl
  rwa [List.take_of_length_le (by omega)] at this
theorem Row.lt {w : World} {A : Option Addr} {n c : Nat} {e : TypeId} {k : Nat} {xs : List Value} (h : Row w A n c e k xs) {b : Nat} (hb : At A b) : b < w.heap.size := by
  rcases h.out.2 with ⟨rfl, _⟩ | ⟨b', l, rfl, hB, _⟩
  · exact absurd hb at_none
  · rw [at_some] at hb; subst hb; exact hB.lt
theorem Row.keep {F : Nat → Prop} {w w' : World} {A : Option Addr} {n c : Nat} {e : TypeId} {k : Nat} {xs : List Value} (h : Row w A n c e k xs) (s : Step F w w') (hF : ∀ b, At A b → ¬ F b) : Row w' A n c e k xs := by
  refine ⟨h.1, ?_⟩
  rcases h.2 with h1 | ⟨g, cap, cur, h1, h2, h3, h4⟩
  · exact .inl h1
  · cases h1
    refine .inr ⟨g, _, cur, rfl, h2, ?_, h4⟩
    rw [s.block g (Array.getElem?_eq_some_iff.1 h3).1 (hF g rfl)]; exact h3
theorem Row.then {w w' : World} {A : Option Addr} {n c : Nat} {e : TypeId} {k : Nat} {xs : List Value} (h : Row w A n c e k xs) (s : Step NoB w w') : Row w' A n c e k xs := h.keep s (fun _ _ => id)
theorem Row.le {w : World} {A : Option Addr} {n c : Nat} {e : TypeId} {k : Nat} {xs : List Value} (h : Row w A n c e k xs) : n ≤ c ∧ c ≤ 9223372036854775807 := by
  rcases h.out.2 with ⟨_, rfl, rfl⟩ | ⟨b, l, _, _, h1, h2, _⟩
  · omega
  · exact ⟨h1, h2⟩
/-- an element of a row -/
theorem Row.cells {w : World} {A : Option Addr} {n c : Nat} {e : TypeId} {k : Nat} {xs : List Value} (h : Row w A n c e k xs) {i : Nat} (hi : i < n) : ∃ b, A = some ⟨b, 0, none⟩ ∧ ∀ ys : List Value, (∀ j v, ys[j]? = some v → xs[i * k + j]? = some v) → Cells w ⟨b, 0 + i * k, none⟩ ys := by
  rcases h.out.2 with ⟨_, h0, _⟩ | ⟨b, l, rfl, hB, _, _, _, hx⟩
  · omega
  · refine ⟨b, rfl, fun ys hy => hB.cells _ _ fun j v hj => ?_⟩
    have := hy j v hj
    rw [← hx, List.getElem?_take] at this
    split at this
    · rw [Nat.zero_add]; exact this
    · cases this

section
variable {α : Type} (f : α → List Value) (k : Nat) (hf : ∀ x, (f x).length = k)
include hf
theorem flat_length (l : List α) : (l.flatMap f).length = l.length * k := by
  induction l with
  | nil => simp
  | cons x l ih => simp [List.flatMap_cons, ih, hf, Nat.succ_mul, Nat.add_comm]
theorem flat_get {l : List α} {i : Nat} {x : α} (hi : l[i]? = some x) : ∀ j v, (f x)[j]? = some v → (l.flatMap f)[i * k + j]? = some v := by
  induction l generalizing i with
  | nil => cases hi
  | cons y l ih =>
    intro j v hj
    cases i with
    | zero =>
      simp only [List.getElem?_cons_zero, Option.some.injEq] at hi
      subst hi
      rw [List.flatMap_cons, Nat.zero_mul, Nat.zero_add, List.getElem?_append_left (List.getElem?_eq_some_iff.1 hj).1]; exact hj
    | succ i =>
      rw [List.flatMap_cons, List.getElem?_append_right (by rw [hf, Nat.succ_mul]; omega), hf]
      have := ih (i := i) (by simpa using hi) j v hj
      rw [show (i + 1) * k + j - k = i * k + j by rw [Nat.succ_mul]; omega]; exact this
theorem flat_set {l : List α} {i : Nat} {x x' : α} (hi : l[i]? = some x) {j : Nat} {v : Value} (hj : j < k) (hx : f x' = (f x).set j v) : (l.flatMap f).set (i * k + j) v = (l.set i x').flatMap f := by
  induction l generalizing i with
  | nil => cases hi
  | cons y l ih =>
    cases i with
    | zero =>
      simp only [List.getElem?_cons_zero, Option.some.injEq] at hi
      subst hi
      rw [List.flatMap_cons, Nat.zero_mul, Nat.zero_add, List.set_append_left _ _ (by rw [hf]; exact hj), List.set_cons_zero, List.flatMap_cons, hx]
    | succ i =>
      rw [List.flatMap_cons, List.set_append_right _ _ (by rw [hf, Nat.succ_mul]; omega), hf, show (i + 1) * k + j - k = i * k + j by rw [Nat.succ_mul]; omega, ih (i := i) (by simpa using hi), List.set_cons_succ, List.flatMap_cons]
theorem Row.elem {w : World} {A : Option Addr} {n c : Nat} {e : TypeId} {l : List α} (h : Row w A n c e k (l.flatMap f)) {i : Nat} {x : α} (hi : l[i]? = some x) (hn : i < n) : ∃ b, A = some ⟨b, 0, none⟩ ∧ Cells w ⟨b, 0 + i * k, none⟩ (f x) := by
  obtain ⟨b, hb, h⟩ := h.cells hn
  exact ⟨b, hb, h _ (flat_get f k hf hi)⟩
theorem Row.len {w : World} {A : Option Addr} {n c : Nat} {e : TypeId} {l : List α} (h : Row w A n c e k (l.flatMap f)) (hk : 0 < k) : n = l.length := by
  have := h.1
  rw [flat_length f k hf] at this
  exact (Nat.eq_of_mul_eq_mul_right hk this).symm
end

theorem reads_blk {w : World} {b : Nat} {l : List Value} {e : TypeId} (h : Blk w b l e) {k : Nat} (hk : l.length = k) (h1 : ∀ v ∈ l, v.oneCell' = true) : Reads w (some ⟨b, 0, none⟩) 1 k l :=
  ⟨by rw [hk, Nat.one_mul], h1, fun _ => ⟨_, rfl, h.all⟩⟩
theorem App.new {F : Nat → Prop} {a w w' : World} {A A' : Option Addr} (s : Step F a w) (h : App w w' A A') (hA : ∀ b, At A b → a.heap.size ≤ b ∨ F b) : Step F a w' := s.fresh h.step hA
theorem App.at' {a w w' : World} {F : Nat → Prop} {A A' : Option Addr} (s : Step F a w) (h : App w w' A A') (hA : ∀ b, At A b → a.heap.size ≤ b) : ∀ b, At A' b → a.heap.size ≤ b := by
  intro b hb
  rcases h.at_ with h1 | h1
  · exact hA b (h1.symm.trans hb)
  · rw [At, h1] at hb; cases hb; exact s.size

/-! ### an element is written -/
theorem setSeg_left : ∀ (vs a b : List Value) (o : Nat), o + vs.length ≤ a.length → setSeg (a ++ b) o vs = setSeg a o vs ++ b
  | [], a, b, o, _ => rfl
  | v :: vs, a, b, o, h => by
    simp only [List.length_cons] at h
    rw [setSeg, setSeg, List.set_append_left _ _ (by omega), setSeg_left vs _ b (o + 1) (by simp; omega)]
theorem setSeg_right : ∀ (vs a b : List Value) (o : Nat), setSeg (a ++ b) (a.length + o) vs = a ++ setSeg b o vs
  | [], a, b, o => rfl
  | v :: vs, a, b, o => by
    rw [setSeg, setSeg, List.set_append_right _ _ (by omega), show a.length + o - a.length = o by omega, show a.length + o + 1 = a.length + (o + 1) by omega, setSeg_right vs a _ (o + 1)]
theorem setSeg_whole : ∀ (vs a : List Value), vs.length = a.length → setSeg a 0 vs = vs := by
  have key : ∀ (vs p a : List Value), vs.length = a.length → setSeg (p ++ a) p.length vs = p ++ vs := by
    intro vs
    induction vs with
    | nil => intro p a h; rw [List.eq_nil_of_length_eq_zero (l := a) (by simpa using h.symm)]; rfl
    | cons v vs ih =>
      intro p a h
      cases a with
      | nil => cases h
      | cons x a =>
        rw [setSeg, List.set_append_right _ _ (Nat.le_refl _), Nat.sub_self, List.set_cons_zero]
        have := ih (p ++ [v]) a (by simpa using h)
        simpa using this
  intro vs a h
  exact key vs [] a h
theorem setSeg_take : ∀ (vs l : List Value) (o n : Nat), (setSeg l o vs).take n = setSeg (l.take n) o vs
  | [], _, _, _ => rfl
  | v :: vs, l, o, n => by rw [setSeg, setSeg, setSeg_take vs, List.take_set]
theorem flat_setSeg {α : Type} (f : α → List Value) (k : Nat) (hf : ∀ x, (f x).length = k) {l : List α} {i : Nat} {x : α} (hi : i < l.length) : setSeg (l.flatMap f) (i * k) (f x) = (l.set i x).flatMap f := by
  induction l generalizing i with
  | nil => cases hi
  | cons y l ih =>
    cases i with
    | zero => rw [List.flatMap_cons, Nat.zero_mul, setSeg_left _ _ _ _ (by rw [hf, hf]; omega), setSeg_whole _ _ (by rw [hf, hf]), List.set_cons_zero, List.flatMap_cons]
    | succ i =>
      have e : (i + 1) * k = (f y).length + i * k := by rw [hf, Nat.succ_mul]; omega
      rw [List.flatMap_cons, e, setSeg_right, ih (by simpa using hi), List.set_cons_succ, List.flatMap_cons]
theorem Row.write {α : Type} (f : α → List Value) (k : Nat) (hf : ∀ x, (f x).length = k) {w : World} {A : Option Addr} {n c : Nat} {e : TypeId} {l : List α} (h : Row w A n c e k (l.flatMap f)) (hl : n = l.length) {i : Nat} (hi : i < n) (x : α) :
    ∃ b cells, A = some ⟨b, 0, none⟩ ∧ Blk w b cells e ∧ 0 + i * k + (f x).length ≤ cells.length ∧ ∀ w', Upd w w' b (setSeg cells (0 + i * k) (f x)) e → Row w' A n c e k ((l.set i x).flatMap f) ∧ Step (At A) w w' := by
  rcases h.out.2 with ⟨_, h0, _⟩ | ⟨b, cells, rfl, hB, hn, hc, hlen, hx⟩
  · omega
  · have hle : (i + 1) * k ≤ c * k := Nat.mul_le_mul_right k (by omega)
    rw [Nat.succ_mul] at hle
    refine ⟨b, cells, rfl, hB, by rw [hf, hlen]; omega, fun w' hu => ⟨?_, hu.step.mono fun j _ hj => by rw [at_some]; exact hj.symm⟩⟩
    have := Row.mk' (n := n) (c := c) (k := k) hu.blk hn hc (by rw [setSeg_length]; exact hlen)
    rw [setSeg_take, hx, Nat.zero_add, flat_setSeg f k hf (by omega)] at this
    exact this

/-! ### maps -/
theorem MapAt.keep {P : Program} {k : TypeId} {F : Nat → Prop} {w w' : World} {r : Nat} {es : List MapEntry} (h : MapAt P k w r es) (s : Step F w w') (hF : ¬ F r) : MapAt P k w' r es := by
  obtain ⟨clk, h1, h2⟩ := h
  exact ⟨clk, by rw [s.block r (Array.getElem?_eq_some_iff.1 h1).1 hF]; exact h1, h2⟩
theorem MapAt.lt {P : Program} {k : TypeId} {w : World} {r : Nat} {es : List MapEntry} (h : MapAt P k w r es) : r < w.heap.size := by
  obtain ⟨clk, h1, h2⟩ := h
  exact (Array.getElem?_eq_some_iff.1 h1).1
theorem MapAt.ne_blk {P : Program} {k : TypeId} {w : World} {r b : Nat} {es : List MapEntry} {l : List Value} {e : TypeId} (h : MapAt P k w r es) (hB : Blk w b l e) : r ≠ b := by
  rintro rfl
  obtain ⟨clk, h1, h2⟩ := h
  unfold Blk at hB
  rw [h1] at hB; cases hB
theorem MapAt.uniq {P : Program} {k : TypeId} {w : World} {r : Nat} {es : List MapEntry} (h : MapAt P k w r es) : es.Pairwise (fun a b => a.key ≠ b.key) := by
  obtain ⟨clk, h1, h2⟩ := h
  exact h2.2.1
theorem key_uniq {es : List MapEntry} (h : es.Pairwise (fun a b => a.key ≠ b.key)) {x y : MapEntry} (hx : x ∈ es) (hy : y ∈ es) (he : x.key = y.key) : x = y := by
  induction es with
  | nil => cases hx
  | cons z es ih =>
    rw [List.pairwise_cons] at h
    rcases List.mem_cons.1 hx with hx' | hx' <;> rcases List.mem_cons.1 hy with hy' | hy'
    · rw [hx', hy']
    · subst hx'; exact absurd he (h.1 y hy')
    · subst hy'; exact absurd he.symm (h.1 x hx')
    · exact ih h.2 hx' hy'
theorem Step.wrote {F : Nat → Prop} {a w w' : World} {b : Nat} (s : Step F a w) (h : Wrote w w' b) (hb : a.heap.size ≤ b ∨ F b) : Step F a w' := s.fresh h.step (fun i hi => by subst hi; exact hb)
theorem Step.newM {F : Nat → Prop} {a w w' : World} {b : Nat} (s : Step F a w) (h : NewM w w' b) : Step F a w' := s.then h.step
theorem Step.newI {F : Nat → Prop} {P : Program} {k : TypeId} {a w w' : World} {b r : Nat} {es : List MapEntry} (s : Step F a w) (h : NewI P k w w' b r es) : Step F a w' := s.then h.step

/-! ### going over maps -/
/-- how many entries are still to come -/
def itLeft (w : World) (it : Nat) : Nat := match w.heap[it]? with
  | some (.mapIter (some r) _ seen _) => (match w.heap[r]? with
    | some (.map es _) => (es.toList.filter fun e => !seen.contains e.born).length
    | _ => 0)
  | _ => 0
theorem IterAt.count {P : Program} {k : TypeId} {w : World} {it r : Nat} {es left : List MapEntry} {cur : Option MapEntry} (h : IterAt P k w it r es left cur) : itLeft w it = left.length := by
  obtain ⟨clk, seen, last, h1, h2, h3, h4, h5, h6⟩ := h
  unfold itLeft
  rw [h1]; simp only; rw [h2, h4]
theorem IterAt.keep {P : Program} {k : TypeId} {F : Nat → Prop} {w w' : World} {it r : Nat} {es left : List MapEntry} {cur : Option MapEntry} (h : IterAt P k w it r es left cur) (s : Step F w w') (hi : ¬ F it) (hr : ¬ F r) : IterAt P k w' it r es left cur := by
  obtain ⟨clk, seen, last, h1, h2, h3⟩ := h
  exact ⟨clk, seen, last, by rw [s.block it (Array.getElem?_eq_some_iff.1 h1).1 hi]; exact h1, by rw [s.block r (Array.getElem?_eq_some_iff.1 h2).1 hr]; exact h2, h3⟩
theorem IterAt.then {P : Program} {k : TypeId} {w w' : World} {it r : Nat} {es left : List MapEntry} {cur : Option MapEntry} (h : IterAt P k w it r es left cur) (s : Step NoB w w') : IterAt P k w' it r es left cur := h.keep s id id
theorem IterAt.lt {P : Program} {k : TypeId} {w : World} {it r : Nat} {es left : List MapEntry} {cur : Option MapEntry} (h : IterAt P k w it r es left cur) : it < w.heap.size := by
  obtain ⟨clk, seen, last, h1, h2, h3⟩ := h
  exact (Array.getElem?_eq_some_iff.1 h1).1
theorem IterAt.ne_row {P : Program} {k : TypeId} {w : World} {it r : Nat} {es left : List MapEntry} {cur : Option MapEntry} (h : IterAt P k w it r es left cur) {A : Option Addr} {n c : Nat} {e : TypeId} {m : Nat} {xs : List Value} (hR : Row w A n c e m xs) : ¬ At A it ∧ ¬ At A r := by
  obtain ⟨clk, seen, last, h1, h2, h3⟩ := h
  rcases hR.out.2 with ⟨rfl, _⟩ | ⟨b, l, rfl, hB, _⟩
  · exact ⟨at_none, at_none⟩
  · rw [at_some, at_some]
    unfold Blk at hB
    constructor
    · rintro rfl; rw [hB] at h1; cases h1
    · rintro rfl; rw [hB] at h2; cases h2

end Go.Vc
