/- The words of the session's own verification conditions: a condition 'codeW' computed out of a function's code and proved to be enough for the machine's run. Conditions: none. -/
import Derived.WalkKit
import Derived.Orders
import Derived.Maps.AppendAt
set_option linter.unusedVariables false
set_option linter.unusedSimpArgs false
namespace Go.Vc
open Go.RowKit

/-! ### 1. Worlds -/
/-- Blocks outside F that were there are as they were. -/
structure Step (F : Nat → Prop) (w w' : World) : Prop where
  os : w'.os = w.os
  tape : w'.tape = w.tape
  output : w'.output = w.output
  size : w.heap.size ≤ w'.heap.size
  block : ∀ k, k < w.heap.size → ¬ F k → w'.heap[k]? = w.heap[k]?

def NoB : Nat → Prop := fun _ => False
theorem Step.refl (F : Nat → Prop) (w : World) : Step F w w := ⟨rfl, rfl, rfl, Nat.le_refl _, fun _ _ _ => rfl⟩
theorem Step.trans {F G H : Nat → Prop} {a b c : World} (h : Step F a b) (k : Step G b c) (hF : ∀ i, i < a.heap.size → F i → H i) (hG : ∀ i, i < a.heap.size → G i → H i) : Step H a c :=
  ⟨k.os.trans h.os, k.tape.trans h.tape, k.output.trans h.output, Nat.le_trans h.size k.size, fun i hi hn =>
    (k.block i (Nat.lt_of_lt_of_le hi h.size) (fun g => hn (hG i hi g))).trans (h.block i hi (fun f => hn (hF i hi f)))⟩
theorem Step.mono {F G : Nat → Prop} {a b : World} (h : Step F a b) (hF : ∀ i, i < a.heap.size → F i → G i) : Step G a b :=
  ⟨h.os, h.tape, h.output, h.size, fun i hi hn => h.block i hi (fun f => hn (hF i hi f))⟩
theorem Step.both {F : Nat → Prop} {a b c : World} (h : Step F a b) (k : Step F b c) : Step F a c := h.trans k (fun _ _ f => f) (fun _ _ g => g)
/-- what a step touches from its start's size on is new: nothing that was there before -/
theorem Step.fresh {F G : Nat → Prop} {a b c : World} (h : Step F a b) (k : Step G b c) (hG : ∀ i, G i → a.heap.size ≤ i ∨ F i) : Step F a c :=
  h.trans k (fun _ _ f => f) (fun i hi g => (hG i g).elim (fun h => absurd hi (by omega)) id)
theorem Step.drew {F : Nat → Prop} {a b : World} (h : Step F a b) : Step F a b.drew := ⟨h.os, h.tape, h.output, h.size, h.block⟩
theorem Step.below {w w' : World} (h : Step NoB w w') : Below w.heap.size w w' := ⟨h.os, h.tape, h.output, h.size, fun k hk => h.block k hk id⟩
theorem Step.of_below {w w' : World} (h : Below w.heap.size w w') : Step NoB w w' := ⟨h.os, h.tape, h.output, h.size, fun k hk _ => h.block k hk⟩

/-- Block b holds just these cells. -/
def Blk (w : World) (b : Nat) (l : List Value) (e : TypeId) : Prop := w.heap[b]? = some (.cells l.toArray e (0, 0))
theorem Blk.lt {w : World} {b : Nat} {l : List Value} {e : TypeId} (h : Blk w b l e) : b < w.heap.size := (Array.getElem?_eq_some_iff.1 h).1
theorem Blk.keep {F : Nat → Prop} {w w' : World} {b : Nat} {l : List Value} {e : TypeId} (h : Blk w b l e) (s : Step F w w') (hb : ¬ F b) : Blk w' b l e := (s.block b h.lt hb).trans h
theorem Blk.cell {w : World} {b : Nat} {l : List Value} {e : TypeId} (h : Blk w b l e) {j : Nat} {v : Value} (hj : l[j]? = some v) : w.cell? ⟨b, j, none⟩ = some v := by
  unfold Blk at h
  simp [World.cell?, h, hj]
theorem Blk.frozen {w : World} {b : Nat} {l : List Value} {e : TypeId} (h : Blk w b l e) (j : Nat) (s : Option Nat) : w.frozen? ⟨b, j, s⟩ = false := by
  unfold Blk at h
  simp [World.frozen?, h]

theorem add_none (b o k : Nat) : (⟨b, o, none⟩ : Addr).add k = ⟨b, o + k, none⟩ := by unfold Addr.add; split <;> simp_all

/-- From a on lie these cells. -/
def Cells (w : World) (a : Addr) (xs : List Value) : Prop := ∀ j x, xs[j]? = some x → w.cell? (a.add j) = some x
theorem Blk.cells {w : World} {b : Nat} {l : List Value} {e : TypeId} (h : Blk w b l e) (o : Nat) (xs : List Value) (hx : ∀ j x, xs[j]? = some x → l[o + j]? = some x) : Cells w ⟨b, o, none⟩ xs := fun j x hj => by
  rw [add_none]; exact h.cell (hx j x hj)
theorem Blk.all {w : World} {b : Nat} {l : List Value} {e : TypeId} (h : Blk w b l e) : Cells w ⟨b, 0, none⟩ l := h.cells 0 l (fun j x hj => by rw [Nat.zero_add]; exact hj)

def setSeg (l : List Value) (o : Nat) : List Value → List Value
  | [] => l
  | v :: vs => setSeg (l.set o v) (o + 1) vs
theorem setSeg_length (vs : List Value) : ∀ (l : List Value) (o : Nat), (setSeg l o vs).length = l.length := by
  induction vs with
  | nil => intro l o; rfl
  | cons v vs ih => intro l o; simp [setSeg, ih]

/-- One block has been written. -/
structure Upd (w w' : World) (b : Nat) (l : List Value) (e : TypeId) : Prop where
  step : Step (fun k => k = b) w w'
  blk : Blk w' b l e
  size : w'.heap.size = w.heap.size
/-- One block is new. -/
structure New (w w' : World) (b : Nat) (l : List Value) (e : TypeId) : Prop where
  at_ : b = w.heap.size
  step : Step NoB w w'
  blk : Blk w' b l e
  size : w'.heap.size = w.heap.size + 1

theorem New.alloc (w : World) (l : List Value) (e : TypeId) : New w (w.alloc (.cells l.toArray e)) w.heap.size l e := by
  refine ⟨rfl, ⟨rfl, rfl, rfl, by simp, fun k hk _ => Below.heap_alloc _ _ _ hk⟩, ?_, by simp⟩
  show (w.heap.push _)[w.heap.size]? = _
  simp

theorem setCell_blk {w : World} {b j : Nat} {l : List Value} {e : TypeId} (h : Blk w b l e) (v : Value) : Upd w (w.setCell ⟨b, j, none⟩ v) b (l.set j v) e := by
  have hl := h.lt
  refine ⟨⟨rfl, rfl, rfl, by simp [World.setCell], fun k hk hn => Below.heap_setCell _ _ _ _ hn⟩, ?_, by simp [World.setCell]⟩
  unfold Blk at h ⊢
  simp only [World.setCell, Array.getElem?_modify, if_true, h, Option.map_some]
  simp

/-! ### 2. Kinds and shapes -/
inductive K where | i (k : IntKind) | b | s | p | sl | m | v | q
inductive Sh where | one (k : K) | agg (ks : List K) | raw (n : Nat)

def K.ex : K → (Value → Prop) → Prop
  | .i k, Φ => ∃ n : Int, Φ (.int k n)
  | .b, Φ => ∃ x : Bool, Φ (.bool x)
  | .s, Φ => ∃ x : ByteArray, Φ (.string x)
  | .p, Φ => ∃ x : Option Addr, Φ (.pointer x)
  | .sl, Φ => ∃ (x : Option Addr) (n c : Nat), Φ (.slice x n c)
  | .m, Φ => ∃ x : Option Nat, Φ (.map x)
  | .v, Φ => ∃ x : Value, Φ x
  | .q, Φ => ∃ b : Nat, Φ (.pointer (some ⟨b, 0, none⟩))
def exs : List K → (List Value → Prop) → Prop
  | [], Φ => Φ []
  | k :: ks, Φ => k.ex fun v => exs ks fun vs => Φ (v :: vs)
def Sh.ex : Sh → (Value → Prop) → Prop
  | .one k, Φ => k.ex Φ
  | .agg ks, Φ => exs ks fun vs => Φ (.agg vs.toArray)
  | .raw _, Φ => ∃ vs : List Value, Φ (.agg vs.toArray)
def Sh.exL : List Sh → (List Value → Prop) → Prop
  | [], Φ => Φ []
  | k :: ks, Φ => k.ex fun v => Sh.exL ks fun vs => Φ (v :: vs)

theorem K.ex_out {k : K} {Φ : Value → Prop} (h : k.ex Φ) : ∃ v, Φ v := by
  cases k <;> simp only [K.ex] at h <;> first
    | exact ⟨_, h.choose_spec⟩
    | (obtain ⟨x, n, c, h⟩ := h; exact ⟨_, h⟩)
theorem exs_out : ∀ {ks : List K} {Φ : List Value → Prop}, exs ks Φ → ∃ vs, vs.length = ks.length ∧ Φ vs
  | [], _, h => ⟨[], rfl, h⟩
  | k :: ks, Φ, h => by
    obtain ⟨v, h⟩ := K.ex_out h
    obtain ⟨vs, hl, h⟩ := exs_out h
    exact ⟨v :: vs, by simp [hl], h⟩
theorem Sh.ex_out {s : Sh} {Φ : Value → Prop} (h : s.ex Φ) : ∃ v, Φ v := by
  cases s with
  | one k => exact K.ex_out h
  | agg ks => obtain ⟨vs, _, h⟩ := exs_out h; exact ⟨_, h⟩
  | raw n => obtain ⟨vs, h⟩ := h; exact ⟨_, h⟩
theorem Sh.exL_out : ∀ {ss : List Sh} {Φ : List Value → Prop}, Sh.exL ss Φ → ∃ vs, Φ vs
  | [], _, h => ⟨[], h⟩
  | s :: ss, Φ, h => by
    obtain ⟨v, h⟩ := Sh.ex_out h
    obtain ⟨vs, h⟩ := Sh.exL_out h
    exact ⟨v :: vs, h⟩

def kindD : TypeDesc → K
  | .int k => .i k
  | .bool => .b
  | .string => .s
  | .pointer _ => .p
  | .slice _ => .sl
  | .map _ _ => .m
  | _ => .v
def flat (P : Program) : Nat → TypeId → Option (List K)
  | 0, _ => none
  | n + 1, t => match P.underlying t with
    | some (.struct fs) => fs.toList.foldr (fun f acc => match flat P n f.type, acc with | some a, some b => some (a ++ b) | _, _ => none) (some [])
    | some (.array _ _) => none
    | some d => some [kindD d]
    | none => none
def isAggD : TypeDesc → Bool
  | .struct _ | .array _ _ => true
  | _ => false
/-- A type's shape. -/
def shapeOf (P : Program) (t : TypeId) : Option Sh :=
  match P.info? t, P.underlying t with
  | some inf, some d =>
    bif isAggD d then
      (match flat P 8 t with
       | some ks => bif Nat.beq ks.length inf.size then some (.agg ks) else some (.raw inf.size)
       | none => some (.raw inf.size))
    else some (.one (kindD d))
  | _, _ => none
def tSize (P : Program) (t : TypeId) : Nat := match P.info? t with | some i => i.size | none => 0

/-! ### 3. Frames -/
abbrev Env := Nat → Value
def upd (ρ : Env) (t : Nat) (v : Value) : Env := fun i => bif Nat.beq i t then v else ρ i
def put (ρ : Env) (d : Option Nat) (v : Value) : Env := match d with | some t => upd ρ t v | none => ρ
def ev (ρ : Env) : Operand → Value
  | .tmp t => ρ t
  | .const v => v
  | .global g => .pointer (some ⟨g, 0, none⟩)
  | .func f => .func (.func f) #[] #[]
structure Rel (n : Nat) (a : Act) (ρ : Env) : Prop where
  size : a.tmps.size = n
  defers : a.defers = []
  at_ : ∀ i, a.tmps.getD i undef = ρ i
theorem Rel.eval {n : Nat} {a : Act} {ρ : Env} (h : Rel n a ρ) : a.eval = ev ρ := by
  funext x
  cases x with
  | tmp t => exact h.at_ t
  | _ => rfl
theorem Rel.put {n : Nat} {a : Act} {ρ : Env} (h : Rel n a ρ) (d : Option Nat) (hd : ∀ t, d = some t → t < n) (v : Value) : Rel n (a.put d v) (Vc.put ρ d v) := by
  cases d with
  | none => exact h
  | some t =>
    have ht := hd t rfl
    refine ⟨by simp [Act.put, h.size], h.defers, fun i => ?_⟩
    simp only [Act.put, Vc.put, upd]
    by_cases e : i = t
    · subst e
      have : i < a.tmps.size := by rw [h.size]; exact ht
      simp [Array.getD_eq_getD_getElem?, this]
    · have hb : Nat.beq i t = false := by
        rcases hq : Nat.beq i t with _ | _
        · rfl
        · exact absurd (Nat.eq_of_beq_eq_true hq) e
      rw [hb, cond_false, ← h.at_ i]
      simp [Array.getD_eq_getD_getElem?, Array.getElem?_setIfInBounds_ne (Ne.symm e)]

end Go.Vc
