/- The session's verification conditions, part 2: what each operation needs ('opW'), and that it is enough. Conditions: none. -/
import Derived.Test.YthgfnocngopecaaGreatDoorGw
import Derived.Maps.Keyed
set_option linter.unusedVariables false
set_option linter.unusedSimpArgs false
namespace Go.Vc
open Go.RowKit

def ifb (b : Bool) (A B : Prop) : Prop := match b with | true => A | false => B
theorem ifb_intro {b : Bool} {A B : Prop} (ha : b = true → A) (hb : b = false → B) : ifb b A B := by
  cases b
  · exact hb rfl
  · exact ha rfl
/-- a number of cells that fits, each of one cell -/
def cellsOk (vs : List Value) (n : Nat) (Φ : Prop) : Prop := match Nat.beq vs.length n && vs.all Value.oneCell' with | true => Φ | false => False
theorem cellsOk_intro {vs : List Value} {n : Nat} {Φ : Prop} (h1 : vs.length = n) (h2 : ∀ v ∈ vs, v.oneCell' = true) (h : Φ) : cellsOk vs n Φ := by
  unfold cellsOk
  have e : (Nat.beq vs.length n && vs.all Value.oneCell') = true := by
    rw [Bool.and_eq_true]
    exact ⟨by subst h1; exact Nat.beq_refl _, List.all_eq_true.2 h2⟩
  rw [e]; exact h
theorem cellsOk_out {vs : List Value} {n : Nat} {Φ : Prop} (h : cellsOk vs n Φ) : vs.length = n ∧ (∀ v ∈ vs, v.oneCell' = true) ∧ Φ := by
  unfold cellsOk at h
  split at h
  · rename_i e
    rw [Bool.and_eq_true] at e
    exact ⟨Nat.eq_of_beq_eq_true e.1, fun v hv => List.all_eq_true.1 e.2 v hv, h⟩
  · exact h.elim
def nilC (p : Option Addr) (Φ : Nat → Nat → Prop) : Prop := match p with | some ⟨b, off, none⟩ => Φ b off | _ => False
def optC (p : Option Nat) (A : Prop) (Φ : Nat → Prop) : Prop := match p with | some a => Φ a | none => A

def pureRun {α : Type} (P : Program) : Sem α → Option α
  | .pure a => some a
  | .program k => pureRun P (k P)
  | _ => none
theorem pureRun_ok {α : Type} {P : Program} : ∀ {e : Sem α} {a : α}, pureRun P e = some a → ∀ w, e.run P w = .ok a w
  | .pure a, b, h, w => by cases h; rfl
  | .program k, b, h, w => pureRun_ok (e := k P) h w
  | .load .., _, h, _ => by cases h
  | .store .., _, h, _ => by cases h
  | .new .., _, h, _ => by cases h
  | .shape .., _, h, _ => by cases h
  | .freeze .., _, h, _ => by cases h
  | .frozen .., _, h, _ => by cases h
  | .getObj .., _, h, _ => by cases h
  | .setObj .., _, h, _ => by cases h
  | .choose .., _, h, _ => by cases h
  | .sys .., _, h, _ => by cases h
  | .mark .., _, h, _ => by cases h
  | .halt .., _, h, _ => by cases h

abbrev Nxt := Value → World → Prop

def pureW (P : Program) (o : Oper) (ρ : Env) (w : World) (next : Nxt) : Prop :=
  match pureRun P (execOp (ev ρ) o) with
  | some (.value v) => next v w
  | _ => False

def loadW (P : Program) (t : TypeId) (v : Value) (w : World) (next : Nxt) : Prop :=
  match v with
  | .pointer (some a) => (match shapeOf P t with
    | some (.one k) => k.ex fun x => w.cell? a = some x ∧ next x w
    | some (.agg ks) => exs ks fun xs => Cells w a xs ∧ next (.agg xs.toArray) w
    | some (.raw n) => ∃ xs : List Value, xs.length = n ∧ Cells w a xs ∧ next (.agg xs.toArray) w
    | none => False)
  | _ => False

def sizeW (P : Program) (t : TypeId) (Φ : Nat → Prop) : Prop := match P.info? t with | some i => Φ i.size | none => False

def storeW (P : Program) (t : TypeId) (v : Value) (vs : List Value) (w : World) (next : World → Prop) : Prop :=
  match v with
  | .pointer (some ⟨b, off, none⟩) => sizeW P t fun n => cellsOk vs n (∃ l e, Blk w b l e ∧ off + vs.length ≤ l.length ∧ ∀ w', Upd w w' b (setSeg l off vs) e → next w')
  | _ => False

def newW (w : World) (l : List Value) (e : TypeId) (next : Nxt) : Prop := ∀ b w', New w w' b l e → next (.pointer (some ⟨b, 0, none⟩)) w'

def zeroL (P : Program) (t : TypeId) : Option (List Value) := match P.info? t with | some i => (match i.zero with | some z => some z.cells.toList | none => none) | none => none

/-- parts laid into cells -/
def fillL (place : Nat → Option (Nat × Nat)) (cells : List Value) : List (Nat × List Value) → Option (List Value)
  | [] => some cells
  | (i, vs) :: rest => match place i with
    | none => none
    | some (off, size) => bif Nat.beq vs.length size && Nat.ble (off + vs.length) cells.length then fillL place (setSeg cells off vs) rest else none

def places (P : Program) : List Field → Option (List (Nat × Nat))
  | [] => some []
  | f :: fs => match P.info? f.type, places P fs with | some i, some r => some ((f.offset, i.size) :: r) | _, _ => none

def partsL (ρ : Env) (ps : List (Nat × Operand)) : List (Nat × List Value) := ps.map fun p => (p.1, (ev ρ p.2).cells.toList)

def buildW (P : Program) (t : TypeId) (ps : List (Nat × List Value)) (w : World) (next : Nxt) : Prop :=
  match zeroL P t, P.underlying t with
  | some z, some (.struct fs) => (match places P fs.toList with
    | some pl => (match fillL (fun i => pl[i]?) z ps with | some l => next (.agg l.toArray) w | none => False)
    | none => False)
  | some z, some (.array _ e) => sizeW P e fun sz => (match fillL (fun i => some (i * sz, sz)) z ps with | some l => next (.agg l.toArray) w | none => False)
  | _, _ => False

def zcells (z : List Value) (m : Nat) : List Value := (List.range m).map fun i => z.getD (i % z.length) undef

def buildSliceW (P : Program) (t : TypeId) (len : Nat) (ps : List (Nat × List Value)) (w : World) (next : Nxt) : Prop :=
  match P.underlying t with
  | some (.slice e) => (match zeroL P e with
    | some z => sizeW P e fun sz => bif Nat.ble (len * sz) 1000 && Nat.ble 1 sz && Nat.beq z.length sz then
        (match fillL (fun i => some (i * sz, sz)) (zcells z (len * sz)) ps with
         | some l => ∀ b w', New w w' b l e → next (.slice (some ⟨b, 0, none⟩) len len) w'
         | none => False)
        else False
    | none => False)
  | _ => False

def makeSliceW (P : Program) (t : TypeId) (l c : Value) (w : World) (next : Nxt) : Prop :=
  match P.underlying t, l, c with
  | some (.slice e), .int _ n, .int _ m => (match P.info? e, zeroL P e with
    | some i, some z => bif Nat.beq z.length i.size && Nat.ble 1 i.size && Nat.ble 1 i.bytes then
        0 ≤ n ∧ n ≤ m ∧ m * ((i.bytes : Nat) : Int) ≤ 140737488355328 ∧ ∀ b w', New w w' b (zcells z (m.toNat * i.size)) e → next (.slice (some ⟨b, 0, none⟩) n.toNat m.toNat) w'
      else False
    | _, _ => False)
  | _, _, _ => False

def IdxF (A : Option Addr) (n : Nat) (i : Int) (sz : Nat) (Φ : Nat → Nat → Prop) : Prop := 0 ≤ i ∧ i < n ∧ ∃ b off, A = some ⟨b, off, none⟩ ∧ Φ b (off + i.toNat * sz)

def idxW (P : Program) (t : TypeId) (x i : Value) (w : World) (next : Nxt) : Prop :=
  match P.underlying t, x, i with
  | some (.slice e), .slice A n _, .int _ ix => sizeW P e fun sz => IdxF A n ix sz fun b off => next (.pointer (some ⟨b, off, none⟩)) w
  | some (.array len e), .pointer (some a), .int _ ix => sizeW P e fun sz => IdxF (some a) len ix sz fun b off => next (.pointer (some ⟨b, off, none⟩)) w
  | _, _, _ => False

/-- from a place on lie these -/
def SegAt (l : List Value) (o : Nat) (vs : List Value) : Prop := ∀ j x, vs[j]? = some x → l[o + j]? = some x
/-- a function that is known -/
def funcC (v : Value) (Φ : FuncId → List Value → List Value → Prop) : Prop := match v with | .func (.func g) first cap => Φ g first.toList cap.toList | _ => False
/-- an element of an array, or a byte of a string, by value -/
def idxVW (P : Program) (t : TypeId) (x i : Value) (w : World) (next : Nxt) : Prop :=
  match P.underlying t, x, i with
  | some (.array len e), .agg cs, .int _ ix => (match P.info? e, shapeOf P e with
    | some inf, some (.one k) => bif Nat.beq inf.size 1 then 0 ≤ ix ∧ ix < len ∧ k.ex fun v => cs.toList[ix.toNat]? = some v ∧ next v w else False
    | some inf, some (.agg ks) => 0 ≤ ix ∧ ix < len ∧ exs ks fun vs => SegAt cs.toList (ix.toNat * inf.size) vs ∧ next (.agg vs.toArray) w
    | _, _ => False)
  | some .string, .string s, .int _ ix => 0 ≤ ix ∧ ix < s.size ∧ ∃ b : UInt8, s[ix.toNat]? = some b ∧ next (.int .u8 (b.toNat : Int)) w
  | _, _, _ => False

def SlcF (A : Option Addr) (n c : Nat) (lo hi : Int) (sz : Nat) (Φ : Option Addr → Nat → Nat → Prop) : Prop :=
  0 ≤ lo ∧ lo ≤ hi ∧ hi ≤ c ∧ Φ (if c = lo.toNat then A else A.map (·.add (lo.toNat * sz))) (hi.toNat - lo.toNat) (c - lo.toNat)
def SlcH (A : Option Addr) (c : Nat) (hi : Int) (Φ : Option Addr → Nat → Nat → Prop) : Prop := 0 ≤ hi ∧ hi ≤ c ∧ Φ A hi.toNat c

def sliceW (P : Program) (t : TypeId) (x : Value) (lo hi : Option Value) (w : World) (next : Nxt) : Prop :=
  match P.underlying t, x, lo, hi with
  | some (.slice e), .slice A n c, some (.int _ l), some (.int _ h) => sizeW P e fun sz => SlcF A n c l h sz fun A n c => next (.slice A n c) w
  | some (.slice e), .slice A n c, some (.int _ l), none => sizeW P e fun sz => SlcF A n c l n sz fun A n c => next (.slice A n c) w
  | some (.slice e), .slice A n c, none, some (.int _ h) => sizeW P e fun _ => SlcH A c h fun A n c => next (.slice A n c) w
  | _, _, _, _ => False

def Enters (P : Program) (g : FuncId) : Prop := ∀ args w, (callFunc g args).run P w = .ok (.enter g args) w

def shapes (P : Program) : List TypeId → Option (List Sh)
  | [] => some []
  | t :: ts => match shapeOf P t, shapes P ts with | some s, some ss => some (s :: ss) | _, _ => none
def resEx (P : Program) (t : TypeId) (Φ : Value → Prop) : Prop :=
  match P.underlying t with
  | some (.tuple ts) => (match shapes P ts.toList with | some ss => Sh.exL ss fun vs => Φ (.tuple vs.toArray) | none => False)
  | _ => (match shapeOf P t with | some s => s.ex Φ | none => False)
theorem resEx_out {P : Program} {t : TypeId} {Φ : Value → Prop} (h : resEx P t Φ) : ∃ v, Φ v := by
  unfold resEx at h
  split at h
  · split at h
    · obtain ⟨vs, h⟩ := Sh.exL_out h; exact ⟨_, h⟩
    · exact h.elim
  · split at h
    · exact Sh.ex_out h
    · exact h.elim
def callW (P : Program) (g : FuncId) (args : Array Value) (t : TypeId) (w : World) (next : Nxt) : Prop :=
  Calls P g args w fun e w' => resEx P t fun v => e = .returned v ∧ next v w'

/-- A slice that reads as these cells. -/
def Reads (w : World) (B : Option Addr) (m sz : Nat) (xs : List Value) : Prop :=
  xs.length = m * sz ∧ (∀ v ∈ xs, v.oneCell' = true) ∧ (0 < m → ∃ a, B = some a ∧ Cells w a xs)
structure App (w w' : World) (A A' : Option Addr) : Prop where
  step : Step (fun k => A.map (·.block) = some k) w w'
  at_ : A'.map (·.block) = A.map (·.block) ∨ A'.map (·.block) = some w.heap.size
def appW (P : Program) (t : TypeId) (s x : Value) (w : World) (next : Nxt) : Prop :=
  match P.underlying t, s, x with
  | some (.slice e), .slice A n c, .slice B m _ => (match P.info? e, zeroL P e with
    | some i, some z => bif Nat.beq z.length i.size && Nat.ble 1 i.size then
        (∃ xs news, w.ownsRow 0 e i.size (.slice A n c) n xs ∧ Reads w B m i.size news ∧ n + m ≤ maxLen ∧ (n + m) * i.bytes ≤ 140737488355328 ∧
          ∀ A' c' w', w'.ownsRow 0 e i.size (.slice A' (n + m) c') (n + m) (xs ++ news) → App w w' A A' → next (.slice A' (n + m) c') w')
      else False
    | _, _ => False)
  | _, _, _ => False

def arW (k : IntKind) (e : Int) (Φ : Int → Prop) : Prop := ∃ c, k.wrap e = c ∧ Φ c

def eqF (P : Program) (d : Nat) (xs ys : Array Value) : List Field → Option Bool
  | [] => some true
  | f :: fs => match decide (f.name ≠ "_") with
    | true => (match pureRun P (part f.type xs f.offset), pureRun P (part f.type ys f.offset) with
      | some a, some b => (match pureRun P (Op.equalIn d f.type a b), eqF P d xs ys fs with
        | some r, some rs => some (r && rs)
        | _, _ => none)
      | _, _ => none)
    | false => eqF P d xs ys fs

def aggEqW (P : Program) (t : TypeId) (xs ys : Array Value) (Φ : Bool → Prop) : Prop :=
  match P.underlying t, P.stoodInHeld t, P.eqGuardType P.depth t with
  | some (.struct fs), false, false => (match eqF P 9999 xs ys fs.toList with | some b => Φ b | none => False)
  | _, _, _ => False

def isPtrD : Option TypeDesc → Bool | some (.pointer _) => true | _ => false
def isSliceD : Option TypeDesc → Bool | some (.slice _) => true | _ => false
def isMapD : Option TypeDesc → Bool | some (.map _ _) => true | _ => false
def isIntD : Option TypeDesc → Bool | some (.int _) => true | _ => false

def binW (P : Program) (op : BinOp) (t : TypeId) (x y : Value) (w : World) (next : Nxt) (other : Prop) : Prop :=
  match op, x, y with
  | .add, .int k a, .int k' b => bif k == k' then arW k (a + b) fun c => next (.int k c) w else False
  | .sub, .int k a, .int k' b => bif k == k' then arW k (a - b) fun c => next (.int k c) w else False
  | .mul, .int k a, .int k' b => bif k == k' then arW k (a * b) fun c => next (.int k c) w else False
  | .add, .string a, .string b => a.size + b.size ≤ 9223372036854775807 ∧ next (.string (a ++ b)) w
  | .rem, .int k a, .int k' b => bif k == k' then ifb (decide (b = 0)) False (next (.int k (a.tmod b)) w) else False
  | .quo, .int k a, .int k' b => bif k == k' then ifb (decide (b = 0)) False (next (.int k (k.wrap (a.tdiv b))) w) else False
  | .eql, .pointer p, .pointer none => bif isPtrD (P.underlying t) then next (.bool p.isNone) w else False
  | .neq, .pointer p, .pointer none => bif isPtrD (P.underlying t) then next (.bool !p.isNone) w else False
  | .eql, .slice p _ _, .slice none _ _ => bif isSliceD (P.underlying t) then next (.bool p.isNone) w else False
  | .neq, .slice p _ _, .slice none _ _ => bif isSliceD (P.underlying t) then next (.bool !p.isNone) w else False
  | .eql, .map p, .map none => bif isMapD (P.underlying t) then next (.bool p.isNone) w else False
  | .neq, .map p, .map none => bif isMapD (P.underlying t) then next (.bool !p.isNone) w else False
  | .eql, .agg xs, .agg ys => aggEqW P t xs ys fun b => next (.bool b) w
  | .neq, .agg xs, .agg ys => aggEqW P t xs ys fun b => next (.bool !b) w
  | _, _, _ => other

/-! maps -/
def MOk (P : Program) (k : TypeId) (es : List MapEntry) (clk : Nat) : Prop :=
  (∀ e ∈ es, ∃ l, keyOf P k e.key = some l) ∧ es.Pairwise (fun a b => a.key ≠ b.key) ∧ (∀ e ∈ es, e.born < clk) ∧ es.Pairwise (fun a b => a.born ≠ b.born)
def MapAt (P : Program) (k : TypeId) (w : World) (r : Nat) (es : List MapEntry) : Prop := ∃ clk, w.heap[r]? = some (.map es.toArray clk) ∧ MOk P k es clk
def LookR (es : List MapEntry) (key z v : Value) (b : Bool) : Prop := (b = true ∧ ∃ x ∈ es, x.key = key ∧ x.val = v) ∨ (b = false ∧ (∀ x ∈ es, x.key ≠ key) ∧ v = z)
def MPut (es : List MapEntry) (key v : Value) (es' : List MapEntry) : Prop :=
  (∃ pre x post, es = pre ++ x :: post ∧ x.key = key ∧ es' = pre ++ { x with val := v } :: post) ∨ ((∀ x ∈ es, x.key ≠ key) ∧ ∃ n, es' = es ++ [⟨key, v, n⟩])
def MTouch (es : List MapEntry) (key z : Value) (es' : List MapEntry) (s : Int) : Prop :=
  ((∃ x ∈ es, x.key = key ∧ (x.born : Int) = s) ∧ es' = es) ∨ ((∀ x ∈ es, x.key ≠ key) ∧ ∃ n : Nat, es' = es ++ [⟨key, z, n⟩] ∧ (n : Int) = s)
def MapO (P : Program) (k : TypeId) (w : World) (p : Option Nat) (es : List MapEntry) : Prop := match p with | none => es = [] | some r => MapAt P k w r es
structure NewM (w w' : World) (b : Nat) : Prop where
  at_ : b = w.heap.size
  step : Step NoB w w'
  map : ∀ P k, MapAt P k w' b []
  size : w'.heap.size = w.heap.size + 1
structure Wrote (w w' : World) (b : Nat) : Prop where
  step : Step (fun k => k = b) w w'
  size : w'.heap.size = w.heap.size

def lookW (P : Program) (t : TypeId) (m key : Value) (ok : Bool) (w : World) (next : Nxt) : Prop :=
  match P.underlying t, m with
  | some (.map k e), .map p => Go.Maps.Keyed P k ∧ (∃ l, keyOf P k key = some l) ∧ (match P.info? e, shapeOf P e with
    | some i, some sh => (match i.zero with
      | some z => ∃ es, MapO P k w p es ∧ sh.ex fun v => ∃ b : Bool, LookR es key z v b ∧ (bif ok then next (.tuple #[v, .bool b]) w else next v w)
      | none => False)
    | _, _ => False)
  | _, _ => False

def updW (P : Program) (t : TypeId) (m key v : Value) (w : World) (next : World → Prop) : Prop :=
  match P.underlying t, m with
  | some (.map k e), .map p => Go.Maps.Keyed P k ∧ (∃ l, keyOf P k key = some l) ∧ optC p False fun r =>
      ∃ es, MapAt P k w r es ∧ ∀ w' es', MPut es key v es' → MapAt P k w' r es' → Wrote w w' r → next w'
  | _, _ => False

def entW (P : Program) (t : TypeId) (m key : Value) (w : World) (next : Nxt) : Prop :=
  match P.underlying t, m with
  | some (.map k e), .map p => Go.Maps.Keyed P k ∧ (∃ l, keyOf P k key = some l) ∧ (match P.info? e, shapeOf P e with
    | some i, some sh => (match i.zero with
      | some z => optC p False fun r => ∃ es, MapAt P k w r es ∧ sh.ex fun v => ∃ b : Bool, LookR es key z v b ∧
          ∀ w' es' (s : Int), MTouch es key z es' s → MapAt P k w' r es' → Wrote w w' r → next (.tuple #[v, .int .i64 s]) w'
      | none => False)
    | _, _ => False)
  | _, _ => False

def entStW (P : Program) (t : TypeId) (m s v : Value) (w : World) (next : World → Prop) : Prop :=
  match P.underlying t, m, s with
  | some (.map k e), .map p, .int .i64 s => optC p False fun r =>
      ∃ pre x post, MapAt P k w r (pre ++ x :: post) ∧ (x.born : Int) = s ∧ ∀ w', MapAt P k w' r (pre ++ { x with val := v } :: post) → Wrote w w' r → next w'
  | _, _, _ => False

/-- Block it goes over map r, that holds es; left are still to come; cur came last. -/
def IterAt (P : Program) (k : TypeId) (w : World) (it r : Nat) (es left : List MapEntry) (cur : Option MapEntry) : Prop :=
  ∃ clk seen last, w.heap[it]? = some (.mapIter (some r) clk seen last) ∧ w.heap[r]? = some (.map es.toArray clk) ∧ MOk P k es clk ∧
    left = es.filter (fun e => !seen.contains e.born) ∧ last = clk ∧ (match cur with | none => True | some x => x ∈ es ∧ seen.back? = some x.born)
structure NewI (P : Program) (k : TypeId) (w w' : World) (b r : Nat) (es : List MapEntry) : Prop where
  at_ : b = w.heap.size
  step : Step NoB w w'
  it : IterAt P k w' b r es es none
  size : w'.heap.size = w.heap.size + 1

def rangeW (P : Program) (t : TypeId) (m : Value) (w : World) (next : Nxt) : Prop :=
  match P.underlying t, m with
  | some (.map k e), .map p => optC p False fun r => ∃ es, MapAt P k w r es ∧ ∀ b w', NewI P k w w' b r es → next (.pointer (some ⟨b, 0, none⟩)) w'
  | _, _ => False
def nextW (P : Program) (it : Value) (isS : Bool) (w : World) (next : Nxt) : Prop :=
  match it, isS with
  | .pointer (some ⟨b, 0, none⟩), false => ∃ k r es left cur, IterAt P k w b r es left cur ∧ (left = [] → next (.tuple #[.bool false]) w) ∧
      ∀ pre x post w', left = pre ++ x :: post → IterAt P k w' b r es (pre ++ post) (some x) → Wrote w w' b → next (.tuple #[.bool true, x.key, x.val]) w'
  | _, _ => False
abbrev Hints := List (Nat × Sh × Sh)
def hintOf : Hints → Option Nat → Option (Sh × Sh)
  | (t, h) :: r, some d => bif Nat.beq t d then some h else hintOf r (some d)
  | _, _ => none
def entryW (P : Program) (h : Option (Sh × Sh)) (it : Value) (w : World) (next : Nxt) : Prop :=
  match it, h with
  | .pointer (some ⟨b, 0, none⟩), some (s1, s2) => ∃ k r es left x, IterAt P k w b r es left (some x) ∧ s1.ex fun kv => x.key = kv ∧ s2.ex fun vv => x.val = vv ∧ next (.tuple #[kv, vv]) w
  | _, _ => False

def lenW (v : Value) (w : World) (next : Nxt) (other : Prop) : Prop :=
  match v with
  | .slice _ n _ => next (.int .i64 n) w
  | .string s => next (.int .i64 s.size) w
  | _ => other
def mx (x y : Int) : Int := if y > x then y else x
def mn (x y : Int) : Int := if y < x then y else x

def builtinW (P : Program) (b : Builtin) (ts : List TypeId) (args : List Value) (w : World) (next : Nxt) : Prop :=
  match b, ts, args with
  | .len, [t], [v] => (match P.underlying t, v with
    | some (.slice _), .slice _ n _ => next (.int .i64 n) w
    | some .string, .string s => next (.int .i64 s.size) w
    | _, _ => False)
  | .append, [t, t'], [s, x] => bif Nat.beq t t' then appW P t s x w next else False
  | .max, _, [.int k x, .int _ y] => next (.int k (mx x y)) w
  | .min, _, [.int k x, .int _ y] => next (.int k (mn x y)) w
  | _, _, _ => False

def opW (P : Program) (H : Hints) (o : Oper) (ρ : Env) (w : World) (next : Nxt) : Prop :=
  match o.op with
  | .load t a => loadW P t (ev ρ a) w next
  | .store t a x => storeW P t (ev ρ a) (ev ρ x).cells.toList w fun w' => next undef w'
  | .alloc e => (match zeroL P e with | some z => newW w z e next | none => False)
  | .box e x => newW w (ev ρ x).cells.toList e next
  | .build t ps => buildW P t (partsL ρ ps.toList) w next
  | .buildSlice t n ps => buildSliceW P t n (partsL ρ ps.toList) w next
  | .makeSlice t l c => makeSliceW P t (ev ρ l) (ev ρ c) w next
  | .nilCheck x => (match ev ρ x with | .pointer p => nilC p fun b off => next (.pointer (some ⟨b, off, none⟩)) w | _ => False)
  | .indexAddr t x i => idxW P t (ev ρ x) (ev ρ i) w next
  | .index t x i => idxVW P t (ev ρ x) (ev ρ i) w next
  | .slice t x lo hi none => sliceW P t (ev ρ x) (lo.map (ev ρ)) (hi.map (ev ρ)) w next
  | .call c => (match c.callee with
    | .value (.func g) => callW P g (c.args.toList.map (ev ρ)).toArray o.type w next
    | .value f => funcC (ev ρ f) fun g first cap => Enters P g ∧ callW P g (first ++ (c.args.toList.map (ev ρ) ++ cap)).toArray o.type w next
    | .builtin b => builtinW P b c.argTypes.toList (c.args.toList.map (ev ρ)) w next
    | _ => False)
  | .makeFunc fn first cap => next (.func fn (first.toList.map (ev ρ)).toArray (cap.toList.map (ev ρ)).toArray) w
  | .makeMap _ none => ∀ b w', NewM w w' b → next (.map (some b)) w'
  | .lookup t m k ok => lookW P t (ev ρ m) (ev ρ k) ok w next
  | .mapUpdate t m k x => updW P t (ev ρ m) (ev ρ k) (ev ρ x) w fun w' => next undef w'
  | .mapEntry t m k => entW P t (ev ρ m) (ev ρ k) w next
  | .entryStore t m s x => entStW P t (ev ρ m) (ev ρ s) (ev ρ x) w fun w' => next undef w'
  | .range t m => rangeW P t (ev ρ m) w next
  | .next it s => nextW P (ev ρ it) s w next
  | .entry it => entryW P (hintOf H o.dst) (ev ρ it) w next
  | .binOp op t x y _ => binW P op t (ev ρ x) (ev ρ y) w next (pureW P o ρ w next)
  | .convert src dst x => (match P.underlying src, P.underlying dst, ev ρ x with
    | some _, some (.int k), .int _ n => arW k n fun c => next (.int k c) w
    | _, _, _ => pureW P o ρ w next)
  | _ => pureW P o ρ w next

end Go.Vc
