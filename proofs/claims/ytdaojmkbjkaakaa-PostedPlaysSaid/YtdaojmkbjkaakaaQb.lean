/- Messages and channels as the machine's values; that they serve as keys. Conditions: none. -/
import Derived.Test.YtdaojmkbjkaakaaGl
import Derived.Test.YtdaojmkbjkaakaaQa
import Derived.Test.YtdaojmkbjkaakaaProg
set_option linter.unusedVariables false
set_option linter.unusedSimpArgs false
namespace Go.Proofs.Ytdaojmkbjkaakaa
open Go.Vc Go.Q13 Go.RowKit

abbrev tMsg : TypeId := 28
abbrev tCh : TypeId := 74
abbrev tSent : TypeId := 77
abbrev tQueue : TypeId := 72

def mv (m : Msg) : List Value := [.string m.key, .int .i64 m.fr, .int .i64 m.to, .int .i64 m.call, .int .i64 m.tag, .int .i64 m.val, .int .i64 m.size, .bool m.taken]
def mvA (m : Msg) : Value := .agg (mv m).toArray
def kv (c : Ch) : Value := .agg #[.string c.key, .int .i64 c.fr, .int .i64 c.to]
def sv (a b : Int) : Value := .agg #[.int .i64 a, .int .i64 b]
def iv (n : Int) : List Value := [.int .i64 n]
def zeroM : Msg := ⟨emptyS, 0, 0, 0, 0, 0, 0, false⟩
theorem mv_len (m : Msg) : (mv m).length = 8 := rfl
theorem iv_len (n : Int) : (iv n).length = 1 := rfl
theorem mv_one (m : Msg) : ∀ v ∈ mv m, v.oneCell' = true := by simp [mv, Value.oneCell']
theorem iv_one (m : Int) : ∀ v ∈ iv m, v.oneCell' = true := by simp [iv, Value.oneCell']
theorem kv_inj {a b : Ch} (h : kv a = kv b) : a = b := by
  obtain ⟨k, f, t⟩ := a; obtain ⟨k', f', t'⟩ := b
  simp [kv] at h
  simp [h]
theorem sv_inj {a b c d : Int} (h : sv a b = sv c d) : a = c ∧ b = d := by simpa [sv] using h
theorem mv_inj {a b : Msg} (h : mv a = mv b) : a = b := by
  obtain ⟨k, f, t⟩ := a; obtain ⟨k', f', t'⟩ := b
  simp [mv] at h
  simp [h]

def I64 (n : Int) : Prop := -9223372036854775808 ≤ n ∧ n ≤ 9223372036854775807
theorem I64.wf {n : Int} (h : I64 n) : (Lit.int .i64 n).wf = true := by
  obtain ⟨h1, h2⟩ := h
  simp [Lit.wf, IntKind.min, IntKind.max, IntKind.signed, IntKind.bits]
  omega

theorem laidOut : laidOutB Try.prog = true := by kernel_rfl
theorem under_ch : Try.prog.underlying tCh = some (.struct (Try.prog.fieldsOf tCh)) := by kernel_rfl
theorem under_sent : Try.prog.underlying tSent = some (.struct (Try.prog.fieldsOf tSent)) := by kernel_rfl
theorem keyed_ch : Go.Maps.Keyed Try.prog tCh :=
  Go.Maps.Keyed.of_law (deep_law_laid laidOut (m := 2) (by omega) (of_decide_eq_true (by kernel_rfl)) (by kernel_rfl) (by rw [under_ch]))
theorem keyed_sent : Go.Maps.Keyed Try.prog tSent :=
  Go.Maps.Keyed.of_law (deep_law_laid laidOut (m := 2) (by omega) (of_decide_eq_true (by kernel_rfl)) (by kernel_rfl) (by rw [under_sent]))

section
variable {P : Program}
theorem keyL_str {d t : Nat} {s : ByteArray} (hu : P.underlying t = some .string) (hs : s.size ≤ maxLen) : P.keyLits (d + 1) t [.string s] = some [.string s.data.toList] := by
  simp [Program.keyLits, hu, hs]
theorem keyL_int {d t : Nat} {n : Int} (hu : P.underlying t = some (.int .i64)) (hs : I64 n) : P.keyLits (d + 1) t [.int .i64 n] = some [.int .i64 n] := by
  simp [Program.keyLits, hu, hs.wf]
theorem mapM_fields {β : Type} (g : TypeId → Nat → Option β) : ∀ (fs : List Field), fs.mapM (fun f => g f.type f.offset) = (fs.map fun f => (f.type, f.offset)).mapM (fun p => g p.1 p.2)
  | [] => rfl
  | f :: fs => by simp [List.mapM_cons, mapM_fields g fs]
theorem keyL_struct {d t : Nat} {cs : List Value} {fs : Array Field} (hu : P.underlying t = some (.struct fs)) (hb : fs.all (·.name != "_") = true) (hl : cs.length = P.cellsOf t) :
    P.keyLits (d + 1) t cs = ((fs.toList.map fun f => (f.type, f.offset)).mapM fun p => P.keyLits d p.1 ((cs.drop p.2).take (P.cellsOf p.1))).map List.flatten := by
  rw [← mapM_fields (fun t o => P.keyLits d t ((cs.drop o).take (P.cellsOf t)))]
  conv => lhs; unfold Program.keyLits
  rw [hu]
  simp only
  rw [if_pos (And.intro hl hb)]
theorem keyOf_struct {t : Nat} {cs : Array Value} {fs : Array Field} {ls : List Lit} (hu : P.underlying t = some (.struct fs)) (hk : P.keyType t = true) (hl : cs.size = P.cellsOf t) (h : P.keyLits (P.types.size + 1) t cs.toList = some ls) : ∃ l, keyOf P t (.agg cs) = some l := by
  have hf : (Value.agg cs).formed P t = true := by simp [Value.formed, hu, hl]
  unfold keyOf
  rw [hu]
  simp only
  rw [hk, hf]
  exact ⟨_, by simp only [Bool.and_self, if_true]; rw [show (Value.agg cs).cells.toList = cs.toList from rfl, h]; rfl⟩
end

theorem cells_ch : Try.prog.cellsOf tCh = 3 := by kernel_rfl
theorem cells_sent : Try.prog.cellsOf tSent = 2 := by kernel_rfl
theorem key_ch (c : Ch) (hk : c.key.size ≤ maxLen) (hf : I64 c.fr) (ht : I64 c.to) : ∃ l, keyOf Try.prog tCh (kv c) = some l := by
  refine keyOf_struct under_ch (by kernel_rfl) (show 3 = _ by kernel_rfl) (ls := [.string c.key.data.toList, .int .i64 c.fr, .int .i64 c.to]) ?_
  show Try.prog.keyLits _ tCh [.string c.key, .int .i64 c.fr, .int .i64 c.to] = _
  rw [keyL_struct under_ch (by kernel_rfl) (hl := cells_ch.symm) (cs := [.string c.key, .int .i64 c.fr, .int .i64 c.to])]
  rw [show ((Try.prog.fieldsOf tCh).toList.map fun f => (f.type, f.offset)) = [(9, 0), (3, 1), (3, 2)] by kernel_rfl]
  obtain ⟨n, hn⟩ : ∃ n, Try.prog.types.size = n + 1 := ⟨Try.prog.types.size - 1, by kernel_rfl⟩
  simp only [List.mapM_cons, List.mapM_nil, hn, show Try.prog.cellsOf 9 = 1 by kernel_rfl, show Try.prog.cellsOf 3 = 1 by kernel_rfl]
  simp only [List.drop, List.take]
  rw [keyL_str (by kernel_rfl) hk, keyL_int (by kernel_rfl) hf, keyL_int (by kernel_rfl) ht]
  rfl
theorem key_sent (a b : Int) (ha : I64 a) (hb : I64 b) : ∃ l, keyOf Try.prog tSent (sv a b) = some l := by
  refine keyOf_struct under_sent (by kernel_rfl) (show 2 = _ by kernel_rfl) (ls := [.int .i64 a, .int .i64 b]) ?_
  show Try.prog.keyLits _ tSent [.int .i64 a, .int .i64 b] = _
  rw [keyL_struct under_sent (by kernel_rfl) (hl := cells_sent.symm) (cs := [.int .i64 a, .int .i64 b])]
  rw [show ((Try.prog.fieldsOf tSent).toList.map fun f => (f.type, f.offset)) = [(3, 0), (3, 1)] by kernel_rfl]
  obtain ⟨n, hn⟩ : ∃ n, Try.prog.types.size = n + 1 := ⟨Try.prog.types.size - 1, by kernel_rfl⟩
  simp only [List.mapM_cons, List.mapM_nil, hn, show Try.prog.cellsOf 3 = 1 by kernel_rfl]
  simp only [List.drop, List.take]
  rw [keyL_int (by kernel_rfl) ha, keyL_int (by kernel_rfl) hb]
  rfl

end Go.Proofs.Ytdaojmkbjkaakaa
