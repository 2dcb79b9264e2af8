/- Receives as the machine's values, and rows of them. Conditions: none. -/
import Derived.Test.YtdaojmkbjkaakaaRf
set_option linter.unusedVariables false
set_option linter.unusedSimpArgs false
namespace Go.Proofs.Ytdaojmkbjkaakaa
open Go.Vc Go.Q13 Go.RowKit

/-- A receive. -/
structure Recv where
  key : ByteArray
  rank : Int
  call : Int
  peer : Int
  tag : Int
  req : Int
  done : Bool
  fr : Int
  seq : Int
deriving DecidableEq
abbrev tRecv : TypeId := 57
def rv (r : Recv) : List Value := [.string r.key, .int .i64 r.rank, .int .i64 r.call, .int .i64 r.peer, .int .i64 r.tag, .int .i64 r.req, .bool r.done, .int .i64 r.fr, .int .i64 r.seq]
def rvA (r : Recv) : Value := .agg (rv r).toArray
def zeroR : Recv := ⟨emptyS, 0, 0, 0, 0, 0, false, 0, 0⟩
theorem rv_len (r : Recv) : (rv r).length = 9 := rfl
theorem rv_one (r : Recv) : ∀ v ∈ rv r, v.oneCell' = true := by simp [rv, Value.oneCell']
theorem rvs_one (l : List Recv) : ∀ v ∈ l.flatMap rv, v.oneCell' = true := by
  intro v hv
  obtain ⟨m, _, hm⟩ := List.mem_flatMap.1 hv
  exact rv_one m v hm
abbrev RowR (w : World) (A : Option Addr) (n c : Nat) (l : List Recv) : Prop := Row w A n c tRecv 9 (l.flatMap rv)
theorem RowR.len {w : World} {A : Option Addr} {n c : Nat} {l : List Recv} (h : RowR w A n c l) : n = l.length := Row.len rv 9 rv_len h (by omega)
theorem RowR.elem {w : World} {A : Option Addr} {n c : Nat} {l : List Recv} (h : RowR w A n c l) {i : Nat} {m : Recv} (hi : l[i]? = some m) : ∃ b, A = some ⟨b, 0, none⟩ ∧ Cells w ⟨b, 0 + i * 9, none⟩ (rv m) :=
  Row.elem rv 9 rv_len h hi (by rw [h.len]; exact (List.getElem?_eq_some_iff.1 hi).1)
/-- does a receive fit a message -/
def rfits (r : Recv) (m : Msg) : Bool := decide (r.key = m.key) && decide (r.rank = m.to) && (r.peer == -1 || r.peer == m.fr) && (r.tag == -1 || r.tag == m.tag)

end Go.Proofs.Ytdaojmkbjkaakaa
