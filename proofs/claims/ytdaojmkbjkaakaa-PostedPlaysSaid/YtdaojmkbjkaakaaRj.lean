/- Receives that were posted, plainly; what they look like in the machine; contracts of the small functions. Conditions: none. -/
import Derived.Test.YtdaojmkbjkaakaaRi
set_option linter.unusedVariables false
set_option linter.unusedSimpArgs false
namespace Go.Proofs.Ytdaojmkbjkaakaa
open Go.Vc Go.Q13 Go.RowKit

abbrev tPosted : TypeId := 111
def RFit (r : Recv) : Prop := r.key.size ≤ maxLen ∧ I64 r.rank ∧ I64 r.call ∧ I64 r.peer ∧ I64 r.tag ∧ I64 r.req ∧ I64 r.fr ∧ I64 r.seq
def rrow (P : List Recv) (r : Int) : List Recv := P.filter fun x => decide (x.rank = r)
def at_ (P : List Recv) (rank call : Int) : Option Recv := P.find? fun x => decide (x.rank = rank) && (x.call == call)
theorem rrow_append (P R : List Recv) (r : Int) : rrow (P ++ R) r = rrow P r ++ rrow R r := List.filter_append ..
theorem mem_rrow {P : List Recv} {r : Int} {x : Recv} : x ∈ rrow P r ↔ x ∈ P ∧ x.rank = r := by simp [rrow, List.mem_filter]
theorem rrow_length (P : List Recv) (r : Int) : (rrow P r).length ≤ P.length := List.length_filter_le ..
theorem at_row (P : List Recv) (rank call : Int) : (rrow P rank).find? (fun x => x.call == call) = at_ P rank call := by
  unfold rrow at_
  rw [List.find?_filter]
  congr 1
  funext x
  cases decide (x.rank = rank) <;> cases (x.call == call) <;> rfl
structure Good (P : List Recv) : Prop where
  rising : P.Pairwise fun a b => a.rank = b.rank → a.call < b.call
  ranks : ∀ x ∈ P, 0 ≤ x.rank ∧ x.rank ≤ 63
  fit : ∀ x ∈ P, RFit x

theorem findR_at {p : Recv → Bool} {l : List Recv} {i : Nat} {m : Recv} (hi : l[i]? = some m) (hp : p m = true) (hb : ∀ (j : Nat) (m : Recv), j < i → l[j]? = some m → p m = false) : l.find? p = some m := by
  induction l generalizing i with
  | nil => cases hi
  | cons x l ih =>
    cases i with
    | zero =>
      simp only [List.getElem?_cons_zero, Option.some.injEq] at hi
      subst hi
      rw [List.find?_cons, hp]
    | succ i =>
      rw [List.find?_cons, hb 0 x (by omega) rfl]
      exact ih (by simpa using hi) (fun j m hj hm => hb (j + 1) m (by omega) (by simpa using hm))
theorem idxR_find (p : Recv → Bool) (l : List Recv) : (l.find? p = none ∧ idxR p l = -1) ∨ ∃ m, ∃ i : Nat, l.find? p = some m ∧ idxR p l = i ∧ l[i]? = some m := by
  unfold idxR
  rcases h : l.findIdx? p with _ | i
  · rw [List.findIdx?_eq_none_iff] at h
    exact .inl ⟨List.find?_eq_none.2 fun x hx => by simp [h x hx], rfl⟩
  · rw [List.findIdx?_eq_some_iff_getElem] at h
    obtain ⟨hi, hp, hb⟩ := h
    refine .inr ⟨l[i], i, findR_at (List.getElem?_eq_getElem hi) hp fun j m hj hm => ?_, rfl, List.getElem?_eq_getElem hi⟩
    obtain ⟨hj', rfl⟩ := List.getElem?_eq_some_iff.1 hm
    simpa using hb j hj

def pcells (A : Nat → Option Addr) (n c : Nat → Nat) : List Value := .bool true :: (List.range 64).map fun i => .slice (A i) (n i) (c i)
theorem pcell (A : Nat → Option Addr) (n c : Nat → Nat) {r : Nat} (hr : r < 64) : (pcells A n c)[0 + 1 + r * 1]? = some (.slice (A r) (n r) (c r)) := by
  have e : 0 + 1 + r * 1 = r + 1 := by omega
  rw [e]; unfold pcells
  rw [List.getElem?_cons_succ, List.getElem?_map, List.getElem?_range hr]; rfl
theorem pcells_length (A : Nat → Option Addr) (n c : Nat → Nat) : (pcells A n c).length = 65 := by simp [pcells]
/-- The program's receives: by ranks. -/
structure PR (w : World) (b : Nat) (A : Nat → Option Addr) (n c : Nat → Nat) (P : List Recv) : Prop where
  blk : Blk w b (pcells A n c) tPosted
  row : ∀ i, i < 64 → RowR w (A i) (n i) (c i) (rrow P i)
  apart : ∀ i j k, i < 64 → j < 64 → At (A i) k → At (A j) k → i = j
  off : ∀ i, i < 64 → ¬ At (A i) b
def PF (b : Nat) (A : Nat → Option Addr) (k : Nat) : Prop := k = b ∨ ∃ i, i < 64 ∧ At (A i) k
def PRep (w : World) (a : Option Addr) (P : List Recv) (F : Nat → Prop) : Prop := ∃ b A n c, a = some ⟨b, 0, none⟩ ∧ PR w b A n c P ∧ ∀ k, F k ↔ PF b A k
theorem PR.keep {F : Nat → Prop} {w w' : World} {b : Nat} {A : Nat → Option Addr} {n c : Nat → Nat} {P : List Recv} (h : PR w b A n c P) (s : Step F w w') (hF : ∀ k, PF b A k → ¬ F k) : PR w' b A n c P :=
  ⟨h.blk.keep s (hF _ (.inl rfl)), fun i hi => Row.keep (h.row i hi) s fun k hk => hF k (.inr ⟨i, hi, hk⟩), h.apart, h.off⟩
theorem PR.then {w w' : World} {b : Nat} {A : Nat → Option Addr} {n c : Nat → Nat} {P : List Recv} (h : PR w b A n c P) (s : Step NoB w w') : PR w' b A n c P := h.keep s fun _ _ f => f
theorem PR.lt {w : World} {b : Nat} {A : Nat → Option Addr} {n c : Nat → Nat} {P : List Recv} (h : PR w b A n c P) {k : Nat} (hk : PF b A k) : k < w.heap.size := by
  rcases hk with rfl | ⟨i, hi, hk⟩
  · exact h.blk.lt
  · exact Row.lt (h.row i hi) hk
theorem PRep.keep {F G : Nat → Prop} {w w' : World} {a : Option Addr} {P : List Recv} (h : PRep w a P F) (s : Step G w w') (hF : ∀ k, F k → ¬ G k) : PRep w' a P F := by
  obtain ⟨b, A, n, c, h1, h2, h3⟩ := h
  exact ⟨b, A, n, c, h1, h2.keep s fun k hk => hF k ((h3 k).2 hk), h3⟩
theorem PRep.then {F : Nat → Prop} {w w' : World} {a : Option Addr} {P : List Recv} (h : PRep w a P F) (s : Step NoB w w') : PRep w' a P F := h.keep s fun _ _ f => f
theorem PRep.lt {F : Nat → Prop} {w : World} {a : Option Addr} {P : List Recv} (h : PRep w a P F) {k : Nat} (hk : F k) : k < w.heap.size := by
  obtain ⟨b, A, n, c, h1, h2, h3⟩ := h
  exact h2.lt ((h3 k).1 hk)
theorem PRep.live {F : Nat → Prop} {w : World} {a : Option Addr} {P : List Recv} (h : PRep w a P F) : a.isNone = false := by
  obtain ⟨b, A, n, c, rfl, h2, h3⟩ := h; rfl

theorem inP_calls (n a b : Int) (w : World) :
    Calls Try.prog 65 #[.int .i64 n, .int .i64 a, .int .i64 b] w fun e w' => e = .returned (.bool (decide (a ≤ n) && decide (n ≤ b))) ∧ w' = w := by
  refine (V.posted_in_calls (R := fun v w' => v = .bool (decide (a ≤ n) && decide (n ≤ b)) ∧ w' = w) ?_).mono ?_
  · refine ifb_intro (fun h => ?_) (fun h => ?_)
    · simp only [ge_iff_le, decide_eq_true_eq] at h
      simp [h]
    · simp only [ge_iff_le, decide_eq_false_iff_not] at h
      simp [h]
  · rintro e w' ⟨v, rfl, rfl, rfl⟩
    exact ⟨rfl, rfl⟩
theorem newP_calls (w : World) : Calls Try.prog 40 #[] w fun e w' => ∃ a F, e = .returned (.pointer a) ∧ PRep w' a [] F ∧ (∀ k, F k → w.heap.size ≤ k) ∧ Step NoB w w' := by
  refine (V.posted_New_calls (R := fun v w' => ∃ a F, v = .pointer a ∧ PRep w' a [] F ∧ (∀ k, F k → w.heap.size ≤ k) ∧ Step NoB w w') ?_).mono ?_
  · intro b w1 h1
    refine ⟨_, PF b (fun _ => none), rfl, ⟨b, fun _ => none, fun _ => 0, fun _ => 0, rfl, ⟨h1.blk, fun i hi => Row.nil _ _ _, fun i j k _ _ h => absurd h at_none, fun i _ => at_none⟩, fun _ => Iff.rfl⟩, ?_, (Step.refl _ _).new h1⟩
    rintro k (rfl | ⟨i, _, h⟩)
    · exact h1.ge (Step.refl NoB w)
    · exact absurd h at_none
  · rintro e w' ⟨v, rfl, a, F, rfl, h⟩
    exact ⟨a, F, rfl, h⟩
theorem ofP_calls {w : World} {b : Nat} {A : Nat → Option Addr} {n c : Nat → Nat} {P : List Recv} (h : PR w b A n c P) (hP : Good P) (r : Int) :
    Calls Try.prog 51 #[.pointer (some ⟨b, 0, none⟩), .int .i64 r] w fun e w' => w' = w ∧ ∃ A' n' c', e = .returned (.slice A' n' c') ∧ RowR w A' n' c' (rrow P r) ∧
      ((0 ≤ r ∧ r ≤ 63 ∧ A' = A r.toNat ∧ n' = n r.toNat ∧ c' = c r.toNat) ∨ (¬ (0 ≤ r ∧ r ≤ 63) ∧ A' = none ∧ n' = 0 ∧ c' = 0)) := by
  refine (V.posted_Posted_of_calls (R := fun v w' => w' = w ∧ ∃ A' n' c', v = .slice A' n' c' ∧ RowR w A' n' c' (rrow P r) ∧
      ((0 ≤ r ∧ r ≤ 63 ∧ A' = A r.toNat ∧ n' = n r.toNat ∧ c' = c r.toNat) ∨ (¬ (0 ≤ r ∧ r ≤ 63) ∧ A' = none ∧ n' = 0 ∧ c' = 0))) ?_).mono ?_
  · refine ifb_f (nilC_in ⟨_, h.blk.cell rfl, ifb_f ((inP_calls _ _ _ _).mono ?_)⟩)
    rintro e w1 ⟨rfl, rfl⟩
    refine ⟨_, rfl, ifb_intro (fun g => ?_) (fun g => ?_)⟩
    · have hn : ¬ (0 ≤ r ∧ r ≤ 63) := by
        simp only [Bool.not_eq_true', Bool.and_eq_false_iff, decide_eq_false_iff_not] at g
        omega
      have e : rrow P r = [] := List.filter_eq_nil_iff.2 fun x hx => by
        have := hP.ranks x hx
        simp only [decide_eq_true_eq]; rintro rfl; exact hn this
      rw [e]
      exact ⟨rfl, _, _, _, rfl, Row.nil _ _ _, .inr ⟨hn, rfl, rfl, rfl⟩⟩
    · have hn : 0 ≤ r ∧ r ≤ 63 := by
        simp only [Bool.not_eq_false', Bool.and_eq_true, decide_eq_true_eq] at g
        exact g
      have hr := h.row r.toNat (by omega)
      rw [show ((r.toNat : Nat) : Int) = r by omega] at hr
      exact nilC_in ⟨hn.1, by omega, b, _, rfl, _, _, _, h.blk.cell (pcell A n c (by omega)), rfl, _, _, _, rfl, hr, .inl ⟨hn.1, hn.2, rfl, rfl, rfl⟩⟩
  · rintro e w' ⟨v, rfl, hw, A', n', c', rfl, h⟩
    exact ⟨hw, A', n', c', rfl, h⟩
theorem place1_calls {w : World} (m : Recv) {f : Nat} {n : Int} {e : TypeId} (hf : Blk w f [.int .i64 n] e) :
    Calls Try.prog 73 #[rvA m, .pointer (some ⟨f, 0, none⟩)] w fun e w' => e = .returned (.bool (m.call == n)) ∧ Step NoB w w' := by
  refine (V.posted_Posted_place_1_calls (R := fun v w' => v = .bool (m.call == n) ∧ Step NoB w w') ?_).mono ?_
  · intro b w1 h1
    exact ⟨_, h1.blk.cell rfl, _, (hf.new h1).cell rfl, rfl, (Step.refl _ _).new h1⟩
  · rintro e w' ⟨v, rfl, rfl, h⟩
    exact ⟨rfl, h⟩
def placeP (P : List Recv) (rank call : Int) : Int := idxR (fun x => x.call == call) (rrow P rank)
theorem placeP_calls {w : World} {b : Nat} {A : Nat → Option Addr} {n c : Nat → Nat} {P : List Recv} (h : PR w b A n c P) (hP : Good P) (rank call : Int) :
    Calls Try.prog 50 #[.pointer (some ⟨b, 0, none⟩), .int .i64 rank, .int .i64 call] w fun e w' => e = .returned (.int .i64 (placeP P rank call)) ∧ Step NoB w w' := by
  refine (V.posted_Posted_place_calls (R := fun v w' => v = .int .i64 (placeP P rank call) ∧ Step NoB w w') ?_).mono ?_
  · intro f w1 h1
    refine (ofP_calls (h.then h1.step) hP rank).mono ?_
    rintro e w2 ⟨rfl, A', n', c', rfl, hR, _⟩
    refine ⟨_, _, _, rfl, (indexR_calls (cap := [.pointer (some ⟨f, 0, none⟩)]) (fun x => x.call == call) hR (entersB_out (by kernel_rfl)) fun m _ w' s => place1_calls m (h1.blk.then s)).mono ?_⟩
    rintro e w3 ⟨rfl, s3⟩
    exact ⟨_, rfl, rfl, h1.step.then s3⟩
  · rintro e w' ⟨v, rfl, rfl, h⟩
    exact ⟨rfl, h⟩
theorem placeP_find (P : List Recv) (rank call : Int) : (at_ P rank call = none ∧ placeP P rank call = -1) ∨ ∃ m, ∃ i : Nat, at_ P rank call = some m ∧ placeP P rank call = i ∧ (rrow P rank)[i]? = some m := by
  have := idxR_find (fun x => x.call == call) (rrow P rank)
  rw [at_row] at this
  exact this
theorem PRep.at_calls {F : Nat → Prop} {w : World} {a : Option Addr} {P : List Recv} (h : PRep w a P F) (hP : Good P) (rank call : Int) :
    Calls Try.prog 22 #[.pointer a, .int .i64 rank, .int .i64 call] w fun e w' => e = .returned (.tuple #[rvA ((at_ P rank call).getD zeroR), .bool (at_ P rank call).isSome]) ∧ Step NoB w w' := by
  obtain ⟨b, A, n, c, rfl, h, hF⟩ := h
  refine (V.posted_Posted_At_calls (R := fun v w' => v = .tuple #[rvA ((at_ P rank call).getD zeroR), .bool (at_ P rank call).isSome] ∧ Step NoB w w') ?_).mono ?_
  · intro b1 w1 h1
    have s1 := (Step.refl NoB w).new h1
    have ge1 := h1.ge (Step.refl NoB w)
    refine (placeP_calls (h.then h1.step) hP rank call).mono ?_
    rintro e w2 ⟨rfl, s2⟩
    refine ⟨_, rfl, ?_⟩
    rcases placeP_find P rank call with ⟨e1, e2⟩ | ⟨m, i, e1, e2, hi⟩
    · rw [e1, e2]
      refine ifb_of (by decide) ⟨_, _, h1.blk.then s2, by simp, fun w3 h3 => ?_⟩
      exact ⟨_, _, _, _, _, _, _, _, _, h3.blk.all, rfl, (s1.then s2).upd h3 (.inl ge1)⟩
    · rw [e1, e2]
      refine ifb_not (by rw [decide_eq_false_iff_not]; omega) ((ofP_calls ((h.then h1.step).then s2) hP rank).mono ?_)
      rintro e w3 ⟨rfl, A', n', c', rfl, hR, _⟩
      have hn := RowR.len hR
      have hil := (List.getElem?_eq_some_iff.1 hi).1
      obtain ⟨b', rfl, hc⟩ := RowR.elem hR hi
      refine ⟨_, _, _, rfl, by omega, by omega, b', 0, rfl, _, _, _, _, _, _, _, _, _, hc, _, _, h1.blk.then s2, by simp, fun w4 h4 => ?_⟩
      exact ⟨_, _, _, _, _, _, _, _, _, h4.blk.all, rfl, (s1.then s2).upd h4 (.inl ge1)⟩
  · rintro e w' ⟨v, rfl, rfl, h⟩
    exact ⟨rfl, h⟩
theorem PRep.waiting_calls {F : Nat → Prop} {w : World} {a : Option Addr} {P : List Recv} (h : PRep w a P F) (hP : Good P) (hl : P.length ≤ 1000000) (rank : Int) :
    Calls Try.prog 25 #[.pointer a, .int .i64 rank] w fun e w' => ∃ A' n' c', e = .returned (.slice A' n' c') ∧ RowR w' A' n' c' (waitL (rrow P rank)) ∧ (∀ k, At A' k → w.heap.size ≤ k) ∧ Step NoB w w' := by
  obtain ⟨b, A, n, c, rfl, h, hF⟩ := h
  refine (V.posted_Posted_Waiting_calls (R := fun v w' => ∃ A' n' c', v = .slice A' n' c' ∧ RowR w' A' n' c' (waitL (rrow P rank)) ∧ (∀ k, At A' k → w.heap.size ≤ k) ∧ Step NoB w w') ?_).mono ?_
  · refine (ofP_calls h hP rank).mono ?_
    rintro e w1 ⟨rfl, A', n', c', rfl, hR, _⟩
    have hn := RowR.len hR
    have := rrow_length P rank
    refine ⟨_, _, _, rfl, (kept_calls hR (by omega)).mono ?_⟩
    rintro e w2 ⟨A2, n2, c2, rfl, hR2, hat, s2⟩
    exact ⟨_, _, _, rfl, _, _, _, rfl, hR2, hat, s2⟩
  · rintro e w' ⟨v, rfl, A', n', c', rfl, h⟩
    exact ⟨A', n', c', rfl, h⟩

end Go.Proofs.Ytdaojmkbjkaakaa
