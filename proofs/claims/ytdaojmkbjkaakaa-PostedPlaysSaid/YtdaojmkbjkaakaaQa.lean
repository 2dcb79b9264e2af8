/- Plain: a queue of messages as a list, in the order in which they were sent; what its operations do. Conditions: none. -/
namespace Go.Q13

/-- A message. -/
structure Msg where
  key : ByteArray
  fr : Int
  to : Int
  call : Int
  tag : Int
  val : Int
  size : Int
  taken : Bool
deriving DecidableEq
/-- A channel. -/
structure Ch where
  key : ByteArray
  fr : Int
  to : Int
deriving DecidableEq

def Msg.ch (m : Msg) : Ch := ⟨m.key, m.fr, m.to⟩
def Msg.may (m : Msg) : Bool := !m.taken && decide (0 ≤ m.fr) && decide (m.fr ≤ 63) && decide (0 ≤ m.to) && decide (m.to ≤ 63) && !decide (m.call < 0) && decide (0 ≤ m.tag) && decide (m.tag ≤ 32767) && decide (1 ≤ m.size) && decide (m.size ≤ 64)
def row (Q : List Msg) (c : Ch) : List Msg := Q.filter fun m => decide (m.ch = c)
def is (fr call : Int) (m : Msg) : Bool := decide (m.fr = fr ∧ m.call = call)
def find (Q : List Msg) (fr call : Int) : Option Msg := Q.find? (is fr call)
/-- what sending tells, and leaves -/
def sendE (Q : List Msg) (m : Msg) : Int := if (find Q m.fr m.call).isSome || !m.may then 2 else 0
def send (Q : List Msg) (m : Msg) : List Msg := if (find Q m.fr m.call).isSome || !m.may then Q else Q ++ [m]
def fits (tag : Int) (m : Msg) : Bool := !m.taken && (tag == -1 || tag == m.tag)
def first (Q : List Msg) (c : Ch) (tag : Int) : Option Msg := (row Q c).find? (fits tag)
def takeE (Q : List Msg) (fr call : Int) : Int := match find Q fr call with | none => 2 | some m => if m.taken then 2 else 0
def tick (fr call : Int) (m : Msg) : Msg := if is fr call m then { m with taken := true } else m
def take (Q : List Msg) (fr call : Int) : List Msg := if takeE Q fr call = 0 then Q.map (tick fr call) else Q

/-- No two are of one sender and call. -/
def Uniq (Q : List Msg) : Prop := Q.Pairwise fun a b => ¬ (a.fr = b.fr ∧ a.call = b.call)

theorem find_some {Q : List Msg} {fr call : Int} {m : Msg} (h : find Q fr call = some m) : m ∈ Q ∧ m.fr = fr ∧ m.call = call := by
  have h1 := List.find?_some h
  simp only [is, decide_eq_true_eq] at h1
  exact ⟨List.mem_of_find?_eq_some h, h1⟩
theorem find_none {Q : List Msg} {fr call : Int} (h : find Q fr call = none) : ∀ m ∈ Q, ¬ (m.fr = fr ∧ m.call = call) := by
  intro m hm he
  have := List.find?_eq_none.1 h m hm
  simp [is, he] at this
theorem uniq_eq {Q : List Msg} (h : Uniq Q) {a b : Msg} (ha : a ∈ Q) (hb : b ∈ Q) (h1 : a.fr = b.fr) (h2 : a.call = b.call) : a = b := by
  unfold Uniq at h
  induction Q with
  | nil => cases ha
  | cons x Q ih =>
    rw [List.pairwise_cons] at h
    rcases List.mem_cons.1 ha with ha' | ha' <;> rcases List.mem_cons.1 hb with hb' | hb'
    · rw [ha', hb']
    · subst ha'; exact absurd ⟨h1, h2⟩ (h.1 b hb')
    · subst hb'; exact absurd ⟨h1.symm, h2.symm⟩ (h.1 a ha')
    · exact ih h.2 ha' hb'
theorem send_uniq {Q : List Msg} (h : Uniq Q) (m : Msg) : Uniq (send Q m) := by
  unfold send
  split
  · exact h
  · rename_i hc
    simp only [Bool.or_eq_true, not_or] at hc
    have hn : find Q m.fr m.call = none := by
      cases hf : find Q m.fr m.call with
      | none => rfl
      | some x => simp [hf] at hc
    unfold Uniq
    rw [List.pairwise_append]
    exact ⟨h, by simp, fun a ha b hb => by rw [List.mem_singleton.1 hb]; exact find_none hn a ha⟩
theorem tick_fr (fr call : Int) (m : Msg) : (tick fr call m).fr = m.fr := by unfold tick; split <;> rfl
theorem tick_call (fr call : Int) (m : Msg) : (tick fr call m).call = m.call := by unfold tick; split <;> rfl
theorem tick_ch (fr call : Int) (m : Msg) : (tick fr call m).ch = m.ch := by unfold tick; split <;> rfl
theorem take_uniq {Q : List Msg} (h : Uniq Q) (fr call : Int) : Uniq (take Q fr call) := by
  unfold take
  split
  · unfold Uniq
    rw [List.pairwise_map]
    exact h.imp fun h => by rw [tick_fr, tick_fr, tick_call, tick_call]; exact h
  · exact h
theorem row_map {Q : List Msg} {f : Msg → Msg} (hf : ∀ m, (f m).ch = m.ch) (c : Ch) : row (Q.map f) c = (row Q c).map f := by
  unfold row
  rw [List.filter_map]
  congr 1
  refine List.filter_congr fun m _ => ?_
  simp [hf]
theorem row_append (Q R : List Msg) (c : Ch) : row (Q ++ R) c = row Q c ++ row R c := List.filter_append ..
theorem mem_row {Q : List Msg} {c : Ch} {m : Msg} : m ∈ row Q c ↔ m ∈ Q ∧ m.ch = c := by simp [row, List.mem_filter]

/-- what is aheadOf of a message -/
def aheadOf (Q : List Msg) (fr call : Int) : List Msg := match find Q fr call with
  | none => []
  | some m => ((row Q m.ch).takeWhile fun x => decide (x ≠ m)).filter fun x => !x.taken
theorem Uniq.nodup {Q : List Msg} (h : Uniq Q) : Q.Nodup := h.imp fun hab he => hab (by rw [he]; exact ⟨rfl, rfl⟩)
theorem Uniq.row {Q : List Msg} (h : Uniq Q) (c : Ch) : Uniq (row Q c) := List.Pairwise.filter _ h
theorem takeWhile_at {l : List Msg} (h : l.Nodup) {i : Nat} {m : Msg} (hi : l[i]? = some m) : (l.takeWhile fun x => decide (x ≠ m)) = l.take i := by
  induction l generalizing i with
  | nil => cases hi
  | cons x l ih =>
    rw [List.nodup_cons] at h
    cases i with
    | zero =>
      simp only [List.getElem?_cons_zero, Option.some.injEq] at hi
      subst hi
      simp
    | succ i =>
      have hm : m ∈ l := List.mem_of_getElem? (by simpa using hi)
      have hx : x ≠ m := fun e => h.1 (e ▸ hm)
      rw [List.takeWhile_cons, if_pos (by simp [hx]), ih h.2 (by simpa using hi), List.take_succ_cons]

/-! going over channels -/
def open_ (Q : List Msg) : List Msg := Q.filter fun x => !x.taken
theorem row_open (Q : List Msg) (c : Ch) : row (open_ Q) c = open_ (row Q c) := by
  unfold row open_
  rw [List.filter_filter, List.filter_filter]
  exact List.filter_congr fun x _ => Bool.and_comm _ _
theorem row_flat {g : Ch → List Msg} (hg : ∀ c, ∀ m ∈ g c, m.ch = c) : ∀ {cs : List Ch}, cs.Nodup → ∀ c, row (cs.flatMap g) c = if c ∈ cs then g c else []
  | [], _, c => rfl
  | d :: cs, h, c => by
    rw [List.nodup_cons] at h
    rw [List.flatMap_cons, row_append, row_flat hg h.2 c]
    by_cases hc : c = d
    · subst hc
      rw [if_neg h.1, if_pos (List.mem_cons_self ..), List.append_nil]
      exact List.filter_eq_self.2 fun m hm => by simp [hg c m hm]
    · have : row (g d) c = [] := List.filter_eq_nil_iff.2 fun m hm => by simp only [hg d m hm, decide_eq_true_eq]; exact Ne.symm hc
      rw [this, List.nil_append]
      simp [hc]
theorem perm_of_rows {a b : List Msg} (h : ∀ c, row a c = row b c) : a.Perm b := by
  rw [List.perm_iff_count]
  intro m
  have e : ∀ l : List Msg, List.count m l = List.count m (row l m.ch) := fun l => by
    unfold row
    rw [List.count_filter (by simp)]
  rw [e a, e b, h]

end Go.Q13
