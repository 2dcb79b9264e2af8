/- Contracts: Post of receives. Conditions: none. -/
import Derived.Test.YtdaojmkbjkaakaaRk
set_option linter.unusedVariables false
set_option linter.unusedSimpArgs false
namespace Go.Proofs.Ytdaojmkbjkaakaa
open Go.Vc Go.Q13 Go.RowKit

def rmay (r : Recv) : Bool := decide (0 ≤ r.rank) && decide (r.rank ≤ 63) && decide (-1 ≤ r.peer) && decide (r.peer ≤ 63) && decide (-1 ≤ r.tag) && decide (r.tag ≤ 32767) && !decide (r.req < -1) && !decide (r.call < 0)
def late (P : List Recv) (r : Recv) : Bool := P.any fun x => decide (x.rank = r.rank) && decide (x.call ≥ r.call)
def clean (r : Recv) : Recv := { r with done := false, fr := 0, seq := 0 }
def postE (P : List Recv) (r : Recv) : Int := if !rmay r || late P r then 2 else 0
def post (P : List Recv) (r : Recv) : List Recv := if !rmay r || late P r then P else P ++ [clean r]
theorem post_length (P : List Recv) (r : Recv) : (post P r).length ≤ P.length + 1 := by unfold post; split <;> simp
theorem post_good {P : List Recv} (h : Good P) {r : Recv} (hr : RFit r) : Good (post P r) := by
  unfold post
  split
  · exact h
  · rename_i hc
    simp only [Bool.or_eq_true, Bool.not_eq_true', not_or, Bool.not_eq_false, Bool.not_eq_true] at hc
    obtain ⟨hm, hl⟩ := hc
    refine ⟨?_, ?_, ?_⟩
    · rw [List.pairwise_append]
      refine ⟨h.rising, by simp, fun a ha b hb he => ?_⟩
      rw [List.mem_singleton.1 hb] at he ⊢
      have := List.any_eq_false.1 hl a ha
      simp only [ge_iff_le, Bool.and_eq_true, decide_eq_true_eq, not_and] at this
      have := this he
      show a.call < r.call
      omega
    · intro x hx
      rcases List.mem_append.1 hx with hx | hx
      · exact h.ranks x hx
      · rw [List.mem_singleton.1 hx]
        simp only [rmay, Bool.and_eq_true, decide_eq_true_eq] at hm
        exact ⟨hm.1.1.1.1.1.1.1, hm.1.1.1.1.1.1.2⟩
    · intro x hx
      rcases List.mem_append.1 hx with hx | hx
      · exact h.fit x hx
      · rw [List.mem_singleton.1 hx]
        exact ⟨hr.1, hr.2.1, hr.2.2.1, hr.2.2.2.1, hr.2.2.2.2.1, hr.2.2.2.2.2.1, ⟨by simp [clean], by simp [clean]⟩, ⟨by simp [clean], by simp [clean]⟩⟩
/-- in a rising row the last one is the greatest -/
theorem late_row {P : List Recv} (h : Good P) {r : Recv} : (late P r = true ↔ ∃ x ∈ rrow P r.rank, x.call ≥ r.call) := by
  unfold late
  simp only [List.any_eq_true, Bool.and_eq_true, decide_eq_true_eq]
  constructor
  · rintro ⟨x, hx, h1, h2⟩; exact ⟨x, mem_rrow.2 ⟨hx, h1⟩, h2⟩
  · rintro ⟨x, hx, h2⟩; exact ⟨x, (mem_rrow.1 hx).1, (mem_rrow.1 hx).2, h2⟩
theorem row_rising {P : List Recv} (h : Good P) (r : Int) : (rrow P r).Pairwise fun a b => a.call < b.call := by
  have h1 := List.Pairwise.filter (fun x : Recv => decide (x.rank = r)) h.rising
  refine List.Pairwise.imp_of_mem (fun {a b} ha hb hab => hab ?_) h1
  rw [(mem_rrow.1 ha).2, (mem_rrow.1 hb).2]
theorem late_last {P : List Recv} (h : Good P) {r y : Recv} {i : Nat} (hi : (rrow P r.rank)[i]? = some y) (hl : (rrow P r.rank).length = i + 1) : late P r = decide (r.call ≤ y.call) := by
  rw [Bool.eq_iff_iff, late_row h, decide_eq_true_eq]
  constructor
  · rintro ⟨x, hx, hc⟩
    obtain ⟨j, hj, rfl⟩ := List.getElem_of_mem hx
    obtain ⟨hi', rfl⟩ := List.getElem?_eq_some_iff.1 hi
    by_cases hji : j = i
    · subst hji; exact hc
    · have := List.pairwise_iff_getElem.1 (row_rising h r.rank) j i hj hi' (by omega)
      omega
  · intro hc; exact ⟨y, List.mem_of_getElem? hi, hc⟩

theorem range_map_set {f g : Nat → Value} {r : Nat} (hr : r < 64) (hf : ∀ i, i ≠ r → f i = g i) : ((List.range 64).map f).set r (g r) = (List.range 64).map g := by
  refine List.ext_getElem? fun j => ?_
  rw [List.getElem?_set]
  split
  · rename_i e; subst e; rw [List.length_map, List.length_range, if_pos hr, List.getElem?_map, List.getElem?_range hr]; rfl
  · rename_i e
    rw [List.getElem?_map, List.getElem?_map]
    rcases hx : (List.range 64)[j]? with _ | x
    · rfl
    · simp only [Option.map_some, Option.some.injEq]
      have hjx : x = j := by have := List.getElem?_eq_some_iff.1 hx; obtain ⟨h1, h2⟩ := this; simpa using h2.symm
      exact hf x (by omega)
def putN {α : Type} (f : Nat → α) (r : Nat) (x : α) (i : Nat) : α := if i = r then x else f i
theorem putN_at {α : Type} (f : Nat → α) (r : Nat) (x : α) : putN f r x r = x := if_pos rfl
theorem putN_ne {α : Type} (f : Nat → α) {r i : Nat} (x : α) (h : i ≠ r) : putN f r x i = f i := if_neg h
theorem pcells_set (A : Nat → Option Addr) (n c : Nat → Nat) {r : Nat} (hr : r < 64) (a : Option Addr) (m k : Nat) : (pcells A n c).set (0 + 1 + r * 1) (.slice a m k) = pcells (putN A r a) (putN n r m) (putN c r k) := by
  have e : 0 + 1 + r * 1 = r + 1 := by omega
  rw [e]; unfold pcells
  rw [List.set_cons_succ]
  congr 1
  have := range_map_set (f := fun i => .slice (A i) (n i) (c i)) (g := fun i => .slice (putN A r a i) (putN n r m i) (putN c r k i)) hr fun i hi => by simp only [putN_ne _ _ hi]
  simp only [putN_at] at this
  exact this
/-- one rank's row is another one now -/
theorem PR.put {w w' : World} {b : Nat} {A : Nat → Option Addr} {n c : Nat → Nat} {P P' : List Recv} (h : PR w b A n c P) {F : Nat → Prop} (s : Step F w w') {r : Nat} (hr : r < 64) {a : Option Addr} {m k : Nat}
    (hF : ∀ i j, i < 64 → i ≠ r → At (A i) j → ¬ F j) (hB : Blk w' b (pcells (putN A r a) (putN n r m) (putN c r k)) tPosted) (hR : RowR w' a m k (rrow P' r)) (hP : ∀ i : Nat, i ≠ r → rrow P' i = rrow P i)
    (ha : ∀ j, At a j → At (A r) j ∨ w.heap.size ≤ j) : PR w' b (putN A r a) (putN n r m) (putN c r k) P' := by
  refine ⟨hB, fun i hi => ?_, fun i j x hi hj h1 h2 => ?_, fun i hi h1 => ?_⟩
  · by_cases e : i = r
    · subst e; rw [putN_at, putN_at, putN_at]; exact hR
    · rw [putN_ne _ _ e, putN_ne _ _ e, putN_ne _ _ e, hP i e]
      exact Row.keep (h.row i hi) s fun x hx => hF i x hi e hx
  · have key : ∀ i, i < 64 → i ≠ r → At (A i) x → ¬ At a x := by
      intro i hi e h1 h2
      rcases ha x h2 with h3 | h3
      · exact e (h.apart i r x hi hr h1 h3)
      · have := Row.lt (h.row i hi) h1; omega
    by_cases e1 : i = r <;> by_cases e2 : j = r
    · omega
    · subst e1; rw [putN_at] at h1; rw [putN_ne _ _ e2] at h2; exact absurd h1 (key j hj e2 h2)
    · subst e2; rw [putN_at] at h2; rw [putN_ne _ _ e1] at h1; exact absurd h2 (key i hi e1 h1)
    · rw [putN_ne _ _ e1] at h1; rw [putN_ne _ _ e2] at h2; exact h.apart i j x hi hj h1 h2
  · by_cases e : i = r
    · subst e; rw [putN_at] at h1
      rcases ha b h1 with h3 | h3
      · exact h.off i hr h3
      · have := h.blk.lt; omega
    · rw [putN_ne _ _ e] at h1; exact h.off i hi h1
theorem PF_put {b : Nat} {A : Nat → Option Addr} {r : Nat} {a : Option Addr} {z : Nat} (hr : r < 64) (ha : ∀ j, At a j → At (A r) j ∨ z ≤ j) : ∀ k, PF b (putN A r a) k → PF b A k ∨ z ≤ k := by
  rintro k (rfl | ⟨i, hi, h⟩)
  · exact .inl (.inl rfl)
  · by_cases e : i = r
    · subst e; rw [putN_at] at h
      rcases ha k h with h | h
      · exact .inl (.inr ⟨i, hi, h⟩)
      · exact .inr h
    · rw [putN_ne _ _ e] at h; exact .inl (.inr ⟨i, hi, h⟩)

theorem PRep.post_calls {F : Nat → Prop} {w : World} {a : Option Addr} {P : List Recv} (h : PRep w a P F) (hP : Good P) (hl : P.length ≤ 1000000) (r : Recv) (hr : RFit r) :
    Calls Try.prog 42 #[.pointer a, rvA r] w fun e w' => e = .returned (.int .i64 (postE P r)) ∧ ∃ F', PRep w' a (post P r) F' ∧ Step F w w' ∧ ∀ k, F' k → F k ∨ w.heap.size ≤ k := by
  obtain ⟨b, A, n, c, rfl, h, hF⟩ := h
  refine (V.posted_Posted_Post_calls (s2 := r.key) (n3 := r.rank) (n4 := r.call) (n5 := r.peer) (n6 := r.tag) (n7 := r.req) (t8 := r.done) (n9 := r.fr) (n10 := r.seq)
    (R := fun v w' => v = .int .i64 (postE P r) ∧ ∃ F', PRep w' (some ⟨b, 0, none⟩) (post P r) F' ∧ Step F w w' ∧ ∀ k, F' k → F k ∨ w.heap.size ≤ k) ?_).mono ?_
  · intro b1 w1 h1
    have s1 := (Step.refl NoB w).new h1
    have ge1 := h1.ge (Step.refl NoB w)
    have bad : ∀ w', Step NoB w w' → (!rmay r || late P r) = true → Value.int .i64 2 = .int .i64 (postE P r) ∧ ∃ F', PRep w' (some ⟨b, 0, none⟩) (post P r) F' ∧ Step F w w' ∧ ∀ k, F' k → F k ∨ w.heap.size ≤ k := by
      intro w' s hb
      unfold postE post
      rw [if_pos hb, if_pos hb]
      exact ⟨rfl, F, ⟨b, A, n, c, rfl, h.then s, hF⟩, s.none, fun k hk => .inl hk⟩
    have h' := h.then s1
    have C := h1.blk
    refine ifb_f (nilC_in ⟨_, h'.blk.cell rfl, ifb_f ⟨_, C.cell rfl, (ofP_calls h' hP r.rank).mono ?_⟩⟩)
    rintro e w2 ⟨rfl, A2, n2, c2, rfl, hR2, hA2⟩
    have C' := C.then (Step.refl NoB w2).drew
    have s1d := s1.drew
    refine ⟨_, _, _, rfl, _, C'.cell rfl, (inP_calls _ _ _ _).mono ?_⟩
    rintro e w3 ⟨rfl, rfl⟩
    refine ⟨_, rfl, ifb_intro (fun g => bad _ s1d ?_) (fun g1 => ?_)⟩
    · simp only [Bool.not_eq_true', Bool.and_eq_false_iff] at g
      rcases g with g | g <;> simp [rmay, g]
    refine ⟨_, C'.cell rfl, (inP_calls _ _ _ _).mono ?_⟩
    rintro e w4 ⟨rfl, rfl⟩
    refine ⟨_, rfl, ifb_intro (fun g => bad _ s1d ?_) (fun g2 => ?_)⟩
    · simp only [Bool.not_eq_true', Bool.and_eq_false_iff] at g
      rcases g with g | g <;> simp [rmay, g]
    refine ⟨_, C'.cell rfl, (inP_calls _ _ _ _).mono ?_⟩
    rintro e w5 ⟨rfl, rfl⟩
    refine ⟨_, rfl, ifb_intro (fun g => bad _ s1d ?_) (fun g3 => ?_)⟩
    · simp only [Bool.not_eq_true', Bool.and_eq_false_iff] at g
      rcases g with g | g <;> simp [rmay, g]
    refine ⟨_, C'.cell rfl, ifb_intro (fun g => bad _ s1d (by simp [rmay, g])) (fun g4 => ?_)⟩
    refine ⟨_, C'.cell rfl, ifb_intro (fun g => bad _ s1d (by simp [rmay, g])) (fun g5 => ?_)⟩
    have hmay : rmay r = true := by
      simp only [Bool.not_eq_false', Bool.and_eq_true] at g1 g2 g3
      simp [rmay, g1, g2, g3, g4, g5]
    simp only [Bool.not_eq_false', Bool.and_eq_true, decide_eq_true_eq] at g1
    obtain ⟨_, _, rfl, rfl, rfl⟩ : 0 ≤ r.rank ∧ r.rank ≤ 63 ∧ A2 = A r.rank.toNat ∧ n2 = n r.rank.toNat ∧ c2 = c r.rank.toNat := by
      rcases hA2 with hA2 | hA2
      · exact hA2
      · exact absurd g1 hA2.1
    have hr64 : r.rank.toNat < 64 := by omega
    have hn2 := RowR.len hR2
    have hrl := rrow_length P r.rank
    -- it is posted
    have tail : late P r = false →
        ∃ (l34 : List Value) (e35 : TypeId), Blk w2.drew b1 l34 e35 ∧ 6 + 1 ≤ l34.length ∧ ∀ w36 : World, Upd w2.drew w36 b1 (l34.set 6 (.bool false)) e35 →
        ∃ (l37 : List Value) (e38 : TypeId), Blk w36 b1 l37 e38 ∧ 7 + 1 ≤ l37.length ∧ ∀ w39 : World, Upd w36 w39 b1 (l37.set 7 (.int .i64 0)) e38 →
        ∃ (l40 : List Value) (e41 : TypeId), Blk w39 b1 l40 e41 ∧ 8 + 1 ≤ l40.length ∧ ∀ w42 : World, Upd w39 w42 b1 (l40.set 8 (.int .i64 0)) e41 →
        ∃ n43 : Int, w42.drew.cell? ⟨b1, 1, none⟩ = some (.int .i64 n43) ∧
        ∃ s44 : ByteArray, ∃ n45 : Int, ∃ n46 : Int, ∃ n47 : Int, ∃ n48 : Int, ∃ n49 : Int, ∃ t50 : Bool, ∃ n51 : Int, ∃ n52 : Int, Cells w42.drew ⟨b1, 0, none⟩ [.string s44, .int .i64 n45, .int .i64 n46, .int .i64 n47, .int .i64 n48, .int .i64 n49, .bool t50, .int .i64 n51, .int .i64 n52] ∧
        nilC (some ⟨b, 0, none⟩) fun b53 o53 =>
        ∀ (b54 : Nat) (w55 : World), New w42.drew w55 b54 [.string s44, .int .i64 n45, .int .i64 n46, .int .i64 n47, .int .i64 n48, .int .i64 n49, .bool t50, .int .i64 n51, .int .i64 n52] tRecv →
        (w55.cell? ⟨b1, 1, none⟩ = some (.int .i64 n43)) ∧ ∃ xs56 news57 : List Value, w55.ownsRow 0 tRecv 9 (.slice (A r.rank.toNat) (n r.rank.toNat) (c r.rank.toNat)) (n r.rank.toNat) xs56 ∧ Reads w55 (some ⟨b54, 0, none⟩) 1 9 news57 ∧ n r.rank.toNat + 1 ≤ maxLen ∧ (n r.rank.toNat + 1) * 80 ≤ 140737488355328 ∧
        ∀ (A59 : Option Addr) (C59 : Nat) (w58 : World), w58.ownsRow 0 tRecv 9 (.slice A59 (n r.rank.toNat + 1) C59) (n r.rank.toNat + 1) (xs56 ++ news57) → App w55 w58 (A r.rank.toNat) A59 →
        (w58.cell? ⟨b1, 1, none⟩ = some (.int .i64 n43)) ∧ 0 ≤ n43 ∧ n43 < ((64 : Nat) : Int) ∧ ∃ b60 o61 : Nat, (some ⟨b53, o53 + 1, none⟩ : Option Addr) = some ⟨b60, o61, none⟩ ∧
        ∃ (l62 : List Value) (e63 : TypeId), Blk w58 b60 l62 e63 ∧ o61 + n43.toNat * 1 + 1 ≤ l62.length ∧ ∀ w64 : World, Upd w58 w64 b60 (l62.set (o61 + n43.toNat * 1) (.slice A59 (n r.rank.toNat + 1) C59)) e63 →
        Value.int .i64 0 = .int .i64 (postE P r) ∧ ∃ F', PRep w64 (some ⟨b, 0, none⟩) (post P r) F' ∧ Step F w w64 ∧ ∀ k, F' k → F k ∨ w.heap.size ≤ k := by
      intro hnl
      have e1 : postE P r = 0 := by unfold postE; rw [if_neg (by simp [hmay, hnl])]
      have e2 : post P r = P ++ [clean r] := by unfold post; rw [if_neg (by simp [hmay, hnl])]
      rw [e1, e2]
      refine ⟨_, _, C', by simp, fun w36 u36 => ⟨_, _, u36.blk, by simp, fun w39 u39 => ⟨_, _, u39.blk, by simp, fun w42 u42 => ?_⟩⟩⟩
      have S42 : Step NoB w w42 := ((s1d.upd u36 (.inl ge1)).upd u39 (.inl ge1)).upd u42 (.inl ge1)
      have B42 : Blk w42 b1 (rv (clean r)) tRecv := u42.blk
      have B42' := B42.then (Step.refl NoB w42).drew
      refine ⟨_, B42'.cell rfl, _, _, _, _, _, _, _, _, _, B42'.all, nilC_in fun b54 w55 h55 => ?_⟩
      replace h55 := h55.undrew
      have S55 := S42.new h55
      have B55 := B42.new h55
      have h55' := h.then S55
      have hR55 := h55'.row r.rank.toNat hr64
      rw [show ((r.rank.toNat : Nat) : Int) = r.rank by omega] at hR55
      have lt1 : ∀ k, At (A r.rank.toNat) k → k < w.heap.size := fun k hk => h.lt (.inr ⟨_, hr64, hk⟩)
      refine ⟨B55.cell rfl, _, _, hR55, reads_blk h55.blk rfl (rv_one (clean r)), ?_, by omega, fun A59 C59 w58 h58 hap => ?_⟩
      · have : maxLen = 9223372036854775807 := rfl
        omega
      have B58 := B55.keep hap.step fun hk => by have := lt1 _ hk; omega
      have P58 : Blk w58 b (pcells A n c) tPosted := h55'.blk.keep hap.step (h.off _ hr64)
      refine ⟨B58.cell rfl, g1.1, by show r.rank < _; omega, b, _, rfl, _, _, P58, by rw [pcells_length]; show 0 + 1 + r.rank.toNat * 1 + 1 ≤ 65; omega, fun w64 u64 => ⟨rfl, ?_⟩⟩
      have atA : ∀ j, At A59 j → At (A r.rank.toNat) j ∨ w.heap.size ≤ j := by
        intro j hj
        rcases hap.at_ with hc | hc
        · exact .inl (by unfold At at hj ⊢; rw [← hc]; exact hj)
        · unfold At at hj
          rw [hc] at hj
          cases hj
          exact .inr S55.size
      have S58 : Step (fun k => k = b ∨ At (A r.rank.toNat) k) w w58 := hap.new S55.none fun k hk => .inr (.inr hk)
      have S64 : Step (fun k => k = b ∨ At (A r.rank.toNat) k) w w64 := S58.upd u64 (.inr (.inl rfl))
      have hu := u64.blk
      replace hu : Blk w64 b ((pcells A n c).set (0 + 1 + r.rank.toNat * 1) (.slice A59 (n r.rank.toNat + 1) C59)) tPosted := hu
      rw [pcells_set A n c hr64] at hu
      have hR64 : RowR w64 A59 (n r.rank.toNat + 1) C59 (rrow (P ++ [clean r]) r.rank.toNat) := by
        rw [show ((r.rank.toNat : Nat) : Int) = r.rank by omega, rrow_append, show rrow [clean r] r.rank = [clean r] by simp [rrow, clean]]
        have : Row w58 A59 (n r.rank.toNat + 1) C59 tRecv 9 ((rrow P r.rank ++ [clean r]).flatMap rv) := by
          rw [List.flatMap_append, show ([clean r] : List Recv).flatMap rv = rv (clean r) by simp]; exact h58
        refine Row.keep this u64.step fun k hk e => ?_
        subst e
        rcases atA k hk with hc | hc
        · exact h.off _ hr64 hc
        · have := h.blk.lt; omega
      refine ⟨PF b (putN A r.rank.toNat A59), ⟨b, _, _, _, rfl, h.put S64 hr64 ?_ hu hR64 ?_ atA, fun _ => Iff.rfl⟩, S64.mono fun k _ hk => (hF k).2 (hk.elim .inl fun hk => .inr ⟨_, hr64, hk⟩), ?_⟩
      · rintro i j hi hne hj (e | hk)
        · exact h.off i hi (e ▸ hj)
        · exact hne (h.apart i _ j hi hr64 hj hk)
      · intro i hi
        rw [rrow_append, show rrow [clean r] i = [] by
          have : ¬ r.rank = i := by omega
          simp [rrow, clean, this], List.append_nil]
      · intro k hk
        rcases PF_put hr64 atA k hk with hk | hk
        · exact .inl ((hF k).2 hk)
        · exact .inr hk
    refine ifb_intro (fun gn => ?_) (fun gn => tail ?_)
    · simp only [gt_iff_lt, decide_eq_true_eq] at gn
      obtain ⟨y, hy⟩ : ∃ y, (rrow P r.rank)[n r.rank.toNat - 1]? = some y := ⟨_, List.getElem?_eq_getElem (by omega)⟩
      obtain ⟨b', hb', hc⟩ := RowR.elem (Row.then hR2 (Step.refl _ _).drew) hy
      have c2 := hc 2 _ rfl
      rw [add_none] at c2
      have ex : n r.rank.toNat - 1 = (((n r.rank.toNat : Nat) : Int) - 1).toNat := by omega
      rw [ex] at c2
      have hll := late_last hP (r := r) hy (by omega)
      refine ⟨_, C'.cell rfl, _, w64 (by omega), by omega, by omega, b', 0, hb', _, c2, ifb_intro (fun g => bad _ s1d ?_) (fun g => tail ?_)⟩
      · rw [hll, g]; simp
      · rw [hll]; exact g
    · simp only [gt_iff_lt, decide_eq_false_iff_not] at gn
      have e : rrow P r.rank = [] := List.eq_nil_of_length_eq_zero (by omega)
      rw [Bool.eq_false_iff, ne_eq, late_row hP, e]
      simp
  · rintro e w' ⟨v, rfl, rfl, h⟩
    exact ⟨rfl, h⟩

end Go.Proofs.Ytdaojmkbjkaakaa
