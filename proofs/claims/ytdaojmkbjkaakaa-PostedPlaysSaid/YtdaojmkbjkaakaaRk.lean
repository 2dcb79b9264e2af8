/- Contracts: which messages may be a receive's. Conditions: none. -/
import Derived.Test.YtdaojmkbjkaakaaRj
set_option linter.unusedVariables false
set_option linter.unusedSimpArgs false
namespace Go.Proofs.Ytdaojmkbjkaakaa
open Go.Vc Go.Q13 Go.RowKit

theorem senders_iff {Q : List Msg} {key : ByteArray} {to : Int} {zs : List Int} (h : sendersL Q key to zs) (x : Int) : x ∈ zs ↔ ∃ m ∈ Q, m.key = key ∧ m.fr = x ∧ m.to = to ∧ m.taken = false := by
  obtain ⟨cs, hc, rfl⟩ := h
  rw [List.mem_mergeSort]
  unfold fromsOf
  constructor
  · intro hx
    obtain ⟨c, hcm, rfl⟩ := List.mem_map.1 hx
    obtain ⟨hc1, hc2⟩ := List.mem_filter.1 hcm
    simp only [asks, Bool.and_eq_true, decide_eq_true_eq, List.any_eq_true] at hc2
    obtain ⟨⟨rfl, rfl⟩, m, hm, ht⟩ := hc2
    obtain ⟨h1, h2⟩ := mem_row.1 hm
    exact ⟨m, h1, congrArg Ch.key h2, congrArg Ch.fr h2, congrArg Ch.to h2, by simpa using ht⟩
  · rintro ⟨m, hm, rfl, rfl, rfl, ht⟩
    have hr : m ∈ row Q m.ch := mem_row.2 ⟨hm, rfl⟩
    refine List.mem_map.2 ⟨m.ch, List.mem_filter.2 ⟨hc.2.2 _ (List.ne_nil_of_mem hr), ?_⟩, rfl⟩
    simp only [asks, Bool.and_eq_true, decide_eq_true_eq, List.any_eq_true]
    exact ⟨⟨rfl, rfl⟩, m, hr, by simp [ht]⟩
theorem senders_length {Q : List Msg} {key : ByteArray} {to : Int} {zs : List Int} (h : sendersL Q key to zs) : zs.length ≤ Q.length := by
  obtain ⟨cs, hc, rfl⟩ := h
  rw [List.length_mergeSort]
  have h1 : (fromsOf Q key to cs).length ≤ cs.length := by unfold fromsOf; rw [List.length_map]; exact List.length_filter_le ..
  have h2 : cs.length ≤ (Q.map (·.ch)).length := by
    refine nodup_le hc.1 fun c hcm => ?_
    obtain ⟨m, hm⟩ := List.exists_mem_of_ne_nil _ (hc.2.1 c hcm)
    obtain ⟨g1, g2⟩ := mem_row.1 hm
    exact List.mem_map.2 ⟨m, g1, g2⟩
  rw [List.length_map] at h2
  omega
theorem QRep.fit {F : Nat → Prop} {w : World} {a : Option Addr} {Q : List Msg} (h : QRep w a Q F) : ∀ m ∈ Q, MFit m := by
  obtain ⟨b0, b1, b2, es1, es2, rfl, h, _⟩ := h
  exact h.fit

/-- the message of one sender that may be a receive's, behind others that wait -/
def freeO (Q : List Msg) (r : Recv) (wait : List Recv) (fr : Int) : Option Msg :=
  if r.peer = -1 ∨ r.peer = fr then (match first Q ⟨r.key, fr, r.rank⟩ r.tag with | some m => if wait.any (fun x => rfits x m) then none else some m | none => none) else none
def freeL (Q : List Msg) (r : Recv) (wait : List Recv) (zs : List Int) : List Msg := zs.filterMap (freeO Q r wait)
theorem free1_calls {w : World} (x : Recv) {f : Nat} {m : Msg} {e : TypeId} (hf : Blk w f (mv m) e) :
    Calls Try.prog 98 #[rvA x, .pointer (some ⟨f, 0, none⟩)] w fun e w' => e = .returned (.bool (rfits x m)) ∧ Step NoB w w' := by
  refine (V.posted_free_1_calls (R := fun v w' => v = .bool (rfits x m) ∧ Step NoB w w') ?_).mono ?_
  · intro b w1 h1
    refine ⟨_, _, _, _, _, _, _, _, _, h1.blk.all, _, _, _, _, _, _, _, _, (hf.new h1).all, (fits_calls x m w1).mono ?_⟩
    rintro e w2 ⟨rfl, s2⟩
    exact ⟨_, rfl, rfl, h1.step.then s2⟩
  · rintro e w' ⟨v, rfl, rfl, h⟩
    exact ⟨rfl, h⟩
theorem take_succ_fm {f : Int → Option Msg} {l : List Int} {i : Nat} {x : Int} (hi : l[i]? = some x) : (l.take (i + 1)).filterMap f = (l.take i).filterMap f ++ (match f x with | some m => [m] | none => []) := by
  rw [List.take_add_one, hi, Option.toList_some, List.filterMap_append]
  congr 1
  cases h : f x <;> simp [List.filterMap_cons, h]
theorem fm_length (f : Int → Option Msg) (l : List Int) : (l.filterMap f).length ≤ l.length := List.length_filterMap_le ..

theorem free_calls {F : Nat → Prop} {w : World} {a : Option Addr} {Q : List Msg} (h : QRep w a Q F) (hQ : Q.length ≤ 1000000) (r : Recv) (hr : RFit r) {A : Option Addr} {n c : Nat} {l : List Recv} (hR : RowR w A n c l) (hl : l.length ≤ 1000000) :
    Calls Try.prog 89 #[.pointer a, rvA r, .slice A n c] w fun e w' => ∃ A' n' c' zs, e = .returned (.slice A' n' c') ∧ sendersL Q r.key r.rank zs ∧ RowM w' A' n' c' (freeL Q r (waitL l) zs) ∧ (∀ k, At A' k → w.heap.size ≤ k) ∧ Step NoB w w' := by
  have hn := RowR.len hR
  refine (V.posted_free_calls (s2 := r.key) (n3 := r.rank) (n4 := r.call) (n5 := r.peer) (n6 := r.tag) (n7 := r.req) (t8 := r.done) (n9 := r.fr) (n10 := r.seq)
    (R := fun v w' => ∃ A' n' c' zs, v = .slice A' n' c' ∧ sendersL Q r.key r.rank zs ∧ RowM w' A' n' c' (freeL Q r (waitL l) zs) ∧ (∀ k, At A' k → w.heap.size ≤ k) ∧ Step NoB w w') ?_).mono ?_
  · intro b1 w1 h1
    have s1 := (Step.refl NoB w).new h1
    refine (kept_calls (Row.then hR h1.step) (by omega)).mono ?_
    rintro e w2 ⟨A2, n2, c2, rfl, hW2, _, s2⟩
    have B2 := h1.blk.then s2
    have s12 := s1.then s2
    refine ⟨_, _, _, rfl, _, B2.cell rfl, _, B2.cell rfl, ((h.then s12).senders_calls r.key r.rank (by omega) fun zs hz => sortsI zs hz).mono ?_⟩
    rintro e w3 ⟨A3, n3, c3, zs, rfl, hZ3, hZ, _, s3⟩
    have hzl := senders_length hZ
    have hzn := RowI.len hZ3
    have s13 := s12.then s3
    refine ⟨_, _, _, rfl, fun A' N' C' i w' => 0 ≤ i ∧ i ≤ n3 ∧ Step NoB w3 w' ∧ RowM w' A' N' C' (freeL Q r (waitL l) (zs.take i.toNat)) ∧ (∀ b, At A' b → w3.heap.size ≤ b), fun _ _ _ i _ => (n3 - i).toNat, ⟨by omega, by omega, Step.refl _ _, Row.nil _ _ _, fun b hb => absurd hb at_none⟩, ?_⟩
    rintro A' N' C' i jk w4 ⟨h0, h1', s4, hO, hat⟩
    refine ifb_intro (fun hi => ?_) (fun hi => ?_)
    · simp only [decide_eq_true_eq] at hi
      obtain ⟨x, hx⟩ : ∃ x, zs[i.toNat]? = some x := ⟨_, List.getElem?_eq_getElem (by omega)⟩
      obtain ⟨b, rfl, hc⟩ := RowI.elem (Row.then hZ3 s4) hx
      have e3 : (i + 1).toNat = i.toNat + 1 := by omega
      have B4 := (B2.then s3).then s4
      have s14 := s13.then s4
      have skip : ∀ w', Step NoB w4 w' → freeO Q r (waitL l) x = none → ∃ k : Int, IntKind.wrap .i64 (i + 1) = k ∧ (0 ≤ k ∧ k ≤ n3 ∧ Step NoB w3 w' ∧ RowM w' A' N' C' (freeL Q r (waitL l) (zs.take k.toNat)) ∧ (∀ b, At A' b → w3.heap.size ≤ b)) ∧ ((n3 : Int) - k).toNat < ((n3 : Int) - i).toNat := by
        intro w' s hf
        refine ⟨_, w64 (by omega), ⟨by omega, by omega, s4.then s, ?_, hat⟩, by omega⟩
        unfold freeL at hO ⊢
        rw [e3, take_succ_fm hx, hf, List.append_nil]
        exact Row.then hO s
      refine ⟨h0, hi, b, 0, rfl, _, hc, fun w' => w' = w4 ∧ (r.peer = -1 ∨ r.peer = x), ⟨_, B4.cell rfl, ifb_intro (fun g1 => ?_) (fun g1 => ?_)⟩, ?_⟩
      · refine ⟨_, B4.cell rfl, ifb_intro (fun g2 => skip w4 (Step.refl _ _) ?_) (fun g2 => ?_)⟩
        · simp only [bne_iff_ne, ne_eq] at g1 g2
          unfold freeO; rw [if_neg (by simp [g1, g2])]
        · simp only [bne_eq_false_iff_eq] at g2
          exact ⟨rfl, .inr g2⟩
      · simp only [bne_eq_false_iff_eq] at g1
        exact ⟨rfl, .inl g1⟩
      · rintro jk2 w5 ⟨rfl, hpeer⟩
        obtain ⟨m0, hm0, _, hmx, _⟩ := (senders_iff hZ x).1 (List.mem_of_getElem? hx)
        have hxf : I64 x := by rw [← hmx]; exact (QRep.fit h m0 hm0).2.1
        refine ⟨_, B4.cell rfl, _, B4.cell rfl, _, B4.cell rfl, ((h.then s14).first_calls ⟨r.key, x, r.rank⟩ (tag := r.tag) hr.1 hxf hr.2.1).mono ?_⟩
        rintro e w6 ⟨rfl, s6⟩
        refine ⟨_, _, _, _, _, _, _, _, _, rfl, ?_⟩
        refine new_set (by simp) rfl fun b7 w7 h7 => ?_
        have s67 := s6.then h7.step
        refine (containsR_calls (cap := [.pointer (some ⟨b7, 0, none⟩)]) (fun y => rfits y ((first Q ⟨r.key, x, r.rank⟩ r.tag).getD zeroM)) (Row.then (Row.then (Row.then hW2 s3) s4) s67) (entersB_out (by kernel_rfl)) fun y _ w' s => free1_calls (m := (first Q ⟨r.key, x, r.rank⟩ r.tag).getD zeroM) y (h7.blk.then s)).mono ?_
        rintro e w8 ⟨rfl, s8⟩
        have s68 := s67.then s8
        have hfo : freeO Q r (waitL l) x = (match first Q ⟨r.key, x, r.rank⟩ r.tag with | some m => if (waitL l).any (fun y => rfits y m) then none else some m | none => none) := by unfold freeO; rw [if_pos hpeer]
        refine ⟨_, rfl, ifb_intro (fun g1 => ifb_intro (fun g2 => ?_) (fun g2 => skip w8 s68 ?_)) (fun g1 => skip w8 s68 ?_)⟩
        · obtain ⟨m, hm⟩ := Option.isSome_iff_exists.1 g1
          rw [hm] at g2
          have hfm : freeO Q r (waitL l) x = some m := by
            rw [hfo, hm]; simp only
            rw [if_neg (by simpa using g2)]
          refine ⟨_, _, _, _, _, _, _, _, (h7.blk.then s8).all, fun b9 w9 h9 => ?_⟩
          have s49 := (s4.then s68).new h9
          have hO9 := Row.then (Row.then hO s68) h9.step
          have hlO := RowM.len hO9
          have hle := fm_length (freeO Q r (waitL l)) (zs.take i.toNat)
          rw [List.length_take] at hle
          unfold freeL at hlO
          refine ⟨_, _, hO9, reads_blk h9.blk rfl (mv_one _), ?_, by omega, fun A10 C10 w10 h10 hap => ?_⟩
          · have : maxLen = 9223372036854775807 := rfl
            omega
          · refine ⟨_, w64 (by omega), ⟨by omega, by omega, hap.new s49 fun b hb => .inl (hat b hb), ?_, hap.at' s49 hat⟩, by dsimp only; omega⟩
            show Row _ _ _ _ _ _ _
            unfold freeL at h10 ⊢
            rw [e3, take_succ_fm hx, hfm, List.flatMap_append, show ([m] : List Msg).flatMap mv = mv m by simp]
            rw [hm] at h10
            exact h10
        · obtain ⟨m, hm⟩ := Option.isSome_iff_exists.1 g1
          rw [hm] at g2
          rw [hfo, hm]; simp only
          rw [if_pos (by simpa using g2)]
        · have hm : first Q ⟨r.key, x, r.rank⟩ r.tag = none := by simpa using g1
          rw [hfo, hm]
    · simp only [decide_eq_false_iff_not] at hi
      rw [List.take_of_length_le (by omega)] at hO
      exact ⟨A', N', C', zs, rfl, hZ, hO, fun k hk => Nat.le_trans s13.size (hat k hk), s13.then s4⟩
  · rintro e w' ⟨v, rfl, A', n', c', zs, rfl, h⟩
    exact ⟨A', n', c', zs, rfl, h⟩

/-- what may be the receive's that stands at a call -/
def MayL (Q : List Msg) (P : List Recv) (rank call : Int) (L : List Msg) : Prop :=
  (L = [] ∧ ∀ r, at_ P rank call = some r → r.done = true) ∨ ∃ r, ∃ i : Nat, ∃ zs, at_ P rank call = some r ∧ (rrow P rank)[i]? = some r ∧ r.done = false ∧ sendersL Q r.key r.rank zs ∧ L = freeL Q r (waitL ((rrow P rank).take i)) zs
theorem mayP_calls {F : Nat → Prop} {w : World} {q : Option Addr} {Q : List Msg} (h : QRep w q Q F) (hQ : Q.length ≤ 1000000) {b : Nat} {A : Nat → Option Addr} {n c : Nat → Nat} {P : List Recv} (hp : PR w b A n c P) (hP : Good P) (hl : P.length ≤ 1000000) (rank call : Int) :
    Calls Try.prog 67 #[.pointer (some ⟨b, 0, none⟩), .pointer q, .int .i64 rank, .int .i64 call] w fun e w' => ∃ A' n' c' L, e = .returned (.slice A' n' c') ∧ MayL Q P rank call L ∧ RowM w' A' n' c' L ∧ (∀ k, At A' k → w.heap.size ≤ k) ∧ Step NoB w w' := by
  refine (V.posted_Posted_May_calls (R := fun v w' => ∃ A' n' c' L, v = .slice A' n' c' ∧ MayL Q P rank call L ∧ RowM w' A' n' c' L ∧ (∀ k, At A' k → w.heap.size ≤ k) ∧ Step NoB w w') ?_).mono ?_
  · refine (placeP_calls hp hP rank call).mono ?_
    rintro e w1 ⟨rfl, s1⟩
    refine ⟨_, rfl, ?_⟩
    rcases placeP_find P rank call with ⟨e1, e2⟩ | ⟨m, i, e1, e2, hi⟩
    · rw [e2]
      exact ifb_of (by decide) ⟨_, _, _, [], rfl, .inl ⟨rfl, fun r hr => by rw [e1] at hr; cases hr⟩, Row.nil _ _ _, fun k hk => absurd hk at_none, s1⟩
    · rw [e2]
      refine ifb_not (by rw [decide_eq_false_iff_not]; omega) ((ofP_calls (hp.then s1) hP rank).mono ?_)
      rintro e w2 ⟨rfl, A', n', c', rfl, hR, _⟩
      have hn := RowR.len hR
      have hN := Row.le hR
      have hil := (List.getElem?_eq_some_iff.1 hi).1
      have hrl := rrow_length P rank
      obtain ⟨b', rfl, hc⟩ := RowR.elem hR hi
      have c6 := hc 6 _ rfl
      rw [add_none] at c6
      refine ⟨_, _, _, rfl, by omega, by omega, b', 0, rfl, _, c6, ifb_intro (fun g => ?_) (fun g => ?_)⟩
      · exact ⟨_, _, _, [], rfl, .inl ⟨rfl, fun r hr => by rw [e1] at hr; cases hr; exact g⟩, Row.nil _ _ _, fun k hk => absurd hk at_none, s1⟩
      · have hRt := Row.take rv_len hR hn (i := i) (by omega)
        have hm : m ∈ P := (mem_rrow.1 (List.mem_of_getElem? hi)).1
        refine ⟨by omega, by omega, b', 0, rfl, _, _, _, _, _, _, _, _, _, hc, by omega, by omega, ?_⟩
        rw [Int.toNat_natCast]
        refine (free_calls (h.then s1.drew) hQ m (hP.fit m hm) (Row.then hRt (Step.refl _ _).drew) (by rw [List.length_take]; omega)).mono ?_
        rintro e w3 ⟨A3, n3, c3, zs, rfl, hZ, hR3, hat, s3⟩
        replace s3 := s3.undrew
        exact ⟨_, _, _, rfl, _, _, _, _, rfl, .inr ⟨m, i, zs, e1, hi, g, hZ, rfl⟩, hR3, fun k hk => Nat.le_trans s1.size (hat k hk), s1.then s3⟩
  · rintro e w' ⟨v, rfl, A', n', c', L, rfl, h⟩
    exact ⟨A', n', c', L, rfl, h⟩

end Go.Proofs.Ytdaojmkbjkaakaa
