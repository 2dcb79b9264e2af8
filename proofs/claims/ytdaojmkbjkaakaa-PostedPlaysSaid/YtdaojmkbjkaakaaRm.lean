/- Which messages may be a receive's, plainly; contracts: Match of receives. Conditions: none. -/
import Derived.Test.YtdaojmkbjkaakaaRl
set_option linter.unusedVariables false
set_option linter.unusedSimpArgs false
namespace Go.Proofs.Ytdaojmkbjkaakaa
open Go.Vc Go.Q13 Go.RowKit

def mayB (Q : List Msg) (P : List Recv) (rank call : Int) (m : Msg) : Bool := match at_ P rank call with
  | none => false
  | some r => !r.done && !m.taken && rfits r m && !(aheadOf Q m.fr m.call).any (fun x => rfits r x) && !(rrow P rank).any fun x => !x.done && decide (x.call < call) && rfits x m
def canM (Q : List Msg) (P : List Recv) (rank call fr seq : Int) : Bool := match find Q fr seq with | none => false | some m => mayB Q P rank call m
def mark (rank call fr seq : Int) (x : Recv) : Recv := if x.rank = rank ∧ x.call = call then { x with done := true, fr := fr, seq := seq } else x
def matchE (Q : List Msg) (P : List Recv) (rank call fr seq : Int) : Int := if canM Q P rank call fr seq then 0 else 2
def matchQ (Q : List Msg) (P : List Recv) (rank call fr seq : Int) : List Msg := if canM Q P rank call fr seq then take Q fr seq else Q
def matchP (Q : List Msg) (P : List Recv) (rank call fr seq : Int) : List Recv := if canM Q P rank call fr seq then P.map (mark rank call fr seq) else P

theorem find_in {Q : List Msg} (hu : Uniq Q) {m : Msg} (hm : m ∈ Q) : find Q m.fr m.call = some m := by
  rcases hf : find Q m.fr m.call with _ | m'
  · exact absurd ⟨rfl, rfl⟩ (find_none hf m hm)
  · obtain ⟨a1, a2, a3⟩ := find_some hf
    rw [uniq_eq hu a1 hm a2 a3]
theorem ahead_split {Q : List Msg} (hu : Uniq Q) {m : Msg} (hm : m ∈ Q) : ∃ us bs, row Q m.ch = us ++ m :: bs ∧ aheadOf Q m.fr m.call = us.filter fun x => !x.taken := by
  have hr : m ∈ row Q m.ch := mem_row.2 ⟨hm, rfl⟩
  obtain ⟨i, hi, he⟩ := List.getElem_of_mem hr
  have hg : (row Q m.ch)[i]? = some m := by rw [List.getElem?_eq_getElem hi, he]
  refine ⟨(row Q m.ch).take i, (row Q m.ch).drop (i + 1), ?_, ?_⟩
  · conv => lhs; rw [← List.take_append_drop i (row Q m.ch)]
    rw [List.drop_eq_getElem_cons hi, he]
  · unfold aheadOf
    rw [find_in hu hm]
    simp only
    rw [takeWhile_at (Uniq.nodup (Uniq.row hu _)) hg]
theorem row_take_iff {P : List Recv} (h : Good P) {rank : Int} {i : Nat} {r : Recv} (hi : (rrow P rank)[i]? = some r) (x : Recv) : x ∈ (rrow P rank).take i ↔ x ∈ rrow P rank ∧ x.call < r.call := by
  have hp := List.pairwise_iff_getElem.1 (row_rising h rank)
  obtain ⟨hi', rfl⟩ := List.getElem?_eq_some_iff.1 hi
  constructor
  · intro hx
    obtain ⟨j, hj, rfl⟩ := List.getElem_of_mem hx
    rw [List.length_take] at hj
    rw [List.getElem_take]
    exact ⟨List.getElem_mem _, hp j i (by omega) hi' (by omega)⟩
  · rintro ⟨hx, hc⟩
    obtain ⟨j, hj, rfl⟩ := List.getElem_of_mem hx
    have hji : j < i := by
      rcases Nat.lt_trichotomy j i with g | g | g
      · exact g
      · subst g; omega
      · have := hp i j hi' hj g; omega
    rw [List.mem_take_iff_getElem]
    exact ⟨j, by omega, rfl⟩
theorem at_call {P : List Recv} {rank call : Int} {r : Recv} (h : at_ P rank call = some r) : r ∈ P ∧ r.rank = rank ∧ r.call = call := by
  have h1 := List.find?_some h
  simp only [Bool.and_eq_true, decide_eq_true_eq, beq_iff_eq] at h1
  exact ⟨List.mem_of_find?_eq_some h, h1⟩
theorem rfits_ch {r : Recv} {a m : Msg} (hc : a.ch = m.ch) (hm : rfits r m = true) : rfits r a = (r.tag == -1 || r.tag == a.tag) := by
  have e1 : a.key = m.key := congrArg Ch.key hc
  have e2 : a.fr = m.fr := congrArg Ch.fr hc
  have e3 : a.to = m.to := congrArg Ch.to hc
  simp only [rfits, Bool.and_eq_true] at hm
  unfold rfits
  rw [e1, e2, e3, hm.1.1.1, hm.1.1.2, hm.1.2]
  rfl
/-- WHICH MESSAGES MAY BE A RECEIVE'S: those that the program tells are those that the chapter says. -/
theorem may_iff {Q : List Msg} (hu : Uniq Q) {P : List Recv} (hP : Good P) {rank call : Int} {L : List Msg} (h : MayL Q P rank call L) (m : Msg) : m ∈ L ↔ m ∈ Q ∧ mayB Q P rank call m = true := by
  rcases h with ⟨rfl, h⟩ | ⟨r, i, zs, hat, hi, hd, hz, rfl⟩
  · constructor
    · intro hm; cases hm
    · rintro ⟨_, hb⟩
      unfold mayB at hb
      rcases ha : at_ P rank call with _ | r
      · rw [ha] at hb; cases hb
      · rw [ha] at hb
        simp only [h r ha] at hb
        simp at hb
  · obtain ⟨hrP, rfl, rfl⟩ := at_call hat
    have hwait : ∀ m, (waitL ((rrow P r.rank).take i)).any (fun x => rfits x m) = (rrow P r.rank).any fun x => !x.done && decide (x.call < r.call) && rfits x m := by
      intro m
      rw [Bool.eq_iff_iff, List.any_eq_true, List.any_eq_true]
      constructor
      · rintro ⟨x, hx, hf⟩
        obtain ⟨h1, h2⟩ := List.mem_filter.1 hx
        obtain ⟨h3, h4⟩ := (row_take_iff hP hi x).1 h1
        exact ⟨x, h3, by simp only [h2, hf, h4, decide_true, Bool.and_self]⟩
      · rintro ⟨x, hx, hf⟩
        simp only [Bool.and_eq_true, decide_eq_true_eq] at hf
        exact ⟨x, List.mem_filter.2 ⟨(row_take_iff hP hi x).2 ⟨hx, hf.1.2⟩, hf.1.1⟩, hf.2⟩
    have hB : mayB Q P r.rank r.call m = (!m.taken && rfits r m && !(aheadOf Q m.fr m.call).any (fun x => rfits r x) && !(waitL ((rrow P r.rank).take i)).any fun x => rfits x m) := by
      unfold mayB
      rw [hat, hwait]; simp [hd]
    rw [hB]
    unfold freeL
    rw [List.mem_filterMap]
    constructor
    · rintro ⟨x, hx, ho⟩
      unfold freeO at ho
      split at ho
      · rename_i hpeer
        split at ho
        · rename_i m' hf
          split at ho
          · cases ho
          · rename_i hw
            cases ho
            unfold first at hf
            obtain ⟨hft, us, bs, hsp, has⟩ := List.find?_eq_some_iff_append.1 hf
            have hmr : m ∈ row Q ⟨r.key, x, r.rank⟩ := by rw [hsp]; simp
            obtain ⟨hmQ, hch⟩ := mem_row.1 hmr
            have e1 : m.key = r.key := congrArg Ch.key hch
            have e2 : m.fr = x := congrArg Ch.fr hch
            have e3 : m.to = r.rank := congrArg Ch.to hch
            simp only [fits, Bool.and_eq_true] at hft
            have hrf : rfits r m = true := by
              unfold rfits
              simp only [e1, e2, e3, decide_true, Bool.true_and, hft.2, Bool.and_true, Bool.or_eq_true, beq_iff_eq]
              exact hpeer
            obtain ⟨us', bs', hsp', hah⟩ := ahead_split hu hmQ
            rw [hch, hsp] at hsp'
            have hnd : (us ++ m :: bs).Nodup := by rw [← hsp]; exact Uniq.nodup (Uniq.row hu _)
            have hnd' : (us' ++ m :: bs').Nodup := by rw [← hsp']; exact hnd
            have hae : us = us' := by
              have n1 : m ∉ us := fun hm => by
                rw [List.nodup_append] at hnd; exact hnd.2.2 m hm m (by simp) rfl
              have n2 : m ∉ us' := fun hm => by
                rw [List.nodup_append] at hnd'; exact hnd'.2.2 m hm m (by simp) rfl
              have t1 : ∀ (us bs : List Msg), m ∉ us → (us ++ m :: bs).takeWhile (fun x => decide (x ≠ m)) = us := by
                intro us bs hn
                rw [List.takeWhile_append_of_pos (fun a ha => by simp; rintro rfl; exact hn ha)]
                simp
              rw [← t1 us bs n1, ← t1 us' bs' n2, hsp']
            refine ⟨hmQ, ?_⟩
            simp only [Bool.and_eq_true, Bool.not_eq_true', hrf, and_true]
            refine ⟨⟨by simpa using hft.1, ?_⟩, by simpa using hw⟩
            rw [List.any_eq_false]
            intro a ha
            rw [hah, ← hae] at ha
            obtain ⟨h1, h2⟩ := List.mem_filter.1 ha
            have hac : a.ch = m.ch := by
              have : a ∈ row Q ⟨r.key, x, r.rank⟩ := by rw [hsp]; simp [h1]
              rw [(mem_row.1 this).2, hch]
            rw [rfits_ch hac hrf]
            have := has a h1
            simp only [fits, h2, Bool.true_and, Bool.not_eq_true'] at this
            rw [this]; simp
        · cases ho
      · cases ho
    · rintro ⟨hmQ, hb⟩
      simp only [Bool.and_eq_true, Bool.not_eq_true'] at hb
      obtain ⟨⟨⟨ht, hrf⟩, hah⟩, hw⟩ := hb
      have hrf' := hrf
      simp only [rfits, Bool.and_eq_true, decide_eq_true_eq, Bool.or_eq_true, beq_iff_eq] at hrf'
      obtain ⟨⟨⟨e1, e3⟩, hpeer⟩, htag⟩ := hrf'
      refine ⟨m.fr, (senders_iff hz m.fr).2 ⟨m, hmQ, e1.symm, rfl, e3.symm, ht⟩, ?_⟩
      have hch : m.ch = ⟨r.key, m.fr, r.rank⟩ := by simp [Msg.ch, e1, e3]
      have hfirst : first Q ⟨r.key, m.fr, r.rank⟩ r.tag = some m := by
        obtain ⟨us, bs, hsp, hahe⟩ := ahead_split hu hmQ
        unfold first
        rw [← hch, List.find?_eq_some_iff_append]
        refine ⟨?_, us, bs, hsp, fun a ha => ?_⟩
        · simp only [fits, ht, Bool.not_false, Bool.true_and, Bool.or_eq_true, beq_iff_eq]; exact htag
        · have hac : a.ch = m.ch := by
            have : a ∈ row Q m.ch := by rw [hsp]; simp [ha]
            exact (mem_row.1 this).2
          rcases hta : a.taken with _ | _
          · have : a ∈ aheadOf Q m.fr m.call := by rw [hahe]; exact List.mem_filter.2 ⟨ha, by simp [hta]⟩
            have := List.any_eq_false.1 hah a this
            rw [rfits_ch hac hrf] at this
            simp only [fits, hta, Bool.not_false, Bool.true_and]
            simpa using this
          · simp [fits, hta]
      unfold freeO
      rw [if_pos hpeer, hfirst]
      simp only
      rw [if_neg (by rw [hw]; simp)]

theorem mark_rank (rank call fr seq : Int) (x : Recv) : (mark rank call fr seq x).rank = x.rank := by unfold mark; split <;> rfl
theorem mark_call (rank call fr seq : Int) (x : Recv) : (mark rank call fr seq x).call = x.call := by unfold mark; split <;> rfl
theorem rrow_map {P : List Recv} {f : Recv → Recv} (hf : ∀ x, (f x).rank = x.rank) (r : Int) : rrow (P.map f) r = (rrow P r).map f := by
  unfold rrow
  rw [List.filter_map]
  congr 1
  exact List.filter_congr fun m _ => by simp [hf]
theorem mark_good {P : List Recv} (h : Good P) (rank call : Int) {fr seq : Int} (hf : I64 fr) (hs : I64 seq) : Good (P.map (mark rank call fr seq)) := by
  refine ⟨?_, ?_, ?_⟩
  · rw [List.pairwise_map]
    exact h.rising.imp fun h => by rw [mark_rank, mark_rank, mark_call, mark_call]; exact h
  · intro x hx
    obtain ⟨y, hy, rfl⟩ := List.mem_map.1 hx
    rw [mark_rank]; exact h.ranks y hy
  · intro x hx
    obtain ⟨y, hy, rfl⟩ := List.mem_map.1 hx
    have := h.fit y hy
    unfold mark
    split
    · exact ⟨this.1, this.2.1, this.2.2.1, this.2.2.2.1, this.2.2.2.2.1, this.2.2.2.2.2.1, hf, hs⟩
    · exact this
theorem match_good {P : List Recv} (h : Good P) (Q : List Msg) (rank call : Int) {fr seq : Int} (hf : I64 fr) (hs : I64 seq) : Good (matchP Q P rank call fr seq) := by
  unfold matchP; split
  · exact mark_good h rank call hf hs
  · exact h
theorem mark_row {P : List Recv} (h : Good P) {rank call fr seq : Int} {i : Nat} {r : Recv} (hi : (rrow P rank)[i]? = some r) (hc : r.call = call) : (rrow P rank).map (mark rank call fr seq) = (rrow P rank).set i { r with done := true, fr := fr, seq := seq } := by
  have hr : r.rank = rank := (mem_rrow.1 (List.mem_of_getElem? hi)).2
  have hp := List.pairwise_iff_getElem.1 (row_rising h rank)
  refine List.ext_getElem? fun j => ?_
  rw [List.getElem?_map, List.getElem?_set]
  have hil := (List.getElem?_eq_some_iff.1 hi).1
  by_cases hj : i = j
  · subst hj
    rw [if_pos rfl, if_pos hil, hi]
    simp [mark, hr, hc]
  · rw [if_neg hj]
    rcases hx : (rrow P rank)[j]? with _ | x
    · rfl
    · simp only [Option.map_some, Option.some.injEq]
      unfold mark
      rw [if_neg]
      rintro ⟨_, hxc⟩
      obtain ⟨hj', hjx⟩ := List.getElem?_eq_some_iff.1 hx
      obtain ⟨hi', hix⟩ := List.getElem?_eq_some_iff.1 hi
      rcases Nat.lt_or_gt_of_ne hj with g | g
      · have := hp i j hi' hj' g; rw [hix, hjx] at this; omega
      · have := hp j i hj' hi' g; rw [hix, hjx] at this; omega
theorem mark_row_ne {P : List Recv} {rank call fr seq r : Int} (hr : r ≠ rank) : (rrow P r).map (mark rank call fr seq) = rrow P r := by
  conv => rhs; rw [← List.map_id (rrow P r)]
  refine List.map_congr_left fun x hx => ?_
  unfold mark
  rw [if_neg]
  · rfl
  · rintro ⟨h1, _⟩; exact hr ((mem_rrow.1 hx).2.symm.trans h1)

theorem match1_calls {w : World} (m : Msg) {f g : Nat} {a b : Int} {e e' : TypeId} (hf : Blk w f [.int .i64 a] e) (hg : Blk w g [.int .i64 b] e') :
    Calls Try.prog 66 #[mvA m, .pointer (some ⟨f, 0, none⟩), .pointer (some ⟨g, 0, none⟩)] w fun e w' => e = .returned (.bool (decide (m.fr = a) && decide (m.call = b))) ∧ Step NoB w w' := by
  refine (V.posted_Posted_Match_1_calls (R := fun v w' => v = .bool (decide (m.fr = a) && decide (m.call = b)) ∧ Step NoB w w') ?_).mono ?_
  · intro b1 w1 h1
    have s1 := (Step.refl NoB w).new h1
    refine ⟨_, h1.blk.cell rfl, _, (hf.new h1).cell rfl, ifb_intro (fun g1 => ?_) (fun g1 => ?_)⟩
    · simp only [beq_iff_eq] at g1
      exact ⟨_, h1.blk.cell rfl, _, (hg.new h1).cell rfl, by simp [g1, beq_dec], s1⟩
    · simp only [beq_eq_false_iff_ne, ne_eq] at g1
      exact ⟨by simp [g1], s1⟩
  · rintro e w' ⟨v, rfl, rfl, h⟩
    exact ⟨rfl, h⟩
theorem RowR.set1 {w : World} {b n c : Nat} {l : List Recv} (hR : RowR w (some ⟨b, 0, none⟩) n c l) {i : Nat} {x : Recv} (hi : l[i]? = some x) {j : Nat} {v : Value} (hj : j < 9) {x' : Recv} (hx : rv x' = (rv x).set j v) :
    ∃ cells, Blk w b cells tRecv ∧ 0 + i * 9 + j + 1 ≤ cells.length ∧ ∀ w', Upd w w' b (cells.set (0 + i * 9 + j) v) tRecv → RowR w' (some ⟨b, 0, none⟩) n c (l.set i x') := by
  have hn := RowR.len hR
  have hil := (List.getElem?_eq_some_iff.1 hi).1
  rcases hR.out.2 with ⟨h0, _⟩ | ⟨b', cells, h0, hB, hnc, hc, hlen, hxs⟩
  · cases h0
  · cases h0
    have hle : (i + 1) * 9 ≤ c * 9 := Nat.mul_le_mul_right 9 (by omega)
    refine ⟨cells, hB, by omega, fun w' hu => ?_⟩
    have := Row.mk' (n := n) (c := c) (k := 9) hu.blk hnc hc (by simpa using hlen)
    rw [List.take_set, hxs, Nat.zero_add, flat_set rv 9 rv_len hi hj hx] at this
    exact this

theorem PRep.match_calls {F G : Nat → Prop} {w : World} {a q : Option Addr} {P : List Recv} {Q : List Msg} (h : PRep w a P F) (hP : Good P) (hl : P.length ≤ 1000000) (hq : QRep w q Q G) (hQ : Q.length ≤ 1000000) (hd : ∀ k, F k → ¬ G k) (rank call : Int) {fr seq : Int} (hf : I64 fr) (hs : I64 seq) :
    Calls Try.prog 44 #[.pointer a, .pointer q, .int .i64 rank, .int .i64 call, .int .i64 fr, .int .i64 seq] w fun e w' =>
      e = .returned (.int .i64 (matchE Q P rank call fr seq)) ∧ PRep w' a (matchP Q P rank call fr seq) F ∧ QRep w' q (matchQ Q P rank call fr seq) G ∧ Step (fun k => F k ∨ G k) w w' := by
  obtain ⟨b, A, n, c, rfl, h, hF⟩ := h
  have hu := QRep.uniq hq
  refine (V.posted_Posted_Match_calls (R := fun v w' => v = .int .i64 (matchE Q P rank call fr seq) ∧ PRep w' (some ⟨b, 0, none⟩) (matchP Q P rank call fr seq) F ∧ QRep w' q (matchQ Q P rank call fr seq) G ∧ Step (fun k => F k ∨ G k) w w') ?_).mono ?_
  · intro b1 w1 h1 b2 w2 h2
    have S2 := ((Step.refl NoB w).new h1).new h2
    have B1 := h1.blk.new h2
    have ge1 := h1.ge (Step.refl NoB w)
    have ge2 := h2.ge ((Step.refl NoB w).new h1)
    have bad : ∀ w', Step NoB w w' → canM Q P rank call fr seq = false → Value.int .i64 2 = .int .i64 (matchE Q P rank call fr seq) ∧ PRep w' (some ⟨b, 0, none⟩) (matchP Q P rank call fr seq) F ∧ QRep w' q (matchQ Q P rank call fr seq) G ∧ Step (fun k => F k ∨ G k) w w' := by
      intro w' s hb
      unfold matchE matchP matchQ
      rw [hb]
      exact ⟨rfl, ⟨b, A, n, c, rfl, h.then s, hF⟩, hq.then s, s.none⟩
    refine ifb_f (nilC_in ⟨_, (h.then S2).blk.cell rfl, ifb_f ((mayP_calls (hq.then S2) hQ (h.then S2) hP hl rank call).mono ?_)⟩)
    rintro e w3 ⟨A3, n3, c3, L, rfl, hL, hR3, _, s3⟩
    have hiff := may_iff hu hP hL
    refine ⟨_, _, _, rfl, (contains_calls (cap := [.pointer (some ⟨b1, 0, none⟩), .pointer (some ⟨b2, 0, none⟩)]) (fun m => decide (m.fr = fr) && decide (m.call = seq)) hR3 (entersB_out (by kernel_rfl)) fun m _ w' s => match1_calls m ((B1.then s3).then s) ((h2.blk.then s3).then s)).mono ?_⟩
    rintro e w4 ⟨rfl, s4⟩
    have S4 := (S2.then s3).then s4
    have hcan : (L.any fun m => decide (m.fr = fr) && decide (m.call = seq)) = canM Q P rank call fr seq := by
      rw [Bool.eq_iff_iff, List.any_eq_true]
      unfold canM
      constructor
      · rintro ⟨m, hm, hmm⟩
        simp only [Bool.and_eq_true, decide_eq_true_eq] at hmm
        obtain ⟨rfl, rfl⟩ := hmm
        obtain ⟨hmQ, hb⟩ := (hiff m).1 hm
        rw [find_in hu hmQ]; exact hb
      · intro hb
        rcases hfd : find Q fr seq with _ | m
        · rw [hfd] at hb; cases hb
        · rw [hfd] at hb
          obtain ⟨hmQ, rfl, rfl⟩ := find_some hfd
          exact ⟨m, (hiff m).2 ⟨hmQ, hb⟩, by simp⟩
    rw [hcan]
    refine ⟨_, rfl, ifb_intro (fun g => bad w4 S4 (by simpa using g)) (fun g => ?_)⟩
    have hcm : canM Q P rank call fr seq = true := by simpa using g
    obtain ⟨m, hfd, hmb⟩ : ∃ m, find Q fr seq = some m ∧ mayB Q P rank call m = true := by
      unfold canM at hcm
      rcases hfd : find Q fr seq with _ | m
      · rw [hfd] at hcm; cases hcm
      · rw [hfd] at hcm; exact ⟨m, rfl, hcm⟩
    obtain ⟨r, hat, hmt⟩ : ∃ r, at_ P rank call = some r ∧ m.taken = false := by
      unfold mayB at hmb
      rcases ha : at_ P rank call with _ | r
      · rw [ha] at hmb; cases hmb
      · rw [ha] at hmb
        simp only [Bool.and_eq_true, Bool.not_eq_true'] at hmb
        exact ⟨r, rfl, hmb.1.1.1.2⟩
    have hte : takeE Q fr seq = 0 := by unfold takeE; rw [hfd]; simp [hmt]
    have B1' := (B1.then s3).then s4
    have B2' := (h2.blk.then s3).then s4
    refine ⟨_, B1'.cell rfl, _, B2'.cell rfl, ((hq.then S4).take_calls hf hs).mono ?_⟩
    rintro e w5 ⟨rfl, hq5, s5⟩
    rw [hte]
    refine ⟨_, rfl, ifb_f ?_⟩
    have lG : ∀ k, G k → k < w.heap.size := fun k hk => hq.lt hk
    have h5 := (h.then S4).keep s5 fun k hk => hd k ((hF k).2 hk)
    have C1 := B1'.keep s5 (fun hk => by have := lG _ hk; omega)
    have C2 := B2'.keep s5 (fun hk => by have := lG _ hk; omega)
    obtain ⟨hrP, hrr, hrc⟩ := at_call hat
    have hrk := hP.ranks r hrP
    have hr64 : rank.toNat < 64 := by omega
    have hrn : ((rank.toNat : Nat) : Int) = rank := by omega
    have h5d := h5.then (Step.refl NoB w5).drew
    refine nilC_in ⟨by omega, by omega, b, _, rfl, _, _, _, h5d.blk.cell (pcell A n c hr64), (placeP_calls h5d hP rank call).mono ?_⟩
    rintro e w6 ⟨rfl, s6⟩
    replace s6 := s6.undrew
    obtain ⟨i, hpl, hi⟩ : ∃ i : Nat, placeP P rank call = i ∧ (rrow P rank)[i]? = some r := by
      rcases placeP_find P rank call with ⟨e1, _⟩ | ⟨r', i, e1, e2, hi⟩
      · rw [e1] at hat; cases hat
      · rw [e1] at hat; cases hat; exact ⟨i, e2, hi⟩
    rw [hpl]
    have h6 := h5.then s6
    have hR6 := h6.row rank.toNat hr64
    rw [hrn] at hR6
    have hn6 := RowR.len hR6
    have hil := (List.getElem?_eq_some_iff.1 hi).1
    obtain ⟨bk, hbk, _⟩ := RowR.elem hR6 hi
    have hR6' := hR6
    rw [hbk] at hR6'
    have lbk : bk < w.heap.size := h.lt (.inr ⟨_, hr64, by rw [hbk]; exact at_some.2 rfl⟩)
    have D1 := C1.then s6
    have D2 := C2.then s6
    refine ⟨_, rfl, h6.blk.cell (pcell A n c hr64), by omega, by omega, bk, 0, hbk, _, (D1.then (Step.refl NoB w6).drew).cell rfl, _, (D2.then (Step.refl NoB w6).drew).cell rfl, ?_⟩
    rw [Int.toNat_natCast]
    have hR7 := Row.then hR6' (Step.refl NoB w6).drew
    obtain ⟨l1, k1, k2, k3⟩ := RowR.set1 hR7 hi (j := 6) (v := .bool true) (x' := { r with done := true }) (by omega) rfl
    refine ⟨l1, _, k1, k2, fun w7 u7 => ?_⟩
    have hR8 := k3 w7 u7
    replace u7 := u7.undrew
    have n1 : ¬ b1 = bk := by omega
    have n2 : ¬ b2 = bk := by omega
    have hi8 : ((rrow P rank).set i { r with done := true })[i]? = some { r with done := true } := by rw [List.getElem?_set, if_pos rfl, if_pos hil]
    obtain ⟨l2, k4, k5, k6⟩ := RowR.set1 hR8 hi8 (j := 7) (v := .int .i64 fr) (x' := { r with done := true, fr := fr }) (by omega) rfl
    have E1 := D1.keep u7.step n1
    have E2 := D2.keep u7.step n2
    refine ⟨E2.cell rfl, E1.cell rfl, l2, _, k4, k5, fun w8 u8 => ?_⟩
    have hR9 := k6 w8 u8
    rw [List.set_set] at hR9
    have hi9 : ((rrow P rank).set i { r with done := true, fr := fr })[i]? = some { r with done := true, fr := fr } := by rw [List.getElem?_set, if_pos rfl, if_pos hil]
    obtain ⟨l3, k7, k8, k9⟩ := RowR.set1 hR9 hi9 (j := 8) (v := .int .i64 seq) (x' := { r with done := true, fr := fr, seq := seq }) (by omega) rfl
    refine ⟨(E2.keep u8.step n2).cell rfl, l3, _, k7, k8, fun w9 u9 => ?_⟩
    have hR10 := k9 w9 u9
    rw [List.set_set] at hR10
    have T : Step (fun k => k = bk) w6 w9 := (u7.step.both u8.step).both u9.step
    have e1 : matchE Q P rank call fr seq = 0 := by unfold matchE; rw [if_pos hcm]
    have e2 : matchP Q P rank call fr seq = P.map (mark rank call fr seq) := by unfold matchP; rw [if_pos hcm]
    have e3 : matchQ Q P rank call fr seq = take Q fr seq := by unfold matchQ; rw [if_pos hcm]
    rw [e1, e2, e3]
    have hbF : F bk := (hF bk).2 (.inr ⟨_, hr64, by rw [hbk]; exact at_some.2 rfl⟩)
    refine ⟨rfl, ⟨b, A, n, c, rfl, ⟨?_, fun j hj => ?_, h.apart, h.off⟩, hF⟩, ?_, ?_⟩
    · exact h6.blk.keep T fun e => h.off _ hr64 (by rw [hbk]; exact at_some.2 e.symm)
    · rw [rrow_map (mark_rank rank call fr seq)]
      by_cases hjr : j = rank.toNat
      · subst hjr
        rw [hrn, mark_row hP hi hrc, hbk]
        exact hR10
      · rw [mark_row_ne (by omega)]
        exact Row.keep (h6.row j hj) T fun k hk e => by
          subst e
          exact hjr (h.apart j _ k hj hr64 hk (by rw [hbk]; exact at_some.2 rfl))
    · exact (hq5.then s6).keep T fun k hk e => by
        replace e : k = bk := e
        rw [e] at hk
        exact hd bk hbF hk
    · have T6 : Step (fun k => F k ∨ G k) w w6 := ((S4.none (F := fun k => F k ∨ G k)).fresh s5 fun i hi => .inr (.inr hi)).then s6
      exact T6.fresh T fun i hi => .inr (.inl (by subst hi; exact hbF))
  · rintro e w' ⟨v, rfl, rfl, h⟩
    exact ⟨rfl, h⟩

end Go.Proofs.Ytdaojmkbjkaakaa
