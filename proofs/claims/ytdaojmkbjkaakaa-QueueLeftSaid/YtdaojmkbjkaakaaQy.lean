/- QueueLeft's walk: it returns true and changes nothing that was there. Conditions: the acts are as they come in. -/
import Derived.Test.YtdaojmkbjkaakaaQv
set_option linter.unusedVariables false
set_option linter.unusedSimpArgs false
namespace Go.Proofs.Ytdaojmkbjkaakaa
open Go.Vc Go.Q13 Go.RowKit

theorem open_send {Q : List Msg} {m : Msg} : ((open_ (send Q m)).length : Int) = (open_ Q).length + (if sendE Q m = 0 then 1 else 0) := by
  unfold send sendE
  split
  · simp
  · rename_i h
    simp only [Bool.or_eq_true, not_or, Bool.not_eq_true, Bool.not_eq_false'] at h
    have : m.taken = false := by
      have := h.2
      simp only [Msg.may, Bool.and_eq_true, Bool.not_eq_true'] at this
      exact this.1.1.1.1.1.1.1.1.1
    simp [open_, List.filter_append, this]
theorem open_tick {Q : List Msg} (hu : Uniq Q) {m : Msg} (hm : m ∈ Q) (ht : m.taken = false) : (open_ (Q.map (tick m.fr m.call))).length + 1 = (open_ Q).length := by
  induction Q with
  | nil => cases hm
  | cons x Q ih =>
    have hu' := hu
    unfold Uniq at hu'
    rw [List.pairwise_cons] at hu'
    rw [List.map_cons]
    by_cases hx : x = m
    · subst hx
      have e1 : Q.map (tick x.fr x.call) = Q := by
        conv => rhs; rw [← List.map_id Q]
        refine List.map_congr_left fun y hy => ?_
        unfold tick
        rw [if_neg]
        · rfl
        · intro hc
          simp only [is, decide_eq_true_eq] at hc
          exact hu'.1 y hy ⟨hc.1.symm, hc.2.symm⟩
      have e2 : tick x.fr x.call x = { x with taken := true } := by simp [tick, is]
      rw [e1, e2]
      simp [open_, ht]
    · have hm' : m ∈ Q := by
        rcases List.mem_cons.1 hm with h | h
        · exact absurd h.symm hx
        · exact h
      have e2 : tick m.fr m.call x = x := by
        unfold tick
        rw [if_neg]
        intro hc
        simp only [is, decide_eq_true_eq] at hc
        exact hu'.1 m hm' ⟨hc.1, hc.2⟩
      have := ih hu'.2 hm'
      rw [e2]
      unfold open_ at this ⊢
      rw [List.filter_cons, List.filter_cons]
      split
      · simp only [List.length_cons]; omega
      · exact this
theorem open_take {Q : List Msg} (hu : Uniq Q) (fr call : Int) : ((open_ (take Q fr call)).length : Int) = (open_ Q).length - (if takeE Q fr call = 0 then 1 else 0) := by
  by_cases h : takeE Q fr call = 0
  · have e : take Q fr call = Q.map (tick fr call) := by unfold take; rw [if_pos h]
    rw [e, if_pos h]
    unfold takeE at h
    rcases hf : find Q fr call with _ | m
    · rw [hf] at h; cases h
    · rw [hf] at h
      simp only at h
      have ht : m.taken = false := by
        rcases hm : m.taken with _ | _
        · rfl
        · rw [hm] at h; cases h
      obtain ⟨h1, rfl, rfl⟩ := find_some hf
      have := open_tick hu h1 ht
      omega
  · have e : take Q fr call = Q := by unfold take; rw [if_neg h]
    rw [e, if_neg h]; omega
theorem takeE_iff (Q : List Msg) (fr call : Int) : (takeE Q fr call == 0) = ((find Q fr call).isSome && !((find Q fr call).getD zeroM).taken) := by
  unfold takeE
  rcases find Q fr call with _ | m
  · rfl
  · rcases h : m.taken with _ | _ <;> simp [h]
theorem find_mem {Q : List Msg} (hu : Uniq Q) {m : Msg} (hm : m ∈ Q) : find Q m.fr m.call = some m := by
  rcases hq : find Q m.fr m.call with _ | m'
  · exact absurd ⟨rfl, rfl⟩ (find_none hq m hm)
  · obtain ⟨h1, h2, h3⟩ := find_some hq
    rw [uniq_eq hu h1 hm h2 h3]
theorem split_eq {A B C D : List Msg} {m : Msg} (hA : m ∉ A) (hC : m ∉ C) (h : A ++ m :: B = C ++ m :: D) : A = C := by
  induction A generalizing C with
  | nil =>
    cases C with
    | nil => rfl
    | cons c C => simp only [List.nil_append, List.cons_append, List.cons.injEq] at h; exact absurd (h.1 ▸ List.mem_cons_self ..) hC
  | cons a A ih =>
    cases C with
    | nil => simp only [List.nil_append, List.cons_append, List.cons.injEq] at h; exact absurd (h.1 ▸ List.mem_cons_self ..) hA
    | cons c C =>
      simp only [List.cons_append, List.cons.injEq] at h
      rw [h.1, ih (fun hm => hA (List.mem_cons_of_mem _ hm)) (fun hm => hC (List.mem_cons_of_mem _ hm)) h.2]
/-- what is ahead of one that is left is what stands ahead of it, of its channel -/
theorem ahead_left {Q l : List Msg} (hu : Uniq Q) (hl : leftL Q l) {i : Nat} {m : Msg} (hi : l[i]? = some m) : aheadOf Q m.fr m.call = row (l.take i) m.ch := by
  have hp : l.Perm (open_ Q) := perm_of_rows hl.2
  have hm : m ∈ open_ Q := hp.mem_iff.1 (List.mem_of_getElem? hi)
  have hmQ : m ∈ Q := (List.mem_filter.1 hm).1
  have hmt : m.taken = false := by simpa using (List.mem_filter.1 hm).2
  have hnd : l.Nodup := hp.nodup_iff.2 (List.Pairwise.filter _ (Uniq.nodup hu))
  have hr : m ∈ row Q m.ch := mem_row.2 ⟨hmQ, rfl⟩
  have hrn : (row Q m.ch).Nodup := Uniq.nodup (Uniq.row hu _)
  obtain ⟨j, hj⟩ := List.getElem?_of_mem hr
  unfold aheadOf
  rw [find_mem hu hmQ]
  simp only
  rw [takeWhile_at hrn hj]
  obtain ⟨hjl, hje⟩ := List.getElem?_eq_some_iff.1 hj
  obtain ⟨hil, hie⟩ := List.getElem?_eq_some_iff.1 hi
  have e1 : row Q m.ch = (row Q m.ch).take j ++ m :: (row Q m.ch).drop (j + 1) := by
    conv => lhs; rw [← List.take_append_drop j (row Q m.ch), List.drop_eq_getElem_cons hjl, hje]
  have e2 : l = l.take i ++ m :: l.drop (i + 1) := by
    conv => lhs; rw [← List.take_append_drop i l, List.drop_eq_getElem_cons hil, hie]
  have h1 : row l m.ch = row (l.take i) m.ch ++ m :: row (l.drop (i + 1)) m.ch := by
    conv => lhs; rw [e2]
    rw [row_append]
    congr 1
    simp [row]
  have h2 : open_ (row Q m.ch) = open_ ((row Q m.ch).take j) ++ m :: open_ ((row Q m.ch).drop (j + 1)) := by
    conv => lhs; rw [e1]
    unfold open_
    rw [List.filter_append]
    congr 1
    rw [List.filter_cons, if_pos (by simp [hmt])]
  have h3 : row l m.ch = open_ (row Q m.ch) := by rw [hl.2, row_open]
  have n1 : m ∉ open_ ((row Q m.ch).take j) := by
    intro hc
    have hc' := (List.mem_filter.1 hc).1
    rw [e1, List.nodup_append] at hrn
    exact hrn.2.2 m hc' m (List.mem_cons_self ..) rfl
  have n2 : m ∉ row (l.take i) m.ch := by
    intro hc
    have hc' := (mem_row.1 hc).1
    rw [e2, List.nodup_append] at hnd
    exact hnd.2.2 m hc' m (List.mem_cons_self ..) rfl
  exact split_eq n1 n2 (h2.symm.trans (h3.symm.trans h1))
theorem sender_in {Q : List Msg} {zs : List Int} {m : Msg} (h : sendersL Q m.key m.to zs) (hm : m ∈ Q) (ht : m.taken = false) : m.fr ∈ zs := by
  obtain ⟨cs, hc, rfl⟩ := h
  rw [List.mem_mergeSort]
  have hr : m ∈ row Q m.ch := mem_row.2 ⟨hm, rfl⟩
  refine List.mem_map.2 ⟨m.ch, List.mem_filter.2 ⟨hc.2.2 m.ch (List.ne_nil_of_mem hr), ?_⟩, rfl⟩
  simp only [asks, Msg.ch, decide_true, Bool.true_and, List.any_eq_true]
  exact ⟨m, hr, by simp [ht]⟩

theorem queueLeft_walk (A1 : Option Addr) (N1 C1 : Nat) (w : World) (acts : List Act) (hin : InA w A1 N1 acts) :
    Calls Try.prog 5 #[.slice A1 N1 C1] w fun e w' => e = .returned (.bool true) ∧ Below w.heap.size w w' := by
  refine (V.dispatcherlaw13_QueueLeft_calls (R := fun v w' => v = .bool true ∧ Step NoB w w') ?_).mono ?_
  · refine (awake_calls w).mono ?_
    rintro e w2 ⟨rfl, s2⟩
    refine ⟨_, rfl, ifb_f ?_⟩
    refine (great_calls (hin.then s2)).mono ?_
    rintro e w4 ⟨rfl, rfl⟩
    refine ⟨_, rfl, ifb_intro (fun _ => ⟨rfl, s2⟩) fun hg => ?_⟩
    have hN : N1 ≤ 200 := by
      have hl := hin.len
      simp only [great, Bool.or_eq_false_iff, decide_eq_false_iff_not] at hg
      omega
    refine (new_calls _).mono ?_
    rintro e w6 ⟨p, F6, rfl, hQ6, hF6, s6⟩
    refine ⟨_, rfl, fun k i w' => 0 ≤ i ∧ i ≤ N1 ∧ ∃ Q F, QRep w' p Q F ∧ (∀ k, F k → w.heap.size ≤ k) ∧ Step NoB w w' ∧ Q.length ≤ i.toNat ∧ k = ((open_ Q).length : Int), fun _ i _ => (N1 - i).toNat, ⟨by omega, by omega, [], F6, hQ6, fun k hk => Nat.le_trans s2.size (hF6 k hk), s2.then s6, by simp, rfl⟩, ?_⟩
    rintro k i jk w10 ⟨h0, h1, Q, F, hQ, hF, s10, hQl, rfl⟩
    have hol := open_length Q
    refine ifb_intro (fun hi => ?_) (fun hi => ?_)
    · simp only [decide_eq_true_eq] at hi
      obtain ⟨a, b, o, ha, rfl, hcm, hck, hfit, hk0, hk1⟩ := (hin.then s10).get (i := i.toNat) (by omega)
      refine ⟨h0, hi, b, o, rfl, _, _, _, _, _, _, _, _, hcm, ?_⟩
      refine new_set (by simp) rfl fun b24 w28 h24 => ?_
      have hB := h24.blk
      refine ⟨h0, hi, b, o, rfl, _, cellStep h24.step hck, ifb_intro (fun hkd => ?_) (fun hkd => ?_)⟩
      · refine ⟨_, hB.cell rfl, _, hB.cell rfl, ?_⟩
        refine ((hQ.then h24.step).find_calls hfit.2.1 hfit.2.2.2.1).mono ?_
        rintro e w34 ⟨rfl, s34⟩
        refine ⟨_, _, _, _, _, _, _, _, _, rfl, ?_⟩
        refine new_set (by simp) rfl fun b44 w48 h44 => ?_
        have hB' := (hB.then s34).then h44.step
        refine ⟨_, hB'.cell rfl, _, hB'.cell rfl, ?_⟩
        have S48 := (h24.step.then s34).then h44.step
        have T48 := s10.then S48
        refine ((hQ.then S48).take_calls hfit.2.1 hfit.2.2.2.1).mono ?_
        rintro e w51 ⟨rfl, hQ51, s51⟩
        have T51 : Step NoB w w51 := T48.fresh s51 fun k hk => .inl (hF k hk)
        have n44 : ¬ F b44 := fun hc => by have := hQ.lt hc; have := h44.ge (h24.step.then s34); omega
        have B44 := h44.blk.keep s51 n44
        have hot := open_take hQ.uniq a.m.fr a.m.call
        have hte := takeE_iff Q a.m.fr a.m.call
        -- what follows
        have go : ifb (takeE Q a.m.fr a.m.call == (0 : Int))
            (∃ c54 : Int, IntKind.wrap .i64 (((open_ Q).length : Int) - (1 : Int)) = c54 ∧ ∃ c55 : Int, IntKind.wrap .i64 (i + (1 : Int)) = c55 ∧
              (0 ≤ c55 ∧ c55 ≤ N1 ∧ ∃ Q F, QRep w51 p Q F ∧ (∀ k, F k → w.heap.size ≤ k) ∧ Step NoB w w51 ∧ Q.length ≤ c55.toNat ∧ c54 = ((open_ Q).length : Int)) ∧ ((N1 : Int) - c55).toNat < ((N1 : Int) - i).toNat)
            (∃ c56 : Int, IntKind.wrap .i64 (i + (1 : Int)) = c56 ∧
              (0 ≤ c56 ∧ c56 ≤ N1 ∧ ∃ Q' F, QRep w51 p Q' F ∧ (∀ k, F k → w.heap.size ≤ k) ∧ Step NoB w w51 ∧ Q'.length ≤ c56.toNat ∧ ((open_ Q).length : Int) = ((open_ Q').length : Int)) ∧ ((N1 : Int) - c56).toNat < ((N1 : Int) - i).toNat) := by
          refine ifb_intro (fun g => ?_) (fun g => ?_)
          · simp only [beq_iff_eq] at g
            rw [if_pos g] at hot
            exact ⟨_, w64 (by omega), _, w64 (by omega), ⟨by omega, by omega, _, F, hQ51, hF, T51, by rw [take_length]; omega, by omega⟩, by omega⟩
          · simp only [beq_eq_false_iff_ne, ne_eq] at g
            rw [if_neg g] at hot
            exact ⟨_, w64 (by omega), ⟨by omega, by omega, _, F, hQ51, hF, T51, by rw [take_length]; omega, by omega⟩, by omega⟩
        refine ⟨_, rfl, ifb_intro (fun his => ?_) (fun his => ?_)⟩
        · refine ⟨_, B44.cell rfl, ifb_not ?_ go⟩
          rw [hte, his]
          simp
        · refine ifb_not ?_ go
          rw [hte, his]
          rfl
      · refine ⟨_, _, _, _, _, _, _, _, hB.all, ?_⟩
        refine ((hQ.then h24.step).send_calls a.m hfit (by omega)).mono ?_
        rintro e w68 ⟨rfl, F', hQ68, s68, hF68⟩
        have hos := open_send (Q := Q) (m := a.m)
        have T68 : Step NoB w w68 := (s10.new h24).fresh s68 fun k hk => .inl (hF k hk)
        have hF' : ∀ k, F' k → w.heap.size ≤ k := fun k hk => (hF68 k hk).elim (hF k) (fun h => Nat.le_trans (s10.new h24).size h)
        have hsl := send_length Q a.m
        refine ⟨_, rfl, ifb_intro (fun g => ?_) (fun g => ?_)⟩
        · simp only [beq_iff_eq] at g
          rw [if_pos g] at hos
          exact ⟨_, w64 (by omega), _, w64 (by omega), ⟨by omega, by omega, _, F', hQ68, hF', T68, by omega, by omega⟩, by dsimp only; omega⟩
        · simp only [beq_eq_false_iff_ne, ne_eq] at g
          rw [if_neg g] at hos
          exact ⟨_, w64 (by omega), ⟨by omega, by omega, _, F', hQ68, hF', T68, by omega, by omega⟩, by dsimp only; omega⟩
    · refine (hQ.left_calls (by omega) fun l hl => sortsM l (by have := hl.length_eq; omega)).mono ?_
      rintro e w73 ⟨A, N, C, l, rfl, hR, hL, hat, s73⟩
      have hn := RowM.len hR
      have hp : l.Perm (open_ Q) := perm_of_rows hL.2
      have hlo : l.length = (open_ Q).length := hp.length_eq
      refine ⟨_, _, _, rfl, ifb_not (by simp only [bne_eq_false_iff_eq]; omega) ?_⟩
      have hu := hQ.uniq
      have hul : Uniq l := by
        have : Uniq (open_ Q) := List.Pairwise.filter _ hu
        exact (hp.pairwise_iff (fun h e => h ⟨e.1.symm, e.2.symm⟩)).2 this
      refine ⟨fun i w' => 0 ≤ i ∧ i ≤ N ∧ Step NoB w73 w', fun i _ => (N - i).toNat, ⟨by omega, by omega, Step.refl _ _⟩, ?_⟩
      rintro j jk2 w77 ⟨j0, j1, s77⟩
      refine ifb_intro (fun hj => ?_) (fun hj => ⟨rfl, (s10.then s73).then s77⟩)
      simp only [decide_eq_true_eq] at hj
      obtain ⟨q, rfl⟩ := Int.eq_ofNat_of_zero_le j0
      have hql : q < l.length := by omega
      obtain ⟨m, hm⟩ : ∃ m, l[q]? = some m := ⟨_, List.getElem?_eq_getElem hql⟩
      have hmo : m ∈ open_ Q := hp.mem_iff.1 (List.mem_of_getElem? hm)
      have hmQ : m ∈ Q := (List.mem_filter.1 hmo).1
      have hmt : m.taken = false := by simpa using (List.mem_filter.1 hmo).2
      have hfit : MFit m := by
        obtain ⟨b0, b1, b2, es1, es2, _, hQR, _⟩ := hQ
        exact hQR.fit m hmQ
      have hR77 := Row.then hR s77
      obtain ⟨b, rfl, hcl⟩ := RowM.elem hR77 hm
      refine ⟨j0, hj, b, 0, rfl, _, _, _, _, _, _, _, _, hcl, ?_⟩
      refine new_set (by simp) rfl fun b90 w94 h90 => ?_
      have B90 := h90.blk
      refine ⟨_, B90.cell rfl, _, B90.cell rfl, ?_⟩
      have hQ77 := (hQ.then s73).then s77
      refine ((hQ77.then h90.step).find_calls hfit.2.1 hfit.2.2.2.1).mono ?_
      rintro e w97 ⟨rfl, s97⟩
      refine ⟨_, _, _, _, _, _, _, _, _, rfl, ?_⟩
      refine new_set (by simp) rfl fun b107 w111 h107 => ?_
      have hfm := find_mem hu hmQ
      have B90' : Blk w111.drew b90 (mv m) tMsg := (B90.then s97).then h107.step.drew
      have B107 : Blk w111.drew b107 (mv ((find Q m.fr m.call).getD zeroM)) tMsg := h107.blk
      have S111 : Step NoB w77 w111.drew := ((h90.step.then s97).then h107.step).drew
      have hR111 := Row.then hR77 S111
      refine ⟨fun w' => w' = w111.drew, ?_, ?_⟩
      · refine ifb_not (by rw [hfm]; rfl) ⟨_, _, _, _, _, _, _, _, B107.all, _, _, _, _, _, _, _, _, B90'.all, ifb_not ?_ ⟨_, B90'.cell rfl, ifb_not hmt ?_⟩⟩
        · show (!mEq ((find Q m.fr m.call).getD zeroM) m) = false
          rw [hfm]
          show (!mEq m m) = false
          rw [mEq_iff.2 rfl]; rfl
        · refine ifb_intro (fun g1 => ?_) (fun g1 => rfl)
          simp only [gt_iff_lt, decide_eq_true_eq] at g1
          have e1 : ((q : Int) - 1).toNat = q - 1 := by omega
          obtain ⟨m', hm'⟩ : ∃ m', l[q - 1]? = some m' := ⟨_, List.getElem?_eq_getElem (by omega)⟩
          obtain ⟨b', hb', hcl'⟩ := RowM.elem hR111 hm'
          cases hb'
          have c1 := hcl' 1 _ rfl
          have c3 := hcl' 3 _ rfl
          rw [add_none] at c1 c3
          refine ⟨_, w64 (by omega), by omega, by omega, b, 0, rfl, _, by rw [e1]; exact c1, _, B90'.cell rfl, ifb_intro (fun g2 => ?_) (fun g2 => rfl)⟩
          refine ⟨_, w64 (by omega), by omega, by omega, b, 0, rfl, _, by rw [e1]; exact c3, _, B90'.cell rfl, ifb_intro (fun g3 => ?_) (fun g3 => rfl)⟩
          exfalso
          simp only [beq_iff_eq] at g2 g3
          have hpw := List.pairwise_iff_getElem.1 hul (q - 1) q (by omega) hql (by omega)
          obtain ⟨_, x1⟩ := List.getElem?_eq_some_iff.1 hm
          obtain ⟨_, x2⟩ := List.getElem?_eq_some_iff.1 hm'
          rw [x1, x2] at hpw
          exact hpw ⟨g2, g3⟩
      · rintro jk3 w113 rfl
        have hQ113 := hQ77.then S111
        refine ⟨_, B90'.cell rfl, _, B90'.cell rfl, ?_⟩
        refine (hQ113.senders_calls m.key m.to (by omega) (fun zs hz => sortsI zs hz)).mono ?_
        rintro e w144 ⟨A2, N2, C2, zs, rfl, hR2, hZ, _, s144⟩
        have hn2 := RowI.len hR2
        have hN2 := Row.le hR2
        have hmem := sender_in hZ hmQ hmt
        have B144 := B90'.then s144
        refine ⟨_, _, _, rfl, fun t k w' => 0 ≤ k ∧ k ≤ N2 ∧ Step NoB w144 w' ∧ t = (zs.take k.toNat).any (fun z => z == m.fr), fun _ k _ => (N2 - k).toNat, ⟨by omega, by omega, Step.refl _ _, by simp⟩, ?_⟩
        rintro t k jk4 w148 ⟨k0, k1, s148, rfl⟩
        have B148 : Blk w148.drew b90 (mv m) tMsg := B144.then s148.drew
        refine ifb_intro (fun hk => ?_) (fun hk => ?_)
        · simp only [decide_eq_true_eq] at hk
          have e3 : (k + 1).toNat = k.toNat + 1 := by omega
          obtain ⟨z, hz⟩ : ∃ z, zs[k.toNat]? = some z := ⟨_, List.getElem?_eq_getElem (by omega)⟩
          have hts : (zs.take (k.toNat + 1)).any (fun z => z == m.fr) = ((zs.take k.toNat).any (fun z => z == m.fr) || z == m.fr) := by
            rw [List.take_add_one, hz, List.any_append]; simp
          refine ifb_intro (fun ht => ?_) (fun ht => ?_)
          · exact ⟨_, w64 (by omega), ⟨by omega, by omega, s148.drew, by rw [e3, hts, ht]; rfl⟩, by dsimp only; omega⟩
          · obtain ⟨b2, rfl, hc2⟩ := RowI.elem (Row.then hR2 s148) hz
            exact ⟨k0, hk, b2, 0, rfl, z, hc2, _, B148.cell rfl, _, w64 (by omega), ⟨by omega, by omega, s148.drew, by rw [e3, hts, ht]; rfl⟩, by dsimp only; omega⟩
        · simp only [decide_eq_false_iff_not] at hk
          have hall : (zs.take k.toNat).any (fun z => z == m.fr) = true := by
            rw [List.take_of_length_le (by omega)]
            exact List.any_eq_true.2 ⟨m.fr, hmem, by simp⟩
          have hC := Row.le hR
          refine ⟨by omega, by omega, _, B148.cell rfl, _, B148.cell rfl, _, B148.cell rfl, ?_⟩
          have S148 : Step NoB w77 w148.drew := ((S111.then s144).then s148).drew
          have hRt : RowM w148.drew (some ⟨b, 0, none⟩) q C (l.take q) := Row.take mv_len (Row.then hR77 S148) hn (by omega)
          refine (of_calls hRt m.ch (by omega)).mono ?_
          rintro e w161 ⟨A3, N3, C3, rfl, hR3, _, s161⟩
          refine ⟨_, _, _, rfl, ifb_not (by rw [hall]; rfl) ⟨_, _, _, _, _, _, _, _, (B148.then s161).all, ?_⟩⟩
          have hQ161 := (hQ77.then S148).then s161
          refine (hQ161.ahead_calls m hfit.2.1 hfit.2.2.2.1 (by omega)).mono ?_
          rintro e w171 ⟨A4, N4, C4, rfl, hR4, _, s171⟩
          refine ⟨_, _, _, rfl, ?_⟩
          refine (same_calls hR4 (Row.then hR3 s171)).mono ?_
          rintro e w173 ⟨rfl, s173⟩
          have hah := ahead_left hu hL hm
          refine ⟨_, rfl, ifb_not ?_ ⟨_, w64 (by omega), ⟨by omega, by omega, (((s77.then S148).then s161).then s171).then s173⟩, by dsimp only; omega⟩⟩
          rw [hah]; simp
  · rintro e w' ⟨v, rfl, rfl, h⟩
    exact ⟨rfl, h.below⟩

end Go.Proofs.Ytdaojmkbjkaakaa
