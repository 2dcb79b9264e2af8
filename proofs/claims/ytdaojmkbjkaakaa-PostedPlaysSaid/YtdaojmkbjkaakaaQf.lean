/- Contracts: Ahead and Send of queues. Conditions: none. -/
import Derived.Test.YtdaojmkbjkaakaaQe
set_option linter.unusedVariables false
set_option linter.unusedSimpArgs false
namespace Go.Proofs.Ytdaojmkbjkaakaa
open Go.Vc Go.Q13 Go.RowKit

theorem take_succ_filter {p : Msg → Bool} {l : List Msg} {i : Nat} {m : Msg} (hi : l[i]? = some m) : (l.take (i + 1)).filter p = (l.take i).filter p ++ (if p m then [m] else []) := by
  rw [List.take_add_one, hi, Option.toList_some, List.filter_append]
  congr 1
  rw [List.filter_cons, List.filter_nil]

theorem QRep.ahead_calls {F : Nat → Prop} {w : World} {a : Option Addr} {Q : List Msg} (h : QRep w a Q F) (m : Msg) (hf : I64 m.fr) (hc : I64 m.call) (hQ : Q.length ≤ 1000000000) :
    Calls Try.prog 18 #[.pointer a, mvA m] w fun e w' => ∃ A n c, e = .returned (.slice A n c) ∧ RowM w' A n c (aheadOf Q m.fr m.call) ∧ (∀ b, At A b → w.heap.size ≤ b) ∧ Step NoB w w' := by
  obtain ⟨b0, b1, b2, es1, es2, rfl, h, hF⟩ := h
  refine (V.queue_Queue_Ahead_calls (s2 := m.key) (n3 := m.fr) (n4 := m.to) (n5 := m.call) (n6 := m.tag) (n7 := m.val) (n8 := m.size) (t9 := m.taken) (R := fun v w' => ∃ A n c, v = .slice A n c ∧ RowM w' A n c (aheadOf Q m.fr m.call) ∧ (∀ b, At A b → w.heap.size ≤ b) ∧ Step NoB w w') ?_).mono ?_
  · intro b w1 h1
    have s1 := (Step.refl NoB w).new h1
    refine ⟨_, h1.blk.cell rfl, _, h1.blk.cell rfl, ?_⟩
    refine (Go.Proofs.Ytdaojmkbjkaakaa.find_calls (h.then s1) hf hc).mono ?_
    rintro e w2 ⟨s2, ⟨h2, rfl⟩ | ⟨m', A, n, c, k, h2, rfl, hR, hk, x, hx, hkx, hv⟩⟩
    · refine ⟨_, _, _, _, rfl, by decide, by decide, ?_⟩
      refine ⟨fun A N C i w' => A = none ∧ N = 0 ∧ C = 0 ∧ i = 0 ∧ w' = w2, fun _ _ _ _ _ => 0, ⟨rfl, rfl, rfl, rfl, rfl⟩, ?_⟩
      rintro A N C i jk w3 ⟨rfl, rfl, rfl, rfl, rfl⟩
      refine ifb_f ⟨_, _, _, rfl, ?_, fun b hb => absurd hb at_none, s1.then s2⟩
      rw [show aheadOf Q m.fr m.call = [] by simp [aheadOf, h2]]
      exact Row.nil _ _ _
    · have hn := hR.len
      have hN := Row.le hR
      have hk' := (List.getElem?_eq_some_iff.1 hk).1
      obtain ⟨hm', e1, e2⟩ := find_some h2
      have hah : aheadOf Q m.fr m.call = ((row Q m'.ch).take k).filter fun x => !x.taken := by
        simp only [aheadOf, h2]
        rw [takeWhile_at (Uniq.nodup (Uniq.row h.uniq _)) hk]
      have hmx : mx (k : Int) 0 = k := by unfold mx; rw [if_neg (by omega)]
      have hlen : (row Q m'.ch).length ≤ Q.length := List.length_filter_le ..
      refine ⟨_, _, _, _, rfl, by rw [hmx]; omega, by rw [hmx]; omega, ?_⟩
      refine ⟨fun A N C i w' => 0 ≤ i ∧ i ≤ k ∧ Step NoB w2 w' ∧ RowM w' A N C (((row Q m'.ch).take i.toNat).filter fun x => !x.taken) ∧ (∀ b, At A b → w2.heap.size ≤ b), fun _ _ _ i _ => (k - i).toNat, ⟨by omega, by omega, Step.refl _ _, Row.nil _ _ _, fun b hb => absurd hb at_none⟩, ?_⟩
      rintro A3 N3 C3 i jk w3 ⟨h0, hik, s3, hO, hat⟩
      refine ifb_intro (fun hi => ?_) (fun hi => ?_)
      · rw [hmx] at hi ⊢
        simp only [decide_eq_true_eq, Int.toNat_natCast] at hi ⊢
        have hi' : i.toNat < (row Q m'.ch).length := by omega
        obtain ⟨y, hy⟩ : ∃ y, (row Q m'.ch)[i.toNat]? = some y := ⟨_, List.getElem?_eq_getElem hi'⟩
        obtain ⟨b', rfl, hcl⟩ := RowM.elem (Row.then hR s3) hy
        refine ⟨h0, hi, b', 0, rfl, _, _, _, _, _, _, _, _, hcl, ?_⟩
        refine new_set (by simp) rfl fun b4 w4 h4 => ?_
        have s4 := s3.new h4
        have e3 : (i + 1).toNat = i.toNat + 1 := by omega
        refine ⟨_, h4.blk.cell rfl, ifb_intro (fun htk => ?_) (fun htk => ?_)⟩
        · refine ⟨_, _, _, _, _, _, _, _, h4.blk.all, fun b5 w5 h5 => ?_⟩
          have hO' := Row.then (Row.then hO h4.step) h5.step
          have hl3 := RowM.len hO'
          have hle : (((row Q m'.ch).take i.toNat).filter fun x => !x.taken).length ≤ (row Q m'.ch).length := Nat.le_trans (List.length_filter_le ..) (by rw [List.length_take]; omega)
          refine ⟨_, _, hO', reads_blk h5.blk rfl (mv_one y), ?_, by omega, fun A6 C6 w6 h6 hap => ?_⟩
          · have : maxLen = 9223372036854775807 := rfl
            omega
          · refine ⟨_, w64 (by omega), ⟨by omega, by omega, hap.new (s4.new h5) fun b hb => .inl (hat b hb), ?_, hap.at' (s4.new h5) hat⟩, by omega⟩
            show Row _ _ _ _ _ _ _
            rw [e3, take_succ_filter hy, htk, if_pos rfl, List.flatMap_append]
            have : ([y] : List Msg).flatMap mv = mv y := by simp
            rw [this]; exact h6
        · refine ⟨_, w64 (by omega), ⟨by omega, by omega, s4, ?_, hat⟩, by omega⟩
          show Row _ _ _ _ _ _ _
          rw [e3, take_succ_filter hy, htk, if_neg (by simp), List.append_nil]
          exact Row.then hO h4.step
      · rw [hmx] at hi
        simp only [decide_eq_false_iff_not, Int.toNat_natCast] at hi
        have : i.toNat = k := by omega
        refine ⟨_, _, _, rfl, ?_, fun b hb => ?_, (s1.then s2).then s3⟩
        · rw [hah, ← this]; exact hO
        · exact Nat.le_trans (s1.then s2).size (hat b hb)
  · rintro e w' ⟨v, rfl, A, n, c, rfl, h⟩
    exact ⟨A, n, c, rfl, h⟩

theorem send_no {Q : List Msg} {m : Msg} (h : ((find Q m.fr m.call).isSome || !m.may) = true) : sendE Q m = 2 ∧ send Q m = Q := by
  unfold sendE send
  rw [if_pos h, if_pos h]; exact ⟨rfl, rfl⟩

theorem QRep.send_calls {F : Nat → Prop} {w : World} {a : Option Addr} {Q : List Msg} (h : QRep w a Q F) (m : Msg) (hm : MFit m) (hQ : Q.length ≤ 1000000000) :
    Calls Try.prog 9 #[.pointer a, mvA m] w fun e w' => e = .returned (.int .i64 (sendE Q m)) ∧ ∃ F', QRep w' a (send Q m) F' ∧ Step F w w' ∧ ∀ k, F' k → F k ∨ w.heap.size ≤ k := by
  obtain ⟨b0, b1, b2, es1, es2, rfl, h, hF⟩ := h
  refine (V.queue_Queue_Send_calls (s2 := m.key) (n3 := m.fr) (n4 := m.to) (n5 := m.call) (n6 := m.tag) (n7 := m.val) (n8 := m.size) (t9 := m.taken)
    (R := fun v w' => v = .int .i64 (sendE Q m) ∧ ∃ F', QRep w' (some ⟨b0, 0, none⟩) (send Q m) F' ∧ Step F w w' ∧ ∀ k, F' k → F k ∨ w.heap.size ≤ k) ?_).mono ?_
  · have bad : ∀ w', Step NoB w w' → ((find Q m.fr m.call).isSome || !m.may) = true → Value.int .i64 2 = .int .i64 (sendE Q m) ∧ ∃ F', QRep w' (some ⟨b0, 0, none⟩) (send Q m) F' ∧ Step F w w' ∧ ∀ k, F' k → F k ∨ w.heap.size ≤ k := by
      intro w' s hb
      obtain ⟨e1, e2⟩ := send_no hb
      rw [e1, e2]
      exact ⟨rfl, F, ⟨b0, b1, b2, es1, es2, rfl, h.then s, hF⟩, s.none, fun k hk => .inl hk⟩
    intro b w1 h1
    have s1 := (Step.refl NoB w).new h1
    refine (none_calls (h.then s1)).mono ?_
    rintro e w2 ⟨rfl, rfl⟩
    refine ⟨_, rfl, ifb_f (nilC_in ⟨_, (h.then s1).blk.cell (j := 1) rfl, _, h1.blk.cell rfl, _, h1.blk.cell rfl, keyed_sent, key_sent _ _ hm.2.1 hm.2.2.2.1, es2, (h.then s1).m2, ?_⟩)⟩
    obtain ⟨c, t, hl, ht⟩ := h.atR m.fr m.call
    refine ⟨c.key, c.fr, c.to, t, hl, ?_⟩
    intro b' w2 h2
    replace h2 := h2.undrew
    refine ⟨fun r hr => ?_, (h1.blk.new h2).cell rfl, (h1.blk.new h2).cell rfl, ((h.then s1).blk.new h2).cell (j := 1) rfl, ?_⟩
    · cases hr; exact h2.step.block' (h.then s1).m2.lt
    refine ⟨_, _, h2.blk, by simp, fun w3 hu => ?_⟩
    have h3 := h2.upd hu
    have s3 := s1.new h3
    have hB := h1.blk.new h3
    clear hu h2
    refine ifb_intro (fun hhad => bad _ s3 ?_) (fun hhad => ?_)
    · rcases ht with ⟨rfl, m', hfm, _⟩ | ⟨rfl, _⟩
      · simp [hfm]
      · cases hhad
    have hfn : find Q m.fr m.call = none := by
      rcases ht with ⟨rfl, _⟩ | ⟨_, hfn, _⟩
      · cases hhad
      · exact hfn
    refine ⟨_, hB.cell rfl, ifb_intro (fun g1 => bad _ s3 (by simp [Msg.may, g1])) (fun g1 => ?_)⟩
    refine ⟨_, hB.cell rfl, (in_calls _ _ _ _).mono ?_⟩
    rintro e w4 ⟨rfl, rfl⟩
    refine ⟨_, rfl, ifb_intro (fun g2 => bad _ s3 ?_) (fun g2 => ?_)⟩
    · simp only [Bool.not_eq_true', Bool.and_eq_false_iff] at g2
      rcases g2 with g2 | g2 <;> simp [Msg.may, g2]
    refine ⟨_, hB.cell rfl, (in_calls _ _ _ _).mono ?_⟩
    rintro e w5 ⟨rfl, rfl⟩
    refine ⟨_, rfl, ifb_intro (fun g3 => bad _ s3 ?_) (fun g3 => ?_)⟩
    · simp only [Bool.not_eq_true', Bool.and_eq_false_iff] at g3
      rcases g3 with g3 | g3 <;> simp [Msg.may, g3]
    refine ⟨_, hB.cell rfl, ifb_intro (fun g4 => bad _ s3 (by simp [Msg.may, g4])) (fun g4 => ?_)⟩
    refine ⟨_, hB.cell rfl, (in_calls _ _ _ _).mono ?_⟩
    rintro e w6 ⟨rfl, rfl⟩
    refine ⟨_, rfl, ifb_intro (fun g5 => bad _ s3 ?_) (fun g5 => ?_)⟩
    · simp only [Bool.not_eq_true', Bool.and_eq_false_iff] at g5
      rcases g5 with g5 | g5 <;> simp [Msg.may, g5]
    refine ⟨_, hB.cell rfl, (in_calls _ _ _ _).mono ?_⟩
    rintro e w7 ⟨rfl, rfl⟩
    refine ⟨_, rfl, ifb_intro (fun g6 => bad _ s3 ?_) (fun g6 => ?_)⟩
    · simp only [Bool.not_eq_true', Bool.and_eq_false_iff] at g6
      rcases g6 with g6 | g6 <;> simp [Msg.may, g6]
    have hmay : m.may = true := by
      simp only [Bool.not_eq_false', Bool.and_eq_true] at g2 g3 g5 g6
      simp [Msg.may, g1, g2, g3, g4, g5, g6]
    have e1 : sendE Q m = 0 := by simp [sendE, hfn, hmay]
    have e2 : send Q m = Q ++ [m] := by simp [send, hfn, hmay]
    rw [e1, e2]
    refine ⟨_, hB.cell rfl, _, hB.cell rfl, _, hB.cell rfl, ?_⟩
    refine new_set (by simp) rfl fun b8 w8 h8 => ?_
    have s8 := s3.new h8
    have hB8 := hB.new h8
    refine nilC_in ⟨_, (h.then s8).blk.cell (j := 0) rfl, _, _, _, h8.blk.all, _, _, _, _, _, _, _, _, hB8.all, fun b9 w9 h9 => ?_⟩
    replace h9 := h9.undrew
    have s9 := s8.new h9
    have hB9 := hB8.new h9
    have hC9 := h8.blk.new h9
    refine ⟨hC9.all, (h.then s9).blk.cell (j := 0) rfl, keyed_ch, key_ch m.ch hm.1 hm.2.1 hm.2.2.1, optC_in ⟨es1, (h.then s9).m1, ?_⟩⟩
    obtain ⟨A, n, cap, t', hL, hR, hAF, _⟩ := (h.then s9).lookR m.ch
    refine ⟨A, n, cap, t', hL, fun w10 es n10 hT hM10 hW10 => ?_⟩
    have hn := hR.len
    have hrl : (row Q m.ch).length ≤ Q.length := List.length_filter_le ..
    have hne1 : ∀ b, At A b → b ≠ b1 := fun b hb => by
      intro e
      subst e
      rcases hR.out.2 with ⟨rfl, _⟩ | ⟨b', l, rfl, hB', _⟩
      · exact at_none hb
      · rw [at_some] at hb; subst hb; exact (h.then s9).m1.ne_blk hB' rfl
    have hR10 := Row.keep hR hW10.step (fun b hb => hne1 b hb)
    have z10 := hW10.size
    have z9 := h9.lt
    have lt1 := h.m1.lt
    have lt2 := h.m2.lt
    have lt0 := h.blk.lt
    have hgeb := h1.ge (Step.refl NoB w)
    have hge8 := h8.ge s3
    have hge9 := h9.ge s8
    -- the map's entry
    obtain ⟨pre, x, post, rfl, hxk, hxb, hes⟩ : ∃ pre x post, es = pre ++ x :: post ∧ x.key = kv m.ch ∧ (x.born : Int) = n10 ∧ (pre ++ x :: post = es1 ∧ x.val = .slice A n cap ∨ (pre = es1 ∧ post = [] ∧ (∀ e ∈ es1, e.key ≠ kv m.ch) ∧ A = none)) := by
      rcases hT with ⟨⟨x, hx, hxk, hxb⟩, rfl⟩ | ⟨hno, k, rfl, hk⟩
      · obtain ⟨pre, post, rfl⟩ := List.append_of_mem hx
        refine ⟨pre, x, post, rfl, hxk, hxb, .inl ⟨rfl, ?_⟩⟩
        rcases hL with ⟨_, y, hy, hyk, hyv⟩ | ⟨_, hno, _⟩
        · rw [← key_uniq h.m1.uniq hy hx (hyk.trans hxk.symm)]; exact hyv
        · exact absurd hxk (hno x hx)
      · refine ⟨es1, _, [], rfl, rfl, hk, .inr ⟨rfl, rfl, hno, ?_⟩⟩
        rcases hL with ⟨_, y, hy, hyk, hyv⟩ | ⟨_, hno, hz⟩
        · exact absurd hyk (hno y hy)
        · cases hz; rfl
    have hA : ∀ b, At A b → ∃ e ∈ es1, e.key = kv m.ch ∧ e.val.ownBlock = some b := by
      intro b hb
      rcases hes with ⟨rfl, hv⟩ | ⟨_, _, _, rfl⟩
      · exact ⟨x, by simp, hxk, by rw [hv, ownBlock_at]; exact hb⟩
      · exact absurd hb at_none
    have hAne : ∀ b, At A b → b ≠ b0 ∧ b ≠ b1 ∧ b ≠ b2 ∧ b < w.heap.size := by
      intro b hb
      obtain ⟨e, he, _, hb'⟩ := hA b hb
      have := h.row_ne he hb'
      exact ⟨this.1, this.2.1, this.2.2, h.lt (.inr (.inr (.inr ⟨e, he, hb'⟩)))⟩
    have hb1 : b1 ≠ b0 := h.m1.ne_blk h.blk
    have hb2 : b2 ≠ b0 := h.m2.ne_blk h.blk
    refine ⟨_, _, hR10, reads_blk (h9.blk.keep hW10.step (by omega)) rfl (mv_one m), ?_, by omega, fun A' c' w11 h11 hap => ?_⟩
    · have : maxLen = 9223372036854775807 := rfl
      omega
    have nA : ∀ b, b < w.heap.size → (b = b0 ∨ b = b1 ∨ b = b2) → ¬ At A b := by
      intro b _ hb hc
      obtain ⟨g0, g1, g2, _⟩ := hAne b hc
      rcases hb with hb | hb | hb
      · exact g0 hb
      · exact g1 hb
      · exact g2 hb
    refine optC_in ⟨pre, x, post, hM10.keep hap.step (nA b1 lt1 (by simp)), hxb, fun w12 hM12 hW12 => ?_⟩
    have S10 : Step (fun k => k = b1 ∨ k = b2 ∨ At A k) w w10 := (s9.none).wrote hW10 (.inr (.inl rfl))
    have S11 : Step (fun k => k = b1 ∨ k = b2 ∨ At A k) w w11 := hap.new S10 (fun b hb => .inr (.inr (.inr hb)))
    have S12 : Step (fun k => k = b1 ∨ k = b2 ∨ At A k) w w12 := S11.wrote hW12 (.inr (.inl rfl))
    have far : ∀ b, w.heap.size ≤ b → ¬ At A b := fun b hb hc => by have := (hAne b hc).2.2.2; omega
    have g10 : ¬ b = b1 ∧ ¬ b8 = b1 ∧ ¬ At A b ∧ ¬ At A b8 := ⟨by omega, by omega, far b (by omega), far b8 (by omega)⟩
    have hB12 := ((hB9.keep hW10.step g10.1).keep hap.step g10.2.2.1).keep hW12.step g10.1
    have hC12 := ((hC9.keep hW10.step g10.2.1).keep hap.step g10.2.2.2).keep hW12.step g10.2.1
    have h0n : ¬ (b0 = b1 ∨ b0 = b2 ∨ At A b0) := by
      rintro (hc | hc | hc)
      · exact hb1 hc.symm
      · exact hb2 hc.symm
      · exact (hAne _ hc).1 rfl
    have hM2 : MapAt Try.prog tSent w12 b2 es2 := (((h.then s9).m2.keep hW10.step (Ne.symm h.ne)).keep hap.step (nA b2 lt2 (by simp))).keep hW12.step (Ne.symm h.ne)
    refine nilC_in ⟨_, (h.blk.keep S12 h0n).cell (j := 1) rfl, _, hB12.cell rfl, _, hB12.cell rfl, _, _, _, hC12.all, keyed_sent, key_sent _ _ hm.2.1 hm.2.2.2.1, optC_in ⟨es2, hM2, fun w13 es2' hP hM13 hW13 => ?_⟩⟩
    replace hW13 := hW13.undrew
    obtain ⟨t13, rfl⟩ : ∃ t13, es2' = es2 ++ [⟨sv m.fr m.call, kv m.ch, t13⟩] := by
      rcases hP with ⟨pre', y, post', he, hyk, _⟩ | ⟨_, t13, he⟩
      · exfalso
        obtain ⟨m', hm', hy1, _⟩ := h.ats y (by rw [he]; simp)
        obtain ⟨j1, j2⟩ := sv_inj (hy1.symm.trans hyk)
        exact find_none hfn m' hm' ⟨j1, j2⟩
      · exact ⟨t13, he⟩
    have S13 : Step (fun k => k = b1 ∨ k = b2 ∨ At A k) w w13 := S12.wrote hW13 (.inr (.inr (.inl rfl)))
    have atA' : ∀ k, At A' k → At A k ∨ w.heap.size ≤ k := by
      intro k hk
      rcases hap.at_ with hc | hc
      · exact .inl (by unfold At at hk ⊢; rw [← hc]; exact hk)
      · unfold At at hk
        rw [hc] at hk
        cases hk
        exact .inr S10.size
    have hrow : RowM w13 A' (n + 1) c' (row Q m.ch ++ [m]) := by
      have r11 : Row w11 A' (n + 1) c' tMsg 8 ((row Q m.ch ++ [m]).flatMap mv) := by
        rw [List.flatMap_append, show ([m] : List Msg).flatMap mv = mv m by simp]; exact h11
      have kf : ∀ k, At A' k → k ≠ b1 ∧ k ≠ b2 := by
        intro k hk
        rcases atA' k hk with hc | hc
        · obtain ⟨_, j1, j2, _⟩ := hAne k hc
          exact ⟨j1, j2⟩
        · exact ⟨by omega, by omega⟩
      exact Row.keep (Row.keep r11 hW12.step fun k hk => (kf k hk).1) hW13.step fun k hk => (kf k hk).2
    have hM1 : MapAt Try.prog tCh w13 b1 (pre ++ { x with val := .slice A' (n + 1) c' } :: post) := hM12.keep hW13.step h.ne
    obtain ⟨R1, R2⟩ := h.sent hfn hm (A := A) (hes.elim (fun g => .inl g.1) (fun g => .inr ⟨g.1, g.2.1, g.2.2.1⟩)) hxk S13 hM1 hM13 hrow hA atA'
    refine ⟨rfl, _, ⟨b0, b1, b2, _, _, rfl, R1, fun _ => Iff.rfl⟩, S13.mono ?_, fun k hk => (R2 k hk).elim (fun g => .inl ((hF k).2 g)) .inr⟩
    rintro k _ (hc | hc | hc)
    · exact (hF k).2 (.inr (.inl hc))
    · exact (hF k).2 (.inr (.inr (.inl hc)))
    · obtain ⟨e, he, _, hb⟩ := hA k hc
      exact (hF k).2 (.inr (.inr (.inr ⟨e, he, hb⟩)))
  · rintro e w' ⟨v, rfl, rfl, h⟩
    exact ⟨rfl, h⟩

end Go.Proofs.Ytdaojmkbjkaakaa
