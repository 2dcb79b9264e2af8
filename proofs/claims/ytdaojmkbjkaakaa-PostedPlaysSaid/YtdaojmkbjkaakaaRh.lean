/- Contracts: what the reference's Left tells is what the program's does; a queue's Copy. Conditions: none. -/
import Derived.Test.YtdaojmkbjkaakaaRf
set_option linter.unusedVariables false
set_option linter.unusedSimpArgs false
namespace Go.Proofs.Ytdaojmkbjkaakaa
open Go.Vc Go.Q13 Go.RowKit

theorem left_eq {Q l l' : List Msg} (h : leftL Q l) (hs : l'.Pairwise le) (hr : ∀ c, row l' c = row (open_ Q) c) : l = l' :=
  sorted_eq (h.1.imp fun hab hlt => hab (ord_lt.2 hlt)) hs fun c => (h.2 c).trans (hr c).symm

/-- the copy of a queue, part way -/
structure CP (w0 w : World) (Q : List Msg) (c0 c1 c2 : Nat) (xs1 xs2 : List MapEntry) : Prop where
  blk : Blk w c0 [.map (some c1), .map (some c2)] tQueue
  m1 : MapAt Try.prog tCh w c1 xs1
  m2 : MapAt Try.prog tSent w c2 xs2
  ne : c1 ≠ c2
  rows : ∀ e ∈ xs1, EntM w Q e
  apart : ∀ x ∈ xs1, ∀ y ∈ xs1, x.val.ownBlock = y.val.ownBlock → x.key = y.key
  new : ∀ k, QF c0 c1 c2 xs1 k → w0.heap.size ≤ k
theorem CP.keep {F : Nat → Prop} {w0 w w' : World} {Q : List Msg} {c0 c1 c2 : Nat} {xs1 xs2 : List MapEntry} (h : CP w0 w Q c0 c1 c2 xs1 xs2) (s : Step F w w') (hF : ∀ k, QF c0 c1 c2 xs1 k → ¬ F k) : CP w0 w' Q c0 c1 c2 xs1 xs2 :=
  ⟨h.blk.keep s (hF _ (.inl rfl)), h.m1.keep s (hF _ (.inr (.inl rfl))), h.m2.keep s (hF _ (.inr (.inr (.inl rfl)))), h.ne, fun e he => (h.rows e he).keep s fun b hb => hF b (.inr (.inr (.inr ⟨e, he, hb⟩))), h.apart, h.new⟩
theorem CP.then {w0 w w' : World} {Q : List Msg} {c0 c1 c2 : Nat} {xs1 xs2 : List MapEntry} (h : CP w0 w Q c0 c1 c2 xs1 xs2) (s : Step NoB w w') : CP w0 w' Q c0 c1 c2 xs1 xs2 := h.keep s fun _ _ f => f
theorem CP.lt {w0 w : World} {Q : List Msg} {c0 c1 c2 : Nat} {xs1 xs2 : List MapEntry} (h : CP w0 w Q c0 c1 c2 xs1 xs2) {k : Nat} (hk : QF c0 c1 c2 xs1 k) : k < w.heap.size := by
  rcases hk with rfl | rfl | rfl | ⟨e, he, hb⟩
  · exact h.blk.lt
  · exact h.m1.lt
  · exact h.m2.lt
  · obtain ⟨b, hb', hlt⟩ := (h.rows e he).blk
    rw [hb] at hb'; cases hb'; exact hlt
theorem CP.ne_it {w0 w : World} {Q : List Msg} {c0 c1 c2 : Nat} {xs1 xs2 : List MapEntry} (h : CP w0 w Q c0 c1 c2 xs1 xs2) {t : TypeId} {it r : Nat} {es left : List MapEntry} {cur : Option MapEntry} (hI : IterAt Try.prog t w it r es left cur) :
    ∀ k, QF c0 c1 c2 xs1 k → ¬ k = it := by
  obtain ⟨clk, seen, last, h1, _⟩ := hI
  rintro k hk rfl
  rcases hk with rfl | rfl | rfl | ⟨e, he, hb⟩
  · have := h.blk; unfold Blk at this; rw [h1] at this; cases this
  · obtain ⟨_, g, _⟩ := h.m1; rw [h1] at g; cases g
  · obtain ⟨_, g, _⟩ := h.m2; rw [h1] at g; cases g
  · obtain ⟨b, l, hb', hB⟩ := (h.rows e he).blk2
    rw [hb] at hb'; cases hb'
    unfold Blk at hB; rw [h1] at hB; cases hB

theorem key_fresh {es ds left pre post : List MapEntry} {x : MapEntry} (hu : es.Pairwise (fun a b => a.key ≠ b.key)) (hp : (ds ++ left).Perm es) (hl : left = pre ++ x :: post) : ∀ e ∈ ds, e.key ≠ x.key := by
  intro e he hk
  have hx : x ∈ es := hp.mem_iff.1 (List.mem_append_right _ (by rw [hl]; simp))
  have he' : e ∈ es := hp.mem_iff.1 (List.mem_append_left _ he)
  have hex := key_uniq hu he' hx hk
  subst hex
  have hn : (ds ++ left).Nodup := hp.nodup_iff.2 (hu.imp fun h e => h (by rw [e]))
  rw [hl, List.nodup_append] at hn
  exact hn.2.2 e he e (by simp) rfl

theorem QRep.copy_calls {F : Nat → Prop} {w : World} {a : Option Addr} {Q : List Msg} (h : QRep w a Q F) (hQ : Q.length ≤ 1000000000) :
    Calls Try.prog 46 #[.pointer a] w fun e w' => ∃ a' F', e = .returned (.pointer a') ∧ QRep w' a' Q F' ∧ (∀ k, F' k → w.heap.size ≤ k) ∧ Step NoB w w' := by
  obtain ⟨b0, b1, b2, es1, es2, rfl, h, hF⟩ := h
  refine (V.queue_Queue_Copy_calls (R := fun v w' => ∃ a' F', v = .pointer a' ∧ QRep w' a' Q F' ∧ (∀ k, F' k → w.heap.size ≤ k) ∧ Step NoB w w') ?_).mono ?_
  · refine ifb_f ((none_calls h).mono ?_)
    rintro e w1 ⟨rfl, rfl⟩
    refine ⟨_, rfl, ifb_f ((new_calls _).mono ?_)⟩
    rintro e w2 ⟨a', F', rfl, hN, hN0, s2⟩
    obtain ⟨c0, c1, c2, ys1, ys2, rfl, hN, hNF⟩ := hN
    obtain rfl : ys1 = [] := List.eq_nil_iff_forall_not_mem.2 fun e he => by obtain ⟨_, _, _, _, _, _, _, hx⟩ := hN.rows e he; exact hx rfl
    obtain rfl : ys2 = [] := List.eq_nil_iff_forall_not_mem.2 fun e he => by obtain ⟨_, hx, _⟩ := hN.ats e he; cases hx
    have hC2 : CP w1 w2 Q c0 c1 c2 [] [] := ⟨hN.blk, hN.m1, hN.m2, hN.ne, by simp, by simp, fun k hk => hN0 k ((hNF k).2 hk)⟩
    refine ⟨_, rfl, nilC_in ⟨_, (h.then s2).blk.cell rfl, optC_in ⟨es1, (h.then s2).m1, fun b w3 h3 => ?_⟩⟩⟩
    have s3 := s2.newI h3
    have hitge : w1.heap.size ≤ b := by rw [h3.at_]; exact s2.size
    refine ⟨fun w' => ∃ left cur ds xs1, IterAt Try.prog tCh w' b b1 es1 left cur ∧ (ds ++ left).Perm es1 ∧ xs1.map (·.key) = ds.map (·.key) ∧ CP w1 w' Q c0 c1 c2 xs1 [] ∧ Step NoB w1 w', fun w' => itLeft w' b, ⟨es1, none, [], [], h3.it, List.Perm.refl _, rfl, hC2.then h3.step, s3⟩, ?_⟩
    rintro jk w4 ⟨left, cur, ds, xs1, hI, hp, hk, hC, s4⟩
    refine ⟨tCh, b1, es1, left, cur, hI, ?_, ?_⟩
    · -- behind the first
      rintro rfl
      rw [List.append_nil] at hp
      refine nilC_in ⟨_, (h.then s4).blk.cell (j := 1) rfl, optC_in ⟨es2, (h.then s4).m2, fun it2 w5 h5 => ?_⟩⟩
      have s5 := s4.newI h5
      have hitge2 : w1.heap.size ≤ it2 := by rw [h5.at_]; exact s4.size
      refine ⟨fun w' => ∃ left cur ds xs2, IterAt Try.prog tSent w' it2 b2 es2 left cur ∧ (ds ++ left).Perm es2 ∧ xs2.map (fun e => (e.key, e.val)) = ds.map (fun e => (e.key, e.val)) ∧ CP w1 w' Q c0 c1 c2 xs1 xs2 ∧ Step NoB w1 w', fun w' => itLeft w' it2, ⟨es2, none, [], [], h5.it, List.Perm.refl _, rfl, hC.then h5.step, s5⟩, ?_⟩
      rintro jk2 w6 ⟨left2, cur2, ds2, xs2, hI2, hp2, hk2, hC6, s6⟩
      refine ⟨tSent, b2, es2, left2, cur2, hI2, ?_, ?_⟩
      · rintro rfl
        rw [List.append_nil] at hp2
        have mem2 : ∀ e ∈ xs2, ∃ d ∈ es2, e.key = d.key ∧ e.val = d.val := by
          intro e he
          have : (e.key, e.val) ∈ ds2.map (fun e => (e.key, e.val)) := by rw [← hk2]; exact List.mem_map_of_mem he
          obtain ⟨d, hd, hde⟩ := List.mem_map.1 this
          simp only [Prod.mk.injEq] at hde
          exact ⟨d, hp2.mem_iff.1 hd, hde.1.symm, hde.2.symm⟩
        have mem2' : ∀ d ∈ es2, ∃ e ∈ xs2, e.key = d.key := by
          intro d hd
          have : (d.key, d.val) ∈ xs2.map (fun e => (e.key, e.val)) := by rw [hk2]; exact List.mem_map_of_mem (f := fun e : MapEntry => (e.key, e.val)) (hp2.mem_iff.2 hd)
          obtain ⟨e, he, hde⟩ := List.mem_map.1 this
          simp only [Prod.mk.injEq] at hde
          exact ⟨e, he, hde.1⟩
        refine ⟨_, QF c0 c1 c2 xs1, rfl, ⟨c0, c1, c2, xs1, xs2, rfl, ⟨hC6.blk, hC6.m1, hC6.m2, hC6.ne, hC6.rows, ?_, hC6.apart, ?_, ?_, h.uniq, h.fit⟩, fun _ => Iff.rfl⟩, hC6.new, s6⟩
        · intro m hm
          obtain ⟨e, he, hek⟩ := h.has m hm
          have : e.key ∈ xs1.map (·.key) := by rw [hk]; exact List.mem_map_of_mem (f := fun e : MapEntry => e.key) (hp.mem_iff.2 he)
          obtain ⟨e', he', hk'⟩ := List.mem_map.1 this
          exact ⟨e', he', hk'.trans hek⟩
        · intro e he
          obtain ⟨d, hd, h1, h2⟩ := mem2 e he
          obtain ⟨m, hm, h3, h4⟩ := h.ats d hd
          exact ⟨m, hm, h1.trans h3, h2.trans h4⟩
        · intro m hm
          obtain ⟨d, hd, hdk⟩ := h.at_ m hm
          obtain ⟨e, he, hek⟩ := mem2' d hd
          exact ⟨e, he, hek.trans hdk⟩
      · intro pre x post w7 hl hI7 hW7
        have hxin : x ∈ es2 := hp2.mem_iff.1 (List.mem_append_right _ (by rw [hl]; simp))
        obtain ⟨m, hm, hxk, hxv⟩ := h.ats x hxin
        have s7 := s6.wrote hW7 (.inl hitge2)
        have hC7 := hC6.keep hW7.step (hC6.ne_it hI2)
        have hf := h.fit m hm
        refine ⟨tSent, b2, es2, pre ++ post, x, hI7, m.fr, m.call, hxk, m.key, m.fr, m.to, hxv, fun b8 w8 h8 b9 w9 h9 => ?_⟩
        refine ⟨_, _, h8.blk.new h9, by simp, fun w10 h10 => ⟨_, _, h9.blk.keep h10.step (by have := h8.lt; have := h9.at_; omega), by simp, fun w11 h11 => ?_⟩⟩
        have T : Step NoB w7 w11 := ((((Step.refl NoB w7).new h8).new h9).upd h10 (.inl (h8.ge (Step.refl NoB w7)))).upd h11 (.inl (h9.ge ((Step.refl NoB w7).new h8)))
        have B8 : Blk w11 b8 [.int .i64 m.fr, .int .i64 m.call] tSent := h10.blk.keep h11.step (by have := h8.lt; have := h9.at_; omega)
        have hC11 := hC7.then T
        have hI11 := hI7.then T
        refine nilC_in ⟨_, (hC11.then (Step.refl _ _).drew).blk.cell (j := 1) rfl, _, _, B8.all, _, _, _, h11.blk.all, keyed_sent, key_sent _ _ hf.2.1 hf.2.2.2.1, optC_in ⟨xs2, (hC11.then (Step.refl _ _).drew).m2, fun w12 es12 hP hM hW => ?_⟩⟩
        replace hW := hW.undrew
        have hno : ∀ e ∈ xs2, e.key ≠ sv m.fr m.call := by
          intro e he hke
          have : (e.key, e.val) ∈ ds2.map (fun e => (e.key, e.val)) := by rw [← hk2]; exact List.mem_map_of_mem he
          obtain ⟨d, hd, hde⟩ := List.mem_map.1 this
          simp only [Prod.mk.injEq] at hde
          exact key_fresh h.m2.uniq hp2 hl d hd (by rw [hde.1, hke, hxk])
        obtain ⟨t, rfl⟩ : ∃ t, es12 = xs2 ++ [⟨sv m.fr m.call, kv m.ch, t⟩] := by
          rcases hP with ⟨p, y, q, he, hy, _⟩ | ⟨_, t, he⟩
          · exact absurd hy (hno y (by rw [he]; simp))
          · exact ⟨t, he⟩
        have hne : ¬ it2 = c2 ∧ ¬ b2 = c2 := ⟨fun e => hC11.ne_it hI11 c2 (.inr (.inr (.inl rfl))) e.symm, fun e => by have := hC11.new c2 (.inr (.inr (.inl rfl))); have := h.m2.lt; omega⟩
        have hI12 := hI11.keep hW.step hne.1 hne.2
        have hC12 : CP w1 w12 Q c0 c1 c2 xs1 (xs2 ++ [⟨sv m.fr m.call, kv m.ch, t⟩]) := by
          refine ⟨hC11.blk.keep hW.step (fun e => hC11.m2.ne_blk hC11.blk e.symm), hC11.m1.keep hW.step hC11.ne, hM, hC11.ne, fun e he => (hC11.rows e he).keep hW.step fun k hk e2 => ?_, hC11.apart, hC11.new⟩
          subst e2
          obtain ⟨b', l', hb', hB'⟩ := (hC11.rows e he).blk2
          rw [hk] at hb'; cases hb'
          exact hC11.m2.ne_blk hB' rfl
        exact ⟨⟨pre ++ post, some x, ds2 ++ [x], _, hI12, done_snoc hp2 hl, by rw [List.map_append, List.map_append, hk2]; simp [hxk, hxv, sv, kv, Msg.ch], hC12, (s7.then T).wrote hW (.inl (hC11.new c2 (.inr (.inr (.inl rfl)))))⟩, by dsimp only; rw [hI12.count, hI2.count, hl]; simp⟩
    · intro pre x post w5 hl hI5 hW5
      have hxin : x ∈ es1 := hp.mem_iff.1 (List.mem_append_right _ (by rw [hl]; simp))
      obtain ⟨c, A, n, cap, hxk, hxv, hxR, hxr⟩ := h.rows x hxin
      obtain ⟨m, hm⟩ := List.exists_mem_of_ne_nil _ hxr
      obtain ⟨hmQ, rfl⟩ := mem_row.1 hm
      have hf := h.fit m hmQ
      have s5 := s4.wrote hW5 (.inl hitge)
      have hC5 := hC.keep hW5.step (hC.ne_it hI)
      have hn := RowM.len hxR
      have hle : (row Q m.ch).length ≤ Q.length := List.length_filter_le ..
      refine ⟨tCh, b1, es1, pre ++ post, x, hI5, m.key, m.fr, m.to, hxk, A, n, cap, hxv, ?_⟩
      refine new_set (by simp) rfl fun b6 w6 h6 => ?_
      have s6 := s5.new h6
      have hC6 := hC5.then h6.step
      refine nilC_in ⟨_, (hC6.then (Step.refl _ _).drew).blk.cell rfl, _, _, _, (h6.blk.then (Step.refl _ _).drew).all, (cloneM_calls (Row.then hxR s6.drew) (by omega)).mono ?_⟩
      rintro e w7 ⟨A', c', rfl, hR7, hat7, s7⟩
      replace s7 := s7.undrew
      have hC7 := hC6.then s7
      refine ⟨_, _, _, rfl, (h6.blk.then s7).all, hC7.blk.cell rfl, keyed_ch, key_ch m.ch hf.1 hf.2.1 hf.2.2.1, optC_in ⟨xs1, hC7.m1, fun w8 es8 hP hM hW => ?_⟩⟩
      have hno : ∀ e ∈ xs1, e.key ≠ kv m.ch := by
        intro e he hke
        have : e.key ∈ ds.map (·.key) := by rw [← hk]; exact List.mem_map_of_mem (f := fun e : MapEntry => e.key) he
        obtain ⟨d, hd, hde⟩ := List.mem_map.1 this
        exact key_fresh h.m1.uniq hp hl d hd (by rw [hde, hke, hxk])
      obtain ⟨t, rfl⟩ : ∃ t, es8 = xs1 ++ [⟨kv m.ch, .slice A' n c', t⟩] := by
        rcases hP with ⟨p, y, q, he, hy, _⟩ | ⟨_, t, he⟩
        · exact absurd hy (hno y (by rw [he]; simp))
        · exact ⟨t, he⟩
      have hI7 := (hI5.then h6.step).then s7
      have hne : ¬ b = c1 ∧ ¬ b1 = c1 := ⟨fun e => hC7.ne_it hI7 c1 (.inr (.inl rfl)) e.symm, fun e => by have := hC7.new c1 (.inr (.inl rfl)); have := h.m1.lt; omega⟩
      have hI8 := hI7.keep hW.step hne.1 hne.2
      have hat1 : ∀ k, At A' k → w1.heap.size ≤ k := fun k hk => Nat.le_trans s6.size (hat7 k hk)
      have far : ∀ e ∈ xs1, ∀ k, e.val.ownBlock = some k → ¬ At A' k := fun e he k hk hA => by
        have := hC6.lt (.inr (.inr (.inr ⟨e, he, hk⟩)))
        have : w6.heap.size ≤ k := hat7 k hA
        omega
      have hR8 : RowM w8 A' n c' (row Q m.ch) := Row.keep hR7 hW.step fun k hk e => by
        replace e : k = c1 := e
        rw [e] at hk
        have := hC6.lt (k := c1) (.inr (.inl rfl))
        have : w6.heap.size ≤ c1 := hat7 _ hk
        omega
      have hne' : ∃ k, At A' k := by
        rcases hR8.out.2 with ⟨_, h0, _⟩ | ⟨k, _, rfl, _⟩
        · exact absurd (List.eq_nil_of_length_eq_zero (by omega)) hxr
        · exact ⟨k, at_some.2 rfl⟩
      have hC8 : CP w1 w8 Q c0 c1 c2 (xs1 ++ [⟨kv m.ch, .slice A' n c', t⟩]) [] := by
        refine ⟨hC7.blk.keep hW.step (fun e => hC7.m1.ne_blk hC7.blk e.symm), hM, hC7.m2.keep hW.step (Ne.symm hC7.ne), hC7.ne, ?_, ?_, ?_⟩
        · intro e he
          rcases List.mem_append.1 he with he | he
          · refine (hC7.rows e he).keep hW.step fun k hk e2 => ?_
            subst e2
            obtain ⟨b', l', hb', hB'⟩ := (hC7.rows e he).blk2
            rw [hk] at hb'; cases hb'
            exact hC7.m1.ne_blk hB' rfl
          · rw [List.mem_singleton.1 he]
            exact ⟨m.ch, A', n, c', rfl, rfl, hR8, hxr⟩
        · have key : ∀ e ∈ xs1, e.val.ownBlock ≠ Value.ownBlock (.slice A' n c') := by
            intro e he hc
            obtain ⟨k, hk⟩ := hne'
            rw [ownBlock_at.2 hk] at hc
            exact far e he k hc hk
          intro y hy z hz he
          rcases List.mem_append.1 hy with hy | hy <;> rcases List.mem_append.1 hz with hz | hz
          · exact hC7.apart y hy z hz he
          · rw [List.mem_singleton.1 hz] at he; exact absurd he (key y hy)
          · rw [List.mem_singleton.1 hy] at he; exact absurd he.symm (key z hz)
          · rw [List.mem_singleton.1 hy, List.mem_singleton.1 hz]
        · rintro k (hk | hk | hk | ⟨e, he, hb⟩)
          · exact hC7.new k (.inl hk)
          · exact hC7.new k (.inr (.inl hk))
          · exact hC7.new k (.inr (.inr (.inl hk)))
          · rcases List.mem_append.1 he with he | he
            · exact hC7.new k (.inr (.inr (.inr ⟨e, he, hb⟩)))
            · rw [List.mem_singleton.1 he] at hb
              exact hat1 k (ownBlock_at.1 hb)
      exact ⟨⟨pre ++ post, some x, ds ++ [x], _, hI8, done_snoc hp hl, by rw [List.map_append, List.map_append, hk]; simp [hxk], hC8, (s6.then s7).wrote hW (.inl (hC7.new c1 (.inr (.inl rfl))))⟩, by dsimp only; rw [hI8.count, hI.count, hl]; simp⟩
  · rintro e w' ⟨v, rfl, a', F', rfl, h⟩
    exact ⟨a', F', rfl, h⟩

end Go.Proofs.Ytdaojmkbjkaakaa
