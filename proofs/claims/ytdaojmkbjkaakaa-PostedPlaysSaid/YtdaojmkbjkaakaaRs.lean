/- PostedPlays' walk. Conditions: none. -/
import Derived.Test.YtdaojmkbjkaakaaRr
set_option linter.unusedVariables false
set_option linter.unusedSimpArgs false
namespace Go.Proofs.Ytdaojmkbjkaakaa
open Go.Vc Go.Q13 Go.RowKit

theorem rEq_same {a b : Recv} (h : a = b) : (!((a.key == b.key) && ((a.rank == b.rank) && ((a.call == b.call) && ((a.peer == b.peer) && ((a.tag == b.tag) && ((a.req == b.req) && ((a.done == b.done) && ((a.fr == b.fr) && ((a.seq == b.seq) && (true))))))))))) = false := by
  have : rEq a b = true := rEq_iff.2 h
  unfold rEq at this
  rw [this]; rfl
theorem postedPlays_walk (A1 : Option Addr) (N1 C1 : Nat) (w : World) (acts : List PAct) (hin : InP w A1 N1 acts) :
    Calls Try.prog 6 #[.slice A1 N1 C1] w fun e w' => e = .returned (.bool true) ∧ Below w.heap.size w w' := by
  refine (V.dispatcherlaw14_PostedPlays_calls (R := fun v w' => v = .bool true ∧ Step NoB w w') ?_).mono ?_
  · refine (greatP_calls hin).mono ?_
    rintro e w1 ⟨t, rfl, rfl, hN⟩
    refine ⟨_, rfl, ifb_intro (fun _ => ⟨rfl, Step.refl _ _⟩) (fun g => ?_)⟩
    have hN := hN g
    refine (begin_calls w1).mono ?_
    rintro e w2 ⟨bp, rfl, hpl⟩
    obtain ⟨q, p, x, d, Fq, Fp, Fx, Fd, h2⟩ := id hpl
    refine ⟨_, rfl, nilC_in ⟨_, h2.blk.cell rfl, ifb_not h2.hq.live (nilC_in ⟨_, h2.blk.cell (j := 1) rfl, ifb_not h2.hp.live ?_⟩)⟩⟩
    refine ⟨fun i w' => 0 ≤ i ∧ i ≤ N1 ∧ ∃ Q P, Q.length ≤ i.toNat ∧ P.length ≤ i.toNat ∧ Play w1 w' bp Q P, fun i _ => (N1 - i).toNat, ⟨by omega, by omega, [], [], by simp, by simp, hpl⟩, ?_⟩
    rintro i jk w3 ⟨i0, i1, Q, P, lQ, lP, hpl3⟩
    have S3 : Step NoB w1 w3 := by obtain ⟨_, _, _, _, _, _, _, _, h⟩ := hpl3; exact h.step
    refine ifb_intro (fun hi => ?_) (fun _ => ⟨rfl, S3⟩)
    simp only [decide_eq_true_eq] at hi
    obtain ⟨a, b, o, ha, rfl, hc, hm, hr, k0, _⟩ := (hin.then S3).get (i := i.toNat) (by omega)
    refine ⟨i0, hi, b, o, rfl, _, _, _, _, _, _, _, _, _, cells_sub hc 9 9 rfl, ?_⟩
    refine new_set (by simp) rfl fun b4 w4 h4 => ?_
    have hc4 := cells_then hc h4.step
    refine ⟨i0, hi, b, o, rfl, _, _, _, _, _, _, _, _, _, _, _, _, _, _, _, _, _, _, hc4, ?_⟩
    obtain ⟨q, p, x, d, Fq, Fp, Fx, Fd, h3⟩ := hpl3
    have hb4 : ¬ PlayF bp Fq Fp Fx Fd b4 := by
      have hat := h4.at_
      rintro (e | hk | hk | hk | hk)
      · have := h3.blk.lt; omega
      · have := h3.hq.lt hk; omega
      · have := h3.hp.lt hk; omega
      · have := h3.hx.lt hk; omega
      · have := h3.hd.lt hk; omega
    refine (does_calls (h3.then h4.step) (z := i.toNat) lQ lP (by omega) a hm hr k0).mono ?_
    rintro e w5 ⟨rfl, s5, Q', P', lQ', lP', hpl5⟩
    have B5 : Blk w5 b4 (rv a.r) tRecv := h4.blk.keep s5 hb4
    obtain ⟨q, p, x, d, Fq, Fp, Fx, Fd, h5⟩ := id hpl5
    have h5d := h5.then (Step.refl NoB w5).drew
    have B5d := B5.then (Step.refl NoB w5).drew
    have hu := QRep.uniq h5.hq
    refine ⟨_, rfl, ifb_f ⟨fun bb t w' => Step NoB w5 w' ∧ Blk w' bb (rv ((at_ P' a.r.rank a.r.call).getD zeroR)) tRecv ∧ t = (at_ P' a.r.rank a.r.call).isSome, nilC_in ⟨_, h5d.blk.cell (j := 1) rfl, _, B5d.cell rfl, _, B5d.cell rfl, ?_, ?_⟩, ?_⟩⟩
    · refine (h5d.hp.at_calls h5.good a.r.rank a.r.call).mono ?_
      rintro e w6 ⟨rfl, s6⟩
      replace s6 := s6.undrew
      refine ⟨_, _, _, _, _, _, _, _, _, _, rfl, ?_⟩
      exact new_set (by simp) rfl fun b7 w7 h7 => ⟨s6.new h7, h7.blk, rfl⟩
    · intro b7 w7 h7
      have s7 := (Step.refl NoB w5.drew).new h7
      have h7' := h5d.then s7
      refine ⟨(B5d.then s7).cell rfl, (B5d.then s7).cell rfl, h7'.blk.cell (j := 1) rfl, (h7'.hp.at_calls h5.good a.r.rank a.r.call).mono ?_⟩
      rintro e w8 ⟨rfl, s8⟩
      refine ⟨_, _, _, _, _, _, _, _, _, _, rfl, _, _, h7.blk.then s8, by simp, fun w9 u9 => ⟨?_, u9.blk, rfl⟩⟩
      exact ((s7.then s8).upd u9 (.inl (h7.ge (Step.refl NoB w5.drew)))).undrew
    rintro b6 t6 jk2 w6 ⟨s6, B6, rfl⟩
    have h6 := h5.then s6
    have h6d := h6.then (Step.refl NoB w6).drew
    have B5' := B5.then s6.drew
    refine ⟨fun bb t w' => Step NoB w6 w' ∧ Blk w' bb (rv ((at_ P' a.r.rank a.r.call).getD zeroR)) tRecv ∧ t = (at_ P' a.r.rank a.r.call).isSome, nilC_in ⟨_, h6d.blk.cell (j := 3) rfl, _, B5'.cell rfl, _, B5'.cell rfl, ?_, ?_⟩, ?_⟩
    · refine (h6d.hd.at_calls a.r.rank a.r.call).mono ?_
      rintro e w7 ⟨rfl, s7⟩
      replace s7 := s7.undrew
      refine ⟨_, _, _, _, _, _, _, _, _, _, rfl, ?_⟩
      exact new_set (by simp) rfl fun b8 w8 h8 => ⟨s7.new h8, h8.blk, rfl⟩
    · intro b7 w7 h7
      have s7 := (Step.refl NoB w6.drew).new h7
      have h7' := h6d.then s7
      refine ⟨(B5'.then s7).cell rfl, (B5'.then s7).cell rfl, h7'.blk.cell (j := 3) rfl, (h7'.hd.at_calls a.r.rank a.r.call).mono ?_⟩
      rintro e w8 ⟨rfl, s8⟩
      refine ⟨_, _, _, _, _, _, _, _, _, _, rfl, _, _, h7.blk.then s8, by simp, fun w9 u9 => ⟨?_, u9.blk, rfl⟩⟩
      exact ((s7.then s8).upd u9 (.inl (h7.ge (Step.refl NoB w6.drew)))).undrew
    rintro b7 t7 jk3 w7 ⟨s7, B7, rfl⟩
    have s57 := (s6.then s7).drew
    have h7 := h5.then s57
    have B7' := B5.then s57
    refine ⟨_, _, _, _, _, _, _, _, _, (B6.then s7.drew).all, _, _, _, _, _, _, _, _, _, (B7.then (Step.refl NoB w7).drew).all, ifb_not (rEq_same rfl) (ifb_not (by simp) ?_)⟩
    refine nilC_in ⟨_, h7.blk.cell (j := 1) rfl, _, B7'.cell rfl, nilC_in ⟨_, h7.blk.cell (j := 3) rfl, _, B7'.cell rfl, (h7.hp.waiting_calls h5.good (by omega) a.r.rank).mono ?_⟩⟩
    rintro e w8 ⟨A8, n8, c8, rfl, hR8, _, s8⟩
    have h8 := h7.then s8
    refine ⟨_, _, _, rfl, (B7'.then s8).cell rfl, h8.blk.cell (j := 3) rfl, (h8.hd.waiting_calls (by omega) a.r.rank).mono ?_⟩
    rintro e w9 ⟨A9, n9, c9, rfl, hR9, _, s9⟩
    refine ⟨_, _, _, rfl, (sameR_calls (Row.then hR8 s9) hR9).mono ?_⟩
    rintro e w10 ⟨rfl, s10⟩
    have s810 := (s8.then s9).then s10
    have h10 := h7.then s810
    refine ⟨_, rfl, ifb_not (by simp) (nilC_in ⟨_, h10.blk.cell (j := 0) rfl, nilC_in ⟨_, h10.blk.cell (j := 2) rfl, (h10.hq.left_calls (by omega) fun l hl => sortsM l (by have := hl.length_eq; have := open_length Q'; omega)).mono ?_⟩⟩)⟩
    rintro e w11 ⟨A11, n11, c11, l, rfl, hR11, hL, _, s11⟩
    have h11 := h10.then s11
    refine ⟨_, _, _, rfl, h11.blk.cell (j := 2) rfl, (refLeft_calls h11.hx (by omega)).mono ?_⟩
    rintro e w12 ⟨A12, n12, c12, l', rfl, hR12, hs, hrw, _, s12⟩
    have hll := left_eq hL hs hrw
    subst hll
    refine ⟨_, _, _, rfl, (same_calls (Row.then hR11 s12) hR12).mono ?_⟩
    rintro e w13 ⟨rfl, s13⟩
    have s713 := (((s810.then s11).then s12).then s13)
    have B13 := B7'.then s713
    have S13 : Step NoB w1 w13 := (h5.step.then s57).then s713
    obtain ⟨b', o', hbo, hc13⟩ := (hin.then S13).at_ _ a ha
    cases hbo
    refine ⟨_, rfl, ifb_not (by simp) ⟨_, _, _, _, _, _, _, _, _, B13.all, i0, hi, b, o, rfl, _, _, _, _, _, _, _, _, cells_sub hc13 1 8 rfl, _, _, _, _, _, _, _, _, _, B13.all, i0, hi, b, o, rfl, _, _, _, _, _, _, _, _, cells_sub hc13 1 8 rfl, (Fits_calls a.r a.m w13).mono ?_⟩⟩
    rintro e w14 ⟨rfl, s14⟩
    refine ⟨_, rfl, cells_then (cells_sub hc13 1 8 rfl) s14, (B13.then s14).all, (refFits_calls a.r a.m w14).mono ?_⟩
    rintro e w15 ⟨rfl, s15⟩
    have s515 := ((s57.then s713).then s14).then s15
    exact ⟨_, rfl, ifb_not (by simp) ⟨_, w64 (by omega), ⟨by omega, by omega, Q', P', by omega, by omega, q, p, x, d, Fq, Fp, Fx, Fd, h5.then s515⟩, by dsimp only; omega⟩⟩
  · rintro e w' ⟨v, rfl, rfl, h⟩
    exact ⟨rfl, h.below⟩

end Go.Proofs.Ytdaojmkbjkaakaa
