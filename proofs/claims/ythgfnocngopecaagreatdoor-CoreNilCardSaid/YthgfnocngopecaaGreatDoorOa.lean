/- CoreNil's walk: a core that nobody made has no ranks. Conditions: none. -/
import Derived.Test.YthgfnocngopecaaGreatDoorGl
import Derived.Test.YthgfnocngopecaaGreatDoorVm
set_option linter.unusedVariables false
set_option linter.unusedSimpArgs false
namespace Go.Proofs.YthgfnocngopecaaGreatDoor
open Go.Vc Go.RowKit

def zCore : List Value := [.int .i64 0, .int .i64 0, .bool false, .int .i64 0, .int .i64 0, .int .i64 0, .slice none 0 0, .pointer none, .pointer none, .pointer none, .map none]
def zRes : List Value := [.bool false, .int .i64 0, .int .i64 0, .int .i64 0, .int .i64 0, .int .i64 0, .int .i64 0, .slice none 0 0]
/-- nobody made this -/
def NoCore (w : World) (p : Option Addr) : Prop := p = none ∨ ∃ b e, p = some ⟨b, 0, none⟩ ∧ Blk w b zCore e
theorem NoCore.then {w w' : World} {p : Option Addr} (h : NoCore w p) (s : Step NoB w w') : NoCore w' p := by
  rcases h with rfl | ⟨b, e, rfl, h⟩
  · exact .inl rfl
  · exact .inr ⟨b, e, rfl, h.then s⟩
theorem great17_calls {w : World} {b : Nat} {l : List Value} {e : TypeId} {A : Option Addr} {n c : Nat} (h : Blk w b l e) (hc : l[10]? = some (.slice A n c)) :
    Calls Tryz.prog 17 #[.agg #[.int .i64 0, .int .i64 0, .bool false, .int .i64 0, .int .i64 0, .int .i64 0], .slice (some ⟨b, 0, none⟩) 1 1] w fun e w' => ∃ t, e = .returned (.bool t) ∧ Step NoB w w' := by
  refine (V.dispatcherlaw17_Great_calls (R := fun v w' => ∃ t, v = .bool t ∧ Step NoB w w') ?_).mono ?_
  · intro b8 w9 h9
    have s9 := (Step.refl NoB w).new h9
    refine ⟨fun w' => w' = w9, ifb_intro (fun _ => ⟨_, rfl, s9⟩) (fun _ => ⟨_, h9.blk.cell rfl, ifb_intro (fun _ => ⟨_, h9.blk.cell rfl, ifb_intro (fun _ => ⟨_, rfl, s9⟩) (fun _ => rfl)⟩) (fun _ => rfl)⟩), ?_⟩
    rintro jk w11 rfl
    refine ⟨fun i w' => 0 ≤ i ∧ w' = w11, fun i _ => (1 - i).toNat, ⟨by omega, rfl⟩, ?_⟩
    rintro i jk2 w1 ⟨h0, rfl⟩
    refine ifb_intro (fun hi => ?_) (fun _ => ⟨_, rfl, s9⟩)
    simp only [decide_eq_true_eq] at hi
    obtain rfl : i = 0 := by omega
    have B := h.then s9
    refine ⟨by omega, hi, b, 0, rfl, _, _, _, B.cell hc, ifb_intro (fun _ => ⟨_, rfl, s9⟩) (fun _ => ⟨1, by decide, ⟨by omega, rfl⟩, by dsimp only; omega⟩)⟩
  · rintro e w' ⟨v, rfl, t, rfl, h⟩
    exact ⟨t, rfl, h⟩
theorem in_no (r : Int) (w : World) : Calls Tryz.prog 58 #[.int .i64 r, .int .i64 0, .int .i64 (-1)] w fun e w' => e = .returned (.bool false) ∧ w' = w := by
  refine (V.core_in_calls (R := fun v w' => v = .bool false ∧ w' = w) ?_).mono ?_
  · refine ifb_intro (fun g => ⟨?_, rfl⟩) (fun _ => ⟨rfl, rfl⟩)
    simp only [ge_iff_le, decide_eq_true_eq] at g
    rw [decide_eq_false (by omega)]
  · rintro e w' ⟨v, rfl, rfl, rfl⟩; exact ⟨rfl, rfl⟩
theorem of_no {w : World} {p : Option Addr} (h : NoCore w p) (r : Int) : Calls Tryz.prog 64 #[.pointer p, .int .i64 r] w fun e w' => e = .returned (.pointer none) ∧ w' = w := by
  refine (V.core_Core_of_calls (R := fun v w' => v = .pointer none ∧ w' = w) ?_).mono ?_
  · rcases h with rfl | ⟨b, e, rfl, h⟩
    · exact ifb_t ⟨rfl, rfl⟩
    · refine ifb_f (nilC_in ⟨_, _, _, h.cell rfl, -1, by decide, (in_no r w).mono ?_⟩)
      rintro e w1 ⟨rfl, rfl⟩
      exact ⟨_, rfl, ifb_t ⟨rfl, rfl⟩⟩
  · rintro e w' ⟨v, rfl, rfl, rfl⟩; exact ⟨rfl, rfl⟩
theorem make_no {w : World} {p : Option Addr} (h : NoCore w p) (r n3 n4 n5 n6 n7 n8 n9 n10 : Int) (A : Option Addr) (n c : Nat) (n12 n13 : Int) :
    Calls Tryz.prog 34 #[.pointer p, .int .i64 r, .agg #[.int .u8 n3, .int .i64 n4, .int .i64 n5, .int .i64 n6, .int .i64 n7, .int .i64 n8, .int .i64 n9, .int .u8 n10, .slice A n c, .int .i64 n12, .int .i64 n13]] w fun e w' => e = .returned (.tuple #[.bool false, .int .i64 1]) ∧ Step NoB w w' := by
  refine (V.core_Core_Make_calls (R := fun v w' => v = .tuple #[.bool false, .int .i64 1] ∧ Step NoB w w') ?_).mono ?_
  · intro b w1 h1
    have s1 := (Step.refl NoB w).new h1
    rcases h.then s1 with rfl | ⟨b', e, rfl, hB⟩
    · exact ifb_t ⟨rfl, s1⟩
    · exact ifb_f (nilC_in ⟨_, _, _, hB.cell rfl, ifb_t ⟨rfl, s1⟩⟩)
  · rintro e w' ⟨v, rfl, rfl, h⟩; exact ⟨rfl, h⟩
theorem tell_no {w : World} {p : Option Addr} (h : NoCore w p) (r : Int) :
    Calls Tryz.prog 35 #[.pointer p, .int .i64 r] w fun e w' => e = .returned (.tuple #[.agg zRes.toArray, .int .i64 1]) ∧ Step NoB w w' := by
  refine (V.core_Core_Tell_calls (R := fun v w' => v = .tuple #[.agg zRes.toArray, .int .i64 1] ∧ Step NoB w w') ?_).mono ?_
  · intro b w1 h1
    have s1 := (Step.refl NoB w).new h1
    have g1 := h1.ge (Step.refl NoB w)
    rcases h.then s1 with rfl | ⟨b', e, rfl, hB⟩
    · exact ifb_t ⟨_, _, h1.blk, by simp, fun w2 u => ⟨_, _, _, _, _, _, _, _, _, _, u.blk.all, rfl, s1.upd u (.inl g1)⟩⟩
    · exact ifb_f (nilC_in ⟨_, _, _, hB.cell rfl, ifb_t ⟨_, _, h1.blk, by simp, fun w2 u => ⟨_, _, _, _, _, _, _, _, _, _, u.blk.all, rfl, s1.upd u (.inl g1)⟩⟩⟩)
  · rintro e w' ⟨v, rfl, rfl, h⟩; exact ⟨rfl, h⟩
theorem end_no {w : World} {p : Option Addr} (h : NoCore w p) (r : Int) :
    Calls Tryz.prog 36 #[.pointer p, .int .i64 r] w fun e w' => e = .returned (.int .i64 1) ∧ Step NoB w w' := by
  refine (V.core_Core_End_calls (R := fun v w' => v = .int .i64 1 ∧ Step NoB w w') ?_).mono ?_
  · rcases h with rfl | ⟨b, e, rfl, h⟩
    · exact ifb_t ⟨rfl, Step.refl _ _⟩
    · exact ifb_f (nilC_in ⟨_, _, _, h.cell rfl, ifb_t ⟨rfl, Step.refl _ _⟩⟩)
  · rintro e w' ⟨v, rfl, rfl, h⟩; exact ⟨rfl, h⟩
theorem do_no {w : World} {p : Option Addr} (h : NoCore w p) (n2 n3 n4 n5 n6 n7 : Int) :
    Calls Tryz.prog 22 #[.pointer p, .agg #[.int .u8 n2, .int .i64 n3, .int .i64 n4, .int .i64 n5, .int .i64 n6, .int .i64 n7]] w fun e w' => e = .returned (.int .i64 1) ∧ Step NoB w w' := by
  refine (V.core_Core_Do_calls (R := fun v w' => v = .int .i64 1 ∧ Step NoB w w') ?_).mono ?_
  · intro b w1 h1
    have s1 := (Step.refl NoB w).new h1
    rcases h.then s1 with rfl | ⟨b', e, rfl, hB⟩
    · exact ifb_t ⟨rfl, s1⟩
    · exact ifb_f (nilC_in ⟨_, _, _, hB.cell rfl, ifb_t ⟨rfl, s1⟩⟩)
  · rintro e w' ⟨v, rfl, rfl, h⟩; exact ⟨rfl, h⟩
theorem calls_no {w : World} {p : Option Addr} (h : NoCore w p) (r : Int) :
    Calls Tryz.prog 27 #[.pointer p, .int .i64 r] w fun e w' => e = .returned (.int .i64 0) ∧ Step NoB w w' := by
  refine (V.core_Core_Calls_calls (R := fun v w' => v = .int .i64 0 ∧ Step NoB w w') ?_).mono ?_
  · refine (of_no h r).mono ?_
    rintro e w1 ⟨rfl, rfl⟩
    exact ⟨_, rfl, ifb_f ⟨rfl, Step.refl _ _⟩⟩
  · rintro e w' ⟨v, rfl, rfl, h⟩; exact ⟨rfl, h⟩
theorem open_no {w : World} {p : Option Addr} (h : NoCore w p) (r : Int) :
    Calls Tryz.prog 37 #[.pointer p, .int .i64 r] w fun e w' => e = .returned (.bool false) ∧ Step NoB w w' := by
  refine (V.core_Core_Open_calls (R := fun v w' => v = .bool false ∧ Step NoB w w') ?_).mono ?_
  · refine (of_no h r).mono ?_
    rintro e w1 ⟨rfl, rfl⟩
    exact ⟨_, rfl, ifb_f ⟨rfl, Step.refl _ _⟩⟩
  · rintro e w' ⟨v, rfl, rfl, h⟩; exact ⟨rfl, h⟩
theorem over_no {w : World} {p : Option Addr} (h : NoCore w p) (r : Int) :
    Calls Tryz.prog 20 #[.pointer p, .int .i64 r] w fun e w' => e = .returned (.bool false) ∧ Step NoB w w' := by
  refine (V.core_Core_Over_calls (R := fun v w' => v = .bool false ∧ Step NoB w w') ?_).mono ?_
  · refine (of_no h r).mono ?_
    rintro e w1 ⟨rfl, rfl⟩
    exact ⟨_, rfl, ifb_f ⟨rfl, Step.refl _ _⟩⟩
  · rintro e w' ⟨v, rfl, rfl, h⟩; exact ⟨rfl, h⟩
theorem ended_no {w : World} {p : Option Addr} (h : NoCore w p) (r : Int) :
    Calls Tryz.prog 38 #[.pointer p, .int .i64 r] w fun e w' => e = .returned (.bool false) ∧ Step NoB w w' := by
  refine (V.core_Core_Ended_calls (R := fun v w' => v = .bool false ∧ Step NoB w w') ?_).mono ?_
  · refine (of_no h r).mono ?_
    rintro e w1 ⟨rfl, rfl⟩
    exact ⟨_, rfl, ifb_f ⟨rfl, Step.refl _ _⟩⟩
  · rintro e w' ⟨v, rfl, rfl, h⟩; exact ⟨rfl, h⟩
def zCall : List Value := [.int .u8 0, .int .i64 0, .int .i64 0, .int .i64 0, .int .i64 0, .int .i64 0, .int .i64 0, .int .u8 0, .slice none 0 0, .int .i64 0, .int .i64 0]
theorem call_no {w : World} {p : Option Addr} (h : NoCore w p) (r k : Int) :
    Calls Tryz.prog 26 #[.pointer p, .int .i64 r, .int .i64 k] w fun e w' => e = .returned (.tuple #[.agg zCall.toArray, .agg zRes.toArray, .bool false]) ∧ Step NoB w w' := by
  refine (V.core_Core_Call_calls (R := fun v w' => v = .tuple #[.agg zCall.toArray, .agg zRes.toArray, .bool false] ∧ Step NoB w w') ?_).mono ?_
  · intro b4 w5 h5 b6 w7 h7
    have s5 := (Step.refl NoB w).new h5
    have s7 := s5.new h7
    have g5 := h5.ge (Step.refl NoB w)
    have g7 := h7.ge s5
    refine (of_no (h.then s7) r).mono ?_
    rintro e w8 ⟨rfl, rfl⟩
    have hne : b4 ≠ b6 := by have := h5.blk.lt; have := h7.at_; omega
    refine ⟨_, rfl, ifb_t ⟨_, _, h5.blk.new h7, by simp, fun w12 u => ⟨_, _, h7.blk.keep u.step (Ne.symm hne), by simp, fun w15 v => ⟨_, _, _, _, _, _, _, _, _, _, _, _, _, (u.blk.keep v.step hne).all, _, _, _, _, _, _, _, _, _, _, v.blk.all, rfl, (s7.upd u (.inl g5)).upd v (.inl g7)⟩⟩⟩⟩
  · rintro e w' ⟨v, rfl, rfl, h⟩; exact ⟨rfl, h⟩
theorem point_no {w : World} {p : Option Addr} (h : NoCore w p) (r k : Int) :
    Calls Tryz.prog 39 #[.pointer p, .int .i64 r, .int .i64 k] w fun e w' => e = .returned (.bool false) ∧ Step NoB w w' := by
  refine (V.core_Core_Point_calls (R := fun v w' => v = .bool false ∧ Step NoB w w') ?_).mono ?_
  · refine (call_no h r k).mono ?_
    rintro e w1 ⟨rfl, s1⟩
    refine ⟨_, _, _, _, _, _, _, _, _, _, _, _, _, _, _, _, _, _, _, _, _, _, _, _, rfl, fun b25 w26 h26 b27 w28 h28 => ?_⟩
    have s28 := (s1.new h26).new h28
    have g26 := h26.ge s1
    have g28 := h28.ge (s1.new h26)
    have hne : b25 ≠ b27 := by have := h26.blk.lt; have := h28.at_; omega
    exact ⟨_, _, h26.blk.new h28, by simp, fun w12 u => ⟨_, _, h28.blk.keep u.step (Ne.symm hne), by simp, fun w15 v => ifb_f ⟨rfl, (s28.upd u (.inl g26)).upd v (.inl g28)⟩⟩⟩
  · rintro e w' ⟨v, rfl, rfl, h⟩; exact ⟨rfl, h⟩
theorem picks_no {w : World} {p : Option Addr} (h : NoCore w p) (r : Int) :
    Calls Tryz.prog 19 #[.pointer p, .int .i64 r] w fun e w' => e = .returned (.slice none 0 0) ∧ Step NoB w w' := by
  refine (V.core_Core_Picks_calls (R := fun v w' => v = .slice none 0 0 ∧ Step NoB w w') ?_).mono ?_
  · refine (of_no h r).mono ?_
    rintro e w1 ⟨rfl, rfl⟩
    exact ⟨_, rfl, ifb_t ⟨rfl, Step.refl _ _⟩⟩
  · rintro e w' ⟨v, rfl, rfl, h⟩; exact ⟨rfl, h⟩
theorem left_no {w : World} {p : Option Addr} (h : NoCore w p) (r : Int) :
    Calls Tryz.prog 40 #[.pointer p, .int .i64 r] w fun e w' => e = .returned (.slice none 0 0) ∧ Step NoB w w' := by
  refine (V.core_Core_Left_calls (R := fun v w' => v = .slice none 0 0 ∧ Step NoB w w') ?_).mono ?_
  · refine (of_no h r).mono ?_
    rintro e w1 ⟨rfl, rfl⟩
    exact ⟨_, rfl, ifb_t ⟨rfl, Step.refl _ _⟩⟩
  · rintro e w' ⟨v, rfl, rfl, h⟩; exact ⟨rfl, h⟩
theorem waiting_no {w : World} {p : Option Addr} (h : NoCore w p) (r : Int) :
    Calls Tryz.prog 41 #[.pointer p, .int .i64 r] w fun e w' => e = .returned (.slice none 0 0) ∧ Step NoB w w' := by
  refine (V.core_Core_Waiting_calls (R := fun v w' => v = .slice none 0 0 ∧ Step NoB w w') ?_).mono ?_
  · refine (of_no h r).mono ?_
    rintro e w1 ⟨rfl, rfl⟩
    exact ⟨_, rfl, ifb_t ⟨rfl, Step.refl _ _⟩⟩
  · rintro e w' ⟨v, rfl, rfl, h⟩; exact ⟨rfl, h⟩
theorem qleft_nil (w : World) : Calls Tryz.prog 73 #[.pointer none] w fun e w' => e = .returned (.slice none 0 0) ∧ Step NoB w w' := by
  refine (V.queue_Queue_Left_calls (R := fun v w' => v = .slice none 0 0 ∧ Step NoB w w') ?_).mono ?_
  · refine (V.queue_Queue_none_calls (p1 := none) (w := w) (R := fun v w' => v = .bool true ∧ w' = w) (ifb_t ⟨rfl, rfl⟩)).mono ?_
    rintro e w1 ⟨v, rfl, rfl, rfl⟩
    exact ⟨_, rfl, ifb_t ⟨rfl, Step.refl _ _⟩⟩
  · rintro e w' ⟨v, rfl, rfl, h⟩; exact ⟨rfl, h⟩
theorem codd_nil (w : World) : Calls Tryz.prog 107 #[.pointer none] w fun e w' => e = .returned (.slice none 0 0) ∧ Step NoB w w' := by
  refine (V.coll_Coll_Odd_calls (R := fun v w' => v = .slice none 0 0 ∧ Step NoB w w') ?_).mono ?_
  · refine (V.coll_Coll_none_calls (p1 := none) (w := w) (R := fun v w' => v = .bool true ∧ w' = w) (ifb_t ⟨rfl, rfl⟩)).mono ?_
    rintro e w1 ⟨v, rfl, rfl, rfl⟩
    exact ⟨_, rfl, ifb_t ⟨rfl, Step.refl _ _⟩⟩
  · rintro e w' ⟨v, rfl, rfl, h⟩; exact ⟨rfl, h⟩
theorem messages_no {w : World} {p : Option Addr} (h : NoCore w p) :
    Calls Tryz.prog 28 #[.pointer p] w fun e w' => e = .returned (.slice none 0 0) ∧ Step NoB w w' := by
  refine (V.core_Core_Messages_calls (R := fun v w' => v = .slice none 0 0 ∧ Step NoB w w') ?_).mono ?_
  · rcases h with rfl | ⟨b, e, rfl, h⟩
    · exact ifb_t ⟨rfl, Step.refl _ _⟩
    · refine ifb_f (nilC_in ⟨_, h.cell rfl, (qleft_nil w).mono ?_⟩)
      rintro e w1 ⟨rfl, s⟩
      exact ⟨_, _, _, rfl, rfl, s⟩
  · rintro e w' ⟨v, rfl, rfl, h⟩; exact ⟨rfl, h⟩
theorem codd_no {w : World} {p : Option Addr} (h : NoCore w p) :
    Calls Tryz.prog 42 #[.pointer p] w fun e w' => e = .returned (.slice none 0 0) ∧ Step NoB w w' := by
  refine (V.core_Core_Odd_calls (R := fun v w' => v = .slice none 0 0 ∧ Step NoB w w') ?_).mono ?_
  · rcases h with rfl | ⟨b, e, rfl, h⟩
    · exact ifb_t ⟨rfl, Step.refl _ _⟩
    · refine ifb_f (nilC_in ⟨_, h.cell rfl, (codd_nil w).mono ?_⟩)
      rintro e w1 ⟨rfl, s⟩
      exact ⟨_, _, _, rfl, rfl, s⟩
  · rintro e w' ⟨v, rfl, rfl, h⟩; exact ⟨rfl, h⟩
theorem ccopy_nil (w : World) : Calls Tryz.prog 33 #[.pointer none] w fun e w' => e = .returned (.pointer none) ∧ Step NoB w w' := by
  refine (V.core_Core_Copy_calls (R := fun v w' => v = .pointer none ∧ Step NoB w w') ?_).mono ?_
  · exact ifb_t ⟨rfl, Step.refl _ _⟩
  · rintro e w' ⟨v, rfl, rfl, h⟩; exact ⟨rfl, h⟩

theorem coreNil_walk (n1 n2 n3 n4 n5 n6 n7 n8 n9 n10 : Int) (A11 : Option Addr) (N11 C11 : Nat) (n12 n13 n14 n15 n16 n17 n18 n19 n20 : Int) (w : World) :
    Calls Tryz.prog 9 #[.agg #[.int .u8 n1, .int .i64 n2, .int .u8 n3, .int .i64 n4, .int .i64 n5, .int .i64 n6, .int .i64 n7, .int .i64 n8, .int .i64 n9, .int .u8 n10, .slice A11 N11 C11, .int .i64 n12, .int .i64 n13, .int .i64 n14, .int .u8 n15, .int .i64 n16, .int .i64 n17, .int .i64 n18, .int .i64 n19, .int .i64 n20]] w fun e w' => e = .returned (.bool true) ∧ Below w.heap.size w w' := by
  refine (V.dispatcherlaw17_CoreNil_calls (R := fun v w' => v = .bool true ∧ Step NoB w w') ?_).mono ?_
  · intro b w1 h1
    refine ⟨_, _, _, _, _, _, _, _, _, _, _, _, _, _, _, _, _, _, _, _, _, _, h1.blk.all, fun b2 w2 h2 => ?_⟩
    have s2 := ((Step.refl NoB w).new h1).new h2
    have B2 := h1.blk.new h2
    refine (great17_calls h2.blk rfl).mono ?_
    rintro e w3 ⟨t, rfl, s3⟩
    refine ⟨_, rfl, ifb_intro (fun _ => ⟨rfl, s2.then s3⟩) (fun _ => ?_)⟩
    intro b4 w4 h4 b5 w5 h5
    have s5 := ((s2.then s3).new h4).new h5
    have B5 := ((B2.then s3).new h4).new h5
    have C5 := h4.blk.new h5
    refine ⟨fun i w' => 0 ≤ i ∧ i ≤ 2 ∧ Step NoB w5 w', fun i _ => (2 - i).toNat, ⟨by omega, by omega, Step.refl _ _⟩, ?_⟩
    rintro i jk w6 ⟨i0, i2, s6⟩
    have B6 := B5.then s6
    refine ifb_intro (fun hi => ?_) (fun hi => ?_)
    · simp only [decide_eq_true_eq] at hi
      obtain ⟨p, hp, hN⟩ : ∃ p, w6.cell? ⟨b5, 0 + i.toNat * 1, none⟩ = some (.pointer p) ∧ NoCore w6 p := by
        rcases (by omega : i = 0 ∨ i = 1) with rfl | rfl
        · exact ⟨none, (h5.blk.then s6).cell rfl, .inl rfl⟩
        · exact ⟨_, (h5.blk.then s6).cell rfl, .inr ⟨b4, _, rfl, C5.then s6⟩⟩
      refine ⟨i0, hi, b5, 0, rfl, p, hp, _, B6.cell rfl, _, _, _, _, _, _, _, _, _, _, _, _, _, B6.seg 2 11 rfl, (make_no hN _ _ _ _ _ _ _ _ _ _ _ _ _ _).mono ?_⟩
      rintro e w7 ⟨rfl, s7⟩
      refine ⟨_, _, rfl, _, (B6.then s7).cell rfl, (tell_no (hN.then s7) _).mono ?_⟩
      rintro e w8 ⟨rfl, s8⟩
      refine ⟨_, _, _, _, _, _, _, _, _, _, _, rfl, ?_⟩
      refine new_set (by simp) rfl fun b9 w9 h9 => ?_
      have s9 := (s7.then s8).new h9
      have B9 := B6.then s9
      refine ifb_f (ifb_f ⟨_, B9.cell rfl, (end_no (hN.then s9) _).mono ?_⟩)
      rintro e w10 ⟨rfl, s10'⟩
      have s10 := s9.then s10'
      have B10 := B6.then s10
      refine ⟨_, rfl, ifb_f ⟨_, _, _, _, _, _, B10.seg 14 6 rfl, (do_no (hN.then s10) _ _ _ _ _ _).mono ?_⟩⟩
      rintro e w11 ⟨rfl, s11'⟩
      have s11 := s10.then s11'
      have B11 := B6.then s11
      refine ⟨_, rfl, ifb_f ⟨_, B11.cell rfl, (calls_no (hN.then s11) _).mono ?_⟩⟩
      rintro e w12 ⟨rfl, s12'⟩
      have s12 := s11.then s12'
      have B12 := B6.then s12
      refine ⟨_, rfl, ifb_f ⟨_, B12.cell rfl, (open_no (hN.then s12) _).mono ?_⟩⟩
      rintro e w13 ⟨rfl, s13'⟩
      have s13 := s12.then s13'
      have B13 := B6.then s13
      refine ⟨_, rfl, ifb_f ⟨_, B13.cell rfl, (over_no (hN.then s13) _).mono ?_⟩⟩
      rintro e w14 ⟨rfl, s14'⟩
      have s14 := s13.then s14'
      have B14 := B6.then s14
      refine ⟨_, rfl, ifb_f ⟨_, B14.cell rfl, (ended_no (hN.then s14) _).mono ?_⟩⟩
      rintro e w15 ⟨rfl, s15'⟩
      have s15 := s14.then s15'
      have B15 := B6.then s15
      refine ⟨_, rfl, ifb_f ⟨_, B15.cell rfl, (point_no (hN.then s15) _ _).mono ?_⟩⟩
      rintro e w16 ⟨rfl, s16'⟩
      have s16 := (s15.then s16').drew
      have B16 := B6.then s16
      refine ⟨_, rfl, ifb_f ⟨_, B16.cell rfl, _, B16.cell rfl, _, B16.cell rfl, (picks_no (hN.then s16) _).mono ?_⟩⟩
      rintro e w17 ⟨rfl, s17'⟩
      have s17 := s16.then s17'
      have B17 := B6.then s17
      refine ⟨_, _, _, rfl, B17.cell rfl, B17.cell rfl, (left_no (hN.then s17) _).mono ?_⟩
      rintro e w18 ⟨rfl, s18'⟩
      have s18 := s17.then s18'
      have B18 := B6.then s18
      refine ⟨_, _, _, rfl, B18.cell rfl, 0, by decide, (waiting_no (hN.then s18) _).mono ?_⟩
      rintro e w19 ⟨rfl, s19'⟩
      have s19 := s18.then s19'
      refine ⟨_, _, _, rfl, 0, by decide, (messages_no (hN.then s19)).mono ?_⟩
      rintro e w20 ⟨rfl, s20'⟩
      have s20 := s19.then s20'
      refine ⟨_, _, _, rfl, 0, by decide, (codd_no (hN.then s20)).mono ?_⟩
      rintro e w21 ⟨rfl, s21'⟩
      exact ⟨_, _, _, rfl, 0, by decide, ifb_f ⟨_, w64 (by omega), ⟨by omega, by omega, (s6.then s20).then s21'⟩, by dsimp only; omega⟩⟩
    · refine (ccopy_nil _).mono ?_
      rintro e w7 ⟨rfl, s7⟩
      exact ⟨_, rfl, rfl, (s5.then s6).then s7⟩
  · rintro e w' ⟨v, rfl, rfl, h⟩; exact ⟨rfl, h.below⟩

end Go.Proofs.YthgfnocngopecaaGreatDoor
