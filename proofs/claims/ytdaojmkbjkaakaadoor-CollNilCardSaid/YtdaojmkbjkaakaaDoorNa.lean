/- CollNil's walk: of nobody's calls together nothing was brought. Conditions: none. -/
import Derived.Test.YtdaojmkbjkaakaaDoorGl
import Derived.Test.YtdaojmkbjkaakaaDoorVn
set_option linter.unusedVariables false
set_option linter.unusedSimpArgs false
namespace Go.Proofs.YtdaojmkbjkaakaaDoor
open Go.Vc Go.RowKit

def nilT : List Value := [.int .i64 0, .slice none 0 0, .string emptyS, .slice none 0 0, .bool false]
theorem great11_calls (s : ByteArray) (A : Option Addr) (n c : Nat) (w : World) :
    Calls Tryd.prog 33 #[.agg #[.string s, .slice A n c]] w fun e w' => ∃ t, e = .returned (.bool t) ∧ Step NoB w w' := by
  refine (V.dispatcherlaw11_Great_calls (R := fun v w' => ∃ t, v = .bool t ∧ Step NoB w w') ?_).mono ?_
  · intro b w1 h1
    have s1 := (Step.refl NoB w).new h1
    exact ⟨_, _, _, h1.blk.cell rfl, ifb_intro (fun _ => ⟨_, rfl, s1⟩) (fun _ => ⟨_, h1.blk.cell rfl, _, rfl, s1⟩)⟩
  · rintro e w' ⟨v, rfl, t, rfl, h⟩
    exact ⟨t, rfl, h⟩
theorem great1_calls {w : World} {b : Nat} {s : ByteArray} {A : Option Addr} {n c : Nat} {l : List Value} {e : TypeId} (h : Blk w b (.string s :: .slice A n c :: l) e) :
    Calls Tryd.prog 10 #[.slice (some ⟨b, 0, none⟩) 1 1] w fun e w' => ∃ t, e = .returned (.bool t) ∧ Step NoB w w' := by
  refine (V.dispatcherlaw15_Great_calls (R := fun v w' => ∃ t, v = .bool t ∧ Step NoB w w') ?_).mono ?_
  · refine ifb_intro (fun _ => ⟨_, rfl, Step.refl _ _⟩) (fun _ => ⟨fun i w' => 0 ≤ i ∧ Step NoB w w', fun i _ => (1 - i).toNat, ⟨by omega, Step.refl _ _⟩, ?_⟩)
    rintro i jk w1 ⟨h0, s1⟩
    refine ifb_intro (fun hi => ?_) (fun _ => ⟨_, rfl, s1⟩)
    simp only [decide_eq_true_eq] at hi
    obtain rfl : i = 0 := by omega
    have B := h.then s1
    refine ⟨by omega, hi, b, 0, rfl, _, _, _, _, B.seg _ 2 rfl, (great11_calls _ _ _ _ _).mono ?_⟩
    · rintro e w2 ⟨t, rfl, s2⟩
      refine ⟨_, rfl, ifb_intro (fun _ => ⟨_, rfl, s1.then s2⟩) (fun _ => ⟨by omega, hi, b, 0, rfl, _, _, _, (B.then s2).cell rfl, ifb_intro (fun _ => ⟨_, rfl, s1.then s2⟩) (fun _ => ?_)⟩)⟩
      exact ⟨1, by decide, ⟨by omega, s1.then s2⟩, by dsimp only; omega⟩
  · rintro e w' ⟨v, rfl, t, rfl, h⟩
    exact ⟨t, rfl, h⟩

/-- nobody made this -/
def Nobody (w : World) (p : Option Addr) : Prop := p = none ∨ ∃ b e, p = some ⟨b, 0, none⟩ ∧ Blk w b [.bool false, .map none] e
theorem Nobody.then {w w' : World} {p : Option Addr} (h : Nobody w p) (s : Step NoB w w') : Nobody w' p := by
  rcases h with rfl | ⟨b, e, rfl, h⟩
  · exact .inl rfl
  · exact .inr ⟨b, e, rfl, h.then s⟩
theorem nobody_calls {w : World} {p : Option Addr} (h : Nobody w p) : Calls Tryd.prog 34 #[.pointer p] w fun e w' => e = .returned (.bool true) ∧ w' = w := by
  refine (V.coll_Coll_none_calls (R := fun v w' => v = .bool true ∧ w' = w) ?_).mono ?_
  · rcases h with rfl | ⟨b, e, rfl, h⟩
    · exact ⟨rfl, rfl⟩
    · exact ifb_f (nilC_in ⟨_, h.cell rfl, rfl, rfl⟩)
  · rintro e w' ⟨v, rfl, rfl, rfl⟩; exact ⟨rfl, rfl⟩
theorem of_nobody {w : World} {p : Option Addr} (h : Nobody w p) (s : ByteArray) (r : Int) : Calls Tryd.prog 47 #[.pointer p, .string s, .int .i64 r] w fun e w' => e = .returned (.tuple #[.pointer none, .int .i64 0, .bool false]) ∧ w' = w := by
  refine (V.coll_Coll_of_calls (R := fun v w' => v = .tuple #[.pointer none, .int .i64 0, .bool false] ∧ w' = w) ?_).mono ?_
  · refine (nobody_calls h).mono ?_
    rintro e w1 ⟨rfl, rfl⟩
    exact ⟨_, rfl, ifb_t ⟨rfl, rfl⟩⟩
  · rintro e w' ⟨v, rfl, rfl, rfl⟩; exact ⟨rfl, rfl⟩
theorem bring_nobody {w : World} {p : Option Addr} (h : Nobody w p) (s : ByteArray) (A : Option Addr) (n c : Nat) (r k ro op v co ke : Int) :
    Calls Tryd.prog 12 #[.pointer p, .agg #[.string s, .slice A n c], .int .i64 r, .agg #[.int .u8 k, .int .i64 ro, .int .u8 op, .int .i64 v, .int .i64 co, .int .i64 ke]] w fun e w' => e = .returned (.tuple #[.int .i64 0, .int .i64 1]) ∧ Step NoB w w' := by
  refine (V.coll_Coll_Bring_calls (R := fun v w' => v = .tuple #[.int .i64 0, .int .i64 1] ∧ Step NoB w w') ?_).mono ?_
  · intro b w1 h1 b2 w2 h2
    have s2 := ((Step.refl NoB w).new h1).new h2
    refine (nobody_calls (h.then s2)).mono ?_
    rintro e w3 ⟨rfl, rfl⟩
    exact ⟨_, rfl, ifb_t ⟨rfl, s2⟩⟩
  · rintro e w' ⟨v, rfl, rfl, h⟩; exact ⟨rfl, h⟩
theorem told_nobody {w : World} {p : Option Addr} (h : Nobody w p) (s : ByteArray) (r k : Int) :
    Calls Tryd.prog 27 #[.pointer p, .string s, .int .i64 r, .int .i64 k] w fun e w' => e = .returned (.tuple #[.agg nilT.toArray, .bool false]) ∧ Step NoB w w' := by
  refine (V.coll_Coll_Told_calls (R := fun v w' => v = .tuple #[.agg nilT.toArray, .bool false] ∧ Step NoB w w') ?_).mono ?_
  · intro b w1 h1
    have s1 := (Step.refl NoB w).new h1
    refine (of_nobody (h.then s1) _ _).mono ?_
    rintro e w2 ⟨rfl, rfl⟩
    refine ⟨_, _, _, rfl, ifb_t ⟨_, _, h1.blk, by simp, fun w3 h3 => ⟨_, _, _, _, _, _, _, _, _, h3.blk.all, rfl, s1.upd h3 (.inl (h1.ge (Step.refl NoB w)))⟩⟩⟩
  · rintro e w' ⟨v, rfl, rfl, h⟩; exact ⟨rfl, h⟩
theorem over_nobody {w : World} {p : Option Addr} (h : Nobody w p) (s : ByteArray) (r k : Int) :
    Calls Tryd.prog 31 #[.pointer p, .string s, .int .i64 r, .int .i64 k] w fun e w' => e = .returned (.bool false) ∧ Step NoB w w' := by
  refine (V.coll_Coll_Over_calls (R := fun v w' => v = .bool false ∧ Step NoB w w') ?_).mono ?_
  · refine (of_nobody h _ _).mono ?_
    rintro e w2 ⟨rfl, rfl⟩
    exact ⟨_, _, _, rfl, ifb_f ⟨rfl, Step.refl _ _⟩⟩
  · rintro e w' ⟨v, rfl, rfl, h⟩; exact ⟨rfl, h⟩
theorem many_nobody {w : World} {p : Option Addr} (h : Nobody w p) (s : ByteArray) (r : Int) :
    Calls Tryd.prog 17 #[.pointer p, .string s, .int .i64 r] w fun e w' => e = .returned (.int .i64 0) ∧ Step NoB w w' := by
  refine (V.coll_Coll_Many_calls (R := fun v w' => v = .int .i64 0 ∧ Step NoB w w') ?_).mono ?_
  · refine (of_nobody h _ _).mono ?_
    rintro e w2 ⟨rfl, rfl⟩
    exact ⟨_, _, _, rfl, ifb_t ⟨rfl, Step.refl _ _⟩⟩
  · rintro e w' ⟨v, rfl, rfl, h⟩; exact ⟨rfl, h⟩
theorem odd_nobody {w : World} {p : Option Addr} (h : Nobody w p) :
    Calls Tryd.prog 24 #[.pointer p] w fun e w' => e = .returned (.slice none 0 0) ∧ Step NoB w w' := by
  refine (V.coll_Coll_Odd_calls (R := fun v w' => v = .slice none 0 0 ∧ Step NoB w w') ?_).mono ?_
  · refine (nobody_calls h).mono ?_
    rintro e w2 ⟨rfl, rfl⟩
    exact ⟨_, rfl, ifb_t ⟨rfl, Step.refl _ _⟩⟩
  · rintro e w' ⟨v, rfl, rfl, h⟩; exact ⟨rfl, h⟩
theorem ints_nil (w : World) : Calls Tryd.prog 63 #[.slice none 0 0, .slice none 0 0] w fun e w' => e = .returned (.bool true) ∧ Step NoB w w' := by
  refine (V.dispatcherref11_Ints_calls (R := fun v w' => v = .bool true ∧ Step NoB w w') ?_).mono ?_
  · refine ifb_f ⟨fun i w' => 0 ≤ i ∧ Step NoB w w', fun _ _ => 0, ⟨by omega, Step.refl _ _⟩, ?_⟩
    rintro i jk w1 ⟨h0, s1⟩
    refine ifb_intro (fun hi => ?_) (fun _ => ⟨rfl, s1⟩)
    simp only [decide_eq_true_eq] at hi
    omega
  · rintro e w' ⟨v, rfl, rfl, h⟩; exact ⟨rfl, h⟩
theorem same11_nil (w : World) : Calls Tryd.prog 42 #[.agg #[.string emptyS, .slice none 0 0], .agg #[.string emptyS, .slice none 0 0]] w fun e w' => e = .returned (.bool true) ∧ Step NoB w w' := by
  refine (V.dispatcherref11_Same_calls (R := fun v w' => v = .bool true ∧ Step NoB w w') ?_).mono ?_
  · intro b w1 h1 b2 w2 h2
    have s2 := ((Step.refl NoB w).new h1).new h2
    have B := h1.blk.new h2
    refine ⟨_, B.cell rfl, _, h2.blk.cell rfl, ifb_of (by simp) ⟨_, _, _, B.cell rfl, _, _, _, h2.blk.cell rfl, (ints_nil _).mono ?_⟩⟩
    rintro e w3 ⟨rfl, s3⟩
    exact ⟨_, rfl, rfl, s2.then s3⟩
  · rintro e w' ⟨v, rfl, rfl, h⟩; exact ⟨rfl, h⟩
theorem same_nil (w : World) : Calls Tryd.prog 28 #[.agg nilT.toArray, .agg nilT.toArray] w fun e w' => e = .returned (.bool true) ∧ Step NoB w w' := by
  refine (V.dispatcherref15_Same_calls (R := fun v w' => v = .bool true ∧ Step NoB w w') ?_).mono ?_
  · intro b w1 h1 b2 w2 h2
    have s2 := ((Step.refl NoB w).new h1).new h2
    have B := h1.blk.new h2
    refine ⟨_, B.cell rfl, _, h2.blk.cell rfl, ifb_f ⟨_, B.cell rfl, _, h2.blk.cell rfl, ifb_f ⟨_, _, _, _, B.seg 2 2 rfl, _, _, _, _, h2.blk.seg 2 2 rfl, (same11_nil _).mono ?_⟩⟩⟩
    · rintro e w3 ⟨rfl, s3⟩
      refine ⟨_, rfl, ifb_f ⟨_, _, _, (B.then s3).cell rfl, _, _, _, (h2.blk.then s3).cell rfl, ifb_f ⟨fun i w' => 0 ≤ i ∧ Step NoB w3 w', fun _ _ => 0, ⟨by omega, Step.refl _ _⟩, ?_⟩⟩⟩
      rintro i jk w4 ⟨h0, s4⟩
      refine ⟨_, _, _, ((B.then s3).then s4).cell rfl, ifb_intro (fun hi => ?_) (fun _ => ⟨rfl, (s2.then s3).then s4⟩)⟩
      simp only [decide_eq_true_eq] at hi
      omega
  · rintro e w' ⟨v, rfl, rfl, h⟩; exact ⟨rfl, h⟩
theorem copy_nil (w : World) : Calls Tryd.prog 15 #[.pointer none] w fun e w' => e = .returned (.pointer none) ∧ Step NoB w w' := by
  refine (V.coll_Coll_Copy_calls (R := fun v w' => v = .pointer none ∧ Step NoB w w') ?_).mono ?_
  · exact ⟨rfl, Step.refl _ _⟩
  · rintro e w' ⟨v, rfl, rfl, h⟩; exact ⟨rfl, h⟩

theorem collNil_walk (s1 : ByteArray) (A2 : Option Addr) (N2 C2 : Nat) (n3 n4 n5 n6 n7 n8 n9 : Int) (t10 : Bool) (w : World) :
    Calls Tryd.prog 9 #[.agg #[.string s1, .slice A2 N2 C2, .int .i64 n3, .int .u8 n4, .int .i64 n5, .int .u8 n6, .int .i64 n7, .int .i64 n8, .int .i64 n9, .bool t10]] w fun e w' => e = .returned (.bool true) ∧ Below w.heap.size w w' := by
  refine (V.dispatcherlaw15_CollNil_calls (R := fun v w' => v = .bool true ∧ Step NoB w w') ?_).mono ?_
  · intro b w1 h1
    refine ⟨_, _, _, _, _, _, _, _, _, _, _, _, h1.blk.all, fun b2 w2 h2 => ?_⟩
    have s2 := ((Step.refl NoB w).new h1).new h2
    have B2 := h1.blk.new h2
    refine (great1_calls h2.blk).mono ?_
    rintro e w3 ⟨t, rfl, s3⟩
    refine ⟨_, rfl, ifb_intro (fun _ => ⟨rfl, s2.then s3⟩) (fun _ => ?_)⟩
    intro b4 w4 h4 b5 w5 h5
    have s5 := ((s2.then s3).new h4).new h5
    have B5 := ((B2.then s3).new h4).new h5
    have C5 := h4.blk.new h5
    have gb := h1.ge (Step.refl NoB w)
    refine ⟨fun i w' => 0 ≤ i ∧ i ≤ 2 ∧ Step NoB w5 w', fun i _ => (2 - i).toNat, ⟨by omega, by omega, Step.refl _ _⟩, ?_⟩
    rintro i jk w6 ⟨i0, i2, s6⟩
    have B6 := B5.then s6
    refine ifb_intro (fun hi => ?_) (fun hi => ?_)
    · simp only [decide_eq_true_eq] at hi
      obtain ⟨p, hp, hN⟩ : ∃ p, w6.cell? ⟨b5, 0 + i.toNat * 1, none⟩ = some (.pointer p) ∧ Nobody w6 p := by
        rcases (by omega : i = 0 ∨ i = 1) with rfl | rfl
        · exact ⟨none, (h5.blk.then s6).cell rfl, .inl rfl⟩
        · exact ⟨_, (h5.blk.then s6).cell rfl, .inr ⟨b4, _, rfl, C5.then s6⟩⟩
      refine ⟨i0, hi, b5, 0, rfl, p, hp, _, _, _, _, B6.seg 0 2 rfl, _, B6.cell rfl, _, _, _, _, _, _, B6.seg 3 6 rfl, (bring_nobody hN _ _ _ _ _ _ _ _ _ _ _).mono ?_⟩
      · rintro e w7 ⟨rfl, s7⟩
        have B7 := B6.then s7
        refine ⟨_, _, rfl, _, B7.cell rfl, _, B7.cell rfl, (told_nobody (hN.then s7) _ _ _).mono ?_⟩
        rintro e w8 ⟨rfl, s8⟩
        refine ⟨_, _, _, _, _, _, _, _, _, _, rfl, ?_⟩
        refine new_set (by simp) rfl fun b9 w9 h9 => ?_
        have s9 := (s7.then s8).then h9.step
        refine ifb_f (ifb_f ⟨_, _, _, _, _, _, _, _, _, h9.blk.all, (same_nil _).mono ?_⟩)
        rintro e w10 ⟨rfl, s10⟩
        have s10' := s9.then s10
        have B10 := B6.then s10'
        refine ⟨_, rfl, ifb_f ⟨_, B10.cell rfl, _, B10.cell rfl, (over_nobody (hN.then s10') _ _ _).mono ?_⟩⟩
        rintro e w11 ⟨rfl, s11⟩
        have s11' := s10'.then s11
        have B11 := B6.then s11'
        refine ⟨_, rfl, ifb_f ⟨_, B11.cell rfl, _, B11.cell rfl, (many_nobody (hN.then s11') _ _).mono ?_⟩⟩
        rintro e w12 ⟨rfl, s12⟩
        have s12' := s11'.then s12
        refine ⟨_, rfl, ifb_f ((odd_nobody (hN.then s12')).mono ?_)⟩
        rintro e w13 ⟨rfl, s13⟩
        exact ⟨_, _, _, rfl, ifb_f ⟨_, w64 (by omega), ⟨by omega, by omega, (s6.then s12').then s13⟩, by dsimp only; omega⟩⟩
    · refine (copy_nil _).mono ?_
      rintro e w7 ⟨rfl, s7⟩
      exact ⟨_, rfl, rfl, (s5.then s6).then s7⟩
  · rintro e w' ⟨v, rfl, rfl, h⟩; exact ⟨rfl, h.below⟩

end Go.Proofs.YtdaojmkbjkaakaaDoor
