/- Acts of chapter 14; the play of the program and the reference; what an act does. Conditions: none. -/
import Derived.Test.YtdaojmkbjkaakaaRq
set_option linter.unusedVariables false
set_option linter.unusedSimpArgs false
namespace Go.Proofs.Ytdaojmkbjkaakaa
open Go.Vc Go.Q13 Go.RowKit

theorem cells_sub {w : World} {b o : Nat} {xs : List Value} (h : Cells w ⟨b, o, none⟩ xs) (k n : Nat) {ys : List Value} (hy : (xs.drop k).take n = ys) : Cells w ⟨b, o + k, none⟩ ys := fun j x hj => by
  rw [← hy, List.getElem?_take] at hj
  split at hj
  · rw [List.getElem?_drop] at hj
    have := h (k + j) x hj
    rw [add_none] at this ⊢
    rw [Nat.add_assoc]; exact this
  · cases hj
theorem cells_at {w : World} {b o : Nat} {xs : List Value} (h : Cells w ⟨b, o, none⟩ xs) {k : Nat} {x : Value} (hx : xs[k]? = some x) : w.cell? ⟨b, o + k, none⟩ = some x := by
  have := h k x hx
  rw [add_none] at this; exact this
theorem cells_then {w w' : World} {a : Addr} {xs : List Value} (h : Cells w a xs) (s : Step NoB w w') : Cells w' a xs := fun j x hj => cellStep s (h j x hj)

/-- An act: its kind, its message, its receive. -/
structure PAct where
  kind : Int
  m : Msg
  r : Recv
def pv (a : PAct) : List Value := .int .u8 a.kind :: (mv a.m ++ rv a.r)
/-- acts that came in -/
structure InP (w : World) (A : Option Addr) (n : Nat) (acts : List PAct) : Prop where
  len : acts.length = n
  at_ : ∀ i a, acts[i]? = some a → ∃ b o, A = some ⟨b, o, none⟩ ∧ Cells w ⟨b, o + i * 18, none⟩ (pv a)
  fit : ∀ a ∈ acts, MFit a.m ∧ RFit a.r ∧ 0 ≤ a.kind ∧ a.kind ≤ 255
theorem InP.then {w w' : World} {A : Option Addr} {n : Nat} {acts : List PAct} (h : InP w A n acts) (s : Step NoB w w') : InP w' A n acts :=
  ⟨h.len, fun i a hi => by
    obtain ⟨b, o, h1, h2⟩ := h.at_ i a hi
    exact ⟨b, o, h1, cells_then h2 s⟩, h.fit⟩
theorem InP.get {w : World} {A : Option Addr} {n : Nat} {acts : List PAct} (h : InP w A n acts) {i : Nat} (hi : i < n) : ∃ a b o, acts[i]? = some a ∧ A = some ⟨b, o, none⟩ ∧ Cells w ⟨b, o + i * 18, none⟩ (pv a) ∧ MFit a.m ∧ RFit a.r ∧ 0 ≤ a.kind ∧ a.kind ≤ 255 := by
  have hl := h.len
  obtain ⟨a, ha⟩ : ∃ a, acts[i]? = some a := ⟨_, List.getElem?_eq_getElem (by omega)⟩
  obtain ⟨b, o, h1, h2⟩ := h.at_ i a ha
  exact ⟨a, b, o, ha, h1, h2, h.fit a (List.mem_of_getElem? ha)⟩
theorem greatP_calls {w : World} {A : Option Addr} {n c : Nat} {acts : List PAct} (h : InP w A n acts) :
    Calls Try.prog 19 #[.slice A n c] w fun e w' => ∃ t, e = .returned (.bool t) ∧ w' = w ∧ (t = false → n ≤ 120) := by
  have hl := h.len
  refine (V.dispatcherlaw14_Great_calls (R := fun v w' => ∃ t, v = .bool t ∧ w' = w ∧ (t = false → n ≤ 120)) ?_).mono ?_
  · refine ifb_intro (fun g => ⟨_, rfl, rfl, fun h => by cases h⟩) (fun g => ?_)
    simp only [gt_iff_lt, decide_eq_false_iff_not] at g
    refine ⟨fun i w' => 0 ≤ i ∧ i ≤ n ∧ w' = w, fun i _ => (n - i).toNat, ⟨by omega, by omega, rfl⟩, ?_⟩
    rintro i jk w1 ⟨i0, i1, rfl⟩
    refine ifb_intro (fun hi => ?_) (fun hi => ⟨_, rfl, rfl, fun _ => by omega⟩)
    simp only [decide_eq_true_eq] at hi
    obtain ⟨a, b, o, ha, rfl, hc, _⟩ := h.get (i := i.toNat) (by omega)
    refine ⟨i0, hi, b, o, rfl, _, cells_at hc (k := 1) rfl, ifb_intro (fun _ => ⟨_, rfl, rfl, fun h => by cases h⟩) (fun _ => ?_)⟩
    refine ⟨i0, hi, b, o, rfl, _, cells_at hc (k := 9) rfl, ifb_intro (fun _ => ⟨_, rfl, rfl, fun h => by cases h⟩) (fun _ => ?_)⟩
    exact ⟨_, w64 (by omega), ⟨by omega, by omega, rfl⟩, by dsimp only; omega⟩
  · rintro e w' ⟨v, rfl, t, rfl, h⟩
    exact ⟨t, rfl, h⟩

/-! ### five that lie apart -/
structure Sep5 (A B C D E : Nat → Prop) : Prop where
  ab : ∀ k, A k → ¬ B k
  ac : ∀ k, A k → ¬ C k
  ad : ∀ k, A k → ¬ D k
  ae : ∀ k, A k → ¬ E k
  bc : ∀ k, B k → ¬ C k
  bd : ∀ k, B k → ¬ D k
  be : ∀ k, B k → ¬ E k
  cd : ∀ k, C k → ¬ D k
  ce : ∀ k, C k → ¬ E k
  de : ∀ k, D k → ¬ E k
section
variable {A B C D E X : Nat → Prop} {z : Nat}
theorem Sep5.putB (h : Sep5 A B C D E) (ha : ∀ k, A k → k < z) (hc : ∀ k, C k → k < z) (hd : ∀ k, D k → k < z) (he : ∀ k, E k → k < z) (hX : ∀ k, X k → B k ∨ z ≤ k) : Sep5 A X C D E :=
  ⟨fun k g x => (hX k x).elim (h.ab k g) (fun y => by have := ha k g; omega), h.ac, h.ad, h.ae, fun k x g => (hX k x).elim (fun y => h.bc k y g) (fun y => by have := hc k g; omega), fun k x g => (hX k x).elim (fun y => h.bd k y g) (fun y => by have := hd k g; omega), fun k x g => (hX k x).elim (fun y => h.be k y g) (fun y => by have := he k g; omega), h.cd, h.ce, h.de⟩
theorem Sep5.putC (h : Sep5 A B C D E) (ha : ∀ k, A k → k < z) (hb : ∀ k, B k → k < z) (hd : ∀ k, D k → k < z) (he : ∀ k, E k → k < z) (hX : ∀ k, X k → C k ∨ z ≤ k) : Sep5 A B X D E :=
  ⟨h.ab, fun k g x => (hX k x).elim (h.ac k g) (fun y => by have := ha k g; omega), h.ad, h.ae, fun k g x => (hX k x).elim (h.bc k g) (fun y => by have := hb k g; omega), h.bd, h.be, fun k x g => (hX k x).elim (fun y => h.cd k y g) (fun y => by have := hd k g; omega), fun k x g => (hX k x).elim (fun y => h.ce k y g) (fun y => by have := he k g; omega), h.de⟩
theorem Sep5.putD (h : Sep5 A B C D E) (ha : ∀ k, A k → k < z) (hb : ∀ k, B k → k < z) (hc : ∀ k, C k → k < z) (he : ∀ k, E k → k < z) (hX : ∀ k, X k → D k ∨ z ≤ k) : Sep5 A B C X E :=
  ⟨h.ab, h.ac, fun k g x => (hX k x).elim (h.ad k g) (fun y => by have := ha k g; omega), h.ae, h.bc, fun k g x => (hX k x).elim (h.bd k g) (fun y => by have := hb k g; omega), h.be, fun k g x => (hX k x).elim (h.cd k g) (fun y => by have := hc k g; omega), h.ce, fun k x g => (hX k x).elim (fun y => h.de k y g) (fun y => by have := he k g; omega)⟩
theorem Sep5.putE (h : Sep5 A B C D E) (ha : ∀ k, A k → k < z) (hb : ∀ k, B k → k < z) (hc : ∀ k, C k → k < z) (hd : ∀ k, D k → k < z) (hX : ∀ k, X k → E k ∨ z ≤ k) : Sep5 A B C D X :=
  ⟨h.ab, h.ac, h.ad, fun k g x => (hX k x).elim (h.ae k g) (fun y => by have := ha k g; omega), h.bc, h.bd, fun k g x => (hX k x).elim (h.be k g) (fun y => by have := hb k g; omega), h.cd, fun k g x => (hX k x).elim (h.ce k g) (fun y => by have := hc k g; omega), fun k g x => (hX k x).elim (h.de k g) (fun y => by have := hd k g; omega)⟩
end
abbrev tPlay : TypeId := 55
/-- The program's messages and receives and the reference's, at a base world. -/
structure PlayR (w0 w : World) (bp : Nat) (q p x d : Option Addr) (Q : List Msg) (P : List Recv) (Fq Fp Fx Fd : Nat → Prop) : Prop where
  blk : Blk w bp [.pointer q, .pointer p, .pointer x, .pointer d] tPlay
  hq : QRep w q Q Fq
  hp : PRep w p P Fp
  hx : TRep w x Q Fx
  hd : SRep w d P Fd
  sep : Sep5 (fun k => k = bp) Fq Fp Fx Fd
  new : w0.heap.size ≤ bp ∧ (∀ k, Fq k → w0.heap.size ≤ k) ∧ (∀ k, Fp k → w0.heap.size ≤ k) ∧ (∀ k, Fx k → w0.heap.size ≤ k) ∧ ∀ k, Fd k → w0.heap.size ≤ k
  step : Step NoB w0 w
  good : Good P
  frs : ∀ m ∈ Q, 0 ≤ m.fr ∧ m.fr < 64
def Play (w0 w : World) (bp : Nat) (Q : List Msg) (P : List Recv) : Prop := ∃ q p x d Fq Fp Fx Fd, PlayR w0 w bp q p x d Q P Fq Fp Fx Fd
theorem PlayR.then {w0 w w' : World} {bp : Nat} {q p x d : Option Addr} {Q : List Msg} {P : List Recv} {Fq Fp Fx Fd : Nat → Prop} (h : PlayR w0 w bp q p x d Q P Fq Fp Fx Fd) (s : Step NoB w w') : PlayR w0 w' bp q p x d Q P Fq Fp Fx Fd :=
  ⟨h.blk.then s, h.hq.then s, h.hp.then s, h.hx.then s, h.hd.then s, h.sep, h.new, h.step.then s, h.good, h.frs⟩
theorem begin_calls (w : World) : Calls Try.prog 20 #[] w fun e w' => ∃ b, e = .returned (.pointer (some ⟨b, 0, none⟩)) ∧ Play w w' b [] [] := by
  refine (V.dispatcherlaw14_begin_calls (R := fun v w' => ∃ b, v = .pointer (some ⟨b, 0, none⟩) ∧ Play w w' b [] []) ?_).mono ?_
  · refine (new_calls w).mono ?_
    rintro e w1 ⟨q, Fq, rfl, hq, nq, s1⟩
    refine ⟨_, rfl, (newP_calls w1).mono ?_⟩
    rintro e w2 ⟨p, Fp, rfl, hp, np, s2⟩
    refine ⟨_, rfl, fun b5 w5 h5 b7 w7 h7 b9 w9 h9 => ⟨b9, rfl, q, p, some ⟨b5, 0, none⟩, some ⟨b7, 0, none⟩, Fq, Fp, fun k => k = b5, fun k => k = b7, ?_⟩⟩
    have s25 := h5.step
    have z1 := s1.size
    have z2 := s2.size
    have a5 := h5.at_
    have a7 := h7.at_
    have a9 := h9.at_
    have z5 := h5.size
    have z7 := h7.size
    have lq : ∀ k, Fq k → k < w1.heap.size := fun k hk => hq.lt hk
    have lp : ∀ k, Fp k → k < w2.heap.size := fun k hk => hp.lt hk
    refine ⟨h9.blk, ((((hq.then s2).then h5.step).then h7.step).then h9.step), ((hp.then h5.step).then h7.step).then h9.step, ⟨b5, none, 0, 0, rfl, (h5.blk.new h7).new h9, Row.nil _ _ _, at_none, fun k => ⟨.inl, fun h => h.elim id fun h => absurd h at_none⟩⟩, ⟨b7, none, 0, 0, rfl, h7.blk.new h9, Row.nil _ _ _, at_none, fun k => ⟨.inl, fun h => h.elim id fun h => absurd h at_none⟩⟩, ?_, ?_, (((s1.then s2).new h5).new h7).new h9, ⟨List.Pairwise.nil, by simp, by simp⟩, by simp⟩
    · refine ⟨?_, ?_, ?_, ?_, ?_, ?_, ?_, ?_, ?_, ?_⟩
      · rintro k rfl hk; have := lq _ hk; omega
      · rintro k rfl hk; have := lp _ hk; omega
      · rintro k rfl hk; omega
      · rintro k rfl hk; omega
      · intro k hk hk'; have := lq _ hk; have := np _ hk'; omega
      · rintro k hk rfl; have := lq _ hk; omega
      · rintro k hk rfl; have := lq _ hk; omega
      · rintro k hk rfl; have := lp _ hk; omega
      · rintro k hk rfl; have := lp _ hk; omega
      · rintro k rfl hk; omega
    · refine ⟨by omega, nq, fun k hk => ?_, fun k hk => ?_, fun k hk => ?_⟩
      · have := np k hk; omega
      · subst hk; omega
      · subst hk; omega
  · rintro e w' ⟨v, rfl, b, rfl, h⟩
    exact ⟨b, rfl, h⟩

theorem send_frs {Q : List Msg} (h : ∀ m ∈ Q, 0 ≤ m.fr ∧ m.fr < 64) (m : Msg) : ∀ x ∈ send Q m, 0 ≤ x.fr ∧ x.fr < 64 := by
  unfold send
  split
  · exact h
  · rename_i hc
    intro x hx
    rcases List.mem_append.1 hx with hx | hx
    · exact h x hx
    · rw [List.mem_singleton.1 hx]
      simp only [Bool.or_eq_true, Bool.not_eq_true', not_or, Bool.not_eq_false, Msg.may, Bool.and_eq_true, decide_eq_true_eq] at hc
      omega
theorem take_frs {Q : List Msg} (h : ∀ m ∈ Q, 0 ≤ m.fr ∧ m.fr < 64) (fr call : Int) : ∀ x ∈ take Q fr call, 0 ≤ x.fr ∧ x.fr < 64 := by
  unfold take
  split
  · intro x hx
    obtain ⟨y, hy, rfl⟩ := List.mem_map.1 hx
    rw [tick_fr]; exact h y hy
  · exact h
theorem matchQ_frs {Q : List Msg} (h : ∀ m ∈ Q, 0 ≤ m.fr ∧ m.fr < 64) (P : List Recv) (rank call fr seq : Int) : ∀ x ∈ matchQ Q P rank call fr seq, 0 ≤ x.fr ∧ x.fr < 64 := by
  unfold matchQ; split
  · exact take_frs h fr seq
  · exact h

/-- all that a play may touch -/
def PlayF (bp : Nat) (Fq Fp Fx Fd : Nat → Prop) (k : Nat) : Prop := k = bp ∨ Fq k ∨ Fp k ∨ Fx k ∨ Fd k
theorem does_calls {w0 w : World} {bp : Nat} {q p x d : Option Addr} {Q : List Msg} {P : List Recv} {Fq Fp Fx Fd : Nat → Prop} (h : PlayR w0 w bp q p x d Q P Fq Fp Fx Fd) {z : Nat} (hQ : Q.length ≤ z) (hP : P.length ≤ z) (hz : z ≤ 1000) (a : PAct) (hm : MFit a.m) (hr : RFit a.r) (k0 : 0 ≤ a.kind) :
    Calls Try.prog 21 #[.pointer (some ⟨bp, 0, none⟩), .agg (pv a).toArray] w fun e w' => e = .returned (.bool true) ∧ Step (PlayF bp Fq Fp Fx Fd) w w' ∧ ∃ Q' P', Q'.length ≤ z + 1 ∧ P'.length ≤ z + 1 ∧ Play w0 w' bp Q' P' := by
  refine (V.dispatcherlaw14_play_does_calls (n2 := a.kind) (s3 := a.m.key) (n4 := a.m.fr) (n5 := a.m.to) (n6 := a.m.call) (n7 := a.m.tag) (n8 := a.m.val) (n9 := a.m.size) (t10 := a.m.taken)
    (s11 := a.r.key) (n12 := a.r.rank) (n13 := a.r.call) (n14 := a.r.peer) (n15 := a.r.tag) (n16 := a.r.req) (t17 := a.r.done) (n18 := a.r.fr) (n19 := a.r.seq)
    (R := fun v w' => v = .bool true ∧ Step (PlayF bp Fq Fp Fx Fd) w w' ∧ ∃ Q' P', Q'.length ≤ z + 1 ∧ P'.length ≤ z + 1 ∧ Play w0 w' bp Q' P') ?_).mono ?_
  · intro b1 w1 h1
    have h' := (h.then h1.step).then (Step.refl NoB w1).drew
    have ge1 : w.heap.size ≤ b1 := h1.ge (Step.refl NoB w)
    have lt1 : b1 < w1.heap.size := h1.lt
    have C : Blk w1.drew b1 (pv a) _ := h1.blk.then (Step.refl NoB w1).drew
    have hu := QRep.uniq h.hq
    have lA : ∀ k, (fun k => k = bp) k → k < w.heap.size := fun k hk => by subst hk; exact h.blk.lt
    have lq : ∀ k, Fq k → k < w.heap.size := fun k hk => h.hq.lt hk
    have lp : ∀ k, Fp k → k < w.heap.size := fun k hk => h.hp.lt hk
    have lx : ∀ k, Fx k → k < w.heap.size := fun k hk => h.hx.lt hk
    have ld : ∀ k, Fd k → k < w.heap.size := fun k hk => h.hd.lt hk
    have z1 : w.heap.size ≤ w1.drew.heap.size := h1.step.size
    have up : ∀ {F : Nat → Prop}, (∀ k, F k → k < w.heap.size) → ∀ k, F k → k < w1.drew.heap.size := fun h k hk => Nat.lt_of_lt_of_le (h k hk) z1
    obtain ⟨nb, nq, np, nx, nd⟩ := h.new
    have z0 : w0.heap.size ≤ w.heap.size := h.step.size
    refine ⟨_, h1.blk.cell rfl, fun t w' => w' = w1, ?_, ?_⟩
    · exact ifb_intro (fun _ => rfl) (fun _ => rfl)
    have T1 : Step (PlayF bp Fq Fp Fx Fd) w w1.drew := h1.step.drew.none
    rintro t jk w2 rfl
    refine ifb_intro (fun _ => ?_) (fun _ => ifb_intro (fun _ => ?_) (fun _ => ifb_intro (fun _ => ?_) (fun _ => ?_)))
    · -- a message is sent
      refine nilC_in ⟨_, h'.blk.cell rfl, _, _, _, _, _, _, _, _, C.seg 1 8 rfl, nilC_in ⟨_, h'.blk.cell (j := 2) rfl, _, _, _, _, _, _, _, _, C.seg 1 8 rfl, (h'.hq.send_calls a.m hm (by omega)).mono ?_⟩⟩
      rintro e w3 ⟨rfl, Fq', hq3, s3, nq3⟩
      have C3 := C.keep s3 (fun hk => by have := lq _ hk; omega)
      have B3 := h'.blk.keep s3 (h.sep.ab _ rfl)
      have p3 := h'.hp.keep s3 fun k hk hk' => h.sep.bc k hk' hk
      have x3 := h'.hx.keep s3 fun k hk hk' => h.sep.bd k hk' hk
      have d3 := h'.hd.keep s3 fun k hk hk' => h.sep.be k hk' hk
      have S3 := h'.step.fresh s3 fun i hi => .inl (nq i hi)
      refine ⟨_, rfl, C3.seg 1 8 rfl, B3.cell (j := 2) rfl, (x3.send_calls a.m (by omega)).mono ?_⟩
      rintro e w4 ⟨rfl, Fx', hx4, s4, nx4⟩
      have sep3 : Sep5 (fun k => k = bp) Fq' Fp Fx Fd := h.sep.putB (up lA) (up lp) (up lx) (up ld) nq3
      have up3 : ∀ {F : Nat → Prop}, (∀ k, F k → k < w.heap.size) → ∀ k, F k → k < w3.heap.size := fun h k hk => Nat.lt_of_lt_of_le (h k hk) (Nat.le_trans z1 s3.size)
      refine ⟨_, rfl, by simp, (T1.fresh s3 fun i hi => .inr (.inr (.inl hi))).fresh s4 fun i hi => .inr (.inr (.inr (.inr (.inl hi)))), send Q a.m, P, by have := send_length Q a.m; omega, by omega, q, p, x, d, Fq', Fp, Fx', Fd, ?_⟩
      exact ⟨B3.keep s4 (h.sep.ad _ rfl), hq3.keep s4 fun k hk => sep3.bd k hk, p3.keep s4 fun k hk => h.sep.cd k hk, hx4, d3.keep s4 fun k hk hk' => h.sep.de k hk' hk, sep3.putD (up3 lA) (fun k hk => hq3.lt hk) (up3 lp) (up3 ld) nx4,
        ⟨nb, fun k hk => (nq3 k hk).elim (nq k) fun h => Nat.le_trans z0 (Nat.le_trans z1 h), np, fun k hk => (nx4 k hk).elim (nx k) fun h => Nat.le_trans z0 (Nat.le_trans z1 (Nat.le_trans s3.size h)), nd⟩,
        S3.fresh s4 fun i hi => .inl (nx i hi), h.good, send_frs h.frs a.m⟩
    · -- a receive is posted
      refine nilC_in ⟨_, h'.blk.cell (j := 1) rfl, _, _, _, _, _, _, _, _, _, C.seg 9 9 rfl, nilC_in ⟨_, h'.blk.cell (j := 3) rfl, _, _, _, _, _, _, _, _, _, C.seg 9 9 rfl, (h'.hp.post_calls h.good (by omega) a.r hr).mono ?_⟩⟩
      rintro e w3 ⟨rfl, Fp', hp3, s3, np3⟩
      have C3 := C.keep s3 (fun hk => by have := lp _ hk; omega)
      have B3 := h'.blk.keep s3 (h.sep.ac _ rfl)
      have q3 := h'.hq.keep s3 fun k hk => h.sep.bc k hk
      have x3 := h'.hx.keep s3 fun k hk hk' => h.sep.cd k hk' hk
      have d3 := h'.hd.keep s3 fun k hk hk' => h.sep.ce k hk' hk
      have S3 := h'.step.fresh s3 fun i hi => .inl (np i hi)
      refine ⟨_, rfl, C3.seg 9 9 rfl, B3.cell (j := 3) rfl, (d3.post_calls (by omega) a.r).mono ?_⟩
      rintro e w4 ⟨rfl, Fd', hd4, s4, nd4⟩
      have sep3 : Sep5 (fun k => k = bp) Fq Fp' Fx Fd := h.sep.putC (up lA) (up lq) (up lx) (up ld) np3
      have up3 : ∀ {F : Nat → Prop}, (∀ k, F k → k < w.heap.size) → ∀ k, F k → k < w3.heap.size := fun h k hk => Nat.lt_of_lt_of_le (h k hk) (Nat.le_trans z1 s3.size)
      refine ⟨_, rfl, by simp, (T1.fresh s3 fun i hi => .inr (.inr (.inr (.inl hi)))).fresh s4 fun i hi => .inr (.inr (.inr (.inr (.inr hi)))), Q, post P a.r, by omega, by have := post_length P a.r; omega, q, p, x, d, Fq, Fp', Fx, Fd', ?_⟩
      exact ⟨B3.keep s4 (h.sep.ae _ rfl), q3.keep s4 fun k hk => h.sep.be k hk, hp3.keep s4 fun k hk => sep3.ce k hk, x3.keep s4 fun k hk => h.sep.de k hk, hd4, sep3.putE (up3 lA) (up3 lq) (fun k hk => hp3.lt hk) (up3 lx) nd4,
        ⟨nb, nq, fun k hk => (np3 k hk).elim (np k) fun h => Nat.le_trans z0 (Nat.le_trans z1 h), nx, fun k hk => (nd4 k hk).elim (nd k) fun h => Nat.le_trans z0 (Nat.le_trans z1 (Nat.le_trans s3.size h))⟩,
        S3.fresh s4 fun i hi => .inl (nd i hi), post_good h.good hr, h.frs⟩
    · -- they are matched
      refine nilC_in ⟨_, h'.blk.cell (j := 1) rfl, nilC_in ⟨_, h'.blk.cell (j := 0) rfl, _, C.cell rfl, _, C.cell rfl, _, C.cell rfl, _, C.cell rfl, nilC_in ⟨_, h'.blk.cell (j := 3) rfl, nilC_in ⟨_, h'.blk.cell (j := 2) rfl, _, C.cell rfl, _, C.cell rfl, _, C.cell rfl, _, C.cell rfl, ?_⟩⟩⟩⟩
      refine (h'.hp.match_calls h.good (by omega) h'.hq (by omega) (fun k hk hk' => h.sep.bc k hk' hk) a.r.rank a.r.call hm.2.1 hm.2.2.2.1).mono ?_
      rintro e w3 ⟨rfl, hp3, hq3, s3⟩
      have C3 := C.keep s3 (fun hk => by rcases hk with hk | hk; · have := lp _ hk; omega
                                         · have := lq _ hk; omega)
      have B3 := h'.blk.keep s3 (fun hk => hk.elim (h.sep.ac _ rfl) (h.sep.ab _ rfl))
      have x3 := h'.hx.keep s3 fun k hk hk' => hk'.elim (fun g => h.sep.cd k g hk) (fun g => h.sep.bd k g hk)
      have d3 := h'.hd.keep s3 fun k hk hk' => hk'.elim (fun g => h.sep.ce k g hk) (fun g => h.sep.be k g hk)
      have S3 := h'.step.fresh s3 fun i hi => .inl (hi.elim (np i) (nq i))
      refine ⟨_, rfl, C3.cell rfl, C3.cell rfl, C3.cell rfl, C3.cell rfl, B3.cell (j := 2) rfl, B3.cell (j := 3) rfl, (d3.match_calls (by omega) x3 hu (by omega) (fun k hk hk' => h.sep.de k hk' hk) h.frs a.r.rank a.r.call a.m.fr a.m.call).mono ?_⟩
      rintro e w4 ⟨rfl, hd4, hx4, s4⟩
      have lQ : (matchQ Q P a.r.rank a.r.call a.m.fr a.m.call).length = Q.length := by unfold matchQ; split; · rw [take_length]
                                                                                       · rfl
      have lP : (matchP Q P a.r.rank a.r.call a.m.fr a.m.call).length = P.length := by unfold matchP; split; · rw [List.length_map]
                                                                                       · rfl
      refine ⟨_, rfl, by simp, (T1.fresh s3 fun i hi => .inr (hi.elim (fun g => .inr (.inr (.inl g))) fun g => .inr (.inl g))).fresh s4 fun i hi => .inr (hi.elim (fun g => .inr (.inr (.inr (.inr g)))) fun g => .inr (.inr (.inr (.inl g)))), matchQ Q P a.r.rank a.r.call a.m.fr a.m.call, matchP Q P a.r.rank a.r.call a.m.fr a.m.call, by omega, by omega, q, p, x, d, Fq, Fp, Fx, Fd, ?_⟩
      exact ⟨B3.keep s4 (fun hk => hk.elim (h.sep.ae _ rfl) (h.sep.ad _ rfl)), hq3.keep s4 fun k hk hk' => hk'.elim (h.sep.be k hk) (h.sep.bd k hk), hp3.keep s4 fun k hk hk' => hk'.elim (h.sep.ce k hk) (h.sep.cd k hk), hx4, hd4, h.sep, h.new,
        S3.fresh s4 fun i hi => .inl (hi.elim (nd i) (nx i)), match_good h.good Q a.r.rank a.r.call hm.2.1 hm.2.2.2.1, matchQ_frs h.frs P _ _ _ _⟩
    · -- copies go on
      refine nilC_in ⟨_, h'.blk.cell (j := 0) rfl, nilC_in ⟨_, h'.blk.cell (j := 1) rfl, h'.blk.cell (j := 1) rfl, (h'.hq.copy_calls (by omega)).mono ?_⟩⟩
      rintro e w3 ⟨q', Fq', rfl, hq3, nq3, s3⟩
      refine ⟨_, rfl, ((h'.hp.then s3).copy_calls (by omega)).mono ?_⟩
      rintro e w4 ⟨p', Fp', rfl, hp4, np4, s4⟩
      have H4 := (h'.then s3).then s4
      refine ⟨_, rfl, nilC_in ⟨_, _, H4.blk, by simp, fun w5 u5 => nilC_in ⟨_, _, u5.blk, by simp, fun w6 u6 => ?_⟩⟩⟩
      have U6 : Step (fun k => k = bp) w4 w6 := u5.step.both u6.step
      have U6d := U6.drew
      have B6 : Blk w6.drew bp [.pointer q', .pointer p', .pointer x, .pointer d] tPlay := u6.blk.then (Step.refl NoB w6).drew
      have x6 := H4.hx.keep U6d fun k hk e => h.sep.ad k e hk
      have d6 := H4.hd.keep U6d fun k hk e => h.sep.ae k e hk
      refine nilC_in ⟨_, B6.cell (j := 2) rfl, nilC_in ⟨_, B6.cell (j := 3) rfl, (x6.copy_calls (by omega)).mono ?_⟩⟩
      rintro e w7 ⟨x', Fx', rfl, hx7, nx7, s7⟩
      refine ⟨_, rfl, (B6.then s7).cell (j := 3) rfl, ((d6.then s7).copy_calls (by omega)).mono ?_⟩
      rintro e w8 ⟨d', Fd', rfl, hd8, nd8, s8⟩
      refine ⟨_, rfl, nilC_in ⟨_, _, (B6.then s7).then s8, by simp, fun w9 u9 => nilC_in ⟨_, _, u9.blk, by simp, fun w10 u10 => ?_⟩⟩⟩
      have U10 : Step (fun k => k = bp) w8 w10 := u9.step.both u10.step
      have B10 : Blk w10 bp [.pointer q', .pointer p', .pointer x', .pointer d'] tPlay := u10.blk
      -- sizes
      have zz1 := s3.size
      have zz2 := s4.size
      have zz3 : w4.heap.size ≤ w6.drew.heap.size := U6.size
      have zz4 := s7.size
      have zz5 := s8.size
      have zz6 := U10.size
      have lq' : ∀ k, Fq' k → k < w3.heap.size := fun k hk => hq3.lt hk
      have lp' : ∀ k, Fp' k → k < w4.heap.size := fun k hk => hp4.lt hk
      have lx' : ∀ k, Fx' k → k < w7.heap.size := fun k hk => hx7.lt hk
      have ld' : ∀ k, Fd' k → k < w8.heap.size := fun k hk => hd8.lt hk
      have lbp : bp < w.heap.size := h.blk.lt
      have kq : ∀ k, Fq' k → ¬ k = bp := fun k hk e => by have := nq3 k hk; omega
      have kp : ∀ k, Fp' k → ¬ k = bp := fun k hk e => by have := np4 k hk; omega
      have kx : ∀ k, Fx' k → ¬ k = bp := fun k hk e => by have := nx7 k hk; omega
      have kd : ∀ k, Fd' k → ¬ k = bp := fun k hk e => by have := nd8 k hk; omega
      have q10 := ((((hq3.then s4).keep U6d kq).then s7).then s8).keep U10 kq
      have p10 := (((hp4.keep U6d kp).then s7).then s8).keep U10 kp
      have x10 := (hx7.then s8).keep U10 kx
      have d10 := hd8.keep U10 kd
      have C10 := (((((C.then s3).then s4).keep U6d (by omega)).then s7).then s8).keep U10 (by omega)
      have oq10 := (((H4.hq.keep U6d fun k hk e => h.sep.ab k e hk).then s7).then s8).keep U10 fun k hk e => h.sep.ab k e hk
      have op10 := (((H4.hp.keep U6d fun k hk e => h.sep.ac k e hk).then s7).then s8).keep U10 fun k hk e => h.sep.ac k e hk
      have S10 : Step NoB w0 w10 := (((H4.step.fresh U6d fun i hi => .inl (by subst hi; exact nb)).then s7).then s8).fresh U10 fun i hi => .inl (by subst hi; exact nb)
      refine ⟨_, C10.cell rfl, _, C10.cell rfl, (oq10.take_calls hm.2.1 hm.2.2.2.1).mono ?_⟩
      rintro e w11 ⟨rfl, _, s11⟩
      have far : ∀ {F : Nat → Prop}, (∀ k, F k → w2.drew.heap.size ≤ k) → ∀ k, F k → ¬ Fq k := fun h k hk hk' => by have := h k hk; have := up lq k hk'; omega
      have far' : ∀ {F : Nat → Prop}, (∀ k, F k → w2.drew.heap.size ≤ k) → ∀ k, F k → ¬ Fp k := fun h k hk hk' => by have := h k hk; have := up lp k hk'; omega
      have gq : ∀ k, Fq' k → w2.drew.heap.size ≤ k := nq3
      have gp : ∀ k, Fp' k → w2.drew.heap.size ≤ k := fun k hk => by have := np4 k hk; omega
      have gx : ∀ k, Fx' k → w2.drew.heap.size ≤ k := fun k hk => by have := nx7 k hk; omega
      have gd : ∀ k, Fd' k → w2.drew.heap.size ≤ k := fun k hk => by have := nd8 k hk; omega
      have C11 := C10.keep s11 (fun hk => by have := lq _ hk; omega)
      refine ⟨_, rfl, _, C11.cell rfl, ((op10.keep s11 fun k hk hk' => h.sep.bc k hk' hk).post_calls h.good (by omega) ⟨emptyS, a.r.rank, 1099511627776, -1, -1, 0, false, 0, 0⟩ ⟨by show (0 : Nat) ≤ maxLen; omega, hr.2.1, ⟨by simp, by simp⟩, ⟨by simp, by simp⟩, ⟨by simp, by simp⟩, ⟨by simp, by simp⟩, ⟨by simp, by simp⟩, ⟨by simp, by simp⟩⟩).mono ?_⟩
      rintro e w12 ⟨rfl, _, _, s12, _⟩
      have B12 := (B10.keep s11 (h.sep.ab _ rfl)).keep s12 (h.sep.ac _ rfl)
      have q12 := (q10.keep s11 (far gq)).keep s12 (far' gq)
      have p12 := (p10.keep s11 (far gp)).keep s12 (far' gp)
      have x12 := (x10.keep s11 (far gx)).keep s12 (far' gx)
      have d12 := (d10.keep s11 (far gd)).keep s12 (far' gd)
      have hq' := q12.live
      have hp' := p12.live
      refine ⟨_, rfl, nilC_in ⟨_, B12.cell (j := 0) rfl, ifb_of (by rw [hq']; rfl) (nilC_in ⟨_, B12.cell (j := 1) rfl, by rw [hp']; rfl, ((((((T1.then s3).then s4).fresh U6d fun i hi => .inr (.inl hi)).then s7).then s8).fresh U10 fun i hi => .inr (.inl hi)) |>.fresh s11 (fun i hi => .inr (.inr (.inl hi))) |>.fresh s12 (fun i hi => .inr (.inr (.inr (.inl hi)))), Q, P, by omega, by omega, q', p', x', d', Fq', Fp', Fx', Fd', ?_⟩)⟩⟩
      refine ⟨B12, q12, p12, x12, d12, ?_, ⟨nb, fun k hk => ?_, fun k hk => ?_, fun k hk => ?_, fun k hk => ?_⟩, (S10.fresh s11 fun i hi => .inl (nq i hi)).fresh s12 fun i hi => .inl (np i hi), h.good, h.frs⟩
      · refine ⟨fun k e hk => kq k hk e, fun k e hk => kp k hk e, fun k e hk => kx k hk e, fun k e hk => kd k hk e, ?_, ?_, ?_, ?_, ?_, ?_⟩
        · intro k h1 h2; have := lq' k h1; have := np4 k h2; omega
        · intro k h1 h2; have := lq' k h1; have := nx7 k h2; omega
        · intro k h1 h2; have := lq' k h1; have := nd8 k h2; omega
        · intro k h1 h2; have := lp' k h1; have := nx7 k h2; omega
        · intro k h1 h2; have := lp' k h1; have := nd8 k h2; omega
        · intro k h1 h2; have := lx' k h1; have := nd8 k h2; omega
      · have := gq k hk; omega
      · have := gp k hk; omega
      · have := gx k hk; omega
      · have := gd k hk; omega
  · rintro e w' ⟨v, rfl, rfl, h⟩
    exact ⟨rfl, h⟩

end Go.Proofs.Ytdaojmkbjkaakaa
