/- Contracts: what the law texts of queues call besides: message, Ints, awake. Conditions: none. -/
import Derived.Test.YtdaojmkbjkaakaaQj
import Derived.Test.YtdaojmkbjkaakaaVl
set_option linter.unusedVariables false
set_option linter.unusedSimpArgs false
namespace Go.Proofs.Ytdaojmkbjkaakaa
open Go.Vc Go.Q13 Go.RowKit

def msgOf (call tag : Int) : Msg := ⟨emptyS, 0, 1, call, tag, 0, 1, false⟩
theorem message_calls (call tag : Int) (w : World) :
    Calls Try.prog 30 #[.int .i64 call, .int .i64 tag] w fun e w' => e = .returned (mvA (msgOf call tag)) ∧ Step NoB w w' := by
  refine (V.dispatcherlaw13_message_calls (R := fun v w' => v = mvA (msgOf call tag) ∧ Step NoB w w') ?_).mono ?_
  · refine new_set (by simp) rfl fun b w1 h1 => ?_
    exact ⟨_, _, _, _, _, _, _, _, h1.blk.all, rfl, (Step.refl _ _).new h1⟩
  · rintro e w' ⟨v, rfl, rfl, h⟩
    exact ⟨rfl, h⟩
theorem ints_calls {w : World} {A B : Option Addr} {n c m d : Nat} {xs ys : List Int} (hA : RowI w A n c xs) (hB : RowI w B m d ys) :
    Calls Try.prog 31 #[.slice A n c, .slice B m d] w fun e w' => e = .returned (.bool (decide (xs = ys))) ∧ Step NoB w w' := by
  have hn := RowI.len hA
  have hm := RowI.len hB
  have hN := Row.le hA
  refine (V.dispatcherref11_Ints_calls (R := fun v w' => v = .bool (decide (xs = ys)) ∧ Step NoB w w') ?_).mono ?_
  · refine ifb_intro (fun h => ?_) (fun h => ?_)
    · simp only [bne_iff_ne, ne_eq] at h
      refine ⟨by rw [decide_eq_false]; rintro rfl; omega, Step.refl _ _⟩
    · have hnm : n = m := by
        simp only [bne_eq_false_iff_eq] at h
        omega
      refine ⟨fun i w' => 0 ≤ i ∧ i ≤ n ∧ Step NoB w w' ∧ ∀ j : Nat, (j : Int) < i → xs[j]? = ys[j]?, fun i _ => (n - i).toNat, ⟨by omega, by omega, Step.refl _ _, fun j hj => by omega⟩, ?_⟩
      rintro i jk w1 ⟨h0, h1, s1, hb⟩
      refine ifb_intro (fun hi => ?_) (fun hi => ?_)
      · simp only [decide_eq_true_eq] at hi
        obtain ⟨x, hx⟩ : ∃ x, xs[i.toNat]? = some x := ⟨_, List.getElem?_eq_getElem (by omega)⟩
        obtain ⟨y, hy⟩ : ∃ y, ys[i.toNat]? = some y := ⟨_, List.getElem?_eq_getElem (by omega)⟩
        obtain ⟨b, rfl, hc⟩ := RowI.elem (Row.then hA s1) hx
        obtain ⟨b', rfl, hc'⟩ := RowI.elem (Row.then hB s1) hy
        refine ⟨h0, hi, b, 0, rfl, x, hc, h0, by omega, b', 0, rfl, y, hc', ifb_intro (fun hxy => ?_) (fun hxy => ?_)⟩
        · simp only [bne_iff_ne, ne_eq] at hxy
          refine ⟨by rw [decide_eq_false]; rintro rfl; rw [hx] at hy; exact hxy (Option.some.inj hy), s1.drew⟩
        · simp only [bne_eq_false_iff_eq] at hxy
          refine ⟨_, w64 (by omega), ⟨by omega, by omega, s1.drew, fun j hj => ?_⟩, by dsimp only; omega⟩
          rcases Nat.lt_or_ge j i.toNat with hlt | hge
          · exact hb j (by omega)
          · have : j = i.toNat := by omega
            rw [this, hx, hy, hxy]
      · simp only [decide_eq_false_iff_not] at hi
        refine ⟨?_, s1⟩
        have : xs = ys := List.ext_getElem? fun j => by
          rcases Nat.lt_or_ge j n with hlt | hge
          · exact hb j (by omega)
          · rw [List.getElem?_eq_none (by omega), List.getElem?_eq_none (by omega)]
        rw [this]; simp
  · rintro e w' ⟨v, rfl, rfl, h⟩
    exact ⟨rfl, h⟩

def q1 : List Msg := [msgOf 0 5]
def q2 : List Msg := [msgOf 0 5, msgOf 1 6]
def q3 : List Msg := [{ msgOf 0 5 with taken := true }, msgOf 1 6]
def c0 : Ch := ⟨emptyS, 0, 1⟩
theorem fit_msg (call tag : Int) (h1 : I64 call) (h2 : I64 tag) : MFit (msgOf call tag) := ⟨by show (0 : Nat) ≤ maxLen; omega, ⟨by simp [msgOf], by simp [msgOf]⟩, ⟨by simp [msgOf], by simp [msgOf]⟩, h1, h2, ⟨by simp [msgOf], by simp [msgOf]⟩, ⟨by simp [msgOf], by simp [msgOf]⟩⟩
theorem chans_q2 {cs : List Ch} (h : Chans q2 cs) : cs = [c0] := by
  obtain ⟨h1, h2, h3⟩ := h
  have hall : ∀ c ∈ cs, c = c0 := by
    intro c hc
    obtain ⟨m, hm⟩ := List.exists_mem_of_ne_nil _ (h2 c hc)
    obtain ⟨g1, g2⟩ := mem_row.1 hm
    rw [← g2]
    simp only [q2, List.mem_cons, List.not_mem_nil, or_false] at g1
    rcases g1 with rfl | rfl <;> rfl
  have hin : c0 ∈ cs := h3 c0 (by
    intro hr
    have : msgOf 0 5 ∈ row q2 c0 := mem_row.2 ⟨by simp [q2], rfl⟩
    rw [hr] at this; cases this)
  rcases cs with _ | ⟨a, _ | ⟨b, cs⟩⟩
  · cases hin
  · rw [hall a (by simp)]
  · have ha := hall a (by simp)
    have hb := hall b (by simp)
    rw [ha, hb] at h1
    simp at h1

theorem awake_calls (w : World) :
    Calls Try.prog 7 #[] w fun e w' => e = .returned (.bool true) ∧ Step NoB w w' := by
  refine (V.dispatcherlaw13_awake_calls (R := fun v w' => v = .bool true ∧ Step NoB w w') ?_).mono ?_
  · refine (new_calls w).mono ?_
    rintro e w1 ⟨a, F, rfl, hQ, hF, s1⟩
    refine ⟨_, rfl, ifb_not hQ.live ?_⟩
    refine (message_calls _ _ _).mono ?_
    rintro e w2 ⟨rfl, s2⟩
    refine ⟨_, _, _, _, _, _, _, _, rfl, ?_⟩
    replace hQ := hQ.then s2
    refine (hQ.send_calls (msgOf 0 5) (fit_msg _ _ (by unfold I64; omega) (by unfold I64; omega)) (by simp)).mono ?_
    rintro e w3 ⟨rfl, F3, hQ3, s3, hF3⟩
    replace hQ3 : QRep w3 a q1 F3 := hQ3
    replace s3 := (s1.then s2).fresh s3 (fun i hi => .inl (hF i hi))
    replace hF3 : ∀ k, F3 k → w.heap.size ≤ k := fun k hk => (hF3 k hk).elim (hF k) (fun h => Nat.le_trans (s1.then s2).size h)
    clear hQ hF s1 s2
    refine ⟨_, rfl, ifb_f ?_⟩
    refine (message_calls _ _ _).mono ?_
    rintro e w4 ⟨rfl, s4⟩
    refine ⟨_, _, _, _, _, _, _, _, rfl, ?_⟩
    refine ((hQ3.then s4).send_calls (msgOf 1 6) (fit_msg _ _ (by unfold I64; omega) (by unfold I64; omega)) (by simp [q1])).mono ?_
    rintro e w5 ⟨rfl, F5, hQ5, s5, hF5⟩
    replace hQ5 : QRep w5 a q2 F5 := hQ5
    replace s5 := (s3.then s4).fresh s5 (fun i hi => .inl (hF3 i hi))
    replace hF5 : ∀ k, F5 k → w.heap.size ≤ k := fun k hk => (hF5 k hk).elim (hF3 k) (fun h => Nat.le_trans (s3.then s4).size h)
    clear hQ3 hF3 s3 s4
    refine ⟨_, rfl, ifb_f ?_⟩
    refine (message_calls _ _ _).mono ?_
    rintro e w6 ⟨rfl, s6⟩
    refine ⟨_, _, _, _, _, _, _, _, rfl, ?_⟩
    refine ((hQ5.then s6).send_calls (msgOf 1 7) (fit_msg _ _ (by unfold I64; omega) (by unfold I64; omega)) (by simp [q2])).mono ?_
    rintro e w7 ⟨rfl, F7, hQ7, s7, hF7⟩
    replace hQ7 : QRep w7 a q2 F7 := hQ7
    replace s7 := (s5.then s6).fresh s7 (fun i hi => .inl (hF5 i hi))
    replace hF7 : ∀ k, F7 k → w.heap.size ≤ k := fun k hk => (hF7 k hk).elim (hF5 k) (fun h => Nat.le_trans (s5.then s6).size h)
    clear hQ5 hF5 s5 s6
    refine ⟨_, rfl, ifb_f ?_⟩
    have hk0 : c0.key.size ≤ maxLen := by show (0 : Nat) ≤ maxLen; omega
    have hf0 : I64 c0.fr := by simp [I64, c0]
    have ht0 : I64 c0.to := by simp [I64, c0]
    refine (hQ7.first_calls c0 (tag := -1) hk0 hf0 ht0).mono ?_
    rintro e w8 ⟨rfl, s8⟩
    refine ⟨_, _, _, _, _, _, _, _, _, rfl, ?_⟩
    refine new_set (by simp) rfl fun b9 w9 h9 => ?_
    have g9 := s8.new h9
    refine ((hQ7.then g9).first_calls c0 (tag := 6) hk0 hf0 ht0).mono ?_
    rintro e w10 ⟨rfl, s10⟩
    refine ⟨_, _, _, _, _, _, _, _, _, rfl, ?_⟩
    refine new_set (by simp) rfl fun b11 w11 h11 => ?_
    have B9 := (h9.blk.then s10).new h11
    have g11 := (g9.then s10).new h11
    refine (message_calls _ _ _).mono ?_
    rintro e w12 ⟨rfl, s12⟩
    refine ⟨_, _, _, _, _, _, _, _, rfl, ?_⟩
    have g12 := g11.then s12
    refine ((hQ7.then g12).ahead_calls (msgOf 1 0) (by simp [I64, msgOf]) (by simp [I64, msgOf]) (by simp [q2])).mono ?_
    rintro e w13 ⟨A, n, c, rfl, hR, hat, s13⟩
    refine ⟨_, _, _, rfl, ?_⟩
    have g13 := g12.then s13
    refine ((hQ7.then g13).senders_calls emptyS 1 (by simp [q2]) (fun zs hz => sortsI zs hz)).mono ?_
    rintro e w14 ⟨A', n', c', zs, rfl, hR', ⟨cs, hcs, hzs⟩, hat', s14⟩
    refine ⟨_, _, _, rfl, ?_⟩
    have g14 := g13.then s14
    have hlt : ∀ k, F7 k → k < w7.heap.size := fun k hk => hQ7.lt hk
    refine ((hQ7.then g14).take_calls (fr := 0) (call := 0) (by unfold I64; omega) (by unfold I64; omega)).mono ?_
    rintro e w15 ⟨rfl, hQ15, s15⟩
    replace hQ15 : QRep w15 a q3 F7 := hQ15
    refine ⟨_, rfl, ?_⟩
    refine (hQ15.first_calls c0 (tag := -1) hk0 hf0 ht0).mono ?_
    rintro e w16 ⟨rfl, s16⟩
    refine ⟨_, _, _, _, _, _, _, _, _, rfl, ?_⟩
    refine new_set (by simp) rfl fun b17 w17 h17 => ?_
    have z9 := h9.ge s8
    have z11 := h11.ge (g9.then s10)
    have S15 : Step F7 w14 w17 := (s15.then s16).new h17
    have B9' := ((B9.then s12).then s13 |>.then s14).keep S15 (fun hk => by have := hlt _ hk; omega)
    have B11' := ((h11.blk.then s12).then s13 |>.then s14).keep S15 (fun hk => by have := hlt _ hk; omega)
    have R' := (Row.then hR s14).keep S15 (fun k hk hf => by have h1 := hlt _ hf; have h2 := hat k hk; have h3 := g12.size; omega)
    have RS := Row.keep hR' S15 (fun k hk hf => by have h1 := hlt _ hf; have h2 := hat' k hk; have h3 := g13.size; omega)
    have hn := RowM.len hR
    rw [show aheadOf q2 (msgOf 1 0).fr (msgOf 1 0).call = [msgOf 0 5] by decide] at hn R'
    obtain ⟨b, rfl, hcl⟩ := RowM.elem (i := 0) R' rfl
    refine ⟨_, B9'.cell rfl, ifb_t (ifb_t ⟨_, B11'.cell rfl, ifb_t (ifb_t (ifb_of (by rw [hn]; rfl) ⟨by omega, by rw [hn]; decide, b, 0, rfl, 0, ?_, ifb_t ?_⟩))⟩)⟩
    · have := hcl 3 _ rfl
      rw [add_none] at this; exact this
    intro b18 w18 h18
    have hz0 : zs = [0] := by
      rw [hzs, chans_q2 hcs, show fromsOf q2 emptyS 1 [c0] = [0] by decide]
      simp
    refine (ints_calls (ys := [0]) (Row.then RS h18.step) (Row.whole h18.blk (by decide) rfl)).mono ?_
    rintro e w19 ⟨rfl, s19⟩
    refine ⟨_, rfl, ifb_of (by rw [hz0]; rfl) (ifb_t ⟨_, ((h17.blk.new h18).then s19).cell rfl, ifb_t (ifb_t ?_)⟩)⟩
    have hQ19 := (((hQ15.then s16).then h17.step).then h18.step).then s19
    refine (hQ19.left_calls (by simp [q3]) fun l hl => sortsM_small (by rw [hl.length_eq]; decide)).mono ?_
    rintro e w20 ⟨A'', n'', c'', l, rfl, hR20, hL, _, s20⟩
    have hl1 := RowM.len hR20
    have hl2 : l.length = 1 := (perm_of_rows hL.2).length_eq.trans (by decide)
    refine ⟨_, _, _, rfl, ?_, ?_⟩
    · rw [hl1, hl2]; rfl
    · exact ((((s7.then g14).fresh S15 (fun i hi => .inl (hF7 i hi))).new h18).then s19).then s20
  · rintro e w' ⟨v, rfl, rfl, h⟩
    exact ⟨rfl, h⟩

end Go.Proofs.Ytdaojmkbjkaakaa
