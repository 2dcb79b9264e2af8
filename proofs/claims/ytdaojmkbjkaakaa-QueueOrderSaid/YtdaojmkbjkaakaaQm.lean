/- QueueOrder's walk: it returns true and changes nothing that was there. Conditions: the tags are bytes, the numbers fit their kinds. -/
import Derived.Test.YtdaojmkbjkaakaaQl
import Derived.Test.YtdaojmkbjkaakaaQk
set_option linter.unusedVariables false
set_option linter.unusedSimpArgs false
namespace Go.Proofs.Ytdaojmkbjkaakaa
open Go.Vc Go.Q13 Go.RowKit

theorem stepCell {w w' : World} (s : Step NoB w w') {a : Addr} {v : Value} (h : w.cell? a = some v) : w'.cell? a = some v := by
  have hlt : a.block < w.heap.size := by
    rcases Nat.lt_or_ge a.block w.heap.size with hlt | hge
    · exact hlt
    · simp [World.cell?, Array.getElem?_eq_none hge] at h
  unfold World.cell? at h ⊢
  rw [s.block' hlt]; exact h

def kB : ByteArray := ⟨#[107]⟩
def lB : ByteArray := ⟨#[108]⟩
def OInv (w : World) (p : Option Addr) (f t : Int) (tg : Nat → Int) (tag : Int) (n : Nat) (A : Option Addr) (N C : Nat) (i : Int) (w' : World) : Prop :=
  0 ≤ i ∧ i ≤ n ∧ ∃ Q F, QRep w' p Q F ∧ Sent kB f t tg i.toNat Q ∧ (∀ k, F k → w.heap.size ≤ k) ∧ Step NoB w w' ∧ RowI w' A N C (wants tg tag i.toNat) ∧ ∀ b, At A b → w.heap.size ≤ b ∧ ¬ F b
def TInv (w : World) (p : Option Addr) (f t : Int) (tg : Nat → Int) (tag : Int) (n : Nat) (A : Option Addr) (N C : Nat) (j : Int) (w' : World) : Prop :=
  0 ≤ j ∧ j ≤ N ∧ ∃ Q F, QRep w' p Q F ∧ Took kB f t tg tag n j.toNat Q ∧ (∀ k, F k → w.heap.size ≤ k) ∧ Step NoB w w' ∧ RowI w' A N C (wants tg tag n) ∧ ∀ b, At A b → w.heap.size ≤ b ∧ ¬ F b

theorem mK_fit (k : ByteArray) (hk : k.size ≤ 100) (f t : Int) (tg : Nat → Int) (hf : 0 ≤ f ∧ f ≤ 63) (ht : 0 ≤ t ∧ t ≤ 63) (htg : ∀ i, 0 ≤ tg i ∧ tg i ≤ 3) (i : Nat) (hi : i ≤ 1000) (d : Int) (hd : 0 ≤ d ∧ d ≤ 1) :
    MFit ⟨k, f, t, 2 * (i : Int) + d, tg i, 0, 1, false⟩ := by
  have := htg i
  refine ⟨?_, ?_, ?_, ?_, ?_, ?_, ?_⟩
  · have : maxLen = 9223372036854775807 := rfl
    show k.size ≤ maxLen
    omega
  all_goals (unfold I64; dsimp only; omega)

theorem queueOrder_walk (A1 : Option Addr) (N1 C1 : Nat) (n2 n3 : Int) (t4 : Bool) (n5 : Int) (w : World) (zs : List Int)
    (hin : ∀ i, i < N1 → ∃ b o, A1 = some ⟨b, o, none⟩ ∧ w.cell? ⟨b, o + i, none⟩ = some (.int .u8 (zs.getD i 0))) (hz : ∀ i, 0 ≤ zs.getD i 0 ∧ zs.getD i 0 ≤ 255)
    (h2 : 0 ≤ n2 ∧ n2 ≤ 255) (h3 : 0 ≤ n3 ∧ n3 ≤ 255) :
    Calls Try.prog 3 #[.slice A1 N1 C1, .int .u8 n2, .int .u8 n3, .bool t4, .int .i64 n5] w fun e w' => e = .returned (.bool true) ∧ Below w.heap.size w w' := by
  refine (V.dispatcherlaw13_QueueOrder_calls (R := fun v w' => v = .bool true ∧ Step NoB w w') ?_).mono ?_
  · refine (awake_calls w).mono ?_
    rintro e w6 ⟨rfl, s6⟩
    refine ⟨_, rfl, ifb_f (ifb_intro (fun _ => ⟨rfl, s6⟩) fun hN => ifb_intro (fun _ => ⟨rfl, s6⟩) fun hlo => ifb_intro (fun _ => ⟨rfl, s6⟩) fun hhi => ?_)⟩
    simp only [decide_eq_false_iff_not] at hN hlo hhi
    have hf : 0 ≤ n2.tmod 64 ∧ n2.tmod 64 ≤ 63 := by have h := Int.tmod_nonneg (b := 64) h2.1; have h' := Int.tmod_lt_of_pos n2 (b := 64) (by omega); omega
    have ht : 0 ≤ n3.tmod 64 ∧ n3.tmod 64 ≤ 63 := by have h := Int.tmod_nonneg (b := 64) h3.1; have h' := Int.tmod_lt_of_pos n3 (b := 64) (by omega); omega
    generalize hfe : n2.tmod 64 = f at hf
    generalize hte : n3.tmod 64 = t at ht
    refine ⟨f, w64 (by omega), t, w64 (by omega), ?_⟩
    have htg : ∀ i, 0 ≤ (zs.getD i 0).tmod 4 ∧ (zs.getD i 0).tmod 4 ≤ 3 := by
      intro i
      have h := Int.tmod_nonneg (b := 4) (hz i).1
      have h' := Int.tmod_lt_of_pos (zs.getD i 0) (b := 4) (by omega)
      omega
    generalize htge : (fun i : Nat => (zs.getD i 0).tmod 4) = tg at *
    have htg' : ∀ i, 0 ≤ tg i ∧ tg i ≤ 3 := by subst htge; exact htg
    have htgi : ∀ i, (zs.getD i 0).tmod 4 = tg i := by subst htge; exact fun i => rfl
    clear htg htge
    refine (new_calls w6).mono ?_
    rintro e w10 ⟨p, F10, rfl, hQ10, hF10, s10⟩
    refine ⟨_, rfl, OInv w p f t tg n5 N1, fun _ _ _ i _ => (N1 - i).toNat, ⟨by omega, by omega, [], F10, hQ10, sent_nil _ _ _ _, fun k hk => Nat.le_trans s6.size (hF10 k hk), s6.then s10, Row.nil _ _ _, fun b hb => absurd hb at_none⟩, ?_⟩
    rintro A N C i jk w14 ⟨h0, h1, Q, F, hQ, hS, hF, s14, hR, hat⟩
    refine ifb_intro (fun hi => ?_) (fun hi => ?_)
    · simp only [decide_eq_true_eq] at hi
      obtain ⟨j, rfl⟩ := Int.eq_ofNat_of_zero_le h0
      replace hS : Sent kB f t tg j Q := hS
      replace hR : RowI w14 A N C (wants tg n5 j) := hR
      obtain ⟨b, o, rfl, hc⟩ := hin j (by omega)
      refine ⟨_, w64 (by omega), h0, hi, b, o, rfl, zs.getD j 0, ?_, tg j, by rw [htgi]; have := htg' j; exact w64 (by omega), ?_⟩
      · have := stepCell s14 hc
        rw [Nat.mul_one]; exact this
      refine new_set (by simp) rfl fun b23 w27 h27 => ?_
      refine ⟨_, _, _, _, _, _, _, _, h27.blk.all, ?_⟩
      have hK := sendK kB f t tg hf ht htg' hS
      have hQl := hS.len
      refine ((hQ.then h27.step).send_calls (mK kB f t tg j) (by have := mK_fit kB (by decide) f t tg hf ht htg' j (by omega) 0 (by omega); rw [Int.add_zero] at this; exact this) (by omega)).mono ?_
      rintro e w36 ⟨rfl, F', hQ36, s36, hF36⟩
      rw [hK.2.1] at hQ36
      refine ⟨_, rfl, ifb_not (by rw [hK.1]; rfl) ?_⟩
      have hge23 := h27.ge s14
      have hlt23 : ∀ k, F k → k < w14.heap.size := fun k hk => hQ.lt hk
      have g23 : b23 = w14.heap.size := h27.at_
      have z27 := h27.size
      have ltA : ∀ k, At A k → k < w14.heap.size := fun k hk => Row.lt hR hk
      have S36 : Step NoB w w36 := (s14.new h27).fresh s36 (fun k hk => .inl (hF k hk))
      have hB36 := h27.blk.keep s36 (fun hk => by have := hlt23 _ hk; omega)
      have hF' : ∀ k, F' k → w.heap.size ≤ k := fun k hk => (hF36 k hk).elim (hF k) (fun h => Nat.le_trans (s14.new h27).size h)
      have hR36 := (Row.then hR h27.step).keep s36 (fun k hk => (hat k hk).2)
      have hat36 : ∀ k, At A k → w.heap.size ≤ k ∧ ¬ F' k := fun k hk => ⟨(hat k hk).1, fun hc => (hF36 k hc).elim (hat k hk).2 (fun h => by have := ltA k hk; omega)⟩
      have b23F : ¬ F' b23 := fun hc => (hF36 _ hc).elim (fun h => by have := hlt23 _ h; omega) (fun h => by omega)
      -- what follows the message's tag
      have cont : ∀ (A' : Option Addr) (N' C' : Nat) (w' : World), QRep w' p (Q ++ [mK kB f t tg j]) F' → Step NoB w w' → RowI w' A' N' C' (wants tg n5 (j + 1)) → (∀ k, At A' k → w.heap.size ≤ k ∧ ¬ F' k) → Blk w' b23 (mv (mK kB f t tg j)) tMsg →
          ifb t4
          (∃ c45 : Int, IntKind.wrap .i64 ((2 : Int) * (j : Int)) = c45 ∧
          ∃ c46 : Int, IntKind.wrap .i64 (c45 + (1 : Int)) = c46 ∧
          ∃ n47 : Int, w'.cell? ⟨b23, 4, none⟩ = some (.int .i64 n47) ∧
          Calls Try.prog 9 #[.pointer p, .agg #[.string ⟨#[108]⟩, .int .i64 f, .int .i64 t, .int .i64 c46, .int .i64 n47, .int .i64 0, .int .i64 1, .bool false]] w' fun e w48 => ∃ n49 : Int, e = .returned (.int .i64 n49) ∧
          ∃ c50 : Int, IntKind.wrap .i64 ((j : Int) + (1 : Int)) = c50 ∧
          OInv w p f t tg n5 N1 A' N' C' c50 w48 ∧ (N1 - c50).toNat < (N1 - (j : Int)).toNat)
          (∃ c51 : Int, IntKind.wrap .i64 ((j : Int) + (1 : Int)) = c51 ∧
          OInv w p f t tg n5 N1 A' N' C' c51 w' ∧ (N1 - c51).toNat < (N1 - (j : Int)).toNat) := by
        intro A' N' C' w' hQ' s' hR' hat' hB'
        refine ifb_intro (fun ht4 => ?_) (fun ht4 => ?_)
        · refine ⟨_, w64 (by omega), _, w64 (by omega), _, hB'.cell rfl, ?_⟩
          refine (hQ'.send_calls (mL lB f t tg j) (mK_fit lB (by decide) f t tg hf ht htg' j (by omega) 1 (by omega)) (by simp; omega)).mono ?_
          rintro e w48 ⟨rfl, F48, hQ48, s48, hF48⟩
          refine ⟨_, rfl, _, w64 (by omega), ⟨by omega, by omega, _, F48, hQ48, ?_, fun k hk => (hF48 k hk).elim (hF' k) (fun h => Nat.le_trans s'.size h), s'.fresh s48 (fun k hk => .inl (hF' k hk)), ?_, ?_⟩, by omega⟩
          · exact sendL kB lB f t tg hf ht htg' hS (by decide)
          · exact Row.keep hR' s48 (fun k hk => (hat' k hk).2)
          · intro k hk
            refine ⟨(hat' k hk).1, fun hc => (hF48 k hc).elim (hat' k hk).2 (fun h => ?_)⟩
            have := Row.lt hR' hk
            omega
        · exact ⟨_, w64 (by omega), ⟨by omega, by omega, _, F', hQ', sentK kB f t tg hf ht htg' hS, hF', s', hR', hat'⟩, by omega⟩
      -- one more that is wanted
      have more : wanted tg n5 j = true → ∃ c38 : Int, IntKind.wrap .i64 ((2 : Int) * (j : Int)) = c38 ∧
          ∀ (b39 : Nat) (w40 : World), New w36 w40 b39 [.int .i64 c38] tInt →
          ∃ xs41 news42 : List Value, w40.ownsRow 0 tInt 1 (.slice A N C) N xs41 ∧ Reads w40 (some ⟨b39, 0, none⟩) 1 1 news42 ∧ N + 1 ≤ maxLen ∧ (N + 1) * 8 ≤ 140737488355328 ∧
          ∀ (A44 : Option Addr) (C44 : Nat) (w43 : World), w43.ownsRow 0 tInt 1 (.slice A44 (N + 1) C44) (N + 1) (xs41 ++ news42) → App w40 w43 A A44 →
          QRep w43 p (Q ++ [mK kB f t tg j]) F' ∧ Step NoB w w43 ∧ RowI w43 A44 (N + 1) C44 (wants tg n5 (j + 1)) ∧ (∀ k, At A44 k → w.heap.size ≤ k ∧ ¬ F' k) ∧ Blk w43 b23 (mv (mK kB f t tg j)) tMsg := by
        intro hw
        refine ⟨_, w64 (by omega), fun b39 w40 h40 => ?_⟩
        have hR40 := Row.then hR36 h40.step
        have hl := RowI.len hR40
        have hle : (wants tg n5 j).length ≤ j := by
          unfold wants wantN
          rw [List.length_map]
          exact Nat.le_trans (List.length_filter_le ..) (by simp)
        refine ⟨_, _, hR40, reads_blk h40.blk rfl (by simp [Value.oneCell']), ?_, by omega, fun A44 C44 w43 hr hap => ?_⟩
        · have : maxLen = 9223372036854775807 := rfl
          omega
        have S40 := S36.new h40
        have z36 : w14.heap.size ≤ w36.heap.size := by have := s36.size; omega
        refine ⟨(hQ36.then h40.step).keep hap.step (fun k hk hc => (hat36 k hc).2 hk), hap.new S40 (fun k hk => .inl (hat36 k hk).1), ?_, ?_, ?_⟩
        · show Row _ _ _ _ _ _ _
          rw [wants_succ, hw, if_pos rfl, List.flatMap_append]
          exact hr
        · intro k hk
          rcases hap.at_ with hc | hc
          · exact hat36 k (by unfold At at hk ⊢; rw [← hc]; exact hk)
          · unfold At at hk
            rw [hc] at hk
            cases hk
            exact ⟨S40.size, fun hc => by have := hQ36.lt hc; have := h40.size; omega⟩
        · exact (hB36.then h40.step).keep hap.step (fun hc => by have := ltA _ hc; omega)
      refine ifb_intro (fun hany => ?_) (fun hany => ?_)
      · obtain ⟨c38, e38, hm⟩ := more (by simp only [wanted, hany, Bool.true_or])
        refine ⟨c38, e38, fun b39 w40 h40 => ?_⟩
        obtain ⟨xs, news, g1, g2, g3, g4, hm⟩ := hm b39 w40 h40
        refine ⟨xs, news, g1, g2, g3, g4, fun A44 C44 w43 g5 g6 => ?_⟩
        obtain ⟨q1, q2, q3, q4, q5⟩ := hm A44 C44 w43 g5 g6
        exact cont _ _ _ _ q1 q2 q3 q4 q5
      · refine ⟨_, hB36.cell rfl, ifb_intro (fun htag => ?_) (fun htag => ?_)⟩
        · obtain ⟨c38, e38, hm⟩ := more (by simp only [wanted, htag, Bool.or_true])
          refine ⟨c38, e38, fun b39 w40 h40 => ?_⟩
          obtain ⟨xs, news, g1, g2, g3, g4, hm⟩ := hm b39 w40 h40
          refine ⟨xs, news, g1, g2, g3, g4, fun A44 C44 w43 g5 g6 => ?_⟩
          obtain ⟨q1, q2, q3, q4, q5⟩ := hm A44 C44 w43 g5 g6
          exact cont _ _ _ _ q1 q2 q3 q4 q5
        · refine cont _ _ _ _ hQ36 S36 ?_ hat36 hB36
          have : wanted tg n5 j = false := by simp only [wanted, hany, htag, Bool.or_false]
          rw [wants_succ, this]
          simpa using hR36
    · simp only [decide_eq_false_iff_not] at hi
      have hiN : i.toNat = N1 := by omega
      rw [hiN] at hS hR
      have hN' := RowI.len hR
      have hle : (wants tg n5 N1).length ≤ N1 := by
        unfold wants wantN
        rw [List.length_map]
        exact Nat.le_trans (List.length_filter_le ..) (by simp)
      refine ⟨TInv w p f t tg n5 N1 A N C, fun j _ => (N - j).toNat, ⟨by omega, by omega, Q, F, hQ, took_zero _ _ _ _ _ hS, hF, s14, hR, hat⟩, ?_⟩
      rintro j jk2 w76 ⟨k0, k1, Q2, F2, hQ2, hT, hF2, s76, hR2, hat2⟩
      have hk : kB.size ≤ maxLen := by show (1 : Nat) ≤ 9223372036854775807; omega
      have hIf : I64 f := by unfold I64; omega
      have hIt : I64 t := by unfold I64; omega
      have hfst := took_first kB f t tg n5 hT
      refine ifb_intro (fun hj => ?_) (fun hj => ?_)
      · simp only [decide_eq_true_eq] at hj
        obtain ⟨q, rfl⟩ := Int.eq_ofNat_of_zero_le k0
        replace hT : Took kB f t tg n5 N1 q Q2 := hT
        obtain ⟨i2, hi2⟩ : ∃ i2, (wantN tg n5 N1)[q]? = some i2 := ⟨_, List.getElem?_eq_getElem (by unfold wants at hN'; rw [List.length_map] at hN'; omega)⟩
        have hi2r : i2 < N1 := by
          have := List.mem_of_getElem? hi2
          unfold wantN at this
          simpa using (List.mem_filter.1 this).1
        replace hfst : first Q2 ⟨kB, f, t⟩ n5 = some (mK kB f t tg i2) := by rw [hfst, show (q : Int).toNat = q from rfl, hi2]; rfl
        have htk := took_take kB f t tg n5 hQ2.uniq hT hi2
        refine (hQ2.first_calls ⟨kB, f, t⟩ (tag := n5) hk hIf hIt).mono ?_
        rintro e w79 ⟨rfl, s79⟩
        rw [hfst]
        refine ⟨_, _, _, _, _, _, _, _, _, rfl, ?_⟩
        refine new_set (by simp) rfl fun b89 w93 h93 => ?_
        refine ifb_f ⟨_, h93.blk.cell rfl, k0, hj, ?_⟩
        have S93 := (s76.then s79).new h93
        have hwq : (wants tg n5 N1)[q]? = some (2 * (i2 : Int)) := by rw [wants_get, hi2]; rfl
        obtain ⟨b95, rfl, hc95⟩ := RowI.elem (Row.then (Row.then hR2 s79) h93.step) hwq
        refine ⟨b95, 0, rfl, _, hc95, ifb_not (by simp [mK]) ⟨_, h93.blk.cell rfl, ?_⟩⟩
        have hg := h93.ge (Step.refl NoB w79)
        have hz93 := s79.size
        have hnF : ¬ F2 b89 := fun hc => by have := hQ2.lt hc; omega
        have hQd : QRep w93.drew p Q2 F2 := ((hQ2.then s79).then h93.step).then (Step.refl NoB w93).drew
        refine (hQd.take_calls (fr := f) (call := 2 * (i2 : Int)) hIf (by unfold I64; omega)).mono ?_
        rintro e w99 ⟨rfl, hQ99, s99⟩
        replace s99 := s99.undrew
        refine ⟨_, rfl, ifb_not (by rw [htk.1]; rfl) ⟨_, (h93.blk.keep s99 hnF).cell rfl, ?_⟩⟩
        refine (hQ99.take_calls (fr := f) (call := 2 * (i2 : Int)) hIf (by unfold I64; omega)).mono ?_
        rintro e w102 ⟨rfl, hQ102, s102⟩
        refine ⟨_, rfl, ifb_not (by rw [htk.2.2]; rfl) ⟨_, w64 (by omega), ⟨by omega, by omega, _, F2, hQ102, ?_, hF2, (S93.fresh s99 (fun k hk => .inl (hF2 k hk))).fresh s102 (fun k hk => .inl (hF2 k hk)), ?_, hat2⟩, by dsimp only; omega⟩⟩
        · have e : take (take Q2 f (2 * (i2 : Int))) f (2 * (i2 : Int)) = take Q2 f (2 * (i2 : Int)) := by
            rw [take, if_neg]
            rw [htk.2.2]; decide
          rw [e]
          exact htk.2.1
        · exact (((Row.then (Row.then hR2 s79) h93.step).keep s99 (fun k hk => (hat2 k hk).2)).keep s102 (fun k hk => (hat2 k hk).2))
      · simp only [decide_eq_false_iff_not] at hj
        have hq : (wantN tg n5 N1)[j.toNat]? = none := List.getElem?_eq_none (by unfold wants at hN'; rw [List.length_map] at hN'; omega)
        replace hfst : first Q2 ⟨kB, f, t⟩ n5 = none := by rw [hfst, hq]; rfl
        refine (hQ2.first_calls ⟨kB, f, t⟩ (tag := n5) hk hIf hIt).mono ?_
        rintro e w79 ⟨rfl, s79⟩
        rw [hfst]
        refine ⟨_, _, _, _, _, _, _, _, _, rfl, ?_⟩
        refine new_set (by simp) rfl fun b89 w93 h93 => ?_
        exact ⟨rfl, (s76.then s79).new h93⟩
  · rintro e w' ⟨v, rfl, rfl, h⟩
    exact ⟨rfl, h.below⟩

end Go.Proofs.Ytdaojmkbjkaakaa
