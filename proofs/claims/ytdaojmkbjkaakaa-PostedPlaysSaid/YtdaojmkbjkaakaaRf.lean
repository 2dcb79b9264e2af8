/- Contracts: the reference's queue: Left: what must be shown when one is inserted. Conditions: none. -/
import Derived.Test.YtdaojmkbjkaakaaRe
set_option linter.unusedVariables false
set_option linter.unusedSimpArgs false
namespace Go.Proofs.Ytdaojmkbjkaakaa
open Go.Vc Go.Q13 Go.RowKit

/-- the rest of a row, read -/
theorem reads_rest {w : World} {A : Option Addr} {n c : Nat} {l : List Msg} (h : RowM w A n c l) {q : Nat} (hq : q ≤ n) : Reads w (if c = q then A else A.map (·.add (q * 8))) (n - q) 8 ((l.drop q).flatMap mv) := by
  have hl := h.len
  refine ⟨by rw [flat_length mv 8 mv_len, List.length_drop, hl], mvs_one _, fun hpos => ?_⟩
  rcases h.out.2 with ⟨_, h0, _⟩ | ⟨b, cells, rfl, hB, hn, hc, hlen, hx⟩
  · omega
  · rw [if_neg (by omega)]
    refine ⟨_, rfl, ?_⟩
    show Cells w ((⟨b, 0, none⟩ : Addr).add (q * 8)) _
    rw [add_none]
    refine hB.cells _ _ fun j x hj => ?_
    have e : l.flatMap mv = (l.take q).flatMap mv ++ (l.drop q).flatMap mv := by rw [← List.flatMap_append, List.take_append_drop]
    have hlt : ((l.take q).flatMap mv).length = q * 8 := by rw [flat_length mv 8 mv_len, List.length_take, Nat.min_eq_left (by omega)]
    have h1 : (l.flatMap mv)[q * 8 + j]? = some x := by
      rw [e, List.getElem?_append_right (by omega), hlt, show q * 8 + j - q * 8 = j by omega]; exact hj
    rw [← hx, List.getElem?_take] at h1
    split at h1
    · rw [Nat.zero_add]; exact h1
    · cases h1

def LInv (w : World) (Q : List Msg) (A : Option Addr) (N C : Nat) (i : Int) (w' : World) : Prop :=
  0 ≤ i ∧ i ≤ Q.length ∧ Step NoB w w' ∧ (∀ k, At A k → w.heap.size ≤ k) ∧ ∃ l, RowM w' A N C l ∧ l.Pairwise le ∧ ∀ c, row l c = row (open_ (Q.take i.toNat)) c
theorem refLeft_calls {F : Nat → Prop} {w : World} {p : Option Addr} {Q : List Msg} (h : TRep w p Q F) (hQ : Q.length ≤ 1000000) :
    Calls Try.prog 27 #[.pointer p] w fun e w' => ∃ A n c l, e = .returned (.slice A n c) ∧ RowM w' A n c l ∧ l.Pairwise le ∧ (∀ c, row l c = row (open_ Q) c) ∧ (∀ b, At A b → w.heap.size ≤ b) ∧ Step NoB w w' := by
  have h0 := h
  obtain ⟨b, A, n, c, rfl, hB, hR, hn, hF⟩ := h
  have hl := RowM.len hR
  refine (V.dispatcherref13_Queue_Left_calls (R := fun v w' => ∃ A n c l, v = .slice A n c ∧ RowM w' A n c l ∧ l.Pairwise le ∧ (∀ c, row l c = row (open_ Q) c) ∧ (∀ b, At A b → w.heap.size ≤ b) ∧ Step NoB w w') ?_).mono ?_
  · refine ⟨LInv w Q, fun _ _ _ i _ => (Q.length - i).toNat, ⟨by omega, by omega, Step.refl _ _, fun k hk => absurd hk at_none, [], Row.nil _ _ _, List.Pairwise.nil, fun _ => rfl⟩, ?_⟩
    rintro A6 N6 C6 i jk w4 ⟨i0, i1, s4, hat, l, hO, hs, hr⟩
    have hlo := RowM.len hO
    have hlen : l.length ≤ Q.length := by
      have h1 := (perm_of_rows hr).length_eq
      have h2 := open_length (Q.take i.toNat)
      rw [List.length_take] at h2
      omega
    refine nilC_in ⟨A, n, c, (hB.then s4).cell rfl, ifb_intro (fun hi => ?_) (fun hi => ?_)⟩
    · simp only [decide_eq_true_eq] at hi
      obtain ⟨m, hm⟩ : ∃ m, Q[i.toNat]? = some m := ⟨_, List.getElem?_eq_getElem (by omega)⟩
      obtain ⟨b1, rfl, hc⟩ := RowM.elem (Row.then hR s4) hm
      have c7 := hc 7 _ rfl
      rw [add_none] at c7
      have e3 : (i + 1).toNat = i.toNat + 1 := by omega
      refine nilC_in ⟨_, n, c, (hB.then s4).cell rfl, i0, hi, b1, 0, rfl, _, c7, ifb_intro (fun ht => ?_) (fun ht => ?_)⟩
      · refine ⟨_, w64 (by omega), ⟨by omega, by omega, s4, hat, l, hO, hs, fun ch => ?_⟩, by dsimp only; omega⟩
        rw [hr, e3]
        unfold open_
        rw [take_succ_filter hm, ht, if_neg (by simp), List.append_nil]
      · have hmt : m.taken = false := ht
        have hz : maxLen = 9223372036854775807 := rfl
        -- one is inserted
        have fin : ∀ (q : Nat) (w1 : World), q ≤ N6 → Step NoB w4 w1 → (∀ p, q ≤ p → p < l.length → lt m (el_ l p)) → (q = 0 ∨ le (el_ l (q - 1)) m) →
            ∀ (b47 : Nat) (w48 : World), New w1 w48 b47 [] tMsg →
            SlcF A6 N6 C6 (q : Int) ((N6 : Nat) : Int) 8 fun A49 N49 C49 =>
            ∃ xs50 news51 : List Value, w48.ownsRow 0 tMsg 8 (.slice (some ⟨b47, 0, none⟩) 0 0) 0 xs50 ∧ Reads w48 A49 N49 8 news51 ∧ 0 + N49 ≤ maxLen ∧ (0 + N49) * 72 ≤ 140737488355328 ∧
            ∀ (A53 : Option Addr) (C53 : Nat) (w52 : World), w52.ownsRow 0 tMsg 8 (.slice A53 (0 + N49) C53) (0 + N49) (xs50 ++ news51) → App w48 w52 (some ⟨b47, 0, none⟩) A53 →
            0 ≤ (q : Int) ∧ (q : Int) ≤ ((C6 : Nat) : Int) ∧
            nilC (some ⟨b, 0, none⟩) fun b54 o54 =>
            ∃ A55 : Option Addr, ∃ N55 : Nat, ∃ C55 : Nat, w52.drew.cell? ⟨b54, o54, none⟩ = some (.slice A55 N55 C55) ∧
            0 ≤ i ∧ i < ((N55 : Nat) : Int) ∧ ∃ b56 o57 : Nat, (A55 : Option Addr) = some ⟨b56, o57, none⟩ ∧
            ∃ s58 : ByteArray, ∃ n59 : Int, ∃ n60 : Int, ∃ n61 : Int, ∃ n62 : Int, ∃ n63 : Int, ∃ n64 : Int, ∃ t65 : Bool, Cells w52.drew ⟨b56, o57 + i.toNat * 8, none⟩ [.string s58, .int .i64 n59, .int .i64 n60, .int .i64 n61, .int .i64 n62, .int .i64 n63, .int .i64 n64, .bool t65] ∧
            ∀ (b66 : Nat) (w67 : World), New w52.drew w67 b66 [.string s58, .int .i64 n59, .int .i64 n60, .int .i64 n61, .int .i64 n62, .int .i64 n63, .int .i64 n64, .bool t65] tMsg →
            ∃ xs68 news69 : List Value, w67.ownsRow 0 tMsg 8 (.slice A6 (q : Int).toNat C6) (q : Int).toNat xs68 ∧ Reads w67 (some ⟨b66, 0, none⟩) 1 8 news69 ∧ (q : Int).toNat + 1 ≤ maxLen ∧ ((q : Int).toNat + 1) * 72 ≤ 140737488355328 ∧
            ∀ (A71 : Option Addr) (C71 : Nat) (w70 : World), w70.ownsRow 0 tMsg 8 (.slice A71 ((q : Int).toNat + 1) C71) ((q : Int).toNat + 1) (xs68 ++ news69) → App w67 w70 A6 A71 →
            ∃ xs72 news73 : List Value, w70.ownsRow 0 tMsg 8 (.slice A71 ((q : Int).toNat + 1) C71) ((q : Int).toNat + 1) xs72 ∧ Reads w70 A53 (0 + N49) 8 news73 ∧ ((q : Int).toNat + 1) + (0 + N49) ≤ maxLen ∧ (((q : Int).toNat + 1) + (0 + N49)) * 72 ≤ 140737488355328 ∧
            ∀ (A75 : Option Addr) (C75 : Nat) (w74 : World), w74.ownsRow 0 tMsg 8 (.slice A75 (((q : Int).toNat + 1) + (0 + N49)) C75) (((q : Int).toNat + 1) + (0 + N49)) (xs72 ++ news73) → App w70 w74 A71 A75 →
            ∃ c76 : Int, IntKind.wrap .i64 (i + (1 : Int)) = c76 ∧
            LInv w Q A75 (((q : Int).toNat + 1) + (0 + N49)) C75 c76 w74 ∧ (Q.length - c76).toNat < (Q.length - i).toNat := by
          intro q w1 hq s1 hhi hlo' b47 w48 h48
          have hC6 := Row.le hO
          have s48 := s1.new h48
          have hO48 := Row.then hO s48
          have lt6 : ∀ k, At A6 k → k < w4.heap.size := fun k hk => Row.lt hO hk
          refine ⟨by omega, by omega, by omega, [], (l.drop q).flatMap mv, Row.whole h48.blk (Nat.zero_le _) rfl, reads_rest hO48 hq, by omega, by omega, fun A53 C53 w52 h52 hap52 => ?_⟩
          have hat0 : ∀ k, At (some ⟨b47, 0, none⟩) k → w4.heap.size ≤ k := fun k hk => by rw [at_some] at hk; have := h48.at_; have := s1.size; omega
          have s52 : Step NoB w4 w52 := hap52.new s48 fun k hk => .inl (hat0 k hk)
          have hat53 := hap52.at' s48 hat0
          have S52 := s4.then s52
          obtain ⟨b2, hb2, hc2⟩ := RowM.elem (Row.then hR S52.drew) hm
          cases hb2
          refine ⟨by omega, by omega, nilC_in ⟨_, n, c, (hB.then S52).cell rfl, i0, hi, b1, 0, rfl, _, _, _, _, _, _, _, _, hc2, fun b66 w67 h66 => ?_⟩⟩
          replace h66 := h66.undrew
          have hO67 := Row.then (Row.then hO s52) h66.step
          have S67 := S52.new h66
          refine ⟨(l.take q).flatMap mv, mv m, Row.take mv_len hO67 hlo hq, reads_blk h66.blk rfl (mv_one m), by simp only [Int.toNat_natCast]; omega, by simp only [Int.toNat_natCast]; omega, fun A71 C71 w70 h70 hap70 => ?_⟩
          have S70 : Step NoB w w70 := hap70.new S67 fun k hk => .inl (hat k hk)
          have hat71 := hap70.at' S67 hat
          have R53 : Row w70 A53 (0 + (N6 - q)) C53 tMsg 8 ((l.drop q).flatMap mv) := (Row.then (show Row w52 A53 (0 + (N6 - q)) C53 tMsg 8 ((l.drop q).flatMap mv) from h52) h66.step).keep hap70.step fun k hk hc => by have := hat53 k hk; have := lt6 k hc; omega
          refine ⟨_, (l.drop q).flatMap mv, h70, reads_row R53 (mvs_one _), by simp only [Int.toNat_natCast]; omega, by simp only [Int.toNat_natCast]; omega, fun A75 C75 w74 h74 hap74 => ?_⟩
          refine ⟨_, w64 (by omega), ⟨by omega, by omega, hap74.new S70 fun k hk => .inl (hat71 k hk), hap74.at' S70 hat71, insAt l q m, ?_, ins_sorted hs (by omega) hhi hlo', fun ch => ?_⟩, by omega⟩
          · show Row _ _ _ _ _ _ _
            have e : (insAt l q m).flatMap mv = (l.take q).flatMap mv ++ mv m ++ (l.drop q).flatMap mv := by simp [insAt, List.flatMap_append, List.flatMap_cons]
            rw [e]; exact h74
          · rw [ins_rows hhi, hr, e3]
            have e : open_ (Q.take (i.toNat + 1)) = open_ (Q.take i.toNat) ++ [m] := by
              unfold open_
              rw [take_succ_filter hm, hmt]; rfl
            rw [e, row_append]
        refine ⟨fun j w' => ∃ q : Nat, j = q ∧ q ≤ N6 ∧ Step NoB w4 w' ∧ ∀ p, q ≤ p → p < l.length → lt m (el_ l p), fun j _ => j.toNat, ⟨N6, rfl, Nat.le_refl _, Step.refl _ _, fun p h1 h2 => by omega⟩, ?_⟩
        rintro j jk2 w18 ⟨q, rfl, hq, s18, hhi⟩
        refine ifb_intro (fun hj => ?_) (fun hj => ?_)
        · simp only [gt_iff_lt, decide_eq_true_eq] at hj
          have S18 : Step NoB w w18.drew := (s4.then s18).drew
          have hO18 : RowM w18.drew A6 N6 C6 l := Row.then (Row.then hO s18) (Step.refl _ _).drew
          obtain ⟨b3, rfl, hc3⟩ := hO18.at_ (i := q - 1) (by omega)
          have e1 : ((q : Int) - 1).toNat = q - 1 := by omega
          obtain ⟨b2, hb2, hc2⟩ := RowM.elem (Row.then hR S18) hm
          cases hb2
          refine nilC_in ⟨_, n, c, (hB.then S18).cell rfl, i0, hi, b1, 0, rfl, _, _, _, _, _, _, _, _, hc2, _, w64 (by omega), by omega, by omega, b3, 0, rfl, _, _, _, _, _, _, _, _, by rw [e1]; exact hc3, ?_⟩
          refine (refAhead_calls m (el_ l (q - 1)) _).mono ?_
          rintro e w44 ⟨t, rfl, htl, s44⟩
          replace s44 := s44.undrew
          refine ⟨_, rfl, ifb_intro (fun g => ?_) (fun g => ?_)⟩
          · refine ⟨_, w64 (by omega), ⟨q - 1, by omega, by omega, s18.then s44, fun p p1 p2 => ?_⟩, by dsimp only; omega⟩
            by_cases hp : p = q - 1
            · rw [hp]; exact htl.1 g
            · exact hhi p (by omega) p2
          · refine fin q w44 hq (s18.then s44) hhi (.inr fun hlt => ?_)
            rw [htl.2 hlt] at g; cases g
        · simp only [gt_iff_lt, decide_eq_false_iff_not] at hj
          exact fin q _ hq s18.drew hhi (.inl (by omega))
    · simp only [decide_eq_false_iff_not] at hi
      rw [List.take_of_length_le (by omega)] at hr
      exact ⟨A6, N6, C6, l, rfl, hO, hs, hr, hat, s4⟩
  · rintro e w' ⟨v, rfl, A', n', c', l, rfl, h⟩
    exact ⟨A', n', c', l, rfl, h⟩

end Go.Proofs.Ytdaojmkbjkaakaa
