/- QueueApart's walk: it returns true and changes nothing that was there. Conditions: the acts are as they come in, the numbers fit their kinds. -/
import Derived.Test.YtdaojmkbjkaakaaQu
set_option linter.unusedVariables false
set_option linter.unusedSimpArgs false
namespace Go.Proofs.Ytdaojmkbjkaakaa
open Go.Vc Go.Q13 Go.RowKit

theorem first_row {Q Q' : List Msg} {c : Ch} (h : row Q' c = row Q c) (tag : Int) : first Q' c tag = first Q c tag := by unfold first; rw [h]
theorem row_send {Q : List Msg} {m : Msg} {c : Ch} (h : m.ch ≠ c) : row (send Q m) c = row Q c := by
  unfold send
  split
  · rfl
  · rw [row_append, show row [m] c = [] by simp [row, h], List.append_nil]
theorem row_take {Q : List Msg} (hu : Uniq Q) {fr call : Int} {x : Msg} (hx : find Q fr call = some x) {c : Ch} (h : x.ch ≠ c) : row (take Q fr call) c = row Q c := by
  unfold take
  split
  · obtain ⟨h1, rfl, rfl⟩ := find_some hx
    rw [row_map (fun m => tick_ch ..), row_mark_ne h1 hu h]
  · rfl
theorem take_none {Q : List Msg} {fr call : Int} (hx : find Q fr call = none) : take Q fr call = Q := by
  unfold take takeE
  rw [hx]; rfl
theorem take_length (Q : List Msg) (fr call : Int) : (take Q fr call).length = Q.length := by unfold take; split <;> simp
theorem send_length (Q : List Msg) (m : Msg) : (send Q m).length ≤ Q.length + 1 := by unfold send; split <;> simp
theorem open_length (Q : List Msg) : (open_ Q).length ≤ Q.length := List.length_filter_le ..

/-- what stands when an act was done -/
def JA (w p : World) (pt : Option Addr) (Q : List Msg) (ch : Ch) (tag : Int) (A : Option Addr) (N C : Nat) (bm bf : Nat) (n : Nat) (w' : World) : Prop :=
  ∃ Q' F' mm, QRep w' pt Q' F' ∧ (∀ k, F' k → w.heap.size ≤ k) ∧ Step NoB w w' ∧ Q'.length ≤ n ∧ Blk w' bm (mv mm) tMsg ∧ Blk w' bf (mv ((first Q ch tag).getD zeroM)) tMsg ∧ RowM w' A N C (open_ (row Q ch)) ∧ (mm.ch ≠ ch → row Q' ch = row Q ch)

theorem queueApart_walk (A1 : Option Addr) (N1 C1 : Nat) (key : ByteArray) (fr to tag : Int) (w : World) (acts : List Act) (hin : InA w A1 N1 acts) (hk : key.size ≤ maxLen) (hf : I64 fr) (ht : I64 to) :
    Calls Try.prog 4 #[.slice A1 N1 C1, .string key, .int .i64 fr, .int .i64 to, .int .i64 tag] w fun e w' => e = .returned (.bool true) ∧ Below w.heap.size w w' := by
  refine (V.dispatcherlaw13_QueueApart_calls (R := fun v w' => v = .bool true ∧ Step NoB w w') ?_).mono ?_
  · refine (awake_calls w).mono ?_
    rintro e w6 ⟨rfl, s6⟩
    refine ⟨_, rfl, ifb_f ?_⟩
    refine (great_calls (hin.then s6)).mono ?_
    rintro e w8 ⟨rfl, rfl⟩
    refine ⟨_, rfl, ifb_intro (fun _ => ⟨rfl, s6⟩) fun hg => ifb_intro (fun _ => ⟨rfl, s6⟩) fun _ => ?_⟩
    have hN : N1 ≤ 200 := by
      have hl := hin.len
      simp only [great, Bool.or_eq_false_iff, decide_eq_false_iff_not] at hg
      omega
    refine (new_calls _).mono ?_
    rintro e w10 ⟨p, F10, rfl, hQ10, hF10, s10⟩
    refine ⟨_, rfl, fun i w' => 0 ≤ i ∧ i ≤ N1 ∧ ∃ Q F, QRep w' p Q F ∧ (∀ k, F k → w.heap.size ≤ k) ∧ Step NoB w w' ∧ Q.length ≤ i.toNat, fun i _ => (N1 - i).toNat, ⟨by omega, by omega, [], F10, hQ10, fun k hk => Nat.le_trans s6.size (hF10 k hk), s6.then s10, by simp⟩, ?_⟩
    rintro i jk w14 ⟨h0, h1, Q, F, hQ, hF, s14, hQl⟩
    refine ifb_intro (fun hi => ?_) (fun hi => ⟨rfl, s14⟩)
    simp only [decide_eq_true_eq] at hi
    obtain ⟨a, b, o, ha, rfl, hcm, hck, hfit, hk0, hk1⟩ := (hin.then s14).get (i := i.toNat) (by omega)
    refine ⟨h0, hi, b, o, rfl, _, _, _, _, _, _, _, _, hcm, ?_⟩
    refine new_set (by simp) rfl fun b27 w31 h27 => ?_
    have s31 := s14.new h27
    let ch : Ch := ⟨key, fr, to⟩
    refine ((hQ.then h27.step).first_calls ch (tag := tag) hk hf ht).mono ?_
    rintro e w32 ⟨rfl, s32⟩
    refine ⟨_, _, _, _, _, _, _, _, _, rfl, ?_⟩
    refine new_set (by simp) rfl fun b42 w46 h42 => ?_
    have S46 := (h27.step.then s32).then h42.step
    refine ((hQ.then S46).left_calls (by omega) fun l hl => sortsM l (by have := hl.length_eq; have := open_length Q; omega)).mono ?_
    rintro e w47 ⟨A48, N48, C48, l, rfl, hR48, hL, hat48, s47⟩
    have hl48 := RowM.len hR48
    have hlo : l.length ≤ 200 := by have := (perm_of_rows hL.2).length_eq; have := open_length Q; omega
    refine ⟨_, _, _, rfl, ?_⟩
    refine (of_calls hR48 ch (by omega)).mono ?_
    rintro e w49 ⟨A50, N50, C50, rfl, hR50, hat50, s49⟩
    rw [hL.2 ch, row_open] at hR50
    refine ⟨_, _, _, rfl, ?_⟩
    have S49 : Step NoB w14 w49 := (S46.then s47).then s49
    have B27 : Blk w49 b27 (mv a.m) tMsg := (((h27.blk.then s32).then h42.step).then s47).then s49
    have B42 : Blk w49 b42 (mv ((first Q ch tag).getD zeroM)) tMsg := (h42.blk.then s47).then s49
    have g27 := h27.ge (Step.refl NoB w14)
    have g42 : w14.heap.size ≤ b42 := h42.ge (h27.step.then s32)
    have l27 := B27.lt
    have l42 := B42.lt
    have hQ49 := hQ.then S49
    have hFlt : ∀ k, F k → k < w14.heap.size := fun k hk => hQ.lt hk
    have T49 : Step NoB w w49 := s14.then S49
    -- the row that 'of' told is new, too
    refine ⟨JA w w14 p Q ch tag A50 N50 C50 b27 b42 (i.toNat + 1), ?_, ?_⟩
    · have hin49 : w49.cell? ⟨b, o + i.toNat * 9, none⟩ = some (.int .u8 a.kind) := cellStep S49 hck
      refine ⟨h0, hi, b, o, rfl, _, hin49, ifb_intro (fun hkd => ?_) (fun hkd => ?_)⟩
      · refine ⟨_, B27.cell rfl, _, B27.cell rfl, ?_⟩
        refine (hQ49.find_calls hfit.2.1 hfit.2.2.2.1).mono ?_
        rintro e w59 ⟨rfl, s59⟩
        refine ⟨_, _, _, _, _, _, _, _, _, rfl, ?_⟩
        refine new_set (by simp) rfl fun b69 w73 h69 => ?_
        have B27' := (B27.then s59).then h69.step
        refine ⟨_, B27'.cell rfl, _, B27'.cell rfl, ?_⟩
        have hQ73 := (hQ49.then s59).then h69.step
        refine (hQ73.take_calls hfit.2.1 hfit.2.2.2.1).mono ?_
        rintro e w76 ⟨rfl, hQ76, s76⟩
        have n27 : ¬ F b27 := fun hc => by have := hFlt _ hc; omega
        have n42 : ¬ F b42 := fun hc => by have := hFlt _ hc; omega
        have g69 : w14.heap.size ≤ b69 := h69.ge (S49.then s59)
        have n69 : ¬ F b69 := fun hc => by have := hFlt _ hc; omega
        have B27'' := B27'.keep s76 n27
        have B42'' := ((B42.then s59).then h69.step).keep s76 n42
        have hR76 : RowM w76 A50 N50 C50 (open_ (row Q ch)) := by
          refine ((Row.then (Row.then hR50 s59) h69.step)).keep s76 fun k hk hc => ?_
          have := hFlt _ hc; have := hat50 k hk; have := (S46.then s47).size; omega
        have T76 : Step NoB w w76 := ((T49.then s59).then h69.step).fresh s76 fun k hk => .inl (hF k hk)
        refine ⟨_, rfl, ifb_intro (fun his => ?_) (fun his => ?_)⟩
        · obtain ⟨x, hx⟩ := Option.isSome_iff_exists.1 his
          refine ⟨_, _, _, _, _, _, _, _, (h69.blk.keep s76 n69).all, _, _, B27'', by rw [mv_len]; omega, fun w88 hu => ?_⟩
          have e : (find Q a.m.fr a.m.call).getD zeroM = x := by rw [hx]; rfl
          have lt46 : b27 < w46.heap.size := (((h27.blk.then s32).then h42.step)).lt
          have ne42 : b42 ≠ b27 := by have := h42.at_; have := (h27.blk.then s32).lt; omega
          refine ⟨take Q a.m.fr a.m.call, F, (find Q a.m.fr a.m.call).getD zeroM, hQ76.keep hu.step (fun k hk e => n27 (e ▸ hk)), hF, T76.upd hu (.inl (Nat.le_trans s14.size g27)), by rw [take_length]; omega, hu.blk, B42''.keep hu.step ne42, ?_, fun hne => ?_⟩
          · refine Row.keep hR76 hu.step fun k hk hc => ?_
            have := hat50 k hk; have := s47.size; omega
          · rw [e] at hne
            exact row_take hQ.uniq hx hne
        · have hx : find Q a.m.fr a.m.call = none := by simpa using his
          refine ⟨take Q a.m.fr a.m.call, F, a.m, hQ76, hF, T76, by rw [take_length]; omega, B27'', B42'', hR76, fun _ => by rw [take_none hx]⟩
      · refine ⟨_, _, _, _, _, _, _, _, B27.all, ?_⟩
        refine (hQ49.send_calls a.m hfit (by omega)).mono ?_
        rintro e w97 ⟨rfl, F', hQ97, s97, hF97⟩
        refine ⟨_, rfl, send Q a.m, F', a.m, hQ97, fun k hk => (hF97 k hk).elim (hF k) (fun h => Nat.le_trans T49.size h), T49.fresh s97 fun k hk => .inl (hF k hk), by have := send_length Q a.m; omega, B27.keep s97 (fun hc => by have := hFlt _ hc; omega), B42.keep s97 (fun hc => by have := hFlt _ hc; omega), ?_, row_send⟩
        refine Row.keep hR50 s97 fun k hk hc => ?_
        have := hFlt _ hc; have := hat50 k hk; have := (S46.then s47).size; omega
    · rintro jk2 w52 ⟨Q', F', mm, hQ52, hF52, s52, hl52, Bm, Bf, hR52, hrow⟩
      refine ⟨fun w' => w' = w52 ∧ mm.ch ≠ ch, ⟨_, Bm.cell rfl, ifb_intro (fun g1 => ?_) (fun g1 => ?_)⟩, ?_⟩
      · refine ⟨_, Bm.cell rfl, ifb_intro (fun g2 => ?_) (fun g2 => ⟨rfl, fun e => by have e2 : mm.fr = fr := congrArg Ch.fr e; rw [e2] at g2; simp at g2⟩)⟩
        refine ⟨_, Bm.cell rfl, ifb_intro (fun g3 => ?_) (fun g3 => ⟨rfl, fun e => by have e2 : mm.to = to := congrArg Ch.to e; rw [e2] at g3; simp at g3⟩)⟩
        exact ⟨_, w64 (by omega), ⟨by omega, by omega, Q', F', hQ52, hF52, s52, by omega⟩, by dsimp only; omega⟩
      · exact ⟨rfl, fun e => by have e2 : mm.key = key := congrArg Ch.key e; rw [e2] at g1; simp at g1⟩
      · rintro jk3 w100 ⟨rfl, hne⟩
        have hr := hrow hne
        refine (hQ52.first_calls ch (tag := tag) hk hf ht).mono ?_
        rintro e w106 ⟨rfl, s106⟩
        rw [first_row hr]
        refine ⟨_, _, _, _, _, _, _, _, _, rfl, ?_⟩
        refine new_set (by simp) rfl fun b116 w120 h116 => ?_
        refine ⟨_, _, _, _, _, _, _, _, ((Bf.then s106).then h116.step).all, _, _, _, _, _, _, _, _, h116.blk.all, ifb_not ?_ (ifb_not (by simp) ?_)⟩
        · have := mEq_iff.2 (rfl : (first Q ch tag).getD zeroM = (first Q ch tag).getD zeroM)
          show (!mEq _ _) = false
          rw [this]; rfl
        · have S120 := s106.then h116.step
          refine ((hQ52.then S120).left_calls (by omega) fun l hl => sortsM l (by have := hl.length_eq; have := open_length Q'; omega)).mono ?_
          rintro e w137 ⟨A138, N138, C138, l', rfl, hR138, hL', _, s137⟩
          have hl138 := RowM.len hR138
          have hlo' : l'.length ≤ 200 := by have := (perm_of_rows hL'.2).length_eq; have := open_length Q'; omega
          refine ⟨_, _, _, rfl, ?_⟩
          refine (of_calls hR138 ch (by omega)).mono ?_
          rintro e w139 ⟨A140, N140, C140, rfl, hR140, _, s139⟩
          rw [hL'.2 ch, row_open, hr] at hR140
          refine ⟨_, _, _, rfl, ?_⟩
          have S139 := (S120.then s137).then s139
          refine (same_calls (Row.then hR52 S139) hR140).mono ?_
          rintro e w141 ⟨rfl, s141⟩
          exact ⟨_, rfl, ifb_not (by simp) ⟨_, w64 (by omega), ⟨by omega, by omega, Q', F', (hQ52.then S139).then s141, hF52, (s52.then S139).then s141, by omega⟩, by dsimp only; omega⟩⟩
  · rintro e w' ⟨v, rfl, rfl, h⟩
    exact ⟨rfl, h.below⟩

end Go.Proofs.Ytdaojmkbjkaakaa
