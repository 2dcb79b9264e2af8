/- Contracts: Left of queues, given that what it sorts with sorts. Conditions: those stand as premises. -/
import Derived.Test.YtdaojmkbjkaakaaQg
set_option linter.unusedVariables false
set_option linter.unusedSimpArgs false
namespace Go.Proofs.Ytdaojmkbjkaakaa
open Go.Vc Go.Q13 Go.RowKit

def cmpS (a b : ByteArray) : Int := if Op.bytesLess a.toList b.toList then -1 else if !(Op.bytesLess a.toList b.toList || a.toList == b.toList) then 1 else 0
def cmpI (a b : Int) : Int := if a < b then -1 else if a > b then 1 else 0
def ord (a b : Msg) : Int := if cmpS a.key b.key ≠ 0 then cmpS a.key b.key else if cmpI a.fr b.fr ≠ 0 then cmpI a.fr b.fr else cmpI a.to b.to
/-- sorted by channels, each channel's as they were -/
def SortedBy (l l' : List Msg) : Prop := l'.Pairwise (fun a b => ¬ ord b a < 0) ∧ ∀ c, row l' c = row l c
def SortsM (l : List Msg) : Prop := ∀ (w : World) (A : Option Addr) (n c : Nat), RowM w A n c l →
  Calls Try.prog 35 #[.slice A n c, .func (.func 36) #[] #[]] w fun e w' => e = .returned (.tuple #[]) ∧ ∃ l', RowM w' A n c l' ∧ SortedBy l l' ∧ Step (At A) w w'
/-- what Left tells -/
def leftL (Q l' : List Msg) : Prop := SortedBy (open_ Q) l'

def allOpen (Q : List Msg) (cs : List Ch) : List Msg := cs.flatMap fun c => open_ (row Q c)
theorem allOpen_rows {Q : List Msg} {cs : List Ch} (h : Chans Q cs) (c : Ch) : row (allOpen Q cs) c = row (open_ Q) c := by
  unfold allOpen
  rw [row_flat (g := fun c => open_ (row Q c)) (fun c m hm => (mem_row.1 (List.mem_filter.1 hm).1).2) h.1 c, row_open]
  split
  · rfl
  · rename_i hc
    have : row Q c = [] := Classical.byContradiction fun hr => hc (h.2.2 c hr)
    rw [this]; rfl
theorem allOpen_snoc (Q : List Msg) (cs : List Ch) (c : Ch) : allOpen Q (cs ++ [c]) = allOpen Q cs ++ open_ (row Q c) := by simp [allOpen]

theorem QRep.left_calls {F : Nat → Prop} {w : World} {a : Option Addr} {Q : List Msg} (h : QRep w a Q F) (hQ : Q.length ≤ 1000000000) (hS : ∀ l : List Msg, l.Perm (open_ Q) → SortsM l) :
    Calls Try.prog 14 #[.pointer a] w fun e w' => ∃ A n c l, e = .returned (.slice A n c) ∧ RowM w' A n c l ∧ leftL Q l ∧ (∀ b, At A b → w.heap.size ≤ b) ∧ Step NoB w w' := by
  obtain ⟨b0, b1, b2, es1, es2, rfl, h, hF⟩ := h
  refine (V.queue_Queue_Left_calls (R := fun v w' => ∃ A n c l, v = .slice A n c ∧ RowM w' A n c l ∧ leftL Q l ∧ (∀ b, At A b → w.heap.size ≤ b) ∧ Step NoB w w') ?_).mono ?_
  · refine (none_calls h).mono ?_
    rintro e w1 ⟨rfl, rfl⟩
    refine ⟨_, rfl, ifb_f (nilC_in ⟨_, h.blk.cell rfl, optC_in ⟨es1, h.m1, fun b w2 h2 => ?_⟩⟩)⟩
    have s2 := (Step.refl NoB _).newI h2
    have hitge : w1.heap.size ≤ b := by rw [h2.at_]; omega
    have hb1 : b1 < w1.heap.size := h.m1.lt
    have hsub : ∀ (ds rest : List MapEntry) (cs : List Ch), (ds ++ rest).Perm es1 → ds.map (·.key) = cs.map kv → (allOpen Q cs).length ≤ 1000000000 := by
      intro ds rest cs hp hk
      obtain ⟨cr, hcr⟩ : ∃ cr : List Ch, rest.map (·.key) = cr.map kv := by
        have : ∀ e ∈ rest, ∃ c, e.key = kv c := fun e he => by
          obtain ⟨c, _, _, _, h1, _⟩ := h.rows e (hp.mem_iff.1 (List.mem_append_right _ he))
          exact ⟨c, h1⟩
        clear hp
        induction rest with
        | nil => exact ⟨[], rfl⟩
        | cons e rest ih =>
          obtain ⟨cr, hcr⟩ := ih (fun e he => this e (List.mem_cons_of_mem _ he))
          obtain ⟨c, hc⟩ := this e (List.mem_cons_self ..)
          exact ⟨c :: cr, by simp [hcr, hc]⟩
      have hc := h.chans hp (cs := cs ++ cr) (by rw [List.map_append, List.map_append, hk, hcr])
      have h1 := (perm_of_rows (allOpen_rows hc)).length_eq
      have h2 : (open_ Q).length ≤ Q.length := List.length_filter_le ..
      unfold allOpen at h1 ⊢
      rw [List.flatMap_append, List.length_append] at h1
      omega
    refine ⟨fun A N C w' => ∃ left cur ds cs, IterAt Try.prog tCh w' b b1 es1 left cur ∧ (ds ++ left).Perm es1 ∧ ds.map (·.key) = cs.map kv ∧ RowM w' A N C (allOpen Q cs) ∧ (∀ k, At A k → w1.heap.size ≤ k) ∧ Step NoB w1 w', fun _ _ _ w' => itLeft w' b, ⟨es1, none, [], [], h2.it, List.Perm.refl _, rfl, Row.nil _ _ _, fun k hk => absurd hk at_none, s2⟩, ?_⟩
    rintro A N C jk w3 ⟨left, cur, ds, cs, hI, hp, hk, hR, hat, s3⟩
    refine ⟨fun t w' => if t = true then ∃ pre x post, left = pre ++ x :: post ∧ IterAt Try.prog tCh w' b b1 es1 (pre ++ post) (some x) ∧ Wrote w3 w' b else left = [] ∧ w' = w3, ⟨tCh, b1, es1, left, cur, hI, fun hl => by simp [hl], fun pre x post w4 hl hI4 hW4 => by simp only [if_true]; exact ⟨pre, x, post, hl, hI4, hW4⟩⟩, ?_⟩
    intro t jk' w4 hJ
    refine ifb_intro (fun ht => ?_) (fun ht => ?_)
    · rw [if_pos ht] at hJ
      obtain ⟨pre, x, post, hl, hI4, hW4⟩ := hJ
      have hxin : x ∈ es1 := hp.mem_iff.1 (List.mem_append_right _ (by rw [hl]; simp))
      have hp4 := done_snoc hp hl
      obtain ⟨c, B, n, cap, hxk, hxv, hxR, hxr⟩ := h.rows x hxin
      have hk4 : (ds ++ [x]).map (·.key) = (cs ++ [c]).map kv := by rw [List.map_append, List.map_append, hk]; simp [hxk]
      have s4 : Step NoB w1 w4 := s3.wrote hW4 (.inl hitge)
      have hR4 := Row.keep hR hW4.step (fun k hk e => (hI.ne_row hR).1 (e ▸ hk))
      have hcount : left.length = (pre ++ post).length + 1 := by rw [hl]; simp; omega
      have hn := RowM.len hxR
      have hN := Row.le hxR
      have hle := hsub _ _ _ hp4 hk4
      rw [allOpen_snoc, List.length_append] at hle
      refine ⟨tCh, b1, es1, pre ++ post, x, hI4, c.key, c.fr, c.to, hxk, B, n, cap, hxv, ?_⟩
      refine ⟨fun A N C i w' => 0 ≤ i ∧ i ≤ n ∧ IterAt Try.prog tCh w' b b1 es1 (pre ++ post) (some x) ∧ RowM w' A N C (allOpen Q cs ++ open_ ((row Q c).take i.toNat)) ∧ (∀ k, At A k → w1.heap.size ≤ k) ∧ Step NoB w1 w', fun _ _ _ i _ => (n - i).toNat, ⟨by omega, by omega, hI4, by simpa [open_] using hR4, hat, s4⟩, ?_⟩
      rintro A5 N5 C5 i jk5 w5 ⟨h0, hin, hI5, hR5, hat5, s5⟩
      refine ifb_intro (fun hi => ?_) (fun hi => ?_)
      · simp only [decide_eq_true_eq] at hi
        have hi' : i.toNat < (row Q c).length := by omega
        obtain ⟨m, hm⟩ : ∃ m, (row Q c)[i.toNat]? = some m := ⟨_, List.getElem?_eq_getElem hi'⟩
        obtain ⟨b', rfl, hcl⟩ := RowM.elem (Row.then hxR s5) hm
        refine ⟨h0, hi, b', 0, rfl, _, _, _, _, _, _, _, _, hcl, ?_⟩
        refine new_set (by simp) rfl fun b6 w6 h6 => ?_
        have s6 := s5.new h6
        have e3 : (i + 1).toNat = i.toNat + 1 := by omega
        refine ⟨_, h6.blk.cell rfl, ifb_intro (fun htk => ?_) (fun htk => ?_)⟩
        · refine ⟨_, _, _, _, _, _, _, _, h6.blk.all, fun b7 w7 h7 => ?_⟩
          have s67 := (Step.refl NoB w5).new h6 |>.new h7
          have hR7 := Row.then hR5 s67
          have hI7 := hI5.then s67
          have hl7 := RowM.len hR7
          have hle7 : (open_ ((row Q c).take i.toNat)).length ≤ (row Q c).length := Nat.le_trans (List.length_filter_le ..) (by rw [List.length_take]; omega)
          have hrq : (row Q c).length ≤ Q.length := List.length_filter_le ..
          rw [List.length_append] at hl7
          refine ⟨_, _, hR7, reads_blk h7.blk rfl (mv_one m), ?_, by omega, fun A8 C8 w8 h8 hap => ?_⟩
          · have : maxLen = 9223372036854775807 := rfl
            omega
          · have hne := hI7.ne_row hR7
            refine ⟨_, w64 (by omega), ⟨by omega, by omega, hI7.keep hap.step hne.1 hne.2, ?_, hap.at' (s6.new h7) hat5, hap.new (s6.new h7) fun k hk => .inl (hat5 k hk)⟩, by dsimp only; omega⟩
            show Row _ _ _ _ _ _ _
            rw [e3, show open_ ((row Q c).take (i.toNat + 1)) = open_ ((row Q c).take i.toNat) ++ [m] by unfold open_; rw [take_succ_filter hm, htk, if_pos rfl], ← List.append_assoc, List.flatMap_append, show ([m] : List Msg).flatMap mv = mv m by simp]
            exact h8
        · refine ⟨_, w64 (by omega), ⟨by omega, by omega, hI5.then ((Step.refl NoB w5).new h6), ?_, hat5, s6⟩, by dsimp only; omega⟩
          rw [e3, show open_ ((row Q c).take (i.toNat + 1)) = open_ ((row Q c).take i.toNat) by unfold open_; rw [take_succ_filter hm, htk, if_neg (by simp), List.append_nil]]
          exact Row.then hR5 h6.step
      · simp only [decide_eq_false_iff_not] at hi
        have hin' : i.toNat = (row Q c).length := by omega
        refine ⟨⟨pre ++ post, some x, ds ++ [x], cs ++ [c], hI5, hp4, hk4, ?_, hat5, s5⟩, by dsimp only; rw [hI5.count, hI.count]; omega⟩
        rw [hin', List.take_length] at hR5
        rw [allOpen_snoc]; exact hR5
    · rw [ht, if_neg (by simp)] at hJ
      obtain ⟨rfl, rfl⟩ := hJ
      rw [List.append_nil] at hp
      have hc := h.chans hp hk
      refine (hS _ (perm_of_rows (allOpen_rows hc)) _ A N C hR).mono ?_
      rintro e w5 ⟨rfl, l', hR5, hs, s5⟩
      exact ⟨rfl, A, N, C, l', rfl, hR5, ⟨hs.1, fun c => (hs.2 c).trans (allOpen_rows hc c)⟩, hat, s3.fresh s5 fun i hi => .inl (hat i hi)⟩
  · rintro e w' ⟨v, rfl, A, n, c, zs, rfl, h⟩
    exact ⟨A, n, c, zs, rfl, h⟩

end Go.Proofs.Ytdaojmkbjkaakaa
