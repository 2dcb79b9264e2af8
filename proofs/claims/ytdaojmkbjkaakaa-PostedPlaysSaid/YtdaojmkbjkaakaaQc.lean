/- What a queue looks like in the machine, and that it stays so. Conditions: none. -/
import Derived.Test.YtdaojmkbjkaakaaQb
set_option linter.unusedVariables false
set_option linter.unusedSimpArgs false
namespace Go.Proofs.Ytdaojmkbjkaakaa
open Go.Vc Go.Q13 Go.RowKit

def MFit (m : Msg) : Prop := m.key.size ≤ maxLen ∧ I64 m.fr ∧ I64 m.to ∧ I64 m.call ∧ I64 m.tag ∧ I64 m.val ∧ I64 m.size
abbrev RowM (w : World) (A : Option Addr) (n c : Nat) (l : List Msg) : Prop := Row w A n c tMsg 8 (l.flatMap mv)
theorem RowM.len {w : World} {A : Option Addr} {n c : Nat} {l : List Msg} (h : RowM w A n c l) : n = l.length := Row.len mv 8 mv_len h (by omega)
theorem RowM.elem {w : World} {A : Option Addr} {n c : Nat} {l : List Msg} (h : RowM w A n c l) {i : Nat} {m : Msg} (hi : l[i]? = some m) : ∃ b, A = some ⟨b, 0, none⟩ ∧ Cells w ⟨b, 0 + i * 8, none⟩ (mv m) :=
  Row.elem mv 8 mv_len h hi (by rw [h.len]; exact (List.getElem?_eq_some_iff.1 hi).1)

/-- One channel's entry. -/
def EntM (w : World) (Q : List Msg) (e : MapEntry) : Prop := ∃ c A n cap, e.key = kv c ∧ e.val = .slice A n cap ∧ RowM w A n cap (row Q c) ∧ row Q c ≠ []
structure QR (w : World) (b0 b1 b2 : Nat) (es1 es2 : List MapEntry) (Q : List Msg) : Prop where
  blk : Blk w b0 [.map (some b1), .map (some b2)] tQueue
  m1 : MapAt Try.prog tCh w b1 es1
  m2 : MapAt Try.prog tSent w b2 es2
  ne : b1 ≠ b2
  rows : ∀ e ∈ es1, EntM w Q e
  has : ∀ m ∈ Q, ∃ e ∈ es1, e.key = kv m.ch
  apart : ∀ x ∈ es1, ∀ y ∈ es1, x.val.ownBlock = y.val.ownBlock → x.key = y.key
  ats : ∀ e ∈ es2, ∃ m ∈ Q, e.key = sv m.fr m.call ∧ e.val = kv m.ch
  at_ : ∀ m ∈ Q, ∃ e ∈ es2, e.key = sv m.fr m.call
  uniq : Uniq Q
  fit : ∀ m ∈ Q, MFit m
def QF (b0 b1 b2 : Nat) (es1 : List MapEntry) (k : Nat) : Prop := k = b0 ∨ k = b1 ∨ k = b2 ∨ ∃ e ∈ es1, e.val.ownBlock = some k
def QRep (w : World) (a : Option Addr) (Q : List Msg) (F : Nat → Prop) : Prop := ∃ b0 b1 b2 es1 es2, a = some ⟨b0, 0, none⟩ ∧ QR w b0 b1 b2 es1 es2 Q ∧ ∀ k, F k ↔ QF b0 b1 b2 es1 k

theorem ownBlock_at {A : Option Addr} {n c b : Nat} : Value.ownBlock (.slice A n c) = some b ↔ At A b := by cases A <;> simp [Value.ownBlock, At]
theorem EntM.blk {w : World} {Q : List Msg} {e : MapEntry} (h : EntM w Q e) : ∃ b, e.val.ownBlock = some b ∧ b < w.heap.size := by
  obtain ⟨c, A, n, cap, h1, h2, h3, h4⟩ := h
  have hl := h3.len
  rcases h3.out.2 with ⟨_, h0, _⟩ | ⟨b, l, rfl, hb, _⟩
  · exact absurd (List.eq_nil_of_length_eq_zero (by omega)) h4
  · exact ⟨b, by rw [h2]; rfl, hb.lt⟩
theorem EntM.keep {F : Nat → Prop} {w w' : World} {Q : List Msg} {e : MapEntry} (h : EntM w Q e) (s : Step F w w') (hF : ∀ b, e.val.ownBlock = some b → ¬ F b) : EntM w' Q e := by
  obtain ⟨c, A, n, cap, h1, h2, h3, h4⟩ := h
  exact ⟨c, A, n, cap, h1, h2, h3.keep s (fun b hb => hF b (by rw [h2, ownBlock_at]; exact hb)), h4⟩
theorem QR.keep {F : Nat → Prop} {w w' : World} {b0 b1 b2 : Nat} {es1 es2 : List MapEntry} {Q : List Msg} (h : QR w b0 b1 b2 es1 es2 Q) (s : Step F w w') (hF : ∀ k, QF b0 b1 b2 es1 k → ¬ F k) : QR w' b0 b1 b2 es1 es2 Q :=
  ⟨h.blk.keep s (hF _ (.inl rfl)), h.m1.keep s (hF _ (.inr (.inl rfl))), h.m2.keep s (hF _ (.inr (.inr (.inl rfl)))), h.ne, fun e he => (h.rows e he).keep s (fun b hb => hF b (.inr (.inr (.inr ⟨e, he, hb⟩)))), h.has, h.apart, h.ats, h.at_, h.uniq, h.fit⟩
theorem QR.lt {w : World} {b0 b1 b2 : Nat} {es1 es2 : List MapEntry} {Q : List Msg} (h : QR w b0 b1 b2 es1 es2 Q) {k : Nat} (hk : QF b0 b1 b2 es1 k) : k < w.heap.size := by
  rcases hk with rfl | rfl | rfl | ⟨e, he, hb⟩
  · exact h.blk.lt
  · exact h.m1.lt
  · exact h.m2.lt
  · obtain ⟨b, hb', hlt⟩ := (h.rows e he).blk
    rw [hb] at hb'; cases hb'; exact hlt
theorem QR.then {w w' : World} {b0 b1 b2 : Nat} {es1 es2 : List MapEntry} {Q : List Msg} (h : QR w b0 b1 b2 es1 es2 Q) (s : Step NoB w w') : QR w' b0 b1 b2 es1 es2 Q := h.keep s (fun _ _ f => f)
theorem QRep.keep {F G : Nat → Prop} {w w' : World} {a : Option Addr} {Q : List Msg} (h : QRep w a Q F) (s : Step G w w') (hF : ∀ k, F k → ¬ G k) : QRep w' a Q F := by
  obtain ⟨b0, b1, b2, es1, es2, h1, h2, h3⟩ := h
  exact ⟨b0, b1, b2, es1, es2, h1, h2.keep s (fun k hk => hF k ((h3 k).2 hk)), h3⟩
theorem QRep.then {F : Nat → Prop} {w w' : World} {a : Option Addr} {Q : List Msg} (h : QRep w a Q F) (s : Step NoB w w') : QRep w' a Q F := h.keep s (fun _ _ f => f)
theorem QRep.lt {F : Nat → Prop} {w : World} {a : Option Addr} {Q : List Msg} (h : QRep w a Q F) {k : Nat} (hk : F k) : k < w.heap.size := by
  obtain ⟨b0, b1, b2, es1, es2, h1, h2, h3⟩ := h
  exact h2.lt ((h3 k).1 hk)
theorem QRep.live {F : Nat → Prop} {w : World} {a : Option Addr} {Q : List Msg} (h : QRep w a Q F) : a.isNone = false := by
  obtain ⟨b0, b1, b2, es1, es2, rfl, h2, h3⟩ := h
  rfl
theorem QRep.uniq {F : Nat → Prop} {w : World} {a : Option Addr} {Q : List Msg} (h : QRep w a Q F) : Uniq Q := by
  obtain ⟨b0, b1, b2, es1, es2, rfl, h2, h3⟩ := h
  exact h2.uniq

/-- the row of a channel, found in the map -/
theorem QR.look {w : World} {b0 b1 b2 : Nat} {es1 es2 : List MapEntry} {Q : List Msg} (h : QR w b0 b1 b2 es1 es2 Q) (c : Ch) :
    ∃ A n cap, RowM w A n cap (row Q c) ∧ (∀ b, At A b → QF b0 b1 b2 es1 b) ∧
      ((∃ e ∈ es1, e.key = kv c ∧ e.val = .slice A n cap) ∨ ((∀ e ∈ es1, e.key ≠ kv c) ∧ row Q c = [] ∧ A = none ∧ n = 0 ∧ cap = 0)) := by
  by_cases hc : ∃ e ∈ es1, e.key = kv c
  · obtain ⟨e, he, hk⟩ := hc
    obtain ⟨c', A, n, cap, h1, h2, h3, h4⟩ := h.rows e he
    have : c' = c := kv_inj (h1.symm.trans hk)
    subst this
    exact ⟨A, n, cap, h3, fun b hb => .inr (.inr (.inr ⟨e, he, by rw [h2, ownBlock_at]; exact hb⟩)), .inl ⟨e, he, hk, h2⟩⟩
  · have hn : ∀ e ∈ es1, e.key ≠ kv c := fun e he hk => hc ⟨e, he, hk⟩
    have hr : row Q c = [] := by
      rcases hq : row Q c with _ | ⟨m, l⟩
      · rfl
      · have hm : m ∈ row Q c := by rw [hq]; exact List.mem_cons_self ..
        rw [mem_row] at hm
        obtain ⟨e, he, hk⟩ := h.has m hm.1
        exact absurd (by rw [hk, hm.2]) (hn e he)
    exact ⟨none, 0, 0, by rw [hr]; exact Row.nil _ _ _, fun b hb => absurd hb at_none, .inr ⟨hn, hr, rfl, rfl, rfl⟩⟩
theorem QR.lookR {w : World} {b0 b1 b2 : Nat} {es1 es2 : List MapEntry} {Q : List Msg} (h : QR w b0 b1 b2 es1 es2 Q) (c : Ch) :
    ∃ A n cap b, LookR es1 (kv c) (.slice none 0 0) (.slice A n cap) b ∧ RowM w A n cap (row Q c) ∧ (∀ b, At A b → QF b0 b1 b2 es1 b) ∧ (row Q c ≠ [] → ∃ e ∈ es1, e.key = kv c ∧ e.val = .slice A n cap) := by
  obtain ⟨A, n, cap, h1, h2, h3⟩ := h.look c
  rcases h3 with ⟨e, he, hk, hv⟩ | ⟨h4, h5, rfl, rfl, rfl⟩
  · exact ⟨A, n, cap, true, .inl ⟨rfl, e, he, hk, hv⟩, h1, h2, fun _ => ⟨e, he, hk, hv⟩⟩
  · exact ⟨none, 0, 0, false, .inr ⟨rfl, h4, rfl⟩, h1, h2, fun hn => absurd h5 hn⟩
/-- where a sender's call stands -/
theorem QR.atR {w : World} {b0 b1 b2 : Nat} {es1 es2 : List MapEntry} {Q : List Msg} (h : QR w b0 b1 b2 es1 es2 Q) (fr call : Int) :
    ∃ (c : Ch) (b : Bool), LookR es2 (sv fr call) (kv ⟨emptyS, 0, 0⟩) (kv c) b ∧ ((b = true ∧ ∃ m, find Q fr call = some m ∧ m.ch = c ∧ m ∈ Q ∧ m.fr = fr ∧ m.call = call) ∨ (b = false ∧ find Q fr call = none ∧ c = ⟨emptyS, 0, 0⟩)) := by
  by_cases hc : ∃ e ∈ es2, e.key = sv fr call
  · obtain ⟨e, he, hk⟩ := hc
    obtain ⟨m, hm, h1, h2⟩ := h.ats e he
    obtain ⟨h3, h4⟩ := sv_inj (h1.symm.trans hk)
    have hf : find Q fr call = some m := by
      rcases hf : find Q fr call with _ | m'
      · exact absurd ⟨h3, h4⟩ (find_none hf m hm)
      · obtain ⟨a1, a2, a3⟩ := find_some hf
        rw [uniq_eq h.uniq a1 hm (a2.trans h3.symm) (a3.trans h4.symm)]
    exact ⟨m.ch, true, .inl ⟨rfl, e, he, hk, h2⟩, .inl ⟨rfl, m, hf, rfl, hm, h3, h4⟩⟩
  · refine ⟨⟨emptyS, 0, 0⟩, false, .inr ⟨rfl, fun e he hk => hc ⟨e, he, hk⟩, rfl⟩, .inr ⟨rfl, ?_, rfl⟩⟩
    rcases hf : find Q fr call with _ | m'
    · rfl
    · obtain ⟨a1, a2, a3⟩ := find_some hf
      obtain ⟨e, he, hk⟩ := h.at_ m' a1
      exact absurd ⟨e, he, by rw [hk, a2, a3]⟩ hc

theorem EntM.blk2 {w : World} {Q : List Msg} {e : MapEntry} (h : EntM w Q e) : ∃ b l, e.val.ownBlock = some b ∧ Blk w b l tMsg := by
  obtain ⟨c, A, n, cap, h1, h2, h3, h4⟩ := h
  have hl := h3.len
  rcases h3.out.2 with ⟨_, h0, _⟩ | ⟨b, l, rfl, hb, _⟩
  · exact absurd (List.eq_nil_of_length_eq_zero (by omega)) h4
  · exact ⟨b, l, by rw [h2]; rfl, hb⟩
theorem QR.row_ne {w : World} {b0 b1 b2 : Nat} {es1 es2 : List MapEntry} {Q : List Msg} (h : QR w b0 b1 b2 es1 es2 Q) {e : MapEntry} (he : e ∈ es1) {b : Nat} (hb : e.val.ownBlock = some b) : b ≠ b0 ∧ b ≠ b1 ∧ b ≠ b2 := by
  obtain ⟨b', l, h1, h2⟩ := (h.rows e he).blk2
  rw [hb] at h1; cases h1
  refine ⟨?_, (h.m1.ne_blk h2).symm, (h.m2.ne_blk h2).symm⟩
  rintro rfl
  have := h.blk
  unfold Blk at h2 this
  rw [h2] at this
  cases this
theorem mark_uniq {Q : List Msg} (h : Uniq Q) (fr call : Int) : Uniq (Q.map (tick fr call)) := by
  unfold Uniq
  rw [List.pairwise_map]
  exact h.imp fun h => by rw [tick_fr, tick_fr, tick_call, tick_call]; exact h
/-- marking one in its row -/
theorem row_mark {Q : List Msg} (hu : Uniq Q) {m : Msg} {i : Nat} (hi : (row Q m.ch)[i]? = some m) : (row Q m.ch).map (tick m.fr m.call) = (row Q m.ch).set i { m with taken := true } := by
  have hmem : ∀ x ∈ row Q m.ch, x ∈ Q := fun x hx => (mem_row.1 hx).1
  refine List.ext_getElem? fun j => ?_
  rw [List.getElem?_map, List.getElem?_set]
  have hil := (List.getElem?_eq_some_iff.1 hi).1
  by_cases hj : i = j
  · subst hj
    rw [if_pos rfl, if_pos hil, hi]
    simp [tick, is]
  · rw [if_neg hj]
    rcases hx : (row Q m.ch)[j]? with _ | x
    · rfl
    · simp only [Option.map_some, Option.some.injEq]
      unfold tick
      split
      · rename_i hm
        simp only [is, decide_eq_true_eq] at hm
        have hxm : x = m := uniq_eq hu (hmem x (List.mem_of_getElem? hx)) (hmem m (List.mem_of_getElem? hi)) hm.1 hm.2
        subst hxm
        -- two places of one message
        exfalso
        have hp : Uniq (row Q x.ch) := List.Pairwise.filter _ hu
        obtain ⟨hj', hjx⟩ := List.getElem?_eq_some_iff.1 hx
        obtain ⟨hi', hix⟩ := List.getElem?_eq_some_iff.1 hi
        have := List.pairwise_iff_getElem.1 hp
        rcases Nat.lt_or_gt_of_ne hj with hlt | hgt
        · exact this i j hi' hj' hlt (by rw [hix, hjx]; exact ⟨rfl, rfl⟩)
        · exact this j i hj' hi' hgt (by rw [hix, hjx]; exact ⟨rfl, rfl⟩)
      · rfl
theorem row_mark_ne {Q : List Msg} {m : Msg} (hm : m ∈ Q) (hu : Uniq Q) {c : Ch} (hc : m.ch ≠ c) : (row Q c).map (tick m.fr m.call) = row Q c := by
  conv => rhs; rw [← List.map_id (row Q c)]
  refine List.map_congr_left fun x hx => ?_
  obtain ⟨h1, h2⟩ := mem_row.1 hx
  unfold tick
  split
  · rename_i h3
    simp only [is, decide_eq_true_eq] at h3
    exact absurd ((uniq_eq hu h1 hm h3.1 h3.2) ▸ h2) hc
  · rfl
theorem mv_take (m : Msg) : mv { m with taken := true } = (mv m).set 7 (.bool true) := rfl
/-- one is taken -/
theorem QR.took {w w' : World} {b0 b1 b2 : Nat} {es1 es2 : List MapEntry} {Q : List Msg} (h : QR w b0 b1 b2 es1 es2 Q) {m : Msg} {b n c i : Nat} {l : List Value} {e : TypeId} {x : MapEntry} (hx : x ∈ es1) (hk : x.key = kv m.ch) (hv : x.val = .slice (some ⟨b, 0, none⟩) n c)
    (hi : (row Q m.ch)[i]? = some m) (hl : Blk w b l e) (hu : Upd w w' b (l.set (0 + i * 8 + 7) (.bool true)) e) : QR w' b0 b1 b2 es1 es2 (Q.map (tick m.fr m.call)) := by
  have hm : m ∈ Q := (mem_row.1 (List.mem_of_getElem? hi)).1
  have hb : x.val.ownBlock = some b := by rw [hv]; rfl
  obtain ⟨n0, n1, n2⟩ := h.row_ne hx hb
  refine ⟨h.blk.keep hu.step (Ne.symm n0), h.m1.keep hu.step (Ne.symm n1), h.m2.keep hu.step (Ne.symm n2), h.ne, ?_, ?_, h.apart, ?_, ?_, mark_uniq h.uniq _ _, ?_⟩
  · intro y hy
    obtain ⟨c', A, n', cap, h1, h2, h3, h4⟩ := h.rows y hy
    by_cases hc : m.ch = c'
    · subst hc
      have hyx : y = x := key_uniq h.m1.uniq hy hx (h1.trans hk.symm)
      subst hyx
      rw [hv] at h2
      cases h2
      refine ⟨m.ch, _, n, c, hk, hv, ?_, by rw [row_map (fun m => tick_ch ..)]; simpa using h4⟩
      rw [row_map (fun m => tick_ch ..), row_mark h.uniq hi]
      rcases h3.out.2 with ⟨h0, _⟩ | ⟨b', l', h0, hB, hn, hcm, hlen, hxs⟩
      · cases h0
      · cases h0
        have hle : l' = l ∧ tMsg = e := by
          unfold Blk at hB hl
          rw [hB] at hl
          simpa using hl
        obtain ⟨rfl, rfl⟩ := hle
        have := Row.mk' (n := n) (c := c) (k := 8) hu.blk hn hcm (by simpa using hlen)
        rw [List.take_set, hxs, Nat.zero_add, flat_set mv 8 mv_len hi (by omega) (mv_take m)] at this
        exact this
    · refine ⟨c', A, n', cap, h1, h2, ?_, ?_⟩
      · rw [row_map (fun m => tick_ch ..), row_mark_ne hm h.uniq hc]
        refine Row.keep h3 hu.step fun b' hb' heq => ?_
        subst heq
        have := h.apart x hx y hy (by rw [hb, h2, ownBlock_at.2 hb'])
        rw [hk, h1] at this
        exact hc (kv_inj this)
      · rw [row_map (fun m => tick_ch ..)]; simpa using h4
  · intro m' hm'
    obtain ⟨m'', h1, rfl⟩ := List.mem_map.1 hm'
    rw [tick_ch]; exact h.has m'' h1
  · intro y hy
    obtain ⟨m', h1, h2, h3⟩ := h.ats y hy
    exact ⟨tick m.fr m.call m', List.mem_map_of_mem h1, by rw [tick_fr, tick_call]; exact h2, by rw [tick_ch]; exact h3⟩
  · intro m' hm'
    obtain ⟨m'', h1, rfl⟩ := List.mem_map.1 hm'
    rw [tick_fr, tick_call]; exact h.at_ m'' h1
  · intro m' hm'
    obtain ⟨m'', h1, rfl⟩ := List.mem_map.1 hm'
    have := h.fit m'' h1
    unfold tick
    split <;> exact this

/-- one is sent -/
theorem QR.sent {w w' : World} {b0 b1 b2 : Nat} {es1 es2 : List MapEntry} {Q : List Msg} (h : QR w b0 b1 b2 es1 es2 Q) {m : Msg} (hfind : find Q m.fr m.call = none) (hfit : MFit m)
    {pre post : List MapEntry} {x : MapEntry} {A A' : Option Addr} {n' c' t : Nat} (hes : pre ++ x :: post = es1 ∨ (pre = es1 ∧ post = [] ∧ ∀ e ∈ es1, e.key ≠ kv m.ch)) (hx : x.key = kv m.ch)
    (hs : Step (fun k => k = b1 ∨ k = b2 ∨ At A k) w w') (m1 : MapAt Try.prog tCh w' b1 (pre ++ { x with val := .slice A' n' c' } :: post)) (m2 : MapAt Try.prog tSent w' b2 (es2 ++ [⟨sv m.fr m.call, kv m.ch, t⟩]))
    (hrow : RowM w' A' n' c' (row Q m.ch ++ [m])) (hA : ∀ b, At A b → ∃ e ∈ es1, e.key = kv m.ch ∧ e.val.ownBlock = some b) (hA' : ∀ b, At A' b → At A b ∨ w.heap.size ≤ b) :
    QR w' b0 b1 b2 (pre ++ { x with val := .slice A' n' c' } :: post) (es2 ++ [⟨sv m.fr m.call, kv m.ch, t⟩]) (Q ++ [m]) ∧ ∀ k, QF b0 b1 b2 (pre ++ { x with val := .slice A' n' c' } :: post) k → QF b0 b1 b2 es1 k ∨ w.heap.size ≤ k := by
  have hin : ∀ y, y ∈ pre ∨ y ∈ post → y ∈ es1 := by
    rcases hes with rfl | ⟨rfl, rfl, _⟩
    · simp only [List.mem_append, List.mem_cons]; rintro y (hy | hy) <;> simp [hy]
    · rintro y (hy | hy)
      · exact hy
      · cases hy
  have hne : ∀ y, y ∈ pre ∨ y ∈ post → y.key ≠ kv m.ch := by
    intro y hy he
    have hp := m1.uniq
    rw [List.pairwise_append, List.pairwise_cons] at hp
    rcases hy with hy | hy
    · exact hp.2.2 y hy _ (List.mem_cons_self ..) (he.trans hx.symm)
    · exact hp.2.1.1 y hy (hx.trans he.symm)
  have hsplit : ∀ y ∈ pre ++ { x with val := .slice A' n' c' } :: post, y = { x with val := .slice A' n' c' } ∨ (y ∈ pre ∨ y ∈ post) := by
    intro y hy
    simp only [List.mem_append, List.mem_cons] at hy
    rcases hy with hy | rfl | hy
    · exact .inr (.inl hy)
    · exact .inl rfl
    · exact .inr (.inr hy)
  have hback : ∀ y, y ∈ pre ∨ y ∈ post → y ∈ pre ++ { x with val := Value.slice A' n' c' } :: post := by
    simp only [List.mem_append, List.mem_cons]; rintro y (hy | hy) <;> simp [hy]
  have hA0 : ∀ b, At A b → b ≠ b0 ∧ b ≠ b1 ∧ b ≠ b2 := fun b hb => by
    obtain ⟨e, he, _, hb'⟩ := hA b hb
    exact h.row_ne he hb'
  have hfar : ∀ y, y ∈ pre ∨ y ∈ post → ∀ b, y.val.ownBlock = some b → ¬ (b = b1 ∨ b = b2 ∨ At A b) := by
    intro y hy b hb hc
    obtain ⟨_, g1, g2⟩ := h.row_ne (hin y hy) hb
    rcases hc with hc | hc | hc
    · exact g1 hc
    · exact g2 hc
    · obtain ⟨e, he, hek, heb⟩ := hA b hc
      exact hne y hy ((h.apart y (hin y hy) e he (hb.trans heb.symm)).trans hek)
  refine ⟨⟨?_, m1, m2, h.ne, ?_, ?_, ?_, ?_, ?_, ?_, ?_⟩, ?_⟩
  · refine h.blk.keep hs ?_
    rintro (hc | hc | hc)
    · exact (h.m1.ne_blk h.blk) hc.symm
    · exact (h.m2.ne_blk h.blk) hc.symm
    · exact (hA0 _ hc).1 rfl
  · intro y hy
    rcases hsplit y hy with rfl | hy
    · refine ⟨m.ch, A', n', c', hx, rfl, ?_, ?_⟩
      · rw [row_append, show row [m] m.ch = [m] by simp [row]]; exact hrow
      · rw [row_append, show row [m] m.ch = [m] by simp [row]]; simp
    · obtain ⟨c, B, n, cap, h1, h2, h3, h4⟩ := h.rows y (hin y hy)
      have hc : m.ch ≠ c := fun hc => hne y hy (by rw [h1, hc])
      refine ⟨c, B, n, cap, h1, h2, ?_, ?_⟩
      · rw [row_append, show row [m] c = [] by simp [row, hc], List.append_nil]
        exact Row.keep h3 hs fun b hb => hfar y hy b (by rw [h2]; exact ownBlock_at.2 hb)
      · rw [row_append]; simp [h4]
  · intro m' hm'
    simp only [List.mem_append, List.mem_singleton] at hm'
    by_cases hc : m'.ch = m.ch
    · exact ⟨_, List.mem_append_right _ (List.mem_cons_self ..), by rw [hc]; exact hx⟩
    · rcases hm' with hm' | rfl
      · obtain ⟨e, he, hek⟩ := h.has m' hm'
        have : e ∈ pre ∨ e ∈ post := by
          rcases hes with rfl | ⟨rfl, rfl, _⟩
          · simp only [List.mem_append, List.mem_cons] at he
            rcases he with he | rfl | he
            · exact .inl he
            · rw [hx] at hek; exact absurd (kv_inj hek).symm hc
            · exact .inr he
          · exact .inl he
        exact ⟨e, hback e this, hek⟩
      · exact absurd rfl hc
  · have key : ∀ y, y ∈ pre ∨ y ∈ post → y.val.ownBlock ≠ Value.ownBlock (.slice A' n' c') := by
      intro y hy he
      obtain ⟨b, hb, hlt⟩ := (h.rows y (hin y hy)).blk
      rw [hb] at he
      rcases hA' b (ownBlock_at.1 he.symm) with hc | hc
      · exact hfar y hy b hb (.inr (.inr hc))
      · omega
    intro y hy z hz he
    rcases hsplit y hy with rfl | hy' <;> rcases hsplit z hz with rfl | hz'
    · rfl
    · exact absurd he.symm (key z hz')
    · exact absurd he (key y hy')
    · exact h.apart y (hin y hy') z (hin z hz') he
  · intro e he
    simp only [List.mem_append, List.mem_singleton] at he
    rcases he with he | rfl
    · obtain ⟨m', h1, h2⟩ := h.ats e he
      exact ⟨m', List.mem_append_left _ h1, h2⟩
    · exact ⟨m, by simp, rfl, rfl⟩
  · intro m' hm'
    simp only [List.mem_append, List.mem_singleton] at hm'
    rcases hm' with hm' | rfl
    · obtain ⟨e, h1, h2⟩ := h.at_ m' hm'
      exact ⟨e, List.mem_append_left _ h1, h2⟩
    · exact ⟨_, List.mem_append_right _ (List.mem_singleton_self _), rfl⟩
  · unfold Uniq
    rw [List.pairwise_append]
    exact ⟨h.uniq, by simp, fun a ha b hb => by rw [List.mem_singleton.1 hb]; exact find_none hfind a ha⟩
  · intro m' hm'
    simp only [List.mem_append, List.mem_singleton] at hm'
    rcases hm' with hm' | rfl
    · exact h.fit m' hm'
    · exact hfit
  · rintro k (rfl | rfl | rfl | ⟨e, he, hb⟩)
    · exact .inl (.inl rfl)
    · exact .inl (.inr (.inl rfl))
    · exact .inl (.inr (.inr (.inl rfl)))
    · rcases hsplit e he with rfl | he
      · rcases hA' k (ownBlock_at.1 hb) with hc | hc
        · obtain ⟨e', h1, _, h2⟩ := hA k hc
          exact .inl (.inr (.inr (.inr ⟨e', h1, h2⟩)))
        · exact .inr hc
      · exact .inl (.inr (.inr (.inr ⟨e, hin e he, hb⟩)))

end Go.Proofs.Ytdaojmkbjkaakaa
