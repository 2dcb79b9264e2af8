/- Contracts: Senders and Left of queues, given that what they sort with sorts. Conditions: those stand as premises. -/
import Derived.Test.YtdaojmkbjkaakaaQf
set_option linter.unusedVariables false
set_option linter.unusedSimpArgs false
namespace Go.Proofs.Ytdaojmkbjkaakaa
open Go.Vc Go.Q13 Go.RowKit

abbrev tInt : TypeId := 3
abbrev RowI (w : World) (A : Option Addr) (n c : Nat) (l : List Int) : Prop := Row w A n c tInt 1 (l.flatMap iv)
theorem RowI.len {w : World} {A : Option Addr} {n c : Nat} {l : List Int} (h : RowI w A n c l) : n = l.length := Row.len iv 1 iv_len h (by omega)
theorem RowI.elem {w : World} {A : Option Addr} {n c : Nat} {l : List Int} (h : RowI w A n c l) {i : Nat} {m : Int} (hi : l[i]? = some m) : ∃ b, A = some ⟨b, 0, none⟩ ∧ w.cell? ⟨b, 0 + i * 1, none⟩ = some (.int .i64 m) := by
  obtain ⟨b, h1, h2⟩ := Row.elem iv 1 iv_len h hi (by rw [h.len]; exact (List.getElem?_eq_some_iff.1 hi).1)
  refine ⟨b, h1, ?_⟩
  have := h2 0 _ rfl
  rw [add_none] at this; exact this
/-- sorting ints -/
def SortsI (zs : List Int) : Prop := ∀ (w : World) (A : Option Addr) (n c : Nat), RowI w A n c zs →
  Calls Try.prog 39 #[.slice A n c] w fun e w' => e = .returned (.tuple #[]) ∧ RowI w' A n c (zs.mergeSort fun x y => decide (x ≤ y)) ∧ Step (At A) w w'
/-- the senders of channels, of those that are asked for -/
def asks (Q : List Msg) (key : ByteArray) (to : Int) (c : Ch) : Bool := decide (c.key = key) && decide (c.to = to) && (row Q c).any fun m => !m.taken
def fromsOf (Q : List Msg) (key : ByteArray) (to : Int) (cs : List Ch) : List Int := (cs.filter (asks Q key to)).map (·.fr)
/-- all channels that have a row, each once -/
def Chans (Q : List Msg) (cs : List Ch) : Prop := cs.Nodup ∧ (∀ c ∈ cs, row Q c ≠ []) ∧ ∀ c, row Q c ≠ [] → c ∈ cs
/-- what Senders tells -/
def sendersL (Q : List Msg) (key : ByteArray) (to : Int) (zs : List Int) : Prop := ∃ cs, Chans Q cs ∧ zs = (fromsOf Q key to cs).mergeSort fun x y => decide (x ≤ y)

theorem nodup_le {α : Type} [DecidableEq α] : ∀ {a b : List α}, a.Nodup → (∀ x ∈ a, x ∈ b) → a.length ≤ b.length
  | [], _, _, _ => Nat.zero_le _
  | x :: a, b, h, hs => by
    rw [List.nodup_cons] at h
    have hx := hs x (List.mem_cons_self ..)
    have := nodup_le (a := a) (b := b.erase x) h.2 (fun y hy => (List.mem_erase_of_ne (fun e => h.1 (by rw [← e]; exact hy))).2 (hs y (List.mem_cons_of_mem _ hy)))
    rw [List.length_erase_of_mem hx] at this
    have := List.length_pos_of_mem hx
    simp only [List.length_cons]
    omega
theorem QR.chans {w : World} {b0 b1 b2 : Nat} {es1 es2 : List MapEntry} {Q : List Msg} (h : QR w b0 b1 b2 es1 es2 Q) {ds : List MapEntry} (hp : ds.Perm es1) {cs : List Ch} (hc : ds.map (·.key) = cs.map kv) : Chans Q cs := by
  have hk : (ds.map (·.key)).Nodup := by
    have : (es1.map (·.key)).Nodup := List.pairwise_map.2 h.m1.uniq
    exact (hp.map _).nodup_iff.2 this
  rw [hc] at hk
  refine ⟨(List.pairwise_map.1 hk).imp fun h e => h (by rw [e]), ?_, ?_⟩
  · intro c hm
    have : kv c ∈ ds.map (·.key) := by rw [hc]; exact List.mem_map_of_mem hm
    obtain ⟨e, he, hek⟩ := List.mem_map.1 this
    obtain ⟨c', A, n, cap, h1, h2, h3, h4⟩ := h.rows e (hp.mem_iff.1 he)
    rw [← kv_inj (h1.symm.trans hek)]; exact h4
  · intro c hr
    obtain ⟨m, hm⟩ := List.exists_mem_of_ne_nil _ hr
    obtain ⟨hm1, hm2⟩ := mem_row.1 hm
    obtain ⟨e, he, hek⟩ := h.has m hm1
    have : e.key ∈ ds.map (·.key) := List.mem_map_of_mem (hp.mem_iff.2 he)
    rw [hc, hek, hm2] at this
    obtain ⟨c', h1, h2⟩ := List.mem_map.1 this
    rw [← kv_inj h2]; exact h1
theorem done_snoc {ds left pre post : List MapEntry} {x : MapEntry} {es : List MapEntry} (hp : (ds ++ left).Perm es) (hl : left = pre ++ x :: post) : (ds ++ [x] ++ (pre ++ post)).Perm es := by
  subst hl
  refine List.Perm.trans ?_ hp
  rw [List.append_assoc]
  refine List.Perm.append_left ds ?_
  exact (List.perm_middle (a := x) (l₁ := pre) (l₂ := post)).symm

theorem QRep.senders_calls {F : Nat → Prop} {w : World} {a : Option Addr} {Q : List Msg} (h : QRep w a Q F) (key : ByteArray) (to : Int) (hQ : Q.length ≤ 1000000000) (hS : ∀ zs : List Int, zs.length ≤ 1000000000 → SortsI zs) :
    Calls Try.prog 17 #[.pointer a, .string key, .int .i64 to] w fun e w' => ∃ A n c zs, e = .returned (.slice A n c) ∧ RowI w' A n c zs ∧ sendersL Q key to zs ∧ (∀ b, At A b → w.heap.size ≤ b) ∧ Step NoB w w' := by
  obtain ⟨b0, b1, b2, es1, es2, rfl, h, hF⟩ := h
  refine (V.queue_Queue_Senders_calls (R := fun v w' => ∃ A n c zs, v = .slice A n c ∧ RowI w' A n c zs ∧ sendersL Q key to zs ∧ (∀ b, At A b → w.heap.size ≤ b) ∧ Step NoB w w') ?_).mono ?_
  · refine (none_calls h).mono ?_
    rintro e w1 ⟨rfl, rfl⟩
    refine ⟨_, rfl, ifb_f (nilC_in ⟨_, h.blk.cell rfl, optC_in ⟨es1, h.m1, fun b w2 h2 => ?_⟩⟩)⟩
    have s2 := (Step.refl NoB _).newI h2
    have hitge : w1.heap.size ≤ b := by rw [h2.at_]; omega
    have hb1 : b1 < w1.heap.size := h.m1.lt
    have hlen : ∀ cs, Chans Q cs → (fromsOf Q key to cs).length ≤ 1000000000 := by
      intro cs hc
      have h1 : (fromsOf Q key to cs).length ≤ cs.length := by unfold fromsOf; rw [List.length_map]; exact List.length_filter_le ..
      have h2 : cs.length ≤ (Q.map (·.ch)).length := by
        refine nodup_le hc.1 ?_
        intro c hcm
        obtain ⟨m, hm⟩ := List.exists_mem_of_ne_nil _ (hc.2.1 c hcm)
        obtain ⟨g1, g2⟩ := mem_row.1 hm
        exact List.mem_map.2 ⟨m, g1, g2⟩
      rw [List.length_map] at h2
      omega
    have hsub : ∀ (ds rest : List MapEntry) (cs : List Ch), (ds ++ rest).Perm es1 → ds.map (·.key) = cs.map kv → (fromsOf Q key to cs).length ≤ 1000000000 := by
      intro ds rest cs hp hk
      obtain ⟨cr, hcr⟩ : ∃ cr : List Ch, rest.map (·.key) = cr.map kv := by
        have : ∀ e ∈ rest, ∃ c, e.key = kv c := fun e he => by
          obtain ⟨c, _, _, _, h1, _⟩ := h.rows e (hp.mem_iff.1 (List.mem_append_right _ he))
          exact ⟨c, h1⟩
        clear hp
        induction rest with
        | nil => exact ⟨[], rfl⟩
        | cons e rest ih =>
          obtain ⟨cr, hcr⟩ := ih (fun e he => this e (List.mem_cons_of_mem _ he))
          obtain ⟨c, hc⟩ := this e (List.mem_cons_self ..)
          exact ⟨c :: cr, by simp [hcr, hc]⟩
      have := hlen (cs ++ cr) (h.chans hp (by rw [List.map_append, List.map_append, hk, hcr]))
      unfold fromsOf at this ⊢
      rw [List.filter_append, List.map_append, List.length_append] at this
      omega
    refine ⟨fun A N C w' => ∃ left cur ds cs, IterAt Try.prog tCh w' b b1 es1 left cur ∧ (ds ++ left).Perm es1 ∧ ds.map (·.key) = cs.map kv ∧ RowI w' A N C (fromsOf Q key to cs) ∧ (∀ k, At A k → w1.heap.size ≤ k) ∧ Step NoB w1 w', fun _ _ _ w' => itLeft w' b, ⟨es1, none, [], [], h2.it, List.Perm.refl _, rfl, Row.nil _ _ _, fun k hk => absurd hk at_none, s2⟩, ?_⟩
    rintro A N C jk w3 ⟨left, cur, ds, cs, hI, hp, hk, hR, hat, s3⟩
    refine ⟨tCh, b1, es1, left, cur, hI, ?_, ?_⟩
    · rintro rfl
      rw [List.append_nil] at hp
      have hc := h.chans hp hk
      refine (hS _ (hlen cs hc) w3 A N C hR).mono ?_
      rintro e w4 ⟨rfl, hR4, s4⟩
      exact ⟨rfl, A, N, C, _, rfl, hR4, ⟨cs, hc, rfl⟩, hat, s3.fresh s4 fun i hi => .inl (hat i hi)⟩
    · intro pre x post w4 hl hI4 hW4
      have hxin : x ∈ es1 := hp.mem_iff.1 (List.mem_append_right _ (by rw [hl]; simp))
      have hp4 := done_snoc hp hl
      obtain ⟨c, B, n, cap, hxk, hxv, hxR, hxr⟩ := h.rows x hxin
      have hk4 : (ds ++ [x]).map (·.key) = (cs ++ [c]).map kv := by rw [List.map_append, List.map_append, hk]; simp [hxk]
      have s4 : Step NoB w1 w4 := s3.wrote hW4 (.inl hitge)
      have hR4 := Row.keep hR hW4.step (fun k hk e => (hI.ne_row hR).1 (e ▸ hk))
      have hcount : left.length = (pre ++ post).length + 1 := by rw [hl]; simp; omega
      refine ⟨tCh, b1, es1, pre ++ post, x, hI4, c.key, c.fr, c.to, hxk, B, n, cap, hxv, ?_⟩
      refine new_set (by simp) rfl fun b5 w5 h5 => ?_
      have s5 := s4.new h5
      refine (contains_calls (cap := []) (fun m => !m.taken) (Row.then (Row.then hxR s4) h5.step) (entersB_out (by kernel_rfl)) (fun m _ w' s => senders1_calls m)).mono ?_
      rintro e w6 ⟨rfl, s6⟩
      have s56 := (Step.refl NoB w4).new h5 |>.then s6
      have hB6 := h5.blk.then s6
      have hI6 := (hI4.then s56)
      have hR6 := Row.then hR4 s56
      have hask : asks Q key to c = ((c.key == key) && ((c.fr == c.fr) && ((c.to == to) && true)) && (row Q c).any fun m => !m.taken) := by
        unfold asks
        have hq' : (c.to == to) = decide (c.to = to) := by rw [Bool.eq_iff_iff]; simp
        simp [ba_beq, hq']
      refine ⟨_, rfl, _, _, _, hB6.all, _, hB6.cell rfl, ?_⟩
      have skip : asks Q key to c = false → (∃ left cur ds cs, IterAt Try.prog tCh w6 b b1 es1 left cur ∧ (ds ++ left).Perm es1 ∧ ds.map (·.key) = cs.map kv ∧ RowI w6 A N C (fromsOf Q key to cs) ∧ (∀ k, At A k → w1.heap.size ≤ k) ∧ Step NoB w1 w6) ∧ itLeft w6 b < itLeft w3 b := by
        intro ha
        refine ⟨⟨pre ++ post, some x, ds ++ [x], cs ++ [c], hI6, hp4, hk4, ?_, hat, s4.then s56⟩, by rw [hI6.count, hI.count]; omega⟩
        have e : fromsOf Q key to (cs ++ [c]) = fromsOf Q key to cs := by unfold fromsOf; simp [ha]
        rw [e]; exact hR6
      refine ifb_intro (fun g1 => ifb_intro (fun g2 => ?_) (fun g2 => ?_)) (fun g1 => ?_)
      · have ha : asks Q key to c = true := by rw [hask, g1, g2]; rfl
        have hfr : fromsOf Q key to (cs ++ [c]) = fromsOf Q key to cs ++ [c.fr] := by
          unfold fromsOf
          rw [List.filter_append, List.filter_cons, ha]
          simp
        refine ⟨_, hB6.cell rfl, fun b7 w7 h7 => ?_⟩
        have hR7 := Row.then hR6 h7.step
        have hN := RowI.len hR7
        have hle := hsub _ _ _ hp4 hk4
        rw [hfr, List.length_append] at hle
        simp only [List.length_singleton] at hle
        refine ⟨_, _, hR7, reads_blk h7.blk rfl (by simp [Value.oneCell']), ?_, by omega, fun A8 C8 w8 h8 hap => ?_⟩
        · have : maxLen = 9223372036854775807 := rfl
          omega
        have hI7 := hI6.then h7.step
        have hn := hI7.ne_row hR7
        have hI8 := hI7.keep hap.step hn.1 hn.2
        refine ⟨⟨pre ++ post, some x, ds ++ [x], cs ++ [c], hI8, hp4, hk4, ?_, hap.at' ((s4.then s56).new h7) hat, hap.new ((s4.then s56).new h7) fun k hk => .inl (hat k hk)⟩, by show itLeft w8 b < itLeft w3 b; rw [hI8.count, hI.count]; omega⟩
        show Row _ _ _ _ _ _ _
        rw [hfr, List.flatMap_append]
        exact h8
      · exact skip (by rw [hask, g1, g2]; rfl)
      · exact skip (by rw [hask, g1]; rfl)
  · rintro e w' ⟨v, rfl, A, n, c, zs, rfl, h⟩
    exact ⟨A, n, c, zs, rfl, h⟩

end Go.Proofs.Ytdaojmkbjkaakaa
