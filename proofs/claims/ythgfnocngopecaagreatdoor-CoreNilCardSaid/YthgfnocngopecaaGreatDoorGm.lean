/- The session's verification conditions, part 4: maps, and 'opW_sound': what 'opW' asks is enough. Conditions: those of each lemma. -/
import Derived.Test.YthgfnocngopecaaGreatDoorGs
set_option linter.unusedVariables false
set_option linter.unusedSimpArgs false
namespace Go.Vc
open Go.RowKit Go.Maps

variable {P : Program}

theorem MOk.nil (P : Program) (k : TypeId) (clk : Nat) : MOk P k [] clk := ⟨by simp, by simp, by simp, by simp⟩

theorem run_getObj {w : World} {r : Nat} {es : Array MapEntry} {clk : Nat} (h : w.heap[r]? = some (.map es clk)) : (getObj r).run P w = .ok (.map es clk) w := by
  simp [getObj, Sem.run, h]
theorem run_setObj {w : World} {r : Nat} {es : Array MapEntry} {clk : Nat} (h : w.heap[r]? = some (.map es clk)) (o : Obj) : (setObj r o).run P w = .ok () { w with heap := w.heap.setIfInBounds r o } := by
  simp [setObj, Sem.run, h]

theorem wrote_setObj {w : World} {r : Nat} {es : Array MapEntry} {clk : Nat} (h : w.heap[r]? = some (.map es clk)) (o : Obj) : Wrote w { w with heap := w.heap.setIfInBounds r o } r ∧ ({ w with heap := w.heap.setIfInBounds r o } : World).heap[r]? = some o := by
  have hlt : r < w.heap.size := (Array.getElem?_eq_some_iff.1 h).1
  refine ⟨⟨⟨rfl, rfl, rfl, by simp, fun k hk hn => ?_⟩, by simp⟩, by simp [hlt]⟩
  show (w.heap.setIfInBounds r o)[k]? = _
  rw [Array.getElem?_setIfInBounds_ne (fun e => hn e.symm)]

theorem uniq_key {es : List MapEntry} (h : es.Pairwise (fun a b => a.key ≠ b.key)) {x y : MapEntry} (hx : x ∈ es) (hy : y ∈ es) (e : x.key = y.key) : x = y := by
  induction es with
  | nil => cases hx
  | cons a es ih =>
    rw [List.pairwise_cons] at h
    rcases List.mem_cons.1 hx with hx' | hx' <;> rcases List.mem_cons.1 hy with hy' | hy'
    · rw [hx', hy']
    · rw [hx'] at e; exact absurd e (h.1 _ hy')
    · rw [hy'] at e; exact absurd e.symm (h.1 _ hx')
    · exact ih h.2 hx' hy'

theorem find_look {k : TypeId} (K : Keyed P k) {key : Value} (hk : ∃ l, keyOf P k key = some l) {es : List MapEntry} {clk : Nat} (hM : MOk P k es clk) {z v : Value} {b : Bool} (hL : LookR es key z v b) (w : World) :
    (b = false ∧ (Instr.findKey k key es).run P w = .ok none w ∧ (∀ e ∈ es, e.key ≠ key) ∧ v = z) ∨
    (b = true ∧ ∃ j e, (Instr.findKey k key es).run P w = .ok (some (j, v)) w ∧ es[j]? = some e ∧ e.key = key ∧ e.val = v) := by
  obtain ⟨l, hl⟩ := hk
  rcases K.find w hl es (fun e he => hM.1 e he) with ⟨hr, hn⟩ | ⟨j, e, hr, hj, he⟩
  · rcases hL with ⟨rfl, x, hx, hxk, _⟩ | ⟨rfl, hn', rfl⟩
    · exact absurd hxk (hn x hx)
    · exact .inl ⟨rfl, hr, hn, rfl⟩
  · rcases hL with ⟨rfl, x, hx, hxk, rfl⟩ | ⟨rfl, hn', rfl⟩
    · have hmem : e ∈ es := List.mem_of_getElem? hj
      have := uniq_key hM.2.1 hx hmem (by rw [hxk, he])
      subst this
      exact .inr ⟨rfl, j, x, hr, hj, he, rfl⟩
    · exact absurd he (hn' e (List.mem_of_getElem? hj))

theorem optC_some {p : Option Nat} {Φ : Nat → Prop} (h : optC p False Φ) : ∃ r, p = some r ∧ Φ r := by
  cases p with
  | none => exact h.elim
  | some r => exact ⟨r, rfl, h⟩

theorem look_reads {t : TypeId} {m key : Value} {ok : Bool} {w : World} {next : Nxt} (h : lookW P t m key ok w next) :
    ∃ v, next v w ∧ ∀ w', (∀ r, m = .map (some r) → w'.heap[r]? = w.heap[r]?) → (Instr.lookup t m key ok).run P w' = .ok v w' := by
  unfold lookW at h
  split at h
  · rename_i k e p hu
    obtain ⟨K, hk, h⟩ := h
    split at h
    · rename_i i sh hi hs
      split at h
      · rename_i z hz
        obtain ⟨l, hl⟩ := hk
        obtain ⟨es, hes, h⟩ := h
        obtain ⟨v, b, hL, hq⟩ := Sh.ex_out h
        refine ⟨if ok then .tuple #[v, .bool b] else v, by cases ok <;> exact hq, fun w' hw => ?_⟩
        cases p with
        | none =>
          have hes : es = [] := hes
          subst hes
          obtain ⟨rfl, rfl⟩ : b = false ∧ v = z := by
            rcases hL with ⟨_, x, hx, _⟩ | ⟨h1, _, h2⟩
            · cases hx
            · exact ⟨h1, h2⟩
          have hc := K.check w' true hl
          have hf : (Instr.findKey k key []).run P w' = .ok none w' := by
            rcases K.find w' hl [] (by simp) with ⟨hr, _⟩ | ⟨j, e, _, hj, _⟩
            · exact hr
            · simp at hj
          cases ok <;> simp [Instr.lookup, run_underlying hu, hc, hf, run_zeroValue hi hz]
        | some r =>
          obtain ⟨clk, hb, hM⟩ := hes
          have hb' : w'.heap[r]? = some (.map es.toArray clk) := (hw r rfl).trans hb
          have hc := K.check w' es.toArray.isEmpty hl
          rcases find_look K ⟨l, hl⟩ hM hL w' with ⟨rfl, hf, _, rfl⟩ | ⟨rfl, j, e, hf, _⟩
          · cases ok <;>
            · simp [Instr.lookup, run_underlying hu, run_getObj hb'] at hc ⊢
              simp [hc, hf, run_zeroValue hi hz]
          · cases ok <;>
            · simp [Instr.lookup, run_underlying hu, run_getObj hb'] at hc ⊢
              simp [hc, hf]
      · exact h.elim
    · exact h.elim
  · exact h.elim
theorem look_sound {t : TypeId} {m key : Value} {ok : Bool} {w : World} {next : Nxt} (h : lookW P t m key ok w next) : RunsV P (Instr.lookup t m key ok) w next := by
  obtain ⟨v, hn, hr⟩ := look_reads h
  exact ⟨v, w, hr w (fun _ _ => rfl), hn⟩

theorem split_at {es : List MapEntry} {j : Nat} {e : MapEntry} (h : es[j]? = some e) (f : MapEntry → MapEntry) : ∃ pre post, es = pre ++ e :: post ∧ pre.length = j ∧ (es.toArray.modify j f) = (pre ++ f e :: post).toArray := by
  have hlt := (List.getElem?_eq_some_iff.1 h).1
  refine ⟨es.take j, es.drop (j + 1), ?_, by rw [List.length_take]; omega, ?_⟩
  · have : es[j] = e := (List.getElem?_eq_some_iff.1 h).2
    rw [← this]; simp
  · apply Array.ext'
    simp only [Array.toList_modify]
    rw [List.modify_eq_take_cons_drop hlt]
    congr 2
    rw [(List.getElem?_eq_some_iff.1 h).2]

theorem MOk.setVal {k : TypeId} {pre post : List MapEntry} {x : MapEntry} {clk : Nat} (h : MOk P k (pre ++ x :: post) clk) (v : Value) : MOk P k (pre ++ { x with val := v } :: post) clk := by
  obtain ⟨h1, h2, h3, h4⟩ := h
  refine ⟨?_, ?_, ?_, ?_⟩
  · intro e he
    rcases List.mem_append.1 he with he | he
    · exact h1 e (by simp [he])
    · rcases List.mem_cons.1 he with rfl | he
      · exact h1 x (by simp)
      · exact h1 e (by simp [he])
  · rw [List.pairwise_append, List.pairwise_cons] at h2 ⊢
    refine ⟨h2.1, ⟨fun b hb => h2.2.1.1 b hb, h2.2.1.2⟩, fun a ha b hb => ?_⟩
    rcases List.mem_cons.1 hb with rfl | hb
    · exact h2.2.2 a ha x (by simp)
    · exact h2.2.2 a ha b (by simp [hb])
  · intro e he
    rcases List.mem_append.1 he with he | he
    · exact h3 e (by simp [he])
    · rcases List.mem_cons.1 he with rfl | he
      · exact h3 x (by simp)
      · exact h3 e (by simp [he])
  · rw [List.pairwise_append, List.pairwise_cons] at h4 ⊢
    refine ⟨h4.1, ⟨fun b hb => h4.2.1.1 b hb, h4.2.1.2⟩, fun a ha b hb => ?_⟩
    rcases List.mem_cons.1 hb with rfl | hb
    · exact h4.2.2 a ha x (by simp)
    · exact h4.2.2 a ha b (by simp [hb])

theorem MOk.snoc {k : TypeId} {es : List MapEntry} {clk : Nat} (h : MOk P k es clk) {key v : Value} (hk : ∃ l, keyOf P k key = some l) (hn : ∀ x ∈ es, x.key ≠ key) : MOk P k (es ++ [⟨key, v, clk⟩]) (clk + 1) := by
  obtain ⟨h1, h2, h3, h4⟩ := h
  refine ⟨?_, ?_, ?_, ?_⟩
  · intro e he
    rcases List.mem_append.1 he with he | he
    · exact h1 e he
    · obtain rfl := List.mem_singleton.1 he; exact hk
  · rw [List.pairwise_append]
    exact ⟨h2, by simp, fun a ha b hb => by obtain rfl := List.mem_singleton.1 hb; exact hn a ha⟩
  · intro e he
    rcases List.mem_append.1 he with he | he
    · have := h3 e he; omega
    · obtain rfl := List.mem_singleton.1 he; simp
  · rw [List.pairwise_append]
    exact ⟨h4, by simp, fun a ha b hb => by obtain rfl := List.mem_singleton.1 hb; have := h3 a ha; simp; omega⟩

theorem find_any {k : TypeId} (K : Keyed P k) {key : Value} (hk : ∃ l, keyOf P k key = some l) {es : List MapEntry} {clk : Nat} (hM : MOk P k es clk) (w : World) :
    ((Instr.findKey k key es).run P w = .ok none w ∧ (∀ e ∈ es, e.key ≠ key)) ∨
    (∃ j e, (Instr.findKey k key es).run P w = .ok (some (j, e.val)) w ∧ es[j]? = some e ∧ e.key = key) := by
  obtain ⟨l, hl⟩ := hk
  exact K.find w hl es (fun e he => hM.1 e he)

theorem upd_sound {t : TypeId} {m key v : Value} {w : World} {next : World → Prop} (h : updW P t m key v w next) : RunsU P (Instr.mapUpdate t m key v) w next := by
  unfold updW at h
  split at h
  · rename_i k e p hu
    obtain ⟨K, hk, h⟩ := h
    obtain ⟨r, rfl, es, ⟨clk, hb, hM⟩, h⟩ := optC_some h
    obtain ⟨l, hl⟩ := hk
    have hc := K.check w false hl
    rcases find_any K ⟨l, hl⟩ hM w with ⟨hf, hn⟩ | ⟨j, x, hf, hj, hx⟩
    · obtain ⟨hw, hnew⟩ := wrote_setObj hb (.map (es.toArray.push { key, val := v, born := clk }) (clk + 1))
      refine ⟨_, ?_, h _ (es ++ [⟨key, v, clk⟩]) (.inr ⟨hn, _, rfl⟩) ⟨clk + 1, ?_, hM.snoc ⟨l, hl⟩ hn⟩ hw⟩
      · simp [Instr.mapUpdate, run_underlying hu, run_getObj hb, hc, hf, run_setObj hb]
      · rw [hnew]; simp
    · have hst := K.stays w hl
      obtain ⟨pre, post, rfl, rfl, hmod⟩ := split_at hj (fun e => { e with key := key, val := v })
      have hxk : ({ x with key := key, val := v } : MapEntry) = { x with val := v } := by rw [← hx]
      rw [hxk] at hmod
      obtain ⟨hw, hnew⟩ := wrote_setObj hb (.map ((pre ++ { x with val := v } :: post).toArray) clk)
      refine ⟨_, ?_, h _ _ (.inl ⟨pre, x, post, rfl, hx, rfl⟩) ⟨clk, hnew, hM.setVal v⟩ hw⟩
      have hkey : (Option.map (fun x => x.key) (pre ++ x :: post)[pre.length]?).getD key = key := by rw [hj]; simp [hx]
      have hkey' : (Option.map (fun x => x.key) (pre ++ x :: post).toArray[pre.length]?).getD key = key := by rw [List.getElem?_toArray]; exact hkey
      simp only [Instr.mapUpdate, Sem.run_bind, run_underlying hu, Result.andThen_ok, run_getObj hb, hc, hf, hkey', hst, hmod, run_setObj hb]
  · exact h.elim

theorem ent_sound {t : TypeId} {m key : Value} {w : World} {next : Nxt} (h : entW P t m key w next) : RunsV P (Instr.mapEntry t m key) w next := by
  unfold entW at h
  split at h
  · rename_i k e p hu
    obtain ⟨K, hk, h⟩ := h
    split at h
    · rename_i i sh hi hs
      split at h
      · rename_i z hz
        obtain ⟨r, rfl, es, ⟨clk, hb, hM⟩, h⟩ := optC_some h
        obtain ⟨l, hl⟩ := hk
        obtain ⟨v, b, hL, h⟩ := Sh.ex_out h
        have hc := K.check w false hl
        rcases find_look K ⟨l, hl⟩ hM hL w with ⟨rfl, hf, hn, rfl⟩ | ⟨rfl, j, x, hf, hj, hx, rfl⟩
        · obtain ⟨hw, hnew⟩ := wrote_setObj hb (.map (es.toArray.push { key, val := v, born := clk }) (clk + 1))
          refine ⟨_, _, ?_, h _ (es ++ [⟨key, v, clk⟩]) clk (.inr ⟨hn, clk, rfl, rfl⟩) ⟨clk + 1, ?_, hM.snoc ⟨l, hl⟩ hn⟩ hw⟩
          · simp [Instr.mapEntry, run_underlying hu, run_getObj hb, hc, hf, run_zeroValue hi hz, run_setObj hb, goInt]
          · rw [hnew]; simp
        · have hst := K.stays w hl
          obtain ⟨pre, post, rfl, rfl, hmod⟩ := split_at hj (fun e => { e with key := key })
          have hxk : ({ x with key := key } : MapEntry) = x := by rw [← hx]
          rw [hxk] at hmod
          obtain ⟨hw, hnew⟩ := wrote_setObj hb (.map ((pre ++ x :: post).toArray) clk)
          refine ⟨_, _, ?_, h _ _ x.born (.inl ⟨⟨x, by simp, hx, rfl⟩, rfl⟩) ⟨clk, hnew, hM⟩ hw⟩
          have hkey' : (Option.map (fun x => x.key) (pre ++ x :: post).toArray[pre.length]?).getD key = key := by rw [List.getElem?_toArray, hj]; simp [hx]
          simp only [Instr.mapEntry, Sem.run_bind, run_underlying hu, Result.andThen_ok, run_getObj hb, hc, hf, hkey', hst, hmod, run_setObj hb, Sem.run_pure, goInt]
          rw [List.getElem?_toArray, hj]
          rfl
      · exact h.elim
    · exact h.elim
  · exact h.elim

theorem entSt_sound {t : TypeId} {m s v : Value} {w : World} {next : World → Prop} (h : entStW P t m s v w next) : RunsU P (Instr.entryStore t m s v) w next := by
  unfold entStW at h
  split at h
  · rename_i k e p s hu
    obtain ⟨r, rfl, pre, x, post, ⟨clk, hb, hM⟩, rfl, hq⟩ := optC_some h
    have hfind : (pre ++ x :: post).toArray.findIdx? (fun e => (e.born : Int) == (x.born : Int)) = some pre.length := by
      rw [List.findIdx?_toArray, List.findIdx?_append]
      have hpre : pre.findIdx? (fun e => (e.born : Int) == (x.born : Int)) = none := by
        rw [List.findIdx?_eq_none_iff]
        intro y hy
        have := hM.2.2.2
        rw [List.pairwise_append] at this
        have := this.2.2 y hy x (by simp)
        simp; omega
      rw [hpre]
      simp [List.findIdx?_cons]
    have hj : (pre ++ x :: post)[pre.length]? = some x := by simp
    obtain ⟨pre', post', he, hl, hmod⟩ := split_at hj (fun e => { e with val := v })
    obtain ⟨rfl, h2⟩ := List.append_inj he hl.symm
    cases h2
    obtain ⟨hw, hnew⟩ := wrote_setObj hb (.map ((pre ++ { x with val := v } :: post).toArray) clk)
    refine ⟨_, ?_, hq _ ⟨clk, hnew, hM.setVal v⟩ hw⟩
    simp only [Instr.entryStore, Sem.run_bind, run_getObj hb, Result.andThen_ok, asInt, asIntOf, Sem.run_pure, hfind, hmod, run_setObj hb]
  · exact h.elim

/-! ### range -/
theorem range_sound {t : TypeId} {m : Value} {w : World} {next : Nxt} (h : rangeW P t m w next) : RunsV P (Instr.range t m) w next := by
  unfold rangeW at h
  split at h
  · rename_i k e p hu
    obtain ⟨r, rfl, es, ⟨clk, hb, hM⟩, hq⟩ := optC_some h
    have hne : r ≠ w.heap.size := fun e => by have := (Array.getElem?_eq_some_iff.1 hb).1; omega
    refine ⟨_, w.alloc (.mapIter (some r) clk #[] clk), ?_, hq w.heap.size _ ⟨rfl, ⟨rfl, rfl, rfl, by simp, fun k hk _ => Below.heap_alloc _ _ _ hk⟩, ⟨clk, #[], clk, ?_, ?_, hM, ?_, rfl, trivial⟩, by simp⟩⟩
    · simp only [Instr.range, Sem.run_bind, run_underlying hu, Result.andThen_ok, run_getObj hb, Sem.run_pure]
      rfl
    · show (w.heap.push _)[w.heap.size]? = _
      simp
    · rw [Below.heap_alloc _ _ _ (Array.getElem?_eq_some_iff.1 hb).1]; exact hb
    · exact (List.filter_eq_self.2 (by simp)).symm
  · exact h.elim

theorem run_getIter {w : World} {b : Nat} {r : Option Nat} {since last : Nat} {seen : Array Nat} (h : w.heap[b]? = some (.mapIter r since seen last)) : (getObj b).run P w = .ok (.mapIter r since seen last) w := by
  simp [getObj, Sem.run, h]
theorem run_setIter {w : World} {b : Nat} {r : Option Nat} {since last : Nat} {seen : Array Nat} (h : w.heap[b]? = some (.mapIter r since seen last)) (o : Obj) : (setObj b o).run P w = .ok () { w with heap := w.heap.setIfInBounds b o } := by
  simp [setObj, Sem.run, h]

theorem run_choose (q : Question) (w : World) : (choose q).run P w = if q.forced = true then .ok 0 w else .ok (q.cut (w.tape w.drawn q)) { w with drawn := w.drawn + 1 } := by
  unfold choose
  simp only [Sem.run]

theorem next_sound {it : Value} {isS : Bool} {ty : TypeId} {w : World} {next : Nxt} (h : nextW P it isS w next) : RunsV P (Instr.next it isS ty) w next := by
  unfold nextW at h
  split at h
  · rename_i b
    obtain ⟨k, r, es, left, cur, ⟨clk0, seen, clk, hit, hb, hM, hleft, rfl, hcur⟩, h0, h1⟩ := h
    have hbr : b ≠ r := fun e => by subst e; rw [hit] at hb; cases hb
    have hall : ¬ ((!seen.isEmpty && !es.toArray.isEmpty && es.toArray.all (fun x => decide (x.born ≥ clk))) = true) := by
      simp only [Bool.and_eq_true, Bool.not_eq_true', not_and]
      intro ⟨_, hne⟩ hall
      rw [List.all_toArray, List.all_eq_true] at hall
      cases es with
      | nil => simp at hne
      | cons x es => have := hall x (by simp); have := hM.2.2.1 x (by simp); simp at *; omega
    have hfil : (es.toArray.filter fun e => !seen.contains e.born) = left.toArray := by
      rw [hleft, ← List.filter_toArray]
    have hlb : ∀ x ∈ left, x.born < clk := fun x hx => by rw [hleft] at hx; exact hM.2.2.1 x (List.mem_filter.1 hx).1
    have hold : (left.toArray.filter fun e => decide (e.born < clk)) = left.toArray := by
      rw [List.filter_toArray, List.filter_eq_self.2 (fun x hx => by simpa using hlb x hx)]
    have hnew : (left.toArray.filter fun e => decide (e.born ≥ clk)) = #[] := by
      rw [List.filter_toArray]
      have : left.filter (fun e => decide (e.born ≥ clk)) = [] := List.filter_eq_nil_iff.2 (fun x hx => by have := hlb x hx; simp; omega)
      rw [this]
    have hallf : (!seen.isEmpty && !es.toArray.isEmpty && es.toArray.all (fun x => decide (x.born ≥ clk))) = false := by simpa using hall
    cases hl : left with
    | nil =>
      refine ⟨_, w, ?_, h0 hl⟩
      subst hl
      have hf' : (es.toArray.filter fun e => !seen.contains e.born) = #[] := hfil
      simp only [Instr.next, Sem.run_bind, run_getIter hit, Result.andThen_ok, run_getObj hb, hallf, Bool.false_eq_true, if_false, hf', hold, hnew]
      have e1 : ((if (#[] : Array MapEntry).isEmpty = true then #[none] else #[]) ++ Array.map some ((#[] : Array MapEntry) ++ #[]) : Array (Option MapEntry)) = #[none] := by simp
      have e2 : (choose (.mapNext (#[(none : Option MapEntry)]).size)).run P w = .ok 0 w := by rw [run_choose]; rfl
      rw [e1, e2]
      rfl
    | cons y ys =>
      subst hl
      have hsz : ((y :: ys).toArray.isEmpty) = false := by simp
      -- which one comes
      obtain ⟨w1, j, hj, hch, hw1⟩ : ∃ (w1 : World) (j : Nat), j < (y :: ys).length ∧ (choose (.mapNext (y :: ys).length)).run P w = .ok j w1 ∧ (w1.heap = w.heap ∧ w1.os = w.os ∧ w1.tape = w.tape ∧ w1.output = w.output) := by
        rw [run_choose]
        by_cases hn : (Question.mapNext (y :: ys).length).forced = true
        · rw [if_pos hn]; exact ⟨w, 0, by simp, rfl, rfl, rfl, rfl, rfl⟩
        · rw [if_neg hn]; exact ⟨_, _, Nat.mod_lt _ (by simp), rfl, rfl, rfl, rfl, rfl⟩
      obtain ⟨ah, ao, at_, ap⟩ := hw1
      have hx : (y :: ys)[j]? = some ((y :: ys)[j]) := List.getElem?_eq_getElem hj
      generalize hxe : (y :: ys)[j] = x at hx
      have hxm : x ∈ (y :: ys) := List.mem_of_getElem? hx
      have hxes : x ∈ es := by rw [hleft] at hxm; exact (List.mem_filter.1 hxm).1
      have hit1 : w1.heap[b]? = some (.mapIter (some r) clk seen clk) := by rw [ah]; exact hit
      have hb1 : w1.heap[r]? = some (.map es.toArray clk) := by rw [ah]; exact hb
      have hblt : b < w1.heap.size := (Array.getElem?_eq_some_iff.1 hit1).1
      obtain ⟨pre, post, hsplit, hpl, _⟩ := split_at hx id
      have hrun : (Instr.next (.pointer (some ⟨b, 0, none⟩)) false ty).run P w = .ok (.tuple #[.bool true, x.key, x.val]) { w1 with heap := w1.heap.setIfInBounds b (.mapIter (some r) clk (seen.push x.born) clk) } := by
        have hch' : (choose (.mapNext ((y :: ys).map some).toArray.size)).run P w = .ok j w1 := by rw [List.size_toArray, List.length_map]; exact hch
        have hcand : ((if (y :: ys).toArray.isEmpty then #[none] else #[]) ++ ((y :: ys).toArray ++ #[]).map some : Array (Option MapEntry)) = ((y :: ys).map some).toArray := by simp
        simp only [Instr.next, Sem.run_bind, run_getIter hit, Result.andThen_ok, run_getObj hb, hallf, Bool.false_eq_true, if_false, hfil, hold, hnew, hcand, hch']
        have hgx : ((y :: ys).map some).toArray[j]? = some (some x) := by rw [List.getElem?_toArray, List.getElem?_map, hx]; rfl
        simp only [hgx, Sem.run_bind, run_setIter hit1, Result.andThen_ok, Sem.run_pure]
      refine ⟨_, _, hrun, h1 pre x post _ hsplit ⟨clk, seen.push x.born, clk, by simp [hblt], ?_, hM, ?_, rfl, hxes, by simp⟩ ⟨⟨?_, ?_, ?_, ?_, ?_⟩, ?_⟩⟩
      · show (w1.heap.setIfInBounds b _)[r]? = _
        rw [Array.getElem?_setIfInBounds_ne hbr]; exact hb1
      · have hpw := hM.2.2.2
        have e1 : es.filter (fun e => !(seen.push x.born).contains e.born) = (es.filter (fun e => !seen.contains e.born)).filter (fun e => decide (e.born ≠ x.born)) := by
          rw [List.filter_filter]
          refine List.filter_congr fun e _ => ?_
          simp [Bool.not_or, Bool.and_comm]
        rw [e1, ← hleft, hsplit]
        have hpw2 : (pre ++ x :: post).Pairwise (fun a b => a.born ≠ b.born) := by rw [← hsplit, hleft]; exact hpw.filter _
        rw [List.pairwise_append, List.pairwise_cons] at hpw2
        rw [List.filter_append, List.filter_cons]
        simp only [ne_eq, not_true, decide_false, Bool.false_eq_true, if_false]
        rw [List.filter_eq_self.2 (fun a ha => by simpa using hpw2.2.2 a ha x (by simp)), List.filter_eq_self.2 (fun a ha => by have := hpw2.2.1.1 a ha; simp; exact fun e => this e.symm)]
      · exact ao
      · exact at_
      · exact ap
      · show w.heap.size ≤ (w1.heap.setIfInBounds b _).size
        rw [Array.size_setIfInBounds, ah]; exact Nat.le_refl _
      · intro k hk hn
        show (w1.heap.setIfInBounds b _)[k]? = _
        rw [Array.getElem?_setIfInBounds_ne (fun e => hn e.symm), ah]
      · show (w1.heap.setIfInBounds b _).size = _
        rw [Array.size_setIfInBounds, ah]
  · exact h.elim

theorem entry_sound {hn : Option (Sh × Sh)} {it : Value} {w : World} {next : Nxt} (h : entryW P hn it w next) : RunsV P (Instr.entry it) w next := by
  unfold entryW at h
  split at h
  · rename_i b s1 s2
    obtain ⟨k, r, es, left, x, ⟨clk, seen, last, hit, hb, hM, hleft, rfl, hx, hback⟩, hq⟩ := h
    obtain ⟨kv, rfl, hq⟩ := Sh.ex_out hq
    obtain ⟨vv, rfl, hq⟩ := Sh.ex_out hq
    refine ⟨_, w, ?_, hq⟩
    have hfind : es.toArray.find? (fun e => e.born == x.born) = some x := by
      rw [List.find?_toArray]
      obtain ⟨pre, post, rfl⟩ := List.append_of_mem hx
      rw [List.find?_append]
      have : pre.find? (fun e => e.born == x.born) = none := by
        rw [List.find?_eq_none]
        intro y hy
        have := hM.2.2.2
        rw [List.pairwise_append] at this
        have := this.2.2 y hy x (by simp)
        simpa using this
      rw [this]; simp
    simp only [Instr.entry, Sem.run_bind, run_getIter hit, Result.andThen_ok, hback, run_getObj hb, bne_self_eq_false, Bool.false_eq_true, if_false, hfind, Sem.run_pure]
  · exact h.elim

/-! ### calls -/
def calleesOf : Op → List FuncId
  | .call c => match c.callee with | .value (.func g) => [g] | _ => []
  | _ => []

theorem invoke_func {g : FuncId} (hE : Enters P g) (cap args : Array Value) (w : World) : (invoke (.fn (.func g) cap) args).run P w = .ok (.enter g (args ++ cap)) w := by
  show (callFunc g (args ++ cap)).run P w = _
  exact hE _ w

theorem call_upon {o : Oper} {g : FuncId} {args : Array Value} {t : TypeId} {w : World} {next : Nxt} {a : Act} {K : Act → World → Prop} {Q : Exit → Act → World → Prop} (h : callW P g args t w next)
    (hK : ∀ v w', next v w' → K (a.put o.dst v) w') : o.upon P a K Q (.ok (.enter g args) w) := by
  show Calls P g args w _
  refine Calls.mono h fun e w' hr => ?_
  obtain ⟨v, rfl, hn⟩ := resEx_out hr
  exact hK v w' hn

theorem map_arr {α β : Type} (f : α → β) (xs : Array α) : xs.map f = (xs.toList.map f).toArray := by
  apply Array.ext'
  simp
theorem mx_run (k k' : IntKind) (x y : Int) (w : World) (ts : Array TypeId) (t : TypeId) : (Builtin.max_ ts t #[.int k x, .int k' y]).run P w = .ok (.int k (mx x y)) w := by
  simp [Builtin.max_, Builtin.max2, mx]
theorem mn_run (k k' : IntKind) (x y : Int) (w : World) (ts : Array TypeId) (t : TypeId) : (Builtin.min_ ts t #[.int k x, .int k' y]).run P w = .ok (.int k (mn x y)) w := by
  simp [Builtin.min_, Builtin.min2, mn]

theorem builtin_sound {b : Builtin} {ts : List TypeId} {args : List Value} (ty : TypeId) {w : World} {next : Nxt} (h : builtinW P b ts args w next) :
    ∃ v w', (∀ cs, (builtin b ts.toArray ty cs args.toArray).run P w = .ok (.value v) w') ∧ next v w' := by
  unfold builtinW at h
  split at h
  · rename_i t v
    split at h
    · rename_i e A n c hu
      exact ⟨_, w, fun cs => by simp [builtin, Builtin.len_, run_underlying hu, goInt], h⟩
    · rename_i s hu
      exact ⟨_, w, fun cs => by simp [builtin, Builtin.len_, run_underlying hu, goInt], h⟩
    · exact h.elim
  · rename_i t t' s x
    obtain ⟨ht, hq⟩ := cond_out h
    obtain rfl := Nat.eq_of_beq_eq_true ht
    obtain ⟨v, w', hr, hn⟩ := app_sound (ty := ty) hq
    exact ⟨v, w', fun cs => by simp [builtin, hr], hn⟩
  · exact ⟨_, w, fun cs => by simp [builtin, mx_run], h⟩
  · exact ⟨_, w, fun cs => by simp [builtin, mn_run], h⟩
  · exact h.elim

theorem pure_bin {dst : Option Tmp} {op : BinOp} {t yt : TypeId} {x y : Operand} {type : TypeId} {pos : String} {after : Array Edge} {guard : Option (Nat × Bool)} {ρ : Env} {w : World} {next : Nxt}
    (h : pureW P ⟨dst, .binOp op t x y yt, type, pos, after, guard⟩ ρ w next) : RunsP P (do eqGuard op t x y (ev ρ x) (ev ρ y); binOp op t (ev ρ x) (ev ρ y)) w next := by
  unfold pureW at h
  split at h
  · rename_i v hpr
    refine ⟨v, fun w => ?_, h⟩
    have := pureRun_ok hpr w
    simp only [execOp, Sem.run_bind] at this
    simp only [Sem.run_bind]
    revert this
    generalize (eqGuard op t x y (ev ρ x) (ev ρ y)).run P w = r1
    intro this
    cases r1 with
    | halt _ _ => simp [Result.andThen] at this
    | ok u w1 =>
      simp only [Result.andThen_ok] at this ⊢
      revert this
      generalize (binOp op t (ev ρ x) (ev ρ y)).run P w1 = r2
      intro this
      cases r2 with
      | halt _ _ => simp [Result.andThen] at this
      | ok u w2 =>
        simp only [Result.andThen_ok, Sem.run_pure, Result.ok.injEq, Next.value.injEq] at this
        obtain ⟨rfl, rfl⟩ := this
        rfl
  · exact h.elim

/-- WHAT 'opW' ASKS IS ENOUGH. -/
theorem opW_sound {H : Hints} {o : Oper} {ρ : Env} {w : World} {next : Nxt} (hE : ∀ g ∈ calleesOf o.op, Enters P g) (h : opW P H o ρ w next) {a : Act} (he : a.eval = ev ρ) {K : Act → World → Prop} {Q : Exit → Act → World → Prop}
    (hK : ∀ v w', next v w' → K (a.put o.dst v) w') : o.wp P a w K Q := by
  unfold Oper.wp
  rw [he]
  have hv : ∀ {e : Sem Value}, RunsV P e w next → o.upon P a K Q ((do pure (.value (← e)) : Sem Next).run P w) := by
    intro e hr
    obtain ⟨v, w', hr, hn⟩ := hr
    simp only [Sem.run_bind, hr, Result.andThen_ok, Sem.run_pure, Oper.upon]
    exact hK v w' hn
  have hu : ∀ {e : Sem Unit}, RunsU P e w (fun w' => next undef w') → o.upon P a K Q ((do e; pure .skip : Sem Next).run P w) := by
    intro e hr
    obtain ⟨w', hr, hn⟩ := hr
    simp only [Sem.run_bind, hr, Result.andThen_ok, Sem.run_pure, Oper.upon]
    exact hK undef w' hn
  have hp : pureW P o ρ w next → o.upon P a K Q ((execOp (ev ρ) o).run P w) := by
    intro h
    unfold pureW at h
    split at h
    · rename_i v hv
      rw [pureRun_ok hv w]
      exact hK v w h
    · exact h.elim
  unfold opW at h
  obtain ⟨dst, op, type, pos, after, guard⟩ := o
  simp only at h hE hv hu hp hK ⊢
  cases op
  case load t x => exact hv (loadW_sound h)
  case store t x y => exact hu (storeW_sound h)
  case alloc e =>
    dsimp only at h
    split at h
    · rename_i z hz; exact hv (alloc_sound hz h)
    · exact h.elim
  case box e x => exact hv (box_sound h)
  case build t ps => exact hv (build_sound h).v
  case buildSlice t n ps => exact hv (buildSlice_sound h)
  case makeSlice t l c => exact hv (makeSlice_sound h)
  case nilCheck x =>
    simp only [execOp]
    dsimp only at h
    split at h
    · rename_i p hp
      rw [hp]
      unfold nilC at h
      split at h
      · simp only [Sem.run_pure, Oper.upon]
        exact hK _ _ h
      · exact h.elim
    · exact h.elim
  case indexAddr t x i => exact hv (idx_sound h).v
  case index t x i => exact hv (idxV_sound h).v
  case slice t x lo hi m =>
    cases m with
    | none => exact hv (slice_sound h).v
    | some m => exact hp h
  case call c =>
    obtain ⟨callee, args, argTypes⟩ := c
    dsimp only at h
    have hargs : args.map (ev ρ) = (args.toList.map (ev ρ)).toArray := map_arr _ _
    split at h
    · rename_i g
      simp only [execOp, resolve, Sem.run_bind, Deferred.ofValue, ev, Sem.run_pure, Result.andThen_ok]
      rw [invoke_func (hE g (List.mem_singleton.2 rfl))]
      simp only [hargs, Array.empty_append, Array.append_empty]
      exact call_upon h hK
    · rename_i f hf
      unfold funcC at h
      split at h
      · rename_i g first cap hfv
        obtain ⟨hen, h⟩ := h
        simp only [execOp, resolve, Sem.run_bind, Deferred.ofValue, hfv, Sem.run_pure, Result.andThen_ok]
        rw [invoke_func hen]
        have : first ++ args.map (ev ρ) ++ cap = (first.toList ++ (args.toList.map (ev ρ) ++ cap.toList)).toArray := by
          apply Array.ext'; simp
        rw [this]
        exact call_upon h hK
      · exact h.elim
    · rename_i b
      obtain ⟨v, w', hr, hn⟩ := builtin_sound type h
      simp only [execOp, resolve, Sem.run_bind, Sem.run_pure, Result.andThen_ok, invoke]
      have h1 : argTypes = argTypes.toList.toArray := by simp
      rw [hargs, h1, hr _]
      exact hK v w' hn
    · exact h.elim
  case makeFunc fn first cap =>
    have h1 : first.map (ev ρ) = (first.toList.map (ev ρ)).toArray := map_arr _ _
    have h2 : cap.map (ev ρ) = (cap.toList.map (ev ρ)).toArray := map_arr _ _
    refine hv ⟨_, w, ?_, h⟩
    simp only [Instr.makeFunc, h1, h2, Sem.run_pure]
  case makeMap t r =>
    cases r with
    | none =>
      refine hv ⟨_, w.alloc (.map #[] 0), ?_, h w.heap.size _ ⟨rfl, ⟨rfl, rfl, rfl, by simp, fun k hk _ => Below.heap_alloc _ _ _ hk⟩, fun P k => ⟨0, ?_, MOk.nil P k 0⟩, by simp⟩⟩
      · rfl
      · show (w.heap.push _)[w.heap.size]? = _
        simp
    | some r => exact hp h
  case lookup t m k ok => exact hv (look_sound h)
  case mapUpdate t m k x => exact hu (upd_sound h)
  case mapEntry t m k => exact hv (ent_sound h)
  case entryStore t m s x => exact hu (entSt_sound h)
  case range t m => exact hv (range_sound h)
  case next it s => exact hv (next_sound h)
  case entry it => exact hv (entry_sound h)
  case binOp op t x y yt => exact hv (bin_sound h fun h => pure_bin h).v
  case convert src dst x =>
    dsimp only at h
    split at h
    · rename_i d k kk n hsrc hdst hx
      obtain ⟨c, hc, h⟩ := h
      refine hv ⟨_, w, ?_, h⟩
      rw [hx]
      simp [convert, run_underlying hsrc, run_underlying hdst, Conv.intToInt, hc]
    · exact hp h
  all_goals exact hp h

end Go.Vc
