/- The session's verification conditions, part 5: regions whose order is open ('drawW'): each reading operation first, the others in every order that is left. Conditions: none. -/
import Derived.Test.YthgfnocngopecaaGreatDoorGm
import Derived.OrdersHeld
set_option linter.unusedVariables false
set_option linter.unusedSimpArgs false
namespace Go.Vc
open Go.RowKit

variable {P : Program}

/-! ### 1. guards -/
def slotOf (all : List Oper) (j : Nat) : Option Nat := match all[j]? with | some o => o.dst | none => none
def guardW (all : List Oper) (o : Oper) (ρ : Env) (yes no : Env → Prop) : Prop :=
  match o.guard with
  | none => yes ρ
  | some (j, want) => match slotOf all j with
    | some t => (match ρ t with
      | .bool b => ifb b (bif want then yes (upd ρ t (.bool true)) else no (upd ρ t (.bool true))) (bif want then no (upd ρ t (.bool false)) else yes (upd ρ t (.bool false)))
      | _ => no ρ)
    | none => no ρ

theorem upd_self {ρ : Env} {t : Nat} {v : Value} (h : ρ t = v) : upd ρ t v = ρ := by
  funext i
  unfold upd
  cases hb : Nat.beq i t with
  | false => rfl
  | true => rw [cond_true, ← h, Nat.eq_of_beq_eq_true hb]

theorem yielded_rel {n : Nat} {a : Act} {ρ : Env} (h : Rel n a ρ) (all : List Oper) (j : Nat) (t : Nat) (ht : slotOf all j = some t) (hn : t < n) :
    yielded all.toArray a.tmps j = match ρ t with | .bool b => some b | _ => none := by
  unfold slotOf at ht
  unfold yielded
  have hd : ((all.toArray[j]?).bind (·.dst)) = some t := by
    rw [List.getElem?_toArray]
    split at ht
    · rename_i o ho; rw [ho]; exact ht
    · cases ht
  rw [hd, Option.bind_some]
  have hlt : t < a.tmps.size := by rw [h.size]; exact hn
  have := h.at_ t
  rw [Array.getD_eq_getD_getElem?, Array.getElem?_eq_getElem hlt] at this
  rw [Array.getElem?_eq_getElem hlt]
  simp only [Option.getD_some] at this
  rw [this]
  cases ρ t <;> rfl
theorem yielded_none (all : List Oper) (tmps : Array Value) (j : Nat) (ht : slotOf all j = none) : yielded all.toArray tmps j = none := by
  unfold slotOf at ht
  unfold yielded
  have hd : ((all.toArray[j]?).bind (·.dst)) = none := by
    rw [List.getElem?_toArray]
    split at ht
    · rename_i o ho; rw [ho]; exact ht
    · rename_i ho; rw [ho]; rfl
  rw [hd]; rfl

/-- every slot that an operation writes is one of the frame's -/
def dstsOk (n : Nat) (all : List Oper) : Bool := all.all fun o => match o.dst with | some t => Nat.blt t n | none => true
theorem dstsOk_out {n : Nat} {all : List Oper} (h : dstsOk n all = true) {o : Oper} (ho : o ∈ all) {t : Nat} (ht : o.dst = some t) : t < n := by
  unfold dstsOk at h
  have := List.all_eq_true.1 h o ho
  rw [ht] at this
  exact Nat.le_of_ble_eq_true this
theorem slot_lt {n : Nat} {all : List Oper} (h : dstsOk n all = true) {j t : Nat} (ht : slotOf all j = some t) : t < n := by
  unfold slotOf at ht
  split at ht
  · rename_i o ho; exact dstsOk_out h (List.mem_of_getElem? ho) ht
  · cases ht

theorem guardW_out {n : Nat} {a : Act} {ρ : Env} (hr : Rel n a ρ) {all : List Oper} (hd : dstsOk n all = true) {o : Oper} {yes no : Env → Prop} (h : guardW all o ρ yes no) :
    (Region.wanted o (yielded all.toArray a.tmps) = true ∧ yes ρ) ∨ (Region.wanted o (yielded all.toArray a.tmps) = false ∧ no ρ) := by
  unfold guardW at h
  unfold Region.wanted
  split at h
  · rename_i hg; rw [hg]; exact .inl ⟨rfl, h⟩
  · rename_i j want hg
    rw [hg]
    simp only
    split at h
    · rename_i t ht
      rw [yielded_rel hr all j t ht (slot_lt hd ht)]
      split at h
      · rename_i b hb
        cases b
        · have h : (bif want then no (upd ρ t (.bool false)) else yes (upd ρ t (.bool false))) := h
          rw [upd_self hb] at h
          cases want
          · exact .inl ⟨rfl, h⟩
          · exact .inr ⟨rfl, h⟩
        · have h : (bif want then yes (upd ρ t (.bool true)) else no (upd ρ t (.bool true))) := h
          rw [upd_self hb] at h
          cases want
          · exact .inr ⟨rfl, h⟩
          · exact .inl ⟨rfl, h⟩
      · rename_i hnb
        exact .inr ⟨rfl, h⟩
    · rename_i ht
      rw [yielded_none all _ j ht]
      exact .inr ⟨rfl, h⟩

/-! ### 2. in the order of the text -/
def opsW (P : Program) (H : Hints) (all : List Oper) : List Oper → (Env → World → Prop) → Env → World → Prop
  | [], Q, ρ, w => Q ρ w
  | o :: rest, Q, ρ, w => guardW all o ρ (fun ρ => opW P H o ρ w fun v w' => opsW P H all rest Q (put ρ o.dst v) w') (fun ρ => opsW P H all rest Q (put ρ o.dst undef) w)

theorem opsW_sound {H : Hints} {n : Nat} {all : List Oper} (hd : dstsOk n all = true) (hE : ∀ o ∈ all, ∀ g ∈ calleesOf o.op, Enters P g) {Q' : Exit → Act → World → Prop} {Q : Env → World → Prop} {Inv : Env → Prop} (hI : ∀ ρ o v, o ∈ all → Inv ρ → Inv (put ρ o.dst v))
    (hQ : ∀ a ρ w, Rel n a ρ → Inv ρ → Q ρ w → Q' .normal a w) : ∀ (l : List Oper), (∀ o ∈ l, o ∈ all) → ∀ (ρ : Env) (a : Act) (w : World), Rel n a ρ → Inv ρ → opsW P H all l Q ρ w → wpList P all.toArray Q' l a w
  | [], _, ρ, a, w, hr, hi, h => hQ a ρ w hr hi h
  | o :: rest, hl, ρ, a, w, hr, hi, h => by
    have ho := hl o (by simp)
    have ih := opsW_sound (H := H) hd hE hI hQ rest (fun o' ho' => hl o' (by simp [ho']))
    unfold wpList
    have hput : ∀ v, Rel n (a.put o.dst v) (put ρ o.dst v) := fun v => hr.put o.dst (fun t ht => dstsOk_out hd ho ht) v
    rcases guardW_out hr hd h with ⟨hw, h⟩ | ⟨hw, h⟩
    · rw [if_pos hw]
      exact .inl (opW_sound (hE o ho) h hr.eval (fun v w' hn => ih _ _ _ (hput v) (hI _ _ _ ho hi) hn))
    · rw [hw, if_neg (by simp)]
      exact ih _ _ _ (hput undef) (hI _ _ _ ho hi) h

/-! ### 3. in an open order -/
/-- an operation that reads at most -/
def isR (o : Oper) : Bool :=
  match o.op with
  | .move _ | .pick .. | .load .. | .nilCheck _ | .unOp .. | .convert .. | .fieldAddr .. | .indexAddr .. | .extract .. | .makeFunc .. | .build .. => true
  | .binOp .. => true
  | .slice _ _ _ _ none => true
  | .lookup .. => true
  | .call { callee := .builtin .len, .. } | .call { callee := .builtin .max, .. } | .call { callee := .builtin .min, .. } => true
  | _ => false
abbrev Fact := Option (World → Prop)
def mapSame (p : Option Nat) (w w' : World) : Prop := ∀ r, p = some r → w'.heap[r]? = w.heap[r]?
def factOf (P : Program) (o : Oper) (ρ : Env) (v : Value) (w : World) : Fact :=
  match o.op with
  | .load t a => (match ev ρ a with
    | .pointer (some a) => (match shapeOf P t with
      | some (.one _) => some fun w' => w'.cell? a = some v
      | _ => some fun w' => Cells w' a v.cells.toList)
    | _ => none)
  | .lookup t m k ok => (match ev ρ m with
    | .map p => some fun w' => mapSame p w w'
    | _ => none)
  | _ => none
def holds (f : Fact) (w : World) : Prop := match f with | some p => p w | none => True

/-- The value of a reading operation hangs on the fact alone. -/
theorem opW_reads {H : Hints} {o : Oper} (hR : isR o = true) {ρ : Env} {w : World} {next : Nxt} (h : opW P H o ρ w next) :
    ∃ v, next v w ∧ holds (factOf P o ρ v w) w ∧ ∀ w', holds (factOf P o ρ v w) w' → (execOp (ev ρ) o).run P w' = .ok (.value v) w' := by
  have hv : ∀ {e : Sem Value}, RunsP P e w next → factOf P o ρ = (fun _ _ => none) → (execOp (ev ρ) o = do pure (.value (← e))) →
      ∃ v, next v w ∧ holds (factOf P o ρ v w) w ∧ ∀ w', holds (factOf P o ρ v w) w' → (execOp (ev ρ) o).run P w' = .ok (.value v) w' := by
    intro e hr hf he
    obtain ⟨v, hr, hn⟩ := hr
    exact ⟨v, hn, by rw [hf]; trivial, fun w' _ => by rw [he]; simp only [Sem.run_bind, hr, Result.andThen_ok, Sem.run_pure]⟩
  have hp : pureW P o ρ w next → factOf P o ρ = (fun _ _ => none) →
      ∃ v, next v w ∧ holds (factOf P o ρ v w) w ∧ ∀ w', holds (factOf P o ρ v w) w' → (execOp (ev ρ) o).run P w' = .ok (.value v) w' := by
    intro h hf
    unfold pureW at h
    split at h
    · rename_i v hv
      exact ⟨v, h, by rw [hf]; trivial, fun w' _ => pureRun_ok hv w'⟩
    · exact h.elim
  unfold opW at h
  obtain ⟨dst, op, type, pos, after, guard⟩ := o
  cases op
  case load t x =>
    dsimp only at h
    unfold loadW at h
    split at h
    · rename_i a ha
      split at h
      · rename_i k hs
        obtain ⟨i, d, hi, hd, hag⟩ := shapeOf_one hs
        obtain ⟨v, hx, hn⟩ := K.ex_out h
        refine ⟨v, hn, by simp only [factOf, ha, hs]; exact hx, fun w' hf => ?_⟩
        have hx' : w'.cell? a = some v := by simp only [factOf, ha, hs] at hf; exact hf
        simp only [execOp, ha, Instr.loadAt, Instr.sureAddr, loadVar, Sem.run_bind, Sem.run_pure, Result.andThen_ok, run_isAgg hd, hag, Bool.false_eq_true, if_false, run_load hx']
      · rename_i ks hs
        obtain ⟨i, d, hi, hd, hag, hsz⟩ := shapeOf_agg hs
        obtain ⟨xs, hl, hx, hn⟩ := exs_out h
        refine ⟨_, hn, by simp only [factOf, ha, hs]; exact hx, fun w' hf => ?_⟩
        have hx' : Cells w' a xs := by simp only [factOf, ha, hs] at hf; exact hf
        simp only [execOp, ha, Instr.loadAt, Instr.sureAddr, loadVar, Sem.run_bind, Sem.run_pure, Result.andThen_ok, run_isAgg hd, hag, if_true, run_sizeOf hi, hsz, ← hl, run_loadCells hx']
      · rename_i n hs
        obtain ⟨i, d, hi, hd, hag, hsz⟩ := shapeOf_raw hs
        obtain ⟨xs, hl, hx, hn⟩ := h
        refine ⟨_, hn, by simp only [factOf, ha, hs]; exact hx, fun w' hf => ?_⟩
        have hx' : Cells w' a xs := by simp only [factOf, ha, hs] at hf; exact hf
        simp only [execOp, ha, Instr.loadAt, Instr.sureAddr, loadVar, Sem.run_bind, Sem.run_pure, Result.andThen_ok, run_isAgg hd, hag, if_true, run_sizeOf hi, hsz, ← hl, run_loadCells hx']
      · exact h.elim
    · exact h.elim
  case build t ps => exact hv (build_sound h) rfl rfl
  case nilCheck x =>
    dsimp only at h
    split at h
    · rename_i p hpv
      unfold nilC at h
      split at h
      · exact ⟨_, h, trivial, fun w' _ => by simp only [execOp, hpv, Sem.run_pure]⟩
      · exact h.elim
    · exact h.elim
  case indexAddr t x i => exact hv (idx_sound h) rfl rfl
  case slice t x lo hi m =>
    cases m with
    | none => exact hv (slice_sound h) rfl rfl
    | some m => cases hR
  case lookup t m k ok =>
    dsimp only at h
    obtain ⟨v, hn, hr⟩ := look_reads h
    refine ⟨v, hn, ?_, fun w' hf => ?_⟩
    · simp only [factOf]
      split
      · exact fun _ _ => rfl
      · trivial
    · simp only [execOp, Sem.run_bind]
      rw [hr w' (fun r hm => by simp only [factOf, hm] at hf; exact hf r rfl)]
      simp
  case call c =>
    obtain ⟨callee, args, argTypes⟩ := c
    cases callee with
    | value f => cases hR
    | invoke f m => cases hR
    | builtin b =>
      dsimp only at h
      have hargs : args.map (ev ρ) = (args.toList.map (ev ρ)).toArray := map_arr _ _
      have key : ∃ v, next v w ∧ ∀ w' cs, (builtin b argTypes.toList.toArray type cs (args.toList.map (ev ρ)).toArray).run P w' = .ok (.value v) w' := by
        unfold builtinW at h
        split at h
        · rename_i t v ht hv
          split at h
          · rename_i e A n c hu
            exact ⟨_, h, fun w' cs => by rw [ht, hv]; simp [builtin, Builtin.len_, run_underlying hu, goInt]⟩
          · rename_i s hu
            exact ⟨_, h, fun w' cs => by rw [ht, hv]; simp [builtin, Builtin.len_, run_underlying hu, goInt]⟩
          · exact h.elim
        · cases hR
        · rename_i hvv
          exact ⟨_, h, fun w' cs => by rw [hvv]; simp [builtin, mx_run]⟩
        · rename_i hvv
          exact ⟨_, h, fun w' cs => by rw [hvv]; simp [builtin, mn_run]⟩
        · exact h.elim
      obtain ⟨v, hn, hr⟩ := key
      refine ⟨v, hn, trivial, fun w' _ => ?_⟩
      simp only [execOp, resolve, Sem.run_bind, Sem.run_pure, Result.andThen_ok, invoke]
      have h1 : argTypes = argTypes.toList.toArray := by simp
      rw [hargs, h1, hr]
  case makeFunc fn first cap =>
    have h1 : first.map (ev ρ) = (first.toList.map (ev ρ)).toArray := map_arr _ _
    have h2 : cap.map (ev ρ) = (cap.toList.map (ev ρ)).toArray := map_arr _ _
    refine hv ⟨_, fun w => ?_, h⟩ rfl rfl
    simp only [Instr.makeFunc, h1, h2, Sem.run_pure]
  case binOp op t x y yt => exact hv (bin_sound h fun h => pure_bin h) rfl rfl
  case convert src dst x =>
    dsimp only at h
    split at h
    · rename_i d k kk n hsrc hdst hx
      obtain ⟨c, hc, h⟩ := h
      refine hv (e := convert src _ (ev ρ x)) ⟨_, fun w => ?_, h⟩ rfl rfl
      rw [hx]
      simp [convert, run_underlying hsrc, run_underlying hdst, Conv.intToInt, hc]
    · exact hp h rfl
  all_goals first
    | exact hp h rfl
    | cases hR

/-! ### 4. the order's machinery -/
section
variable {ops : Array Oper} {Q : Exit → Act → World → Prop} {md : Region.Mode}

/-- pairs (j, i): number j waits for number i -/
abbrev Wt := List (Nat × Nat)
def waits (cl : Wt) (j i : Nat) : Bool := cl.any fun p => Nat.beq p.1 j && Nat.beq p.2 i

abbrev Pend := List (Nat × Fact)
def keep (cl : Wt) (j : Nat) (pd : Pend) : Pend := pd.filter fun p => !waits cl j p.1
def pendW : Pend → World → Prop → Prop
  | [], _, X => X
  | (_, some f) :: pd, w, X => f w ∧ pendW pd w X
  | (_, none) :: pd, w, X => pendW pd w X
theorem pendW_out : ∀ {pd : Pend} {w : World} {X : Prop}, pendW pd w X → (∀ p ∈ pd, holds p.2 w) ∧ X
  | [], _, _, h => ⟨by simp, h⟩
  | (i, some f) :: pd, w, X, h => by
    obtain ⟨h1, h2⟩ := pendW_out h.2
    exact ⟨fun p hp => by rcases List.mem_cons.1 hp with rfl | hp; exact h.1; exact h1 p hp, h2⟩
  | (i, none) :: pd, w, X, h => by
    obtain ⟨h1, h2⟩ := pendW_out (pd := pd) h
    exact ⟨fun p hp => by rcases List.mem_cons.1 hp with rfl | hp; trivial; exact h1 p hp, h2⟩

/-- Whatever order is picked from here on, and what is pending holds behind each operation. -/
def wpAnyF (P : Program) (cl : Wt) (ops : Array Oper) (Q : Exit → Act → World → Prop) : Nat → Array Bool → Pend → Act → World → Prop
  | 0, listed, pd, a, w => Region.ready .any ops listed = [] ∧ Q .normal a w
  | fuel + 1, listed, pd, a, w =>
    (Region.ready .any ops listed = [] → Q .normal a w) ∧
    ∀ i ∈ Region.ready .any ops listed, wpOp P ops Q i (fun a' w' => (∀ p ∈ keep cl i pd, holds p.2 w') ∧ wpAnyF P cl ops Q fuel (listed.setIfInBounds i true) (keep cl i pd) a' w') a w

theorem wpAny_of_F (cl : Wt) : ∀ (fuel : Nat) (listed : Array Bool) (pd : Pend) (a : Act) (w : World), wpAnyF P cl ops Q fuel listed pd a w → wpAny P .any ops Q fuel listed a w
  | 0, _, _, _, _, h => h
  | fuel + 1, _, _, _, _, h => ⟨h.1, fun i hi => wpOp_mono (fun a' w' h' => wpAny_of_F cl fuel _ _ a' w' h'.2) (h.2 i hi)⟩

theorem keep_sub {cl : Wt} {j : Nat} {pd pd' : Pend} (h : ∀ p ∈ pd, p ∈ pd') : ∀ p ∈ keep cl j pd, p ∈ keep cl j pd' := fun p hp => by
  unfold keep at *
  rw [List.mem_filter] at *
  exact ⟨h p hp.1, hp.2⟩
theorem wpAnyF_weak (cl : Wt) : ∀ (fuel : Nat) (listed : Array Bool) (pd pd' : Pend) (a : Act) (w : World), (∀ p ∈ pd, p ∈ pd') → wpAnyF P cl ops Q fuel listed pd' a w → wpAnyF P cl ops Q fuel listed pd a w
  | 0, _, _, _, _, _, _, h => h
  | fuel + 1, listed, pd, pd', a, w, hs, h => ⟨h.1, fun i hi => wpOp_mono (fun a' w' h' => ⟨fun p hp => h'.1 p (keep_sub hs p hp), wpAnyF_weak cl fuel _ _ _ a' w' (keep_sub hs) h'.2⟩) (h.2 i hi)⟩

/-- what has come up holds all that it waits for -/
def Closed (cl : Wt) (listed : Array Bool) : Prop := ∀ j i, listed.getD j false = true → waits cl j i = true → listed.getD i false = true
/-- who may come up waits for what has come up alone -/
def ReadyClosed (cl : Wt) (ops : Array Oper) : Prop := ∀ listed, Closed cl listed → ∀ j ∈ Region.ready .any ops listed, ∀ i, waits cl j i = true → listed.getD i false = true

theorem Closed.set {cl : Wt} (hRC : ReadyClosed cl ops) {listed : Array Bool} (h : Closed cl listed) {j : Nat} (hj : j ∈ Region.ready .any ops listed) : Closed cl (listed.setIfInBounds j true) := by
  intro k i hk hw
  by_cases e : j = k
  · subst e
    exact getD_set_true (hRC listed h j hj i hw)
  · rw [getD_set_ne false e] at hk
    exact getD_set_true (h k i hk hw)

/-- A reading operation that may come up now may be taken first. -/
theorem wpAnyF_first {cl : Wt} (hRC : ReadyClosed cl ops) {i : Nat} {oi : Oper} {v : Value} {F : Fact} (hi : ops[i]? = some oi) (hsel : ∀ (j : Nat) (o : Oper) cs b, ops[j]? = some o → o.op ≠ .select cs b)
    (hQ : ∀ c a w, Q (.panic c) (a.put oi.dst v) w → Q (.panic c) a w) :
    ∀ (fuel : Nat) (listed : Array Bool) (pd : Pend) (a : Act) (w : World), Closed cl listed →
      (∀ j oj, ops[j]? = some oj → j ≠ i → listed.getD j true = false → (∀ e ∈ oj.after, Region.binds .any e = true → e.on ≠ i) → oi.apart ops oj = true) →
      i ∈ Region.ready .any ops listed → YieldsIf P ops (holds F) oi v a → holds F w → (∀ p ∈ pd, holds p.2 w) →
      wpAnyF P cl ops Q fuel (listed.setIfInBounds i true) ((i, F) :: pd) (a.put oi.dst v) w → wpAnyF P cl ops Q (fuel + 1) listed pd a w := by
  intro fuel
  induction fuel with
  | zero =>
    intro listed pd a w _ _ hr hy hS hpd H
    refine ⟨fun h => (by rw [h] at hr; cases hr), fun j hj => ?_⟩
    by_cases hji : j = i
    · subst hji; exact hy.wpOp hi hS ⟨fun p hp => hpd p (List.mem_filter.1 hp).1, H⟩
    · have := ready_mono hj hji
      rw [H.1] at this
      cases this
  | succ fuel ih =>
    intro listed pd a w hcl hfree hr hy hS hpd H
    refine ⟨fun h => (by rw [h] at hr; cases hr), fun j hj => ?_⟩
    by_cases hji : j = i
    · subst hji
      exact hy.wpOp hi hS ⟨fun p hp => hpd p (List.mem_filter.1 hp).1, wpAnyF_weak cl _ _ _ _ _ _ (fun p hp => List.mem_cons_of_mem _ (List.mem_filter.1 hp).1) H⟩
    · have h1 := H.2 j (ready_mono hj hji)
      obtain ⟨hjun, oj, hoj, hall⟩ := mem_ready.1 hj
      have hil : listed.getD i false ≠ true := by
        intro h1
        have h0 := (mem_ready.1 hr).1
        rcases Nat.lt_or_ge i listed.size with h' | h'
        · simp [h'] at h0 h1; rw [h0] at h1; cases h1
        · simp [Array.getElem?_eq_none h'] at h1
      have hnot : ∀ e ∈ oj.after, Region.binds .any e = true → e.on ≠ i := fun e he hb heq => by
        have h1 := hall e he hb
        rw [heq] at h1
        exact hil h1
      have hnw : waits cl j i = false := by
        cases hq : waits cl j i with
        | false => rfl
        | true => exact absurd (hRC listed hcl j hj i hq) hil
      have hkeep : keep cl j ((i, F) :: pd) = (i, F) :: keep cl j pd := by simp [keep, hnw]
      have h2 := wpOp_putIf hoj (hfree j oj hoj hji hjun hnot) (fun cs b => hsel i oi cs b hi) (fun cs b => hsel j oj cs b hoj) hQ hy h1
      have hfree' : ∀ k ok, ops[k]? = some ok → k ≠ i → (listed.setIfInBounds j true).getD k true = false →
          (∀ e ∈ ok.after, Region.binds .any e = true → e.on ≠ i) → oi.apart ops ok = true := fun k ok hk hki hun hno => by
        refine hfree k ok hk hki ?_ hno
        by_cases hjk : j = k
        · subst hjk; exact hjun
        · rw [getD_set_ne true hjk] at hun; exact hun
      refine wpOp_mono (fun a' w' h3 => ?_) h2
      obtain ⟨hy', hf', h4⟩ := h3
      rw [hkeep] at hf' h4
      refine ⟨fun p hp => hf' p (List.mem_cons_of_mem _ hp), ih (listed.setIfInBounds j true) (keep cl j pd) a' w' (hcl.set hRC hj) hfree' (ready_mono hr (Ne.symm hji)) hy' (hf' (i, F) (by simp)) (fun p hp => hf' p (List.mem_cons_of_mem _ hp)) ?_⟩
      rw [Array.setIfInBounds_comm _ _ hji]
      exact h4

end

/-! ### 5. plans -/
inductive Plan where
  | done
  | r (i : Nat) (rest : Plan)
  | e (i : Nat) (drop : List Nat) (rest : Plan)
  | e2 (i : Nat) (drop : List Nat) (rest : Plan) (i' : Nat) (drop' : List Nat) (rest' : Plan)

def Plan.depth : Plan → Nat
  | .done => 0
  | .r _ rest => rest.depth + 1
  | .e _ _ rest => rest.depth + 1
  | .e2 _ _ rest _ _ rest' => max rest.depth rest'.depth + 1

def keepD (drop : List Nat) (pd : Pend) : Pend := pd.filter fun p => !(drop.any fun d => Nat.beq d p.1)

def stepE (P : Program) (H : Hints) (ops : List Oper) (i : Nat) (drop : List Nat) (pd : Pend) (ρ : Env) (w : World) (rest : Pend → Env → World → Prop) : Prop :=
  match ops[i]? with
  | some o => guardW ops o ρ (fun ρ => opW P H o ρ w fun v w' => pendW (keepD drop pd) w' (rest (keepD drop pd) (put ρ o.dst v) w')) (fun ρ => rest (keepD drop pd) (put ρ o.dst undef) w)
  | none => False

def drawW (P : Program) (H : Hints) (ops : List Oper) (Q : Env → World → Prop) : Plan → Pend → Env → World → Prop
  | .done, _, ρ, w => Q ρ w
  | .r i rest, pd, ρ, w => match ops[i]? with
    | some o => guardW ops o ρ (fun ρ => opW P H o ρ w fun v w' => drawW P H ops Q rest ((i, factOf P o ρ v w) :: pd) (put ρ o.dst v) w') (fun ρ => drawW P H ops Q rest ((i, none) :: pd) (put ρ o.dst undef) w)
    | none => False
  | .e i drop rest, pd, ρ, w => stepE P H ops i drop pd ρ w (drawW P H ops Q rest)
  | .e2 i drop rest i' drop' rest', pd, ρ, w => stepE P H ops i drop pd ρ w (drawW P H ops Q rest) ∧ stepE P H ops i' drop' pd ρ w (drawW P H ops Q rest')

def has (D : List Nat) (i : Nat) : Bool := D.any fun d => Nat.beq d i
def readyB (ops : List Oper) (D : List Nat) (i : Nat) : Bool := !has D i && (match ops[i]? with | some o => o.after.toList.all fun e => !Region.binds .any e || has D e.on | none => false)
def freeB (ops : List Oper) (D : List Nat) (i : Nat) (oi : Oper) : Bool :=
  ops.zipIdx.all fun p => Nat.beq p.2 i || has D p.2 || (p.1.after.toList.any fun e => Region.binds .any e && Nat.beq e.on i) || oi.apart ops.toArray p.1
def allIn (n : Nat) (f : Nat → Bool) : Bool := (List.range n).all f
def planOk (ops : List Oper) (W : Wt) : Plan → List Nat → Bool
  | .done, D => allIn ops.length fun i => !readyB ops D i
  | .r i rest, D => readyB ops D i && (match ops[i]? with | some o => isR o && freeB ops D i o | none => false) && planOk ops W rest (i :: D)
  | .e i drop rest, D => readyB ops D i && (allIn ops.length fun j => !readyB ops D j || Nat.beq j i) && drop.all (fun d => waits W i d) && planOk ops W rest (i :: D)
  | .e2 i drop rest i' drop' rest', D => readyB ops D i && readyB ops D i' && (allIn ops.length fun j => !readyB ops D j || Nat.beq j i || Nat.beq j i') &&
      drop.all (fun d => waits W i d) && drop'.all (fun d => waits W i' d) && planOk ops W rest (i :: D) && planOk ops W rest' (i' :: D)
def closOk (ops : List Oper) (W : Wt) : Bool := W.all fun p => match ops[p.1]? with
  | some o => o.after.toList.any fun e => Region.binds .any e && (Nat.beq e.on p.2 || waits W e.on p.2)
  | none => false

theorem waits_iff {W : Wt} {j i : Nat} : waits W j i = true ↔ (j, i) ∈ W := by
  unfold waits
  rw [List.any_eq_true]
  constructor
  · rintro ⟨⟨a, b⟩, hm, h⟩
    rw [Bool.and_eq_true] at h
    rw [← Nat.eq_of_beq_eq_true h.1, ← Nat.eq_of_beq_eq_true h.2]; exact hm
  · intro h
    exact ⟨_, h, by simp⟩
theorem has_iff {D : List Nat} {i : Nat} : has D i = true ↔ i ∈ D := by
  unfold has
  rw [List.any_eq_true]
  constructor
  · rintro ⟨d, hm, h⟩; rw [← Nat.eq_of_beq_eq_true h]; exact hm
  · intro h; exact ⟨i, h, by simp⟩

theorem closOk_ready {ops : List Oper} {W : Wt} (h : closOk ops W = true) : ReadyClosed W ops.toArray := by
  intro listed hcl j hj i hw
  obtain ⟨_, o, ho, hall⟩ := mem_ready.1 hj
  rw [List.getElem?_toArray] at ho
  have := List.all_eq_true.1 h (j, i) (waits_iff.1 hw)
  simp only [ho] at this
  rw [List.any_eq_true] at this
  obtain ⟨e, he, hb⟩ := this
  rw [Bool.and_eq_true, Bool.or_eq_true] at hb
  have hl := hall e (by simpa using he) hb.1
  rcases hb.2 with h1 | h1
  · rw [← Nat.eq_of_beq_eq_true h1]; exact hl
  · exact hcl _ _ hl h1

/-- the list of what has come up, and the machine's array -/
def Lists (n : Nat) (D : List Nat) (listed : Array Bool) : Prop := listed.size = n ∧ ∀ i, i < n → (listed.getD i true = true ↔ i ∈ D)
theorem Lists.false {n : Nat} {D : List Nat} {listed : Array Bool} (h : Lists n D listed) (hD : ∀ i ∈ D, i < n) {i : Nat} : listed.getD i false = true ↔ i ∈ D := by
  rcases Nat.lt_or_ge i n with hi | hi
  · rw [← h.2 i hi]
    have : i < listed.size := by rw [h.1]; exact hi
    simp [Array.getD_eq_getD_getElem?, this]
  · constructor
    · intro h1
      have : listed.size ≤ i := by rw [h.1]; exact hi
      simp [Array.getD_eq_getD_getElem?, this] at h1
    · intro h1; have := hD i h1; omega
theorem Lists.set {n : Nat} {D : List Nat} {listed : Array Bool} (h : Lists n D listed) {j : Nat} (hj : j < n) : Lists n (j :: D) (listed.setIfInBounds j true) := by
  refine ⟨by simp [h.1], fun i hi => ?_⟩
  by_cases e : j = i
  · subst e
    have : j < listed.size := by rw [h.1]; exact hj
    simp [Array.getD_eq_getD_getElem?, this]
  · rw [getD_set_ne true e, h.2 i hi]
    simp [Ne.symm e]

theorem readyB_iff {ops : List Oper} {D : List Nat} {listed : Array Bool} (h : Lists ops.length D listed) (hD : ∀ i ∈ D, i < ops.length) {i : Nat} : readyB ops D i = true ↔ i ∈ Region.ready .any ops.toArray listed := by
  rw [mem_ready]
  unfold readyB
  rw [Bool.and_eq_true, Bool.not_eq_true', List.getElem?_toArray]
  cases ho : ops[i]? with
  | none => simp
  | some o =>
    have hi : i < ops.length := (List.getElem?_eq_some_iff.1 ho).1
    have h1 : has D i = false ↔ listed.getD i true = false := by
      rw [← Bool.not_eq_true, ← Bool.not_eq_true, has_iff, h.2 i hi]
    rw [h1]
    constructor
    · rintro ⟨h2, h3⟩
      refine ⟨h2, o, rfl, fun e he hb => ?_⟩
      rw [List.all_eq_true] at h3
      have := h3 e (by simpa using he)
      rw [hb, Bool.not_true, Bool.false_or] at this
      exact (h.false hD).2 (has_iff.1 this)
    · rintro ⟨h2, o', ho', h3⟩
      cases ho'
      refine ⟨h2, List.all_eq_true.2 fun e he => ?_⟩
      cases hb : Region.binds .any e with
      | false => rfl
      | true => rw [Bool.not_true, Bool.false_or]; exact has_iff.2 ((h.false hD).1 (h3 e (by simpa using he) hb))

theorem allIn_out {n : Nat} {f : Nat → Bool} (h : allIn n f = true) {i : Nat} (hi : i < n) : f i = true := List.all_eq_true.1 h i (List.mem_range.2 hi)
theorem ready_lt {ops : List Oper} {listed : Array Bool} {i : Nat} (h : i ∈ Region.ready .any ops.toArray listed) : i < ops.length := by
  obtain ⟨_, o, ho, _⟩ := mem_ready.1 h
  rw [List.getElem?_toArray] at ho
  exact (List.getElem?_eq_some_iff.1 ho).1

theorem keepD_sup {W : Wt} {i : Nat} {drop : List Nat} (hd : drop.all (fun d => waits W i d) = true) (pd : Pend) : ∀ p ∈ keep W i pd, p ∈ keepD drop pd := by
  intro p hp
  unfold keep keepD at *
  rw [List.mem_filter] at *
  refine ⟨hp.1, ?_⟩
  have h2 := hp.2
  rw [Bool.not_eq_true'] at h2 ⊢
  rw [← Bool.not_eq_true, List.any_eq_true]
  rintro ⟨d, hm, he⟩
  have := List.all_eq_true.1 hd d hm
  rw [Nat.eq_of_beq_eq_true he, h2] at this
  cases this

theorem drawW_sound {H : Hints} {n : Nat} {ops : List Oper} {W : Wt} (hd : dstsOk n ops = true) (hs : Region.noSelect ops.toArray = true) (hc : closOk ops W = true) (hE : ∀ o ∈ ops, ∀ g ∈ calleesOf o.op, Enters P g) {Q' : Exit → Act → World → Prop} {Q : Env → World → Prop} {Inv : Env → Prop} (hI : ∀ ρ o v, o ∈ ops → Inv ρ → Inv (put ρ o.dst v))
    (hQ : ∀ a ρ w, Rel n a ρ → Inv ρ → Q ρ w → Q' .normal a w) (hQp : ∀ c a w, ¬ Q' (.panic c) a w) : ∀ (pl : Plan) (D : List Nat) (fuel : Nat) (listed : Array Bool) (pd : Pend) (ρ : Env) (a : Act) (w : World),
      planOk ops W pl D = true → Lists ops.length D listed → (∀ i ∈ D, i < ops.length) → Closed W listed → pl.depth ≤ fuel → (∀ p ∈ pd, holds p.2 w) → Rel n a ρ → Inv ρ → drawW P H ops Q pl pd ρ w → wpAnyF P W ops.toArray Q' fuel listed pd a w := by
  have hRC := closOk_ready hc
  have stepOf : ∀ (i : Nat) (drop : List Nat) (rest : Plan) (D : List Nat) (fuel : Nat) (listed : Array Bool) (pd : Pend) (ρ : Env) (a : Act) (w : World),
      (∀ (listed : Array Bool) (pd : Pend) (ρ : Env) (a : Act) (w : World), Lists ops.length (i :: D) listed → Closed W listed → (∀ p ∈ pd, holds p.2 w) → Rel n a ρ → Inv ρ → drawW P H ops Q rest pd ρ w → wpAnyF P W ops.toArray Q' fuel listed pd a w) →
      i ∈ Region.ready .any ops.toArray listed → drop.all (fun d => waits W i d) = true → Lists ops.length D listed → Closed W listed → (∀ p ∈ pd, holds p.2 w) → Rel n a ρ → Inv ρ → stepE P H ops i drop pd ρ w (drawW P H ops Q rest) →
      wpOp P ops.toArray Q' i (fun a' w' => (∀ p ∈ keep W i pd, holds p.2 w') ∧ wpAnyF P W ops.toArray Q' fuel (listed.setIfInBounds i true) (keep W i pd) a' w') a w := by
    intro i drop rest D fuel listed pd ρ a w ih hi hdrop hL hcl hpd hr hin h
    have hlt := ready_lt hi
    unfold stepE at h
    unfold wpOp
    have hsup := keepD_sup hdrop pd
    have hL' := hL.set hlt
    have hcl' := hcl.set hRC hi
    have ho : ops[i]? = some ops[i] := List.getElem?_eq_getElem hlt
    rw [ho] at h
    rw [List.getElem?_toArray, ho]
    simp only at h ⊢
    have hmem : ops[i] ∈ ops := List.getElem_mem hlt
    have hput : ∀ v, Rel n (a.put ops[i].dst v) (put ρ ops[i].dst v) := fun v => hr.put _ (fun t ht => dstsOk_out hd hmem ht) v
    rcases guardW_out hr hd h with ⟨hw, h⟩ | ⟨hw, h⟩
    · rw [if_pos hw]
      refine .inl (opW_sound (hE _ hmem) h hr.eval (fun v w' hn => ?_))
      obtain ⟨hk, hn⟩ := pendW_out hn
      exact ⟨fun p hp => hk p (hsup p hp), wpAnyF_weak W _ _ _ _ _ _ hsup (ih _ _ _ _ _ hL' hcl' hk (hput v) (hI _ _ _ hmem hin) hn)⟩
    · rw [hw, if_neg (by simp)]
      have hk : ∀ p ∈ keepD drop pd, holds p.2 w := fun p hp => hpd p (List.mem_filter.1 hp).1
      exact ⟨fun p hp => hk p (hsup p hp), wpAnyF_weak W _ _ _ _ _ _ hsup (ih _ _ _ _ _ hL' hcl' hk (hput undef) (hI _ _ _ hmem hin) h)⟩
  intro pl
  induction pl with
  | done =>
    intro D fuel listed pd ρ a w hp hL hD hcl hf hpd hr hin h
    have hnone : Region.ready .any ops.toArray listed = [] := by
      rw [List.eq_nil_iff_forall_not_mem]
      intro i hi
      have h1 := allIn_out hp (ready_lt hi)
      rw [(readyB_iff hL hD).2 hi] at h1
      cases h1
    cases fuel with
    | zero => exact ⟨hnone, hQ a ρ w hr hin h⟩
    | succ fuel => exact ⟨fun _ => hQ a ρ w hr hin h, fun i hi => by rw [hnone] at hi; cases hi⟩
  | r i rest ih =>
    intro D fuel listed pd ρ a w hp hL hD hcl hf hpd hr hin h
    simp only [planOk, Bool.and_eq_true] at hp
    obtain ⟨⟨h1, h2⟩, h3⟩ := hp
    have hi := (readyB_iff hL hD).1 h1
    have hlt := ready_lt hi
    have ho : ops[i]? = some ops[i] := List.getElem?_eq_getElem hlt
    rw [ho] at h2
    simp only [Bool.and_eq_true] at h2
    obtain ⟨hR, hfree⟩ := h2
    simp only [drawW, ho] at h
    have hmem : ops[i] ∈ ops := List.getElem_mem hlt
    have hput : ∀ v, Rel n (a.put ops[i].dst v) (put ρ ops[i].dst v) := fun v => hr.put _ (fun t ht => dstsOk_out hd hmem ht) v
    have hL' := hL.set hlt
    have hcl' := hcl.set hRC hi
    have hiD : i ∉ D := fun hm => by
      have := (mem_ready.1 hi).1
      rw [(hL.2 i hlt).2 hm] at this; cases this
    cases fuel with
    | zero => simp [Plan.depth] at hf
    | succ fuel =>
      have hfr : ∀ j oj, ops.toArray[j]? = some oj → j ≠ i → listed.getD j true = false → (∀ e ∈ oj.after, Region.binds .any e = true → e.on ≠ i) → ops[i].apart ops.toArray oj = true := by
        intro j oj hj hji hun hno
        rw [List.getElem?_toArray] at hj
        have hjlt : j < ops.length := (List.getElem?_eq_some_iff.1 hj).1
        have := List.all_eq_true.1 hfree (oj, j) (by rw [List.mem_zipIdx_iff_getElem?]; exact hj)
        simp only [Bool.or_eq_true] at this
        rcases this with ((h5 | h5) | h5) | h5
        · exact absurd (Nat.eq_of_beq_eq_true h5) hji
        · rw [(hL.2 j hjlt).2 (has_iff.1 h5)] at hun; cases hun
        · rw [List.any_eq_true] at h5
          obtain ⟨e, he, hb⟩ := h5
          rw [Bool.and_eq_true] at hb
          exact absurd (Nat.eq_of_beq_eq_true hb.2) (hno e (by simpa using he) hb.1)
        · exact h5
      have hoi : ops.toArray[i]? = some ops[i] := by rw [List.getElem?_toArray]; exact ho
      have hD' : ∀ k ∈ i :: D, k < ops.length := fun k hk => by rcases List.mem_cons.1 hk with rfl | hk; exact hlt; exact hD k hk
      rcases guardW_out hr hd h with ⟨hw, h⟩ | ⟨hw, h⟩
      · obtain ⟨v, hn, hF, hrun⟩ := opW_reads hR h
        refine wpAnyF_first hRC (v := v) (F := factOf P ops[i] ρ v w) hoi (Region.noSelect_spec hs) (fun c a w hq => absurd hq (hQp _ _ _)) fuel listed pd a w hcl hfr hi (.inl ⟨hw, fun w' hw' => by rw [hr.eval]; exact hrun w' hw'⟩) hF hpd ?_
        exact ih (i :: D) fuel _ _ _ _ _ h3 hL' hD' hcl' (by simp [Plan.depth] at hf; omega) (fun p hp => by rcases List.mem_cons.1 hp with rfl | hp; exact hF; exact hpd p hp) (hput v) (hI _ _ _ hmem hin) hn
      · refine wpAnyF_first hRC (v := undef) (F := none) hoi (Region.noSelect_spec hs) (fun c a w hq => absurd hq (hQp _ _ _)) fuel listed pd a w hcl hfr hi (.inr ⟨hw, rfl⟩) trivial hpd ?_
        exact ih (i :: D) fuel _ _ _ _ _ h3 hL' hD' hcl' (by simp [Plan.depth] at hf; omega) (fun p hp => by rcases List.mem_cons.1 hp with rfl | hp; trivial; exact hpd p hp) (hput undef) (hI _ _ _ hmem hin) h
  | e i drop rest ih =>
    intro D fuel listed pd ρ a w hp hL hD hcl hf hpd hr hin h
    simp only [planOk, Bool.and_eq_true] at hp
    obtain ⟨⟨⟨h1, h2⟩, h3⟩, h4⟩ := hp
    have hi := (readyB_iff hL hD).1 h1
    have hlt := ready_lt hi
    have hD' : ∀ k ∈ i :: D, k < ops.length := fun k hk => by rcases List.mem_cons.1 hk with rfl | hk; exact hlt; exact hD k hk
    have honly : ∀ j ∈ Region.ready .any ops.toArray listed, j = i := fun j hj => by
      have := allIn_out h2 (ready_lt hj)
      rw [(readyB_iff hL hD).2 hj, Bool.not_true, Bool.false_or] at this
      exact Nat.eq_of_beq_eq_true this
    cases fuel with
    | zero => simp [Plan.depth] at hf
    | succ fuel =>
      refine ⟨fun h0 => (by rw [h0] at hi; cases hi), fun j hj => ?_⟩
      obtain rfl := honly j hj
      exact stepOf j drop rest D fuel listed pd ρ a w (fun listed pd ρ a w hL' hcl' hpd' hr' hin' h' => ih (j :: D) fuel listed pd ρ a w h4 hL' hD' hcl' (by simp [Plan.depth] at hf; omega) hpd' hr' hin' h') hi h3 hL hcl hpd hr hin h
  | e2 i drop rest i' drop' rest' ih ih' =>
    intro D fuel listed pd ρ a w hp hL hD hcl hf hpd hr hin h
    simp only [planOk, Bool.and_eq_true] at hp
    obtain ⟨⟨⟨⟨⟨⟨h1, h1'⟩, h2⟩, h3⟩, h3'⟩, h4⟩, h4'⟩ := hp
    have hi := (readyB_iff hL hD).1 h1
    have hi' := (readyB_iff hL hD).1 h1'
    have hlt := ready_lt hi
    have hlt' := ready_lt hi'
    have hD1 : ∀ k ∈ i :: D, k < ops.length := fun k hk => by rcases List.mem_cons.1 hk with rfl | hk; exact hlt; exact hD k hk
    have hD2 : ∀ k ∈ i' :: D, k < ops.length := fun k hk => by rcases List.mem_cons.1 hk with rfl | hk; exact hlt'; exact hD k hk
    have honly : ∀ j ∈ Region.ready .any ops.toArray listed, j = i ∨ j = i' := fun j hj => by
      have := allIn_out h2 (ready_lt hj)
      rw [(readyB_iff hL hD).2 hj, Bool.not_true, Bool.false_or, Bool.or_eq_true] at this
      exact this.imp Nat.eq_of_beq_eq_true Nat.eq_of_beq_eq_true
    cases fuel with
    | zero => simp [Plan.depth] at hf
    | succ fuel =>
      refine ⟨fun h0 => (by rw [h0] at hi; cases hi), fun j hj => ?_⟩
      rcases honly j hj with rfl | rfl
      · exact stepOf j drop rest D fuel listed pd ρ a w (fun listed pd ρ a w hL' hcl' hpd' hr' hin' h' => ih (j :: D) fuel listed pd ρ a w h4 hL' hD1 hcl' (by simp [Plan.depth] at hf; omega) hpd' hr' hin' h') hi h3 hL hcl hpd hr hin h.1
      · exact stepOf j drop' rest' D fuel listed pd ρ a w (fun listed pd ρ a w hL' hcl' hpd' hr' hin' h' => ih' (j :: D) fuel listed pd ρ a w h4' hL' hD2 hcl' (by simp [Plan.depth] at hf; omega) hpd' hr' hin' h') hi' h3' hL hcl hpd hr hin h.2

end Go.Vc
