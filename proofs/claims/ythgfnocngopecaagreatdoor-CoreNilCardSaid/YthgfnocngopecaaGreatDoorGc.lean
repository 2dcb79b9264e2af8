/- The session's verification conditions, part 6: code ('codeW') and functions ('fnW'), and that they are enough for the machine's call. Conditions: none. -/
import Derived.Test.YthgfnocngopecaaGreatDoorGd
set_option linter.unusedVariables false
set_option linter.unusedSimpArgs false
namespace Go.Vc
open Go.RowKit

variable {P : Program}

/-! ### 1. predicates over typed slots -/
def K.fn : K → Type → Type
  | .i _, R => Int → R
  | .b, R => Bool → R
  | .s, R => ByteArray → R
  | .p, R => Option Addr → R
  | .sl, R => Option Addr → Nat → Nat → R
  | .m, R => Option Nat → R
  | .v, R => Value → R
  | .q, R => Nat → R
def fns : List K → Type → Type
  | [], R => R
  | k :: ks, R => k.fn (fns ks R)
def Sh.fn : Sh → Type → Type
  | .one k, R => k.fn R
  | .agg ks, R => fns ks R
  | .raw _, R => List Value → R
def Fn : List Sh → Type → Type
  | [], R => R
  | s :: ss, R => s.fn (Fn ss R)

def K.ap {R : Type} : (k : K) → k.fn R → Value → Option R
  | .i k, f, x => match x with | .int k' n => bif k' == k then some (f n) else none | _ => none
  | .b, f, x => match x with | .bool y => some (f y) | _ => none
  | .s, f, x => match x with | .string y => some (f y) | _ => none
  | .p, f, x => match x with | .pointer y => some (f y) | _ => none
  | .sl, f, x => match x with | .slice y n c => some (f y n c) | _ => none
  | .m, f, x => match x with | .map y => some (f y) | _ => none
  | .v, f, x => some (f x)
  | .q, f, x => match x with | .pointer (some ⟨bl, 0, none⟩) => some (f bl) | _ => none
def apsK {R : Type} : (ks : List K) → fns ks R → List Value → Option R
  | [], f, [] => some f
  | k :: ks, f, v :: vs => match K.ap (R := fns ks R) k f v with | some g => apsK ks g vs | none => none
  | _, _, _ => none
def Sh.ap {R : Type} : (s : Sh) → s.fn R → Value → Option R
  | .one k, f, v => k.ap f v
  | .agg ks, f, v => match v with | .agg cs => apsK ks f cs.toList | _ => none
  | .raw _, f, v => match v with | .agg cs => some (f cs.toList) | _ => none
def Fn.ap {R : Type} : (ss : List Sh) → Fn ss R → List Value → Option R
  | [], f, [] => some f
  | s :: ss, f, v :: vs => match Sh.ap (R := Fn ss R) s f v with | some g => Fn.ap ss g vs | none => none
  | _, _, _ => none
def onO {R : Type} (o : Option R) (Φ : R → Prop) : Prop := match o with | some r => Φ r | none => False
theorem onO_out {R : Type} {o : Option R} {Φ : R → Prop} (h : onO o Φ) : ∃ r, o = some r ∧ Φ r := by
  cases o with
  | none => exact h.elim
  | some r => exact ⟨r, rfl, h⟩

/-- for all values of the kinds, with what two functions say of them -/
def K.all2 {R S : Type} : (k : K) → k.fn R → k.fn S → (Value → R → S → Prop) → Prop
  | .i k, f, g, Φ => ∀ n : Int, Φ (.int k n) (f n) (g n)
  | .b, f, g, Φ => ∀ x : Bool, Φ (.bool x) (f x) (g x)
  | .s, f, g, Φ => ∀ x : ByteArray, Φ (.string x) (f x) (g x)
  | .p, f, g, Φ => ∀ x : Option Addr, Φ (.pointer x) (f x) (g x)
  | .sl, f, g, Φ => ∀ (x : Option Addr) (n c : Nat), Φ (.slice x n c) (f x n c) (g x n c)
  | .m, f, g, Φ => ∀ x : Option Nat, Φ (.map x) (f x) (g x)
  | .v, f, g, Φ => ∀ x : Value, Φ x (f x) (g x)
  | .q, f, g, Φ => ∀ b : Nat, Φ (.pointer (some ⟨b, 0, none⟩)) (f b) (g b)
def all2s {R S : Type} : (ks : List K) → fns ks R → fns ks S → (List Value → R → S → Prop) → Prop
  | [], f, g, Φ => Φ [] f g
  | k :: ks, f, g, Φ => K.all2 (R := fns ks R) (S := fns ks S) k f g fun v f g => all2s ks f g fun vs r s => Φ (v :: vs) r s
def Sh.all2 {R S : Type} : (s : Sh) → s.fn R → s.fn S → (Value → R → S → Prop) → Prop
  | .one k, f, g, Φ => k.all2 f g Φ
  | .agg ks, f, g, Φ => all2s ks f g fun vs r s => Φ (.agg vs.toArray) r s
  | .raw _, f, g, Φ => ∀ vs : List Value, Φ (.agg vs.toArray) (f vs) (g vs)
def Fn.all2 {R S : Type} : (ss : List Sh) → Fn ss R → Fn ss S → (List Value → R → S → Prop) → Prop
  | [], f, g, Φ => Φ [] f g
  | s :: ss, f, g, Φ => Sh.all2 (R := Fn ss R) (S := Fn ss S) s f g fun v f g => Fn.all2 ss f g fun vs r t => Φ (v :: vs) r t

theorem K.all2_out {R S : Type} {k : K} {f : k.fn R} {g : k.fn S} {Φ : Value → R → S → Prop} (h : k.all2 f g Φ) {x : Value} {r : R} (hr : k.ap f x = some r) : ∃ t, k.ap g x = some t ∧ Φ x r t := by
  cases k <;> simp only [K.ap] at hr ⊢ <;> simp only [K.all2] at h
  case i k =>
    split at hr
    · rename_i k' n
      cases hk : (k' == k) with
      | false => rw [hk] at hr; cases hr
      | true =>
        rw [hk] at hr; cases hr
        obtain rfl : k' = k := by simpa using hk
        exact ⟨g n, by simp, h n⟩
    · cases hr
  case v => cases hr; exact ⟨_, rfl, h x⟩
  case sl =>
    split at hr
    · cases hr; exact ⟨_, rfl, h _ _ _⟩
    · cases hr
  all_goals
    split at hr
    · cases hr; exact ⟨_, rfl, h _⟩
    · cases hr
theorem all2s_out {R S : Type} : ∀ {ks : List K} {f : fns ks R} {g : fns ks S} {Φ : List Value → R → S → Prop}, all2s ks f g Φ → ∀ {vs : List Value} {r : R}, apsK ks f vs = some r → ∃ s, apsK ks g vs = some s ∧ Φ vs r s
  | [], f, g, Φ, h, [], r, hr => by cases hr; exact ⟨g, rfl, h⟩
  | [], f, g, Φ, h, _ :: _, r, hr => by cases hr
  | k :: ks, f, g, Φ, h, [], r, hr => by cases hr
  | k :: ks, f, g, Φ, h, v :: vs, r, hr => by
    simp only [apsK] at hr ⊢
    split at hr
    · rename_i f1 hf1
      obtain ⟨g1, hg1, h1⟩ := K.all2_out h hf1
      rw [hg1]
      exact all2s_out h1 hr
    · cases hr
theorem Sh.all2_out {R S : Type} {s : Sh} {f : s.fn R} {g : s.fn S} {Φ : Value → R → S → Prop} (h : s.all2 f g Φ) {v : Value} {r : R} (hr : s.ap f v = some r) : ∃ t, s.ap g v = some t ∧ Φ v r t := by
  cases s with
  | one k => exact K.all2_out h hr
  | agg ks =>
    simp only [Sh.ap] at hr ⊢
    split at hr
    · rename_i cs
      obtain ⟨t, ht, hΦ⟩ := all2s_out h hr
      exact ⟨t, ht, by simpa using hΦ⟩
    · cases hr
  | raw n =>
    simp only [Sh.ap] at hr ⊢
    split at hr
    · rename_i cs
      cases hr
      exact ⟨_, rfl, by simpa using h cs.toList⟩
    · cases hr
theorem Fn.all2_out {R S : Type} : ∀ {ss : List Sh} {f : Fn ss R} {g : Fn ss S} {Φ : List Value → R → S → Prop}, Fn.all2 ss f g Φ → ∀ {vs : List Value} {r : R}, Fn.ap ss f vs = some r → ∃ s, Fn.ap ss g vs = some s ∧ Φ vs r s
  | [], f, g, Φ, h, [], r, hr => by cases hr; exact ⟨g, rfl, h⟩
  | [], f, g, Φ, h, _ :: _, r, hr => by cases hr
  | k :: ks, f, g, Φ, h, [], r, hr => by cases hr
  | k :: ks, f, g, Φ, h, v :: vs, r, hr => by
    simp only [Fn.ap] at hr ⊢
    split at hr
    · rename_i f1 hf1
      obtain ⟨g1, hg1, h1⟩ := Sh.all2_out h hf1
      rw [hg1]
      exact Fn.all2_out h1 hr
    · cases hr

/-! ### 2. code -/
abbrev Live := List (Nat × Sh)
inductive Ann where
  | no
  | s (l r : Ann)
  | b (l : Ann)
  | loop (lv : Live) (l : Ann)
  | draw (pl : Plan) (wt : Wt)
  | jn (lv : Live) (a : Ann)
def Ann.l : Ann → Ann | .s l _ => l | .b l => l | .loop _ l => l | _ => .no
def Ann.r : Ann → Ann | .s _ r => r | _ => .no
def Ann.lv : Ann → Live | .loop lv _ => lv | _ => []
def Ann.plan : Ann → Plan | .draw pl _ => pl | _ => .done
def Ann.wt : Ann → Wt | .draw _ wt => wt | _ => []

def dstsOf (ops : List Oper) : List Nat := ops.filterMap (·.dst)
def writes : Code → List Nat
  | .region _ ops _ => dstsOf ops.toList
  | .seq x y => writes x ++ writes y
  | .cond _ x y => writes x ++ writes y
  | .block _ x => writes x
  | .loop x => writes x
  | _ => []
def hasN (l : List Nat) (i : Nat) : Bool := match l with | [] => false | x :: r => bif Nat.beq x i then true else hasN r i
def setAll (ρ : Env) : List Nat → List Value → Env
  | t :: ts, v :: vs => upd (setAll ρ ts vs) t v
  | _, _ => ρ
def mix (ρ : Env) (ws : List Nat) (jk : Env) (ts : List Nat) (vs : List Value) : Env := setAll (fun i => bif hasN ws i then jk i else ρ i) ts vs
def slots (lv : Live) : List Nat := lv.map (·.1)
def shs (lv : Live) : List Sh := lv.map (·.2)

abbrev QC := Exit → Env → World → Prop
def jnW (ws : List Nat) (a : Ann) (inner : Ann → QC → Env → World → Prop) (Q : QC) (ρ : Env) (w : World) : Prop :=
  match a with
  | .jn lv a' => ∃ J : Fn (shs lv) (World → Prop), inner a' (fun e ρ' w' => match e with | .normal => onO (Fn.ap (shs lv) J ((slots lv).map ρ')) fun j => j w' | e => Q e ρ' w') ρ w ∧
      Fn.all2 (shs lv) J J fun vs j _ => ∀ (jk : Env) (w' : World), j w' → Q .normal (mix ρ ws jk (slots lv) vs) w'
  | a => inner a Q ρ w

def thenQ (K : Env → World → Prop) (Q : QC) : QC := fun e ρ w => match e with | .normal => K ρ w | e => Q e ρ w
def blockQ (id : Nat) (Q : QC) : QC := fun e ρ w => match e with | .exit i => bif Nat.beq i id then Q .normal ρ w else Q (.exit i) ρ w | e => Q e ρ w

def regW (P : Program) (H : Hints) (ops : List Oper) (dr : Bool) (a : Ann) (Q : QC) (ρ : Env) (w : World) : Prop :=
  match dr with
  | false => opsW P H ops ops (fun ρ w => Q .normal ρ w) ρ w
  | true => drawW P H ops (fun ρ w => Q .normal ρ w) a.plan [] ρ w.drew

def codeW (P : Program) (H : Hints) : Code → Ann → QC → Env → World → Prop
  | .skip, _, Q, ρ, w => Q .normal ρ w
  | .region id ops dr, a, Q, ρ, w => jnW (dstsOf ops.toList) a (fun a Q ρ w => regW P H ops.toList dr a Q ρ w) Q ρ w
  | .seq x y, a, Q, ρ, w => jnW (writes x ++ writes y) a (fun a Q ρ w => codeW P H x a.l (thenQ (fun ρ w => codeW P H y a.r Q ρ w) Q) ρ w) Q ρ w
  | .cond c x y, a, Q, ρ, w => jnW (writes x ++ writes y) a (fun a Q ρ w => match ev ρ c with
      | .bool b => ifb b (codeW P H x a.l Q ρ w) (codeW P H y a.r Q ρ w)
      | _ => False) Q ρ w
  | .block id x, a, Q, ρ, w => jnW (writes x) a (fun a Q ρ w => codeW P H x a.l (blockQ id Q) ρ w) Q ρ w
  | .loop x, a, Q, ρ, w => jnW (writes x) a (fun a Q ρ w =>
      ∃ (I : Fn (shs a.lv) (World → Prop)) (μ : Fn (shs a.lv) (World → Nat)), (onO (Fn.ap (shs a.lv) I ((slots a.lv).map ρ)) fun i => i w) ∧
        Fn.all2 (shs a.lv) I μ fun vs i m => ∀ (jk : Env) (w' : World), i w' →
          codeW P H x a.l (thenQ (fun ρ'' w'' => (onO (Fn.ap (shs a.lv) I ((slots a.lv).map ρ'')) fun i => i w'') ∧ (onO (Fn.ap (shs a.lv) μ ((slots a.lv).map ρ'')) fun m' => m' w'' < m w')) Q)
            (mix ρ (writes x) jk (slots a.lv) vs) w') Q ρ w
  | .exit id, _, Q, ρ, w => Q (.exit id) ρ w
  | .ret, _, Q, ρ, w => Q .ret ρ w
  | _, _, _, _, _ => False

def Ann.core : Ann → Ann | .jn _ a => a.core | a => a
def okR (n : Nat) (ops : List Oper) (dr : Bool) (a : Ann) : Bool :=
  dstsOk n ops && (match dr with
    | false => true
    | true => Region.noSelect ops.toArray && closOk ops a.wt && planOk ops a.wt a.plan [] && Nat.ble a.plan.depth ops.length)
/-- one join at most at a place -/
def one (a : Ann) : Ann := match a with | .jn _ a' => a' | a => a
def okC (n : Nat) : Code → Ann → Bool
  | .region _ ops dr, a => okR n ops.toList dr (one a)
  | .seq x y, a => okC n x (one a).l && okC n y (one a).r
  | .cond _ x y, a => okC n x (one a).l && okC n y (one a).r
  | .block _ x, a => okC n x (one a).l
  | .loop x, a => okC n x (one a).l
  | .skip, _ | .exit _, _ | .ret, _ => true
  | _, _ => false
def calleesC : Code → List FuncId
  | .region _ ops _ => ops.toList.flatMap fun o => calleesOf o.op
  | .seq x y => calleesC x ++ calleesC y
  | .cond _ x y => calleesC x ++ calleesC y
  | .block _ x => calleesC x
  | .loop x => calleesC x
  | _ => []

/-- what the machine's frame has to meet -/
def lift (n : Nat) (Q : QC) (ρ : Env) (ws : List Nat) : Exit → Act → World → Prop := fun e a w =>
  match e with
  | .normal | .exit _ | .ret => ∃ ρ', Rel n a ρ' ∧ (∀ i, hasN ws i = false → ρ' i = ρ i) ∧ Q e ρ' w
  | _ => False

theorem hasN_append (l r : List Nat) (i : Nat) : hasN (l ++ r) i = (hasN l i || hasN r i) := by
  induction l with
  | nil => rfl
  | cons x l ih =>
    simp only [List.cons_append, hasN]
    cases Nat.beq x i
    · simpa using ih
    · rfl
theorem hasN_mem {l : List Nat} {i : Nat} : hasN l i = true ↔ i ∈ l := by
  induction l with
  | nil => simp [hasN]
  | cons x l ih =>
    simp only [hasN]
    cases h : Nat.beq x i with
    | true => simp [Nat.eq_of_beq_eq_true h]
    | false =>
      rw [cond_false, ih]
      have : i ≠ x := fun e => by subst e; rw [Nat.beq_refl] at h; cases h
      simp [this]

theorem setAll_map {ρ0 ρ' : Env} : ∀ (ts : List Nat), (∀ i, i ∉ ts → ρ0 i = ρ' i) → setAll ρ0 ts (ts.map ρ') = ρ'
  | [], h => by funext i; exact h i (by simp)
  | t :: ts, h => by
    funext i
    simp only [List.map_cons, setAll, upd]
    cases hb : Nat.beq i t with
    | true => rw [Nat.eq_of_beq_eq_true hb]; rfl
    | false =>
      rw [cond_false]
      by_cases hm : i ∈ ts
      · -- the slot is one of the others
        have : ∀ (ts : List Nat), i ∈ ts → setAll ρ0 ts (ts.map ρ') i = ρ' i := by
          intro ts
          induction ts with
          | nil => intro h; cases h
          | cons u us ih =>
            intro hm
            simp only [List.map_cons, setAll, upd]
            cases hb : Nat.beq i u with
            | true => rw [Nat.eq_of_beq_eq_true hb]; rfl
            | false =>
              rw [cond_false]
              refine ih ?_
              rcases List.mem_cons.1 hm with rfl | hm
              · rw [Nat.beq_refl] at hb; cases hb
              · exact hm
        exact this ts hm
      · have h2 : ∀ (ts : List Nat), i ∉ ts → setAll ρ0 ts (ts.map ρ') i = ρ0 i := by
          intro ts
          induction ts with
          | nil => intro _; rfl
          | cons u us ih =>
            intro hm
            simp only [List.map_cons, setAll, upd]
            cases hb : Nat.beq i u with
            | true => exact absurd (Nat.eq_of_beq_eq_true hb) (fun e => hm (by simp [e]))
            | false => rw [cond_false]; exact ih (fun h => hm (by simp [h]))
        rw [h2 ts hm]
        exact h i (fun h => by
          rcases List.mem_cons.1 h with rfl | h
          · rw [Nat.beq_refl] at hb; cases hb
          · exact hm h)
theorem mix_self {ρ ρ' : Env} {ws ts : List Nat} (h : ∀ i, hasN ws i = false → ρ' i = ρ i) : mix ρ ws ρ' ts (ts.map ρ') = ρ' := by
  unfold mix
  refine setAll_map ts fun i _ => ?_
  cases hw : hasN ws i with
  | true => rfl
  | false => rw [cond_false, h i hw]

theorem put_other {ρ : Env} {d : Option Nat} {v : Value} {i : Nat} (h : d ≠ some i) : put ρ d v i = ρ i := by
  cases d with
  | none => rfl
  | some t =>
    simp only [put, upd]
    cases hb : Nat.beq i t with
    | true => exact absurd (by rw [Nat.eq_of_beq_eq_true hb]) h
    | false => rfl

/-! ### 3. it is enough -/
/-- What an operation leaves agrees with what was there, but for its own slot: the frames of a list of operations. -/
def Agree (ws : List Nat) (ρ ρ' : Env) : Prop := ∀ i, hasN ws i = false → ρ' i = ρ i
theorem Agree.refl (ws : List Nat) (ρ : Env) : Agree ws ρ ρ := fun _ _ => rfl
theorem Agree.put {ws : List Nat} {ρ ρ' : Env} (h : Agree ws ρ ρ') {d : Option Nat} (hd : ∀ t, d = some t → t ∈ ws) (v : Value) : Agree ws ρ (put ρ' d v) := fun i hi => by
  rw [put_other (fun e => by have := hasN_mem.2 (hd i e); rw [this] at hi; cases hi)]
  exact h i hi
theorem Agree.trans {ws : List Nat} {a b c : Env} (h : Agree ws a b) (k : Agree ws b c) : Agree ws a c := fun i hi => (k i hi).trans (h i hi)
theorem Agree.left {ws vs : List Nat} {a b : Env} (h : Agree ws a b) : Agree (ws ++ vs) a b := fun i hi => h i (by rw [hasN_append, Bool.or_eq_false_iff] at hi; exact hi.1)
theorem Agree.right {ws vs : List Nat} {a b : Env} (h : Agree vs a b) : Agree (ws ++ vs) a b := fun i hi => h i (by rw [hasN_append, Bool.or_eq_false_iff] at hi; exact hi.2)

theorem dst_mem {ops : List Oper} {o : Oper} (ho : o ∈ ops) : ∀ t, o.dst = some t → t ∈ dstsOf ops := fun t ht => List.mem_filterMap.2 ⟨o, ho, ht⟩

theorem lift_and {n : Nat} {Q : QC} {ρ ρ1 : Env} {ws : List Nat} (hA : Agree ws ρ ρ1) {e : Exit} {a : Act} {w : World} (h : lift n Q ρ1 ws e a w) : lift n Q ρ ws e a w := by
  cases e <;> simp only [lift] at h ⊢ <;> obtain ⟨ρ', hr, ha, hq⟩ := h <;> exact ⟨ρ', hr, hA.trans ha, hq⟩

theorem region_sound {H : Hints} (hm : P.follows .mixedOrders = true) {n id : Nat} {ops : Array Oper} {dr : Bool} {a0 : Ann} {Q : QC} (hok : okR n ops.toList dr a0 = true) (hE : ∀ g ∈ calleesC (.region id ops dr), Enters P g) {ρ : Env} {w : World} {a : Act} (hr : Rel n a ρ)
    (h : regW P H ops.toList dr a0 Q ρ w) : (Code.region id ops dr).wp P (lift n Q ρ (dstsOf ops.toList)) a w := by
  have hE' : ∀ o ∈ ops.toList, ∀ g ∈ calleesOf o.op, Enters P g := fun o ho g hg => hE g (List.mem_flatMap.2 ⟨o, ho, hg⟩)
  have hI : ∀ ρ' (o : Oper) v, o ∈ ops.toList → Agree (dstsOf ops.toList) ρ ρ' → Agree (dstsOf ops.toList) ρ (put ρ' o.dst v) := fun ρ' o v ho hA => hA.put (dst_mem ho) v
  have hQ : ∀ a ρ' w, Rel n a ρ' → Agree (dstsOf ops.toList) ρ ρ' → Q .normal ρ' w → lift n Q ρ (dstsOf ops.toList) .normal a w := fun a ρ' w hr hA hq => ⟨ρ', hr, hA, hq⟩
  unfold okR at hok
  rw [Bool.and_eq_true] at hok
  cases dr with
  | false =>
    refine wp_region_list ?_
    have := opsW_sound (Q' := lift n Q ρ (dstsOf ops.toList)) hok.1 hE' hI hQ ops.toList (fun o ho => ho) ρ a w hr (Agree.refl _ _) h
    simpa using this
  | true =>
    obtain ⟨hd, h2⟩ := hok
    simp only [Bool.and_eq_true] at h2
    obtain ⟨⟨⟨h3, h4⟩, h5⟩, h6⟩ := h2
    refine wp_region_any hm (wpAny_of_F a0.wt _ _ [] _ _ ?_)
    have hL : Lists ops.toList.length [] (Array.replicate ops.size false) := ⟨by simp, fun i hi => by
      have : i < ops.size := by simpa using hi
      simp [Array.getD_eq_getD_getElem?, this]⟩
    have := drawW_sound (P := P) (n := n) (Q' := lift n Q ρ (dstsOf ops.toList)) hd h3 h4 hE' hI hQ (fun c a w hp => hp) a0.plan [] ops.size (Array.replicate ops.size false) [] ρ a w.drew h5 hL (by simp)
      (fun j i hj => by
        have : (Array.replicate ops.size false).getD j false = false := by
          by_cases hlt : j < ops.size <;> simp [Array.getD_eq_getD_getElem?, hlt]
        rw [this] at hj; cases hj)
      (by have := Nat.le_of_ble_eq_true h6; simpa using this) (by simp) hr (Agree.refl _ _) h
    simpa using this

theorem jn_sound {n : Nat} {c : Code} {ws : List Nat} {inner : Ann → QC → Env → World → Prop} {a : Ann}
    (hin : ∀ Q ρ w, inner (one a) Q ρ w → ∀ act, Rel n act ρ → c.wp P (lift n Q ρ ws) act w) {Q : QC} {ρ : Env} {w : World} (h : jnW ws a inner Q ρ w) {act : Act} (hr : Rel n act ρ) : c.wp P (lift n Q ρ ws) act w := by
  cases a with
  | jn lv a' =>
    obtain ⟨J, h1, h2⟩ := h
    refine wp_mono (hin _ ρ w h1 act hr) ?_
    intro e a1 w1 hq
    cases e <;> simp only [lift] at hq ⊢
    case normal =>
      obtain ⟨ρ', hr', hA, hj⟩ := hq
      obtain ⟨j, hj1, hj2⟩ := onO_out hj
      obtain ⟨_, _, h3⟩ := Fn.all2_out h2 hj1
      refine ⟨ρ', hr', hA, ?_⟩
      have := h3 ρ' w1 hj2
      rw [mix_self hA] at this
      exact this
    all_goals exact hq
  | _ => exact hin _ ρ w h act hr

theorem codeW_sound {H : Hints} (hm : P.follows .mixedOrders = true) {n : Nat} : ∀ (c : Code) (a : Ann), okC n c a = true → (∀ g ∈ calleesC c, Enters P g) → ∀ (Q : QC) (ρ : Env) (w : World), codeW P H c a Q ρ w → ∀ act, Rel n act ρ → c.wp P (lift n Q ρ (writes c)) act w := by
  intro c
  induction c with
  | skip => intro a _ _ Q ρ w h act hr; exact wp_skip ⟨ρ, hr, Agree.refl _ _, h⟩
  | exit id => intro a _ _ Q ρ w h act hr; exact wp_exit ⟨ρ, hr, Agree.refl _ _, h⟩
  | ret => intro a _ _ Q ρ w h act hr; exact wp_ret ⟨ρ, hr, Agree.refl _ _, h⟩
  | region id ops dr =>
    intro a hok hE Q ρ w h act hr
    exact jn_sound (fun Q ρ w h act hr => region_sound hm hok hE hr h) h hr
  | seq x y ihx ihy =>
    intro a hok hE Q ρ w h act hr
    simp only [okC, Bool.and_eq_true] at hok
    refine jn_sound (fun Q ρ w h act hr => wp_seq ?_) h hr
    refine wp_mono (ihx _ hok.1 (fun g hg => hE g (by simp [calleesC, hg])) _ ρ w h act hr) ?_
    intro e a1 w1 hq
    cases e <;> simp only [lift, thenQ, Exit.then] at hq ⊢
    case normal =>
      obtain ⟨ρ1, hr1, hA1, hk⟩ := hq
      refine wp_mono (ihy _ hok.2 (fun g hg => hE g (by simp [calleesC, hg])) _ ρ1 w1 hk a1 hr1) ?_
      intro e2 a2 w2 hq2
      cases e2 <;> simp only [lift] at hq2 ⊢ <;> first
        | (obtain ⟨ρ2, hr2, hA2, hq3⟩ := hq2; exact ⟨ρ2, hr2, (Agree.left hA1).trans (Agree.right hA2), hq3⟩)
        | exact hq2
    all_goals first
      | (obtain ⟨ρ1, hr1, hA1, hk⟩ := hq; exact ⟨ρ1, hr1, Agree.left hA1, hk⟩)
      | exact hq
  | cond c x y ihx ihy =>
    intro a hok hE Q ρ w h act hr
    simp only [okC, Bool.and_eq_true] at hok
    refine jn_sound (fun Q ρ w h act hr => ?_) h hr
    split at h
    · rename_i b hb
      have hev : act.eval c = .bool b := by rw [hr.eval]; exact hb
      refine wp_cond hev ?_
      cases b
      · refine wp_mono (ihy _ hok.2 (fun g hg => hE g (by simp [calleesC, hg])) Q ρ w h act hr) ?_
        intro e2 a2 w2 hq2
        cases e2 <;> simp only [lift] at hq2 ⊢ <;> first
          | (obtain ⟨ρ2, hr2, hA2, hq3⟩ := hq2; exact ⟨ρ2, hr2, Agree.right hA2, hq3⟩)
          | exact hq2
      · refine wp_mono (ihx _ hok.1 (fun g hg => hE g (by simp [calleesC, hg])) Q ρ w h act hr) ?_
        intro e2 a2 w2 hq2
        cases e2 <;> simp only [lift] at hq2 ⊢ <;> first
          | (obtain ⟨ρ2, hr2, hA2, hq3⟩ := hq2; exact ⟨ρ2, hr2, Agree.left hA2, hq3⟩)
          | exact hq2
    · exact h.elim
  | block id x ihx =>
    intro a hok hE Q ρ w h act hr
    refine jn_sound (fun Q ρ w h act hr => wp_block ?_) h hr
    refine wp_mono (ihx _ hok hE _ ρ w h act hr) ?_
    intro e a1 w1 hq
    cases e <;> simp only [lift, blockQ, Exit.inBlock] at hq ⊢
    case exit i =>
      obtain ⟨ρ1, hr1, hA1, hk⟩ := hq
      split
      · rename_i he
        subst he
        rw [Nat.beq_refl, cond_true] at hk
        exact ⟨ρ1, hr1, hA1, hk⟩
      · rename_i he
        have : Nat.beq i id = false := by
          cases hb : Nat.beq i id with
          | false => rfl
          | true => exact absurd (Nat.eq_of_beq_eq_true hb) he
        rw [this, cond_false] at hk
        exact ⟨ρ1, hr1, hA1, hk⟩
    all_goals exact hq
  | loop x ihx =>
    intro a hok hE Q ρ w h act hr
    refine jn_sound (fun Q ρ w h act hr => ?_) h hr
    obtain ⟨I, μ, h0, hall⟩ := h
    let vals : Act → List Value := fun a' => (slots (one a).lv).map fun t => a'.tmps.getD t undef
    have hvals : ∀ {a' : Act} {ρ' : Env}, Rel n a' ρ' → vals a' = (slots (one a).lv).map ρ' := fun hr' => List.map_congr_left fun t _ => hr'.at_ t
    refine wp_loop (fun a' w' => ∃ ρ', Rel n a' ρ' ∧ Agree (writes x) ρ ρ' ∧ onO (Fn.ap (shs (one a).lv) I ((slots (one a).lv).map ρ')) fun i => i w')
      (fun a' w' => match Fn.ap (shs (one a).lv) μ (vals a') with | some m => m w' | none => 0) ⟨ρ, hr, Agree.refl _ _, h0⟩ ?_
    rintro a' w' ⟨ρ', hr', hA', hI⟩
    obtain ⟨i, hi1, hi2⟩ := onO_out hI
    obtain ⟨m, hm1, hbody⟩ := Fn.all2_out hall hi1
    have hb := hbody ρ' w' hi2
    rw [mix_self hA'] at hb
    refine wp_mono (ihx _ hok hE _ ρ' w' hb a' hr') ?_
    intro e a1 w1 hq
    cases e <;> simp only [lift, thenQ, Exit.then] at hq ⊢
    case normal =>
      obtain ⟨ρ1, hr1, hA1, hk1, hk2⟩ := hq
      refine ⟨⟨ρ1, hr1, hA'.trans hA1, hk1⟩, ?_⟩
      obtain ⟨m1, hm2, hlt⟩ := onO_out hk2
      rw [hvals hr1, hvals hr', hm1, hm2]
      exact hlt
    all_goals first
      | (obtain ⟨ρ1, hr1, hA1, hk⟩ := hq; exact ⟨ρ1, hr1, hA'.trans hA1, hk⟩)
      | exact hq
  | _ => intro a hok; cases hok

/-! ### 4. functions -/
def resL (P : Program) (ρ : Env) (w : World) : List ResultVar → (List Value → Prop) → Prop
  | [], Φ => Φ []
  | .tmp t :: r, Φ => resL P ρ w r fun vs => Φ (ρ t :: vs)
  | .cell a t :: r, Φ => loadW P t (ρ a) w fun v _ => resL P ρ w r fun vs => Φ (v :: vs)
def retV : List Value → Value
  | [v] => v
  | vs => .tuple vs.toArray
def fnQ (P : Program) (rs : List ResultVar) (R : Value → World → Prop) : QC := fun e ρ w =>
  match e with
  | .normal | .ret => resL P ρ w rs fun vs => R (retV vs) w
  | _ => False
def env0 (args : List Value) : Env := fun i => args.getD i undef
def fnW (P : Program) (H : Hints) (rs : List ResultVar) (body : Code) (a : Ann) (args : List Value) (w : World) (R : Value → World → Prop) : Prop := codeW P H body a (fnQ P rs R) (env0 args) w

theorem resL_run {a : Act} {n : Nat} {ρ : Env} (hr : Rel n a ρ) (w : World) : ∀ (rs : List ResultVar) (Φ : List Value → Prop), resL P ρ w rs Φ →
    ∃ vs, Φ vs ∧ (rs.mapM (m := Sem) fun x => match x with | .tmp t => pure (a.tmps.getD t undef) | .cell ad t => do loadVar t (← asAddr (a.tmps.getD ad undef))).run P w = .ok vs w
  | [], Φ, h => ⟨[], h, rfl⟩
  | .tmp t :: r, Φ, h => by
    obtain ⟨vs, hΦ, hrun⟩ := resL_run hr w r _ h
    refine ⟨_, hΦ, ?_⟩
    rw [List.mapM_cons]
    simp only [Sem.run_bind, Sem.run_pure, Result.andThen_ok, hrun, hr.at_ t]
  | .cell ad t :: r, Φ, h => by
    obtain ⟨u, hu, h⟩ := loadW_here h
    obtain ⟨vs, hΦ, hrun⟩ := resL_run hr w r _ h
    refine ⟨_, hΦ, ?_⟩
    rw [List.mapM_cons]
    have hload : (do loadVar t (← asAddr (a.tmps.getD ad undef)) : Sem Value).run P w = .ok u w := by
      rw [hr.at_ ad]
      revert hu
      cases ρ ad <;> simp [Instr.loadAt, Instr.sureAddr, asAddr]
      rename_i p
      cases p <;> simp
    simp only [Sem.run_bind] at hload
    simp only [Sem.run_bind, hload, Sem.run_pure, Result.andThen_ok, hrun]

theorem results_run {fn : Func} {a : Act} {n : Nat} {ρ : Env} (hr : Rel n a ρ) {w : World} {R : Value → World → Prop} (h : resL P ρ w fn.results.toList fun vs => R (retV vs) w) : ∃ v, R v w ∧ (results fn a.tmps).run P w = .ok v w := by
  obtain ⟨vs, hR, hrun⟩ := resL_run hr w _ _ h
  refine ⟨_, hR, ?_⟩
  unfold results
  rw [Array.mapM_eq_mapM_toList]
  have hmap : ∀ (e : Sem (List Value)), e.run P w = .ok vs w → (do let vs ← (List.toArray <$> e); pure (if h : vs.size = 1 then vs[0] else .tuple vs) : Sem Value).run P w = .ok (retV vs) w := by
    intro e he
    have h1 : (List.toArray <$> e).run P w = .ok vs.toArray w := by
      simp [he]
    simp only [Sem.run_bind, h1, Result.andThen_ok, Sem.run_pure]
    congr 1
    cases vs with
    | nil => rfl
    | cons v vs =>
      cases vs with
      | nil => rfl
      | cons u us => simp [retV]
  exact hmap _ hrun

theorem fn_sound {H : Hints} (hm : P.follows .mixedOrders = true) {f : FuncId} {fn : Func} {body : Code} {a : Ann} {args : List Value} {w : World} {R : Value → World → Prop} (hf : P.funcs[f]? = some fn) (hb : fn.body = some body) (hok : okC fn.ntmps body a = true)
    (hE : ∀ g ∈ calleesC body, Enters P g) (hn : Nat.ble args.length fn.ntmps = true) (h : fnW P H fn.results.toList body a args w R) : Calls P f args.toArray w fun e w' => ∃ v, e = .returned v ∧ R v w' := by
  refine calls_of_wp hf hb ?_
  have hr : Rel fn.ntmps { tmps := args.toArray ++ Array.replicate (fn.ntmps - args.toArray.size) undef, defers := [] } (env0 args) := by
    have hle := Nat.le_of_ble_eq_true hn
    refine ⟨by simp; omega, rfl, fun i => ?_⟩
    unfold env0
    rw [Array.getD_eq_getD_getElem?, List.getD_eq_getElem?_getD]
    by_cases hi : i < args.length
    · rw [Array.getElem?_append_left (by simpa using hi)]; simp
    · rw [Array.getElem?_append_right (by simpa using hi)]
      simp only [Array.getElem?_replicate]
      rw [List.getElem?_eq_none (by omega)]
      split <;> simp
  refine wp_mono (codeW_sound hm body a hok hE _ _ w h _ hr) ?_
  intro e a1 w1 hq
  cases e <;> simp only [lift] at hq
  case normal =>
    obtain ⟨ρ1, hr1, _, hk⟩ := hq
    obtain ⟨v, hv, hrun⟩ := results_run (fn := fn) hr1 hk
    exact ⟨hr1.defers, v, hrun, v, rfl, hv⟩
  case ret =>
    obtain ⟨ρ1, hr1, _, hk⟩ := hq
    obtain ⟨v, hv, hrun⟩ := results_run (fn := fn) hr1 hk
    exact ⟨hr1.defers, v, hrun, v, rfl, hv⟩
  case exit =>
    obtain ⟨ρ1, hr1, _, hk⟩ := hq
    exact hk.elim

/-- a function with a body is entered -/
def entersB (P : Program) (g : FuncId) : Bool := match P.funcs[g]? with | some fn => !(fn.name == "runtime.NumGoroutine") && fn.body.isSome | none => false
theorem entersB_out {g : FuncId} (h : entersB P g = true) : Enters P g := by
  unfold entersB at h
  intro args w
  split at h
  · rename_i fn hfn
    rw [Bool.and_eq_true, Bool.not_eq_true'] at h
    have hb : fn.body.isNone = false := by cases hq : fn.body <;> simp [hq] at h ⊢
    simp only [callFunc, Sem.run_bind, run_program, Result.andThen_ok, hfn, h.1, hb, Bool.false_eq_true, if_false, Sem.run_pure]
  · cases h
theorem enters_all {l : List FuncId} (h : l.all (entersB P) = true) : ∀ g ∈ l, Enters P g := fun g hg => entersB_out (List.all_eq_true.1 h g hg)

def emptyS : ByteArray := ⟨#[]⟩
def bodyOf (fn : Func) : Code := fn.body.getD .skip

end Go.Vc
