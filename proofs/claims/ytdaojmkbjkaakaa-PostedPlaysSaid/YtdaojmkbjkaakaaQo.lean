/- Plain: the order of channels; lists sorted in place, in segments, stably. Conditions: none. -/
import Derived.Test.YtdaojmkbjkaakaaQh
set_option linter.unusedVariables false
set_option linter.unusedSimpArgs false
namespace Go.Proofs.Ytdaojmkbjkaakaa
open Go.Vc Go.Q13 Go.RowKit

/-! ### the order -/
theorem bl_irrefl : ∀ x : List UInt8, Op.bytesLess x x = false
  | [] => rfl
  | a :: x => by simp [Op.bytesLess, bl_irrefl x]
theorem bl_tri : ∀ x y : List UInt8, x ≠ y → Op.bytesLess x y = true ∨ Op.bytesLess y x = true
  | [], [], h => absurd rfl h
  | [], _ :: _, _ => .inl rfl
  | _ :: _, [], _ => .inr rfl
  | a :: x, b :: y, h => by
    simp only [Op.bytesLess, Bool.or_eq_true, decide_eq_true_eq, Bool.and_eq_true, beq_iff_eq]
    by_cases hab : a = b
    · subst hab
      have hxy : x ≠ y := fun e => h (by rw [e])
      rcases bl_tri x y hxy with g | g
      · exact .inl (.inr ⟨rfl, g⟩)
      · exact .inr (.inr ⟨rfl, g⟩)
    · rcases UInt8.lt_or_lt_of_ne hab with g | g
      · exact .inl (.inl g)
      · exact .inr (.inl g)
theorem bl_trans : ∀ x y z : List UInt8, Op.bytesLess x y = true → Op.bytesLess y z = true → Op.bytesLess x z = true
  | _, [], _, h, _ => by simp [Op.bytesLess] at h
  | _, _ :: _, [], _, h => by simp [Op.bytesLess] at h
  | [], _ :: _, _ :: _, _, _ => rfl
  | a :: x, b :: y, c :: z, h, g => by
    simp only [Op.bytesLess, Bool.or_eq_true, decide_eq_true_eq, Bool.and_eq_true, beq_iff_eq] at h g ⊢
    rcases h with h | ⟨rfl, h⟩ <;> rcases g with g | ⟨rfl, g⟩
    · exact .inl (UInt8.lt_trans h g)
    · exact .inl h
    · exact .inl g
    · exact .inr ⟨rfl, bl_trans x y z h g⟩
def slt (a b : ByteArray) : Bool := Op.bytesLess a.toList b.toList
theorem slt_irrefl (a : ByteArray) : slt a a = false := bl_irrefl _
theorem slt_trans {a b c : ByteArray} (h : slt a b = true) (g : slt b c = true) : slt a c = true := bl_trans _ _ _ h g
theorem toList_inj {a b : ByteArray} (h : a.toList = b.toList) : a = b := by
  rw [ByteArray.toList_eq, ByteArray.toList_eq] at h
  exact WideShapes.bytes_inj h
theorem slt_tri {a b : ByteArray} (h : a ≠ b) : slt a b = true ∨ slt b a = true := bl_tri _ _ fun e => h (toList_inj e)
theorem slt_asymm {a b : ByteArray} (h : slt a b = true) : slt b a = false := by
  rcases hb : slt b a with _ | _
  · rfl
  · rw [← slt_irrefl a, slt_trans h hb]
theorem cmpS_neg {a b : ByteArray} : cmpS a b < 0 ↔ slt a b = true := by
  unfold cmpS slt
  split
  · simp_all
  · split <;> simp_all
theorem cmpS_zero {a b : ByteArray} : cmpS a b = 0 ↔ a = b := by
  unfold cmpS
  constructor
  · intro h
    split at h
    · cases h
    · split at h
      · cases h
      · rename_i h1 h2
        simp only [Bool.not_eq_true, h1, Bool.false_or, Bool.not_eq_eq_eq_not, Bool.not_false, Bool.not_true, beq_eq_false_iff_ne, ne_eq, Decidable.not_not] at h2
        exact toList_inj (by simpa using h2)
  · rintro rfl
    rw [if_neg (by rw [bl_irrefl]; simp), if_neg (by simp)]
theorem cmpI_neg {a b : Int} : cmpI a b < 0 ↔ a < b := by unfold cmpI; split <;> (try split) <;> omega
theorem cmpI_zero {a b : Int} : cmpI a b = 0 ↔ a = b := by unfold cmpI; split <;> (try split) <;> omega
/-- strictly ahead, by channels -/
def lt (a b : Msg) : Prop := slt a.key b.key = true ∨ (a.key = b.key ∧ (a.fr < b.fr ∨ (a.fr = b.fr ∧ a.to < b.to)))
theorem ord_lt {a b : Msg} : ord a b < 0 ↔ lt a b := by
  unfold ord lt
  by_cases h1 : cmpS a.key b.key ≠ 0
  · rw [if_pos h1, cmpS_neg]
    have : a.key ≠ b.key := fun e => h1 (cmpS_zero.2 e)
    simp [this]
  · rw [if_neg h1]
    have hk : a.key = b.key := cmpS_zero.1 (Decidable.not_not.1 h1)
    have hs : slt a.key b.key = false := by rw [hk]; exact slt_irrefl _
    by_cases h2 : cmpI a.fr b.fr ≠ 0
    · rw [if_pos h2, cmpI_neg]
      have : a.fr ≠ b.fr := fun e => h2 (cmpI_zero.2 e)
      simp [this, hk, slt_irrefl]
    · rw [if_neg h2, cmpI_neg]
      have hf : a.fr = b.fr := cmpI_zero.1 (Decidable.not_not.1 h2)
      simp [hf, hk, slt_irrefl]
theorem lt_irrefl (a : Msg) : ¬ lt a a := by unfold lt; rw [slt_irrefl]; simp
theorem lt_trans {a b c : Msg} (h : lt a b) (g : lt b c) : lt a c := by
  unfold lt at *
  rcases h with h | ⟨h1, h⟩ <;> rcases g with g | ⟨g1, g⟩
  · exact .inl (slt_trans h g)
  · exact .inl (g1 ▸ h)
  · exact .inl (h1 ▸ g)
  · refine .inr ⟨h1.trans g1, ?_⟩
    omega
theorem lt_tri (a b : Msg) : lt a b ∨ lt b a ∨ a.ch = b.ch := by
  unfold lt
  by_cases hk : a.key = b.key
  · by_cases hf : a.fr < b.fr ∨ b.fr < a.fr
    · rcases hf with hf | hf
      · exact .inl (.inr ⟨hk, .inl hf⟩)
      · exact .inr (.inl (.inr ⟨hk.symm, .inl hf⟩))
    · have hfe : a.fr = b.fr := by omega
      by_cases ht : a.to < b.to ∨ b.to < a.to
      · rcases ht with ht | ht
        · exact .inl (.inr ⟨hk, .inr ⟨hfe, ht⟩⟩)
        · exact .inr (.inl (.inr ⟨hk.symm, .inr ⟨hfe.symm, ht⟩⟩))
      · refine .inr (.inr ?_)
        simp only [Msg.ch, Ch.mk.injEq]
        exact ⟨hk, hfe, by omega⟩
  · rcases slt_tri hk with h | h
    · exact .inl (.inl h)
    · exact .inr (.inl (.inl h))
theorem lt_ch {a b : Msg} (h : lt a b) : a.ch ≠ b.ch := by
  intro e
  simp only [Msg.ch, Ch.mk.injEq] at e
  unfold lt at h
  rw [e.1, slt_irrefl] at h
  simp [e] at h
theorem lt_ch_left {a a' b : Msg} (he : a.ch = a'.ch) (h : lt a b) : lt a' b := by
  simp only [Msg.ch, Ch.mk.injEq] at he
  unfold lt at *
  rw [← he.1, ← he.2.1, ← he.2.2]; exact h
def le (a b : Msg) : Prop := ¬ lt b a
theorem lt_le {a b : Msg} (h : lt a b) : le a b := fun g => lt_irrefl _ (lt_trans h g)
theorem le_trans {a b c : Msg} (h : le a b) (g : le b c) : le a c := by
  intro k
  rcases lt_tri a b with q | q | q
  · exact g (lt_trans k q)
  · exact h q
  · exact g (by
      rcases lt_tri c b with p | p | p
      · exact p
      · exact absurd (lt_trans p k) (fun r => (lt_ch r) q.symm)
      · exact absurd k (fun r => (lt_ch r) (p.trans q.symm)))
theorem lt_le_trans {a b c : Msg} (h : lt a b) (g : le b c) : lt a c := by
  rcases lt_tri a c with q | q | q
  · exact q
  · exact absurd (lt_trans q h) g
  · exact absurd (lt_ch_left q h) g
theorem le_lt_trans {a b c : Msg} (h : le a b) (g : lt b c) : lt a c := by
  rcases lt_tri a c with q | q | q
  · exact q
  · exact absurd (lt_trans g q) h
  · exact absurd (by
      rcases lt_tri b a with p | p | p
      · exact p
      · exact absurd (lt_trans p g) (fun r => (lt_ch r) q)
      · exact absurd g (fun r => (lt_ch r) (p.trans q))) h

/-! ### segments -/
def el_ (l : List Msg) (p : Nat) : Msg := l.getD p zeroM
theorem el_get {l : List Msg} {p : Nat} (h : p < l.length) : l[p]? = some (el_ l p) := by
  unfold el_
  rw [List.getD_eq_getElem?_getD, List.getElem?_eq_getElem h]; rfl
theorem ext_el {l l' : List Msg} (hl : l.length = l'.length) (h : ∀ p, p < l.length → el_ l p = el_ l' p) : l = l' := by
  refine List.ext_getElem? fun p => ?_
  rcases Nat.lt_or_ge p l.length with hp | hp
  · rw [el_get hp, el_get (by omega), h p hp]
  · rw [List.getElem?_eq_none hp, List.getElem?_eq_none (by omega)]
def SortedOn (l : List Msg) (a b : Nat) : Prop := ∀ p q, a ≤ p → p < q → q < b → le (el_ l p) (el_ l q)
/-- l' is l, rearranged from a to b, each channel's in their order. -/
structure Same (l l' : List Msg) (a b : Nat) : Prop where
  len : l'.length = l.length
  out : ∀ p, (p < a ∨ b ≤ p) → el_ l' p = el_ l p
  from_ : ∀ p, a ≤ p → p < b → ∃ q, a ≤ q ∧ q < b ∧ el_ l' p = el_ l q
  rows : ∀ c, row l' c = row l c
theorem Same.refl (l : List Msg) (a b : Nat) : Same l l a b := ⟨rfl, fun _ _ => rfl, fun p h1 h2 => ⟨p, h1, h2, rfl⟩, fun _ => rfl⟩
theorem Same.trans {l l' l'' : List Msg} {a b : Nat} (h : Same l l' a b) (g : Same l' l'' a b) : Same l l'' a b :=
  ⟨g.len.trans h.len, fun p hp => (g.out p hp).trans (h.out p hp), fun p h1 h2 => by
    obtain ⟨q, q1, q2, q3⟩ := g.from_ p h1 h2
    obtain ⟨r, r1, r2, r3⟩ := h.from_ q q1 q2
    exact ⟨r, r1, r2, q3.trans r3⟩, fun c => (g.rows c).trans (h.rows c)⟩
theorem Same.mono {l l' : List Msg} {a b a' b' : Nat} (h : Same l l' a b) (h1 : a' ≤ a) (h2 : b ≤ b') : Same l l' a' b' :=
  ⟨h.len, fun p hp => h.out p (by omega), fun p p1 p2 => by
    by_cases hp : a ≤ p ∧ p < b
    · obtain ⟨q, q1, q2, q3⟩ := h.from_ p hp.1 hp.2
      exact ⟨q, by omega, by omega, q3⟩
    · exact ⟨p, p1, p2, h.out p (by omega)⟩, h.rows⟩
/-- two blocks that lie side by side, of unlike channels, change places -/
def rotF (f : Nat → Msg) (a m b p : Nat) : Msg := if a ≤ p ∧ p < a + (b - m) then f (p - a + m) else if a + (b - m) ≤ p ∧ p < b then f (p - (b - m)) else f p
theorem el_append {a b : List Msg} (p : Nat) : el_ (a ++ b) p = if p < a.length then el_ a p else el_ b (p - a.length) := by
  unfold el_
  rw [List.getD_eq_getElem?_getD, List.getElem?_append]
  split <;> rw [List.getD_eq_getElem?_getD]
theorem el_drop (l : List Msg) (i p : Nat) : el_ (l.drop i) p = el_ l (i + p) := by
  unfold el_; rw [List.getD_eq_getElem?_getD, List.getElem?_drop, List.getD_eq_getElem?_getD]
theorem el_take {l : List Msg} {i p : Nat} (h : p < i) : el_ (l.take i) p = el_ l p := by
  unfold el_; rw [List.getD_eq_getElem?_getD, List.getElem?_take_of_lt h, List.getD_eq_getElem?_getD]
theorem row_comm {U V : List Msg} (h : ∀ u ∈ U, ∀ v ∈ V, u.ch ≠ v.ch) (c : Ch) : row U c ++ row V c = row V c ++ row U c := by
  rcases hU : row U c with _ | ⟨u, U'⟩
  · simp
  · rcases hV : row V c with _ | ⟨v, V'⟩
    · simp
    · have hu : u ∈ row U c := by rw [hU]; exact List.mem_cons_self ..
      have hv : v ∈ row V c := by rw [hV]; exact List.mem_cons_self ..
      rw [mem_row] at hu hv
      exact absurd (hu.2.trans hv.2.symm) (h u hu.1 v hv.1)
theorem same_rot {l l' : List Msg} {a m b : Nat} (h1 : a ≤ m) (h2 : m ≤ b) (h3 : b ≤ l.length) (hl : l'.length = l.length) (hf : ∀ p, el_ l' p = rotF (el_ l) a m b p)
    (hc : ∀ p q, a ≤ p → p < m → m ≤ q → q < b → (el_ l p).ch ≠ (el_ l q).ch) : Same l l' a b := by
  refine ⟨hl, fun p hp => ?_, fun p p1 p2 => ?_, fun c => ?_⟩
  · rw [hf]; unfold rotF
    rw [if_neg (by omega), if_neg (by omega)]
  · rw [hf]; unfold rotF
    by_cases hq : p < a + (b - m)
    · rw [if_pos ⟨p1, hq⟩]; exact ⟨p - a + m, by omega, by omega, rfl⟩
    · rw [if_neg (by omega), if_pos (by omega)]; exact ⟨p - (b - m), by omega, by omega, rfl⟩
  · have e1 : l = l.take a ++ ((l.drop a).take (m - a) ++ ((l.drop m).take (b - m) ++ l.drop b)) := by
      refine ext_el (by simp; omega) fun p hp => ?_
      simp only [el_append, List.length_take, List.length_drop]
      repeat' split
      · rw [el_take (by omega)]
      · rw [el_take (by omega), el_drop]; congr 1; omega
      · rw [el_take (by omega), el_drop]; congr 1; omega
      · rw [el_drop]; congr 1; omega
    have e2 : l' = l.take a ++ ((l.drop m).take (b - m) ++ ((l.drop a).take (m - a) ++ l.drop b)) := by
      refine ext_el (by simp; omega) fun p hp => ?_
      rw [hf]
      unfold rotF
      simp only [el_append, List.length_take, List.length_drop]
      repeat' split
      all_goals first
        | omega
        | (rw [el_take (by omega), el_drop]; congr 1; omega)
        | (rw [el_take (by omega)]; done)
        | (rw [el_drop]; congr 1; omega)
        | (exfalso; omega)
    rw [e2]
    conv => rhs; rw [e1]
    simp only [row_append]
    congr 1
    rw [← List.append_assoc, ← List.append_assoc]
    congr 1
    refine row_comm ?_ c
    intro v hv u hu he
    obtain ⟨i, hi, rfl⟩ := List.getElem_of_mem hv
    obtain ⟨j, hj, rfl⟩ := List.getElem_of_mem hu
    simp only [List.length_take, List.length_drop] at hi hj
    have g1 : ((l.drop m).take (b - m))[i]'(by simp; omega) = el_ l (m + i) := by
      have := el_get (l := (l.drop m).take (b - m)) (p := i) (by simp; omega)
      rw [List.getElem?_eq_getElem (by simp; omega), el_take (by omega), el_drop] at this
      exact Option.some.inj this
    have g2 : ((l.drop a).take (m - a))[j]'(by simp; omega) = el_ l (a + j) := by
      have := el_get (l := (l.drop a).take (m - a)) (p := j) (by simp; omega)
      rw [List.getElem?_eq_getElem (by simp; omega), el_take (by omega), el_drop] at this
      exact Option.some.inj this
    rw [g1, g2] at he
    exact hc (a + j) (m + i) (by omega) (by omega) (by omega) (by omega) he.symm

end Go.Proofs.Ytdaojmkbjkaakaa
