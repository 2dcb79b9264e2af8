/- The session's verification conditions, part 3: what 'opW' asks is enough for the machine's operation. Conditions: those of each lemma. -/
import Derived.Test.YthgfnocngopecaaGreatDoorGo
import Derived.IntWalk
set_option linter.unusedVariables false
set_option linter.unusedSimpArgs false
namespace Go.Vc
open Go.RowKit

variable {P : Program}

/-- A run that comes to a value. -/
def RunsV (P : Program) (e : Sem Value) (w : World) (next : Nxt) : Prop := ∃ v w', e.run P w = .ok v w' ∧ next v w'
/-- .. the same in whatever world. -/
def RunsP (P : Program) (e : Sem Value) (w : World) (next : Nxt) : Prop := ∃ v, (∀ w, e.run P w = .ok v w) ∧ next v w
theorem RunsP.v {e : Sem Value} {w : World} {next : Nxt} (h : RunsP P e w next) : RunsV P e w next := by
  obtain ⟨v, hr, hn⟩ := h
  exact ⟨v, w, hr w, hn⟩
def RunsU (P : Program) (e : Sem Unit) (w : World) (next : World → Prop) : Prop := ∃ w', e.run P w = .ok () w' ∧ next w'

theorem run_isAgg {t : TypeId} {d : TypeDesc} (h : P.underlying t = some d) (w : World) : (isAgg t).run P w = .ok (isAggD d) w := by
  unfold isAgg
  simp only [Sem.run_bind, run_underlying h, Result.andThen_ok]
  cases d <;> rfl
theorem run_sizeOf {t : TypeId} {i : TypeInfo} (h : P.info? t = some i) (w : World) : (Go.sizeOf t).run P w = .ok i.size w := by
  simp [Go.sizeOf, typeInfo, h]
theorem run_zeroValue {t : TypeId} {i : TypeInfo} {z : Value} (h : P.info? t = some i) (hz : i.zero = some z) (w : World) : (zeroValue t).run P w = .ok z w := by
  simp [zeroValue, typeInfo, h, hz]
theorem run_load {w : World} {a : Addr} {v : Value} (h : w.cell? a = some v) : (load a).run P w = .ok v w := by
  simp [load, Sem.run, h]
theorem run_loadCells {w : World} {a : Addr} {xs : List Value} (h : Cells w a xs) : (loadCells a xs.length).run P w = .ok xs.toArray w := run_loadCells_list w a xs h

theorem shapeOf_one {t : TypeId} {k : K} (h : shapeOf P t = some (.one k)) : ∃ i d, P.info? t = some i ∧ P.underlying t = some d ∧ isAggD d = false := by
  unfold shapeOf at h
  split at h
  · rename_i i d hi hd
    cases hag : isAggD d with
    | false => exact ⟨i, d, hi, hd, hag⟩
    | true =>
      rw [hag, cond_true] at h
      split at h
      · rename_i ks hk
        cases hb : Nat.beq ks.length i.size <;> rw [hb] at h <;> cases h
      · cases h
  · cases h
theorem shapeOf_agg {t : TypeId} {ks : List K} (h : shapeOf P t = some (.agg ks)) : ∃ i d, P.info? t = some i ∧ P.underlying t = some d ∧ isAggD d = true ∧ i.size = ks.length := by
  unfold shapeOf at h
  split at h
  · rename_i i d hi hd
    cases hag : isAggD d with
    | false => rw [hag] at h; cases h
    | true =>
      rw [hag, cond_true] at h
      split at h
      · rename_i ks' hk
        cases hb : Nat.beq ks'.length i.size with
        | false => rw [hb] at h; cases h
        | true => rw [hb] at h; cases h; exact ⟨i, d, hi, hd, hag, (Nat.eq_of_beq_eq_true hb).symm⟩
      · cases h
  · cases h
theorem shapeOf_raw {t : TypeId} {n : Nat} (h : shapeOf P t = some (.raw n)) : ∃ i d, P.info? t = some i ∧ P.underlying t = some d ∧ isAggD d = true ∧ i.size = n := by
  unfold shapeOf at h
  split at h
  · rename_i i d hi hd
    cases hag : isAggD d with
    | false => rw [hag] at h; cases h
    | true =>
      rw [hag, cond_true] at h
      split at h
      · rename_i ks' hk
        cases hb : Nat.beq ks'.length i.size with
        | false => rw [hb] at h; cases h; exact ⟨i, d, hi, hd, hag, rfl⟩
        | true => rw [hb] at h; cases h
      · cases h; exact ⟨i, d, hi, hd, hag, rfl⟩
  · cases h

theorem loadW_here {t : TypeId} {v : Value} {w : World} {next : Nxt} (h : loadW P t v w next) : ∃ u, (Instr.loadAt t v).run P w = .ok u w ∧ next u w := by
  unfold loadW at h
  split at h
  · rename_i a
    split at h
    · rename_i k hs
      obtain ⟨i, d, hi, hd, hag⟩ := shapeOf_one hs
      obtain ⟨x, hx, hn⟩ := K.ex_out h
      refine ⟨x, ?_, hn⟩
      simp only [Instr.loadAt, Instr.sureAddr, loadVar, Sem.run_bind, Sem.run_pure, Result.andThen_ok, run_isAgg hd, hag, Bool.false_eq_true, if_false]
      exact run_load hx
    · rename_i ks hs
      obtain ⟨i, d, hi, hd, hag, hsz⟩ := shapeOf_agg hs
      obtain ⟨xs, hl, hx, hn⟩ := exs_out h
      refine ⟨_, ?_, hn⟩
      simp only [Instr.loadAt, Instr.sureAddr, loadVar, Sem.run_bind, Sem.run_pure, Result.andThen_ok, run_isAgg hd, hag, if_true, run_sizeOf hi, hsz, ← hl, run_loadCells hx]
    · rename_i n hs
      obtain ⟨i, d, hi, hd, hag, hsz⟩ := shapeOf_raw hs
      obtain ⟨xs, hl, hx, hn⟩ := h
      refine ⟨_, ?_, hn⟩
      simp only [Instr.loadAt, Instr.sureAddr, loadVar, Sem.run_bind, Sem.run_pure, Result.andThen_ok, run_isAgg hd, hag, if_true, run_sizeOf hi, hsz, ← hl, run_loadCells hx]
    · exact h.elim
  · exact h.elim

theorem loadW_sound {t : TypeId} {v : Value} {w : World} {next : Nxt} (h : loadW P t v w next) : RunsV P (Instr.loadAt t v) w next := by
  obtain ⟨u, hr, hn⟩ := loadW_here h
  exact ⟨u, w, hr, hn⟩

theorem Upd.trans {w w1 w2 : World} {b : Nat} {l1 l2 : List Value} {e e' : TypeId} (h : Upd w w1 b l1 e) (k : Upd w1 w2 b l2 e') : Upd w w2 b l2 e' :=
  ⟨h.step.both k.step, k.blk, k.size.trans h.size⟩

theorem run_storeCells_blk {e : TypeId} (b o : Nat) : ∀ (vs : List Value) (i : Nat) (l : List Value) (w : World), Blk w b l e → o + i + vs.length ≤ l.length → (∀ v ∈ vs, v.oneCell' = true) →
    ∃ w', (storeCells ⟨b, o, none⟩ vs i).run P w = .ok () w' ∧ Upd w w' b (setSeg l (o + i) vs) e
  | [], i, l, w, hb, _, _ => ⟨w, rfl, Step.refl _ _, hb, rfl⟩
  | v :: vs, i, l, w, hb, hl, h1 => by
    have hlt : o + i < l.length := by simp only [List.length_cons] at hl; omega
    have hc : w.cell? ⟨b, o + i, none⟩ = some l[o + i] := hb.cell (List.getElem?_eq_getElem hlt)
    have hs := setCell_blk (j := o + i) hb v
    obtain ⟨w', hr, hu⟩ := run_storeCells_blk b o vs (i + 1) _ _ hs.blk (by simp only [List.length_cons] at hl; rw [List.length_set]; omega) (fun u hu => h1 u (by simp [hu]))
    refine ⟨w', ?_, hs.trans (by rw [← Nat.add_assoc] at hu; exact hu)⟩
    have h1v := h1 v (by simp)
    have hst : (store ((⟨b, o, none⟩ : Addr).add i) v).run P w = .ok () (w.setCell ⟨b, o + i, none⟩ v) := by
      rw [add_none]
      cases v <;> simp [store, Sem.run, hc, hb.frozen, Value.oneCell'] at h1v ⊢
    simp only [storeCells, Sem.run_bind, hst, Result.andThen_ok]
    exact hr

theorem sizeW_out {t : TypeId} {Φ : Nat → Prop} (h : sizeW P t Φ) : ∃ i, P.info? t = some i ∧ Φ i.size := by
  unfold sizeW at h
  split at h
  · rename_i i hi; exact ⟨i, hi, h⟩
  · exact h.elim

theorem storeW_sound {t : TypeId} {v x : Value} {w : World} {next : World → Prop} (h : storeW P t v x.cells.toList w next) : RunsU P (Instr.storeAt t v x) w next := by
  unfold storeW at h
  split at h
  · rename_i b off
    obtain ⟨i, hi, h⟩ := sizeW_out h
    obtain ⟨hl, h1, l, e, hb, hlt, hn⟩ := cellsOk_out h
    obtain ⟨w', hr, hu⟩ := run_storeCells_blk (P := P) b off x.cells.toList 0 l w hb (by omega) h1
    refine ⟨w', ?_, hn w' hu⟩
    have hsz : (Go.sizeOf t).run P w = .ok x.cells.size w := by
      rw [← Array.length_toList, hl]; exact run_sizeOf hi w
    simp only [Instr.storeAt, Instr.sureAddr, storeVar, Sem.run_bind, Sem.run_pure, Result.andThen_ok, hsz, ne_eq, not_true, if_false]
    exact hr
  · exact h.elim

theorem zeroL_out {t : TypeId} {l : List Value} (h : zeroL P t = some l) : ∃ i z, P.info? t = some i ∧ i.zero = some z ∧ z.cells.toList = l := by
  unfold zeroL at h
  split at h
  · rename_i i hi
    split at h
    · rename_i z hz; cases h; exact ⟨i, z, hi, hz, rfl⟩
    · cases h
  · cases h

theorem run_newRow (w : World) (e : TypeId) (cs : Array Value) : (newRow e cs).run P w = .ok ⟨w.heap.size, 0, none⟩ (w.alloc (.cells cs e)) := by
  rfl

theorem alloc_sound {e : TypeId} {z : List Value} (hz : zeroL P e = some z) {w : World} {next : Nxt} (h : newW w z e next) : RunsV P (Instr.alloc e true (.tuple #[])) w next := by
  obtain ⟨i, zv, hi, hzv, rfl⟩ := zeroL_out hz
  refine ⟨_, _, ?_, h _ _ (New.alloc w zv.cells.toList e)⟩
  simp [Instr.alloc, run_zeroValue hi hzv, newVar, run_newRow]

theorem box_sound {e : TypeId} {v : Value} {w : World} {next : Nxt} (h : newW w v.cells.toList e next) : RunsV P (Instr.box e v) w next := by
  refine ⟨_, _, ?_, h _ _ (New.alloc w v.cells.toList e)⟩
  simp [Instr.box, newVar, run_newRow]

theorem foldl_setSeg (vs : List Value) (off : Nat) (cs : Array Value) : ∀ (k : Nat), (vs.zipIdx k).foldl (fun (cs : Array Value) (p : Value × Nat) => cs.setIfInBounds (off + p.2) p.1) cs = (setSeg cs.toList (off + k) vs).toArray := by
  induction vs generalizing cs with
  | nil => intro k; simp [setSeg]
  | cons v vs ih =>
    intro k
    simp only [List.zipIdx_cons, List.foldl_cons, setSeg]
    rw [ih _ (k + 1)]
    simp [Nat.add_assoc]

theorem fill_sound (place : Nat → Option (Nat × Nat)) : ∀ (ps : List (Nat × Value)) (cs : Array Value) (l : List Value), fillL place cs.toList (ps.map fun p => (p.1, p.2.cells.toList)) = some l → Instr.fill place cs ps = some l.toArray
  | [], cs, l, h => by simp [fillL] at h; subst h; simp [Instr.fill]
  | (i, v) :: ps, cs, l, h => by
    simp only [List.map_cons, fillL] at h
    simp only [Instr.fill]
    split at h
    · cases h
    · rename_i off size hp
      rw [hp]
      simp only
      cases hb : (Nat.beq v.cells.toList.length size && Nat.ble (off + v.cells.toList.length) cs.toList.length) with
      | false => rw [hb] at h; cases h
      | true =>
        rw [hb, cond_true] at h
        rw [Bool.and_eq_true] at hb
        have h1 := Nat.eq_of_beq_eq_true hb.1
        have h2 := Nat.le_of_ble_eq_true hb.2
        simp only [Array.length_toList] at h1 h2
        rw [if_neg (by simp [h1]; omega)]
        refine fill_sound place ps _ l ?_
        rw [← h]
        congr 1
        rw [← Array.foldl_toList, Array.toList_zipIdx, foldl_setSeg]
        simp

theorem map_partsL (ρ : Env) (ps : Array (Nat × Operand)) : ((ps.map fun (i, x) => (i, ev ρ x)).toList.map fun p => (p.1, p.2.cells.toList)) = partsL ρ ps.toList := by
  simp [partsL, Function.comp_def]

theorem run_mapM_places (w : World) : ∀ (fs : List Field) (pl : List (Nat × Nat)), places P fs = some pl →
    (fs.mapM (m := Sem) fun (f : Field) => Prod.mk f.offset <$> Go.sizeOf f.type).run P w = .ok pl w
  | [], pl, h => by cases h; rfl
  | f :: fs, pl, h => by
    simp only [places] at h
    split at h
    · rename_i i r hi hr
      cases h
      have := run_mapM_places w fs r hr
      simp [List.mapM_cons, Sem.run_bind, run_sizeOf hi, this]
    · cases h

theorem build_sound {t : TypeId} {ρ : Env} {ps : Array (Nat × Operand)} {w : World} {next : Nxt} (h : buildW P t (partsL ρ ps.toList) w next) :
    RunsP P (Instr.build t (ps.map fun (i, x) => (i, ev ρ x))) w next := by
  unfold buildW at h
  split at h
  · rename_i z fs hz hu
    split at h
    · rename_i pl hpl
      split at h
      · rename_i l hl
        obtain ⟨i, zv, hi, hzv, rfl⟩ := zeroL_out hz
        refine ⟨_, fun w => ?_, h⟩
        rw [← map_partsL] at hl
        have hf := fill_sound _ _ _ _ hl
        have hm := run_mapM_places (P := P) w _ _ hpl
        have hg : (fun (x : Nat) => pl.toArray[x]?) = fun i => pl[i]? := by funext i; simp
        simp [Instr.build, run_underlying hu, typeInfo, zeroValue, hi, hzv, Array.mapM_eq_mapM_toList, hm, hg]
        simp at hf
        simp [hf]
      · exact h.elim
    · exact h.elim
  · rename_i z len e hz hu
    obtain ⟨i, hi, hq⟩ := sizeW_out h
    split at hq
    · rename_i l hl
      obtain ⟨i2, zv, hi2, hzv, rfl⟩ := zeroL_out hz
      refine ⟨_, fun w => ?_, hq⟩
      rw [← map_partsL] at hl
      have hf := fill_sound _ _ _ _ hl
      simp at hf
      simp [Instr.build, run_underlying hu, typeInfo, zeroValue, hi2, hzv, run_sizeOf hi, hf]
    · exact hq.elim
  · exact h.elim

theorem makeSlice_sound {t : TypeId} {l c : Value} {w : World} {next : Nxt} (h : makeSliceW P t l c w next) : RunsV P (Instr.makeSlice t l c) w next := by
  unfold makeSliceW at h
  split at h
  · rename_i e k n k' m hu
    split at h
    · rename_i i z hi hz
      obtain ⟨i', zv, hi', hzv, rfl⟩ := zeroL_out hz
      obtain rfl : i = i' := by rw [hi] at hi'; cases hi'; rfl
      cases hb : (Nat.beq zv.cells.toList.length i.size && Nat.ble 1 i.size && Nat.ble 1 i.bytes) with
      | false => rw [hb] at h; exact h.elim
      | true =>
        rw [hb, cond_true] at h
        simp only [Bool.and_eq_true] at hb
        have h1 := Nat.eq_of_beq_eq_true hb.1.1
        have h2 := Nat.le_of_ble_eq_true hb.1.2
        have h3 := Nat.le_of_ble_eq_true hb.2
        obtain ⟨g0, g1, g2, h⟩ := h
        refine ⟨_, _, ?_, h _ _ (New.alloc w _ e)⟩
        have gm : m ≤ 140737488355328 := by
          have : m * 1 ≤ m * ((i.bytes : Nat) : Int) := Int.mul_le_mul_of_nonneg_left (by omega) (by omega)
          omega
        have wn : IntKind.i64.wrap n = n := IntWalk.i64_in n (by omega)
        have wm : IntKind.i64.wrap m = m := IntWalk.i64_in m (by omega)
        have hbm : ((i.bytes : Nat) : Int) * m ≤ 140737488355328 := by rw [Int.mul_comm]; exact g2
        have hbn : ((i.bytes : Nat) : Int) * n ≤ ((i.bytes : Nat) : Int) * m := Int.mul_le_mul_of_nonneg_left g1 (by omega)
        have hroom : ¬ m.toNat * i.bytes > roomBytes := by
          have : ((m.toNat * i.bytes : Nat) : Int) = m * ((i.bytes : Nat) : Int) := by rw [Int.natCast_mul, Int.toNat_of_nonneg (by omega)]
          have : roomBytes = 140737488355328 := rfl
          omega
        have hinfo : ∀ w, (typeInfo e).run P w = .ok i w := fun w => by simp [typeInfo, hi]
        have hz : zcells zv.cells.toList (m.toNat * i.size) = ((Array.range (m.toNat * i.size)).map (fun j => (if m.toNat * i.size = 0 then #[] else zv.cells)[j % (if m.toNat * i.size = 0 then #[] else zv.cells).size]!)).toList := by
          simp only [zcells, Array.toList_map, Array.toList_range, Array.length_toList]
          refine List.map_congr_left fun j hj => ?_
          have hpos : ¬ m.toNat * i.size = 0 := by have := List.mem_range.1 hj; omega
          rw [if_neg hpos]
          have hlt : j % zv.cells.size < zv.cells.size := Nat.mod_lt _ (by simp only [Array.length_toList] at h1; omega)
          simp [hlt, List.getD_eq_getElem?_getD]
        rw [hz]
        have t1 : ¬ m < 0 := by omega
        have t2 : ¬ ((i.bytes : Nat) : Int) * m > 2 ^ 48 := by omega
        have t3 : ¬ n < 0 := by omega
        have t4 : ¬ n > m := by omega
        by_cases hc : m.toNat * i.size = 0
        · simp only [Instr.makeSlice, Sem.run_bind, run_underlying hu, Result.andThen_ok, asInt, asIntOf, Sem.run_pure, hinfo, wn, wm, decide_eq_false t1, decide_eq_false t2, decide_eq_false t3, decide_eq_false t4, Bool.or_false, Bool.false_eq_true, if_false, askRoom, if_neg hroom, run_sizeOf hi, hc, if_true, run_newRow]
        · simp only [Instr.makeSlice, Sem.run_bind, run_underlying hu, Result.andThen_ok, asInt, asIntOf, Sem.run_pure, hinfo, wn, wm, decide_eq_false t1, decide_eq_false t2, decide_eq_false t3, decide_eq_false t4, Bool.or_false, Bool.false_eq_true, if_false, askRoom, if_neg hroom, run_sizeOf hi, hc, run_zeroValue hi hzv, run_newRow]
    · exact h.elim
  · exact h.elim

theorem buildSlice_sound {t : TypeId} {len : Nat} {ρ : Env} {ps : Array (Nat × Operand)} {w : World} {next : Nxt} (h : buildSliceW P t len (partsL ρ ps.toList) w next) :
    RunsV P (Instr.buildSlice t len (ps.map fun (i, x) => (i, ev ρ x))) w next := by
  unfold buildSliceW at h
  split at h
  · rename_i e hu
    split at h
    · rename_i z hz
      obtain ⟨i, hi, h⟩ := sizeW_out h
      obtain ⟨i', zv, hi', hzv, rfl⟩ := zeroL_out hz
      obtain rfl : i = i' := by rw [hi] at hi'; cases hi'; rfl
      cases hb : (Nat.ble (len * i.size) 1000 && Nat.ble 1 i.size && Nat.beq zv.cells.toList.length i.size) with
      | false => rw [hb] at h; exact h.elim
      | true =>
        rw [hb, cond_true] at h
        simp only [Bool.and_eq_true] at hb
        have h1 := Nat.le_of_ble_eq_true hb.1.1
        have h3 := Nat.le_of_ble_eq_true hb.1.2
        have h4 := Nat.eq_of_beq_eq_true hb.2
        split at h
        · rename_i l hl
          refine ⟨_, _, ?_, h _ _ (New.alloc w l e)⟩
          have hz : zcells zv.cells.toList (len * i.size) = ((Array.range (len * i.size)).map (fun j => zv.cells[j % zv.cells.size]!)).toList := by
            simp only [zcells, Array.toList_map, Array.toList_range, Array.length_toList]
            refine List.map_congr_left fun j hj => ?_
            have hlt : j % zv.cells.size < zv.cells.size := Nat.mod_lt _ (by simp only [Array.length_toList] at h4; omega)
            simp [hlt, List.getD_eq_getElem?_getD]
          rw [← map_partsL, hz] at hl
          have hf := fill_sound _ _ _ _ hl
          simp at hf
          have hc1 : ¬ (2 ^ 24 < len * i.size) := by omega
          by_cases hc2 : len * i.size = 0
          · have e0 : ∀ f : Nat → Value, Array.map f (Array.range 0) = #[] := fun f => by simp
            rw [hc2, e0] at hf
            obtain rfl : len = 0 := by
              rcases Nat.mul_eq_zero.1 hc2 with h | h
              · exact h
              · omega
            simp [Instr.buildSlice, run_underlying hu, run_sizeOf hi, e0, hf, run_newRow]
          · have hc3 : ¬ (len = 0 ∨ i.size = 0) := by
              rintro (h | h) <;> simp [h] at hc2
            simp [Instr.buildSlice, run_underlying hu, run_sizeOf hi, hc1, hc3, run_zeroValue hi hzv, hf, run_newRow]
            intro hbad; exact absurd hbad hc2
        · exact h.elim
    · exact h.elim
  · exact h.elim

theorem IdxF_out {A : Option Addr} {n : Nat} {i : Int} {sz : Nat} {next : Nxt} {w : World} (h : IdxF A n i sz fun b off => next (.pointer (some ⟨b, off, none⟩)) w) : ∃ a, A = some a ∧ 0 ≤ i ∧ i < n ∧ next (.pointer (some (a.add (i.toNat * sz)))) w := by
  obtain ⟨h0, h1, b, off, rfl, h⟩ := h
  exact ⟨_, rfl, h0, h1, by rw [add_none]; exact h⟩

theorem idx_sound {t : TypeId} {x i : Value} {w : World} {next : Nxt} (h : idxW P t x i w next) : RunsP P (Instr.indexAt t x i) w next := by
  unfold idxW at h
  split at h
  · rename_i e A n c k ix hu
    obtain ⟨inf, hi, h⟩ := sizeW_out h
    obtain ⟨a, rfl, h0, h1, h⟩ := IdxF_out h
    refine ⟨_, fun w => ?_, h⟩
    simp [Instr.indexAt, asIntOf, run_underlying hu, h0, h1, run_sizeOf hi]
  · rename_i len e a k ix hu
    obtain ⟨inf, hi, h⟩ := sizeW_out h
    obtain ⟨a, ha, h0, h1, h⟩ := IdxF_out h
    cases ha
    refine ⟨_, fun w => ?_, h⟩
    simp [Instr.indexAt, Instr.sureAddr, asIntOf, run_underlying hu, h0, h1, run_sizeOf hi]
  · exact h.elim

theorem idxV_sound {t : TypeId} {x i : Value} {w : World} {next : Nxt} (h : idxVW P t x i w next) : RunsP P (Instr.index t x i) w next := by
  unfold idxVW at h
  split at h
  · rename_i len e cs k ix hu
    split at h
    · rename_i inf kd hi hs
      cases hb : Nat.beq inf.size 1 with
      | false => rw [hb] at h; exact h.elim
      | true =>
        rw [hb, cond_true] at h
        obtain ⟨h0, h1, h⟩ := h
        obtain ⟨v, hv, hn⟩ := K.ex_out h
        obtain ⟨i', d, hi', hd, hag⟩ := shapeOf_one hs
        have hsz := Nat.eq_of_beq_eq_true hb
        refine ⟨v, fun w => ?_, hn⟩
        have hv' : cs[ix.toNat * inf.size]? = some v := by rw [hsz, Nat.mul_one, ← Array.getElem?_toList]; exact hv
        simp [Instr.index, asIntOf, run_underlying hu, h0, h1, run_sizeOf hi, part, run_isAgg hd, hag, hv']
    · rename_i inf ks hi hs
      obtain ⟨h0, h1, h⟩ := h
      obtain ⟨vs, hl, hv, hn⟩ := exs_out h
      obtain ⟨i', d, hi', hd, hag, hsz⟩ := shapeOf_agg hs
      obtain rfl : inf = i' := by rw [hi] at hi'; cases hi'; rfl
      refine ⟨_, fun w => ?_, hn⟩
      have hx : cs.extract (ix.toNat * inf.size) (ix.toNat * inf.size + inf.size) = vs.toArray := by
        apply Array.ext'
        refine List.ext_getElem? fun j => ?_
        rw [Array.toList_extract, List.extract_eq_take_drop, List.getElem?_take]
        split
        · rename_i hj
          obtain ⟨x, hx⟩ : ∃ x, vs[j]? = some x := ⟨_, List.getElem?_eq_getElem (by omega)⟩
          rw [List.getElem?_drop, hv j x hx, hx]
        · show none = vs[j]?
          rw [List.getElem?_eq_none (by omega)]
      simp [Instr.index, asIntOf, run_underlying hu, h0, h1, run_sizeOf hi, part, run_isAgg hd, hag, hx]
    · exact h.elim
  · rename_i s k ix hu
    obtain ⟨h0, h1, b, hb, hn⟩ := h
    refine ⟨_, fun w => ?_, hn⟩
    simp [Instr.index, asIntOf, run_underlying hu, h0, hb]
  · exact h.elim

theorem slice_sound {t : TypeId} {x : Value} {lo hi : Option Value} {w : World} {next : Nxt} (h : sliceW P t x lo hi w next) : RunsP P (Instr.sliceAt t x lo hi none) w next := by
  unfold sliceW at h
  split at h
  · rename_i e A n c k l k' hh hu
    obtain ⟨inf, hi, h0, h1, h2, h⟩ := sizeW_out h
    refine ⟨_, fun w => ?_, h⟩
    have a1 : 0 ≤ hh := by omega
    have a2 : l ≤ (hh.toNat : Int) := by omega
    simp [Instr.sliceAt, run_underlying hu, Instr.slice, Instr.sliceBounds, Instr.sliceBound, asIntOf, a1, h2, h0, a2, run_sizeOf hi]
    intro hbad; omega
  · rename_i e A n c k l hu
    obtain ⟨inf, hi, h0, h1, h2, h⟩ := sizeW_out h
    refine ⟨_, fun w => ?_, h⟩
    simp [Instr.sliceAt, run_underlying hu, Instr.slice, Instr.sliceBounds, Instr.sliceBound, asIntOf, h0, h1, run_sizeOf hi]
  · rename_i e A n c k hh hu
    obtain ⟨inf, hi, h0, h1, h⟩ := sizeW_out h
    refine ⟨_, fun w => ?_, h⟩
    simp [Instr.sliceAt, run_underlying hu, Instr.slice, Instr.sliceBounds, Instr.sliceBound, asIntOf, h0, h1, run_sizeOf hi]
    intro _
    cases A with
    | none => rfl
    | some a => simp [Addr.add]
  · exact h.elim

theorem Reads.some {w : World} {B : Option Addr} {m sz : Nat} {xs : List Value} (h : Reads w B m sz xs) (hm : 0 < m) : ∃ a, B = some a ∧ Cells w a xs := h.2.2 hm

theorem own_form {w : World} {base : Nat} {e : TypeId} {size : Nat} {v : Value} {n : Nat} {xs : List Value} (h : w.ownsRow base e size v n xs) : ∃ A c, v = .slice A n c := by
  rcases h.2 with ⟨rfl, rfl⟩ | ⟨g, cap, cur, rfl, _⟩
  · exact ⟨none, 0, rfl⟩
  · exact ⟨_, cap, rfl⟩
theorem ownBlock_slice (A : Option Addr) (n c : Nat) : Value.ownBlock (.slice A n c) = A.map (·.block) := by cases A <;> rfl
theorem Step.of_grown {w w' : World} {row : Option Nat} (h : w.grownBy w' row) : Step (fun k => row = some k) w w' :=
  ⟨h.os, h.tape, h.output, h.size, fun k hk hn => h.block k hk (fun e => hn e.symm)⟩

theorem app_sound {t : TypeId} {ty : TypeId} {s x : Value} {w : World} {next : Nxt} (h : appW P t s x w next) : RunsV P (Builtin.append_ #[t, t] ty #[s, x]) w next := by
  unfold appW at h
  split at h
  · rename_i e A n c B m cx hu
    split at h
    · rename_i i z hi hz
      obtain ⟨i', zv, hi', hzv, rfl⟩ := zeroL_out hz
      obtain rfl : i = i' := by rw [hi] at hi'; cases hi'; rfl
      cases hb : (Nat.beq zv.cells.toList.length i.size && Nat.ble 1 i.size) with
      | false => rw [hb] at h; exact h.elim
      | true =>
        rw [hb, cond_true] at h
        simp only [Bool.and_eq_true] at hb
        have h4 := Nat.eq_of_beq_eq_true hb.1
        have h3 := Nat.le_of_ble_eq_true hb.2
        obtain ⟨xs, news, hown, hR, hml, hby, hn⟩ := h
        rcases Nat.eq_zero_or_pos m with rfl | hm
        · -- nothing is appended
          have hnews : news = [] := List.eq_nil_of_length_eq_zero (by have := hR.1; simpa using this)
          subst hnews
          refine ⟨.slice A n c, w, ?_, hn A c w (by simpa using hown) ⟨Step.refl _ _, .inl rfl⟩⟩
          rcases hown.2 with ⟨h1, rfl⟩ | ⟨g, cap, cur, h1, _, _, hnc, _⟩
          · cases h1
            cases B <;> simp [Builtin.append_, run_underlying hu, Go.sizeOf, typeInfo, hi, Builtin.lenOf, Builtin.firstCells, loadCells, loadCellsFrom]
          · cases h1
            cases B <;> simp [Builtin.append_, run_underlying hu, Go.sizeOf, typeInfo, hi, Builtin.lenOf, Builtin.firstCells, hnc, storeCells, loadCells, loadCellsFrom]
        · obtain ⟨a, rfl, hc⟩ := hR.some hm
          obtain ⟨v', w', hr, ho, hg, _, hat⟩ := run_append_own_at (P := P) w 0 t ty e i zv i.size i.bytes hu hi hzv rfl rfl (by simpa using h4) h3 _ n xs hown a m cx news hR.1 hc hR.2.1 hml hby (Nat.zero_le _)
          obtain ⟨A', c', rfl⟩ := own_form ho
          rw [ownBlock_slice] at hg hat
          rw [ownBlock_slice] at hat
          exact ⟨_, w', hr, hn A' c' w' ho ⟨Step.of_grown hg, hat⟩⟩
    · exact h.elim
  · exact h.elim

/-! ### equality of structs -/
theorem eqF_sound (d : Nat) (xs ys : Array Value) (w : World) : ∀ (fs : List Field) (b : Bool), eqF P d xs ys fs = some b → (Op.eqFields d xs ys fs).run P w = .ok b w
  | [], b, h => by cases h; rfl
  | f :: fs, b, h => by
    simp only [eqF] at h
    simp only [Op.eqFields]
    by_cases hn : f.name ≠ "_"
    · rw [decide_eq_true hn] at h
      simp only at h
      rw [if_pos hn]
      split at h
      · rename_i x y hx hy
        split at h
        · rename_i r rs hr hrs
          cases h
          have ih := eqF_sound d xs ys w fs rs hrs
          simp only [Sem.run_bind, pureRun_ok hx, pureRun_ok hy, pureRun_ok hr, Result.andThen_ok]
          cases r
          · simp
          · simp [ih]
        · cases h
      · cases h
    · rw [decide_eq_false hn] at h
      simp only at h
      rw [if_neg hn]
      exact eqF_sound d xs ys w fs b h

theorem fieldsOf_struct {t : TypeId} {fs : Array Field} (h : P.underlying t = some (.struct fs)) : P.fieldsOf t = fs := by simp [Program.fieldsOf, h]

theorem eqlIn_sound {t : TypeId} {xs ys : Array Value} {Φ : Bool → Prop} (h : aggEqW P t xs ys Φ) : P.eqGuardType P.depth t = false ∧ ∃ b, Φ b ∧ ∀ w, (Op.equalIn 10000 t (.agg xs) (.agg ys)).run P w = .ok b w := by
  unfold aggEqW at h
  split at h
  · rename_i fs hu hs hg
    split at h
    · rename_i b hb
      refine ⟨hg, b, h, fun w => ?_⟩
      rw [run_equalIn_struct w 9999 t xs ys (by rw [fieldsOf_struct hu]; exact hu) hs, fieldsOf_struct hu]
      exact eqF_sound 9999 xs ys w _ _ hb
    · exact h.elim
  · exact h.elim

theorem eqGuard_plain {op : BinOp} {t : TypeId} {x y : Operand} {a b : Value} (ha : ∀ xs, a ≠ .agg xs) (hb : a ≠ .nilIface) (w : World) : (eqGuard op t x y a b).run P w = .ok () w := by
  unfold eqGuard
  cases op <;> simp <;> (cases a <;> first | rfl | exact absurd rfl hb | exact absurd rfl (ha _))

theorem isPtrD_out {d : Option TypeDesc} (h : isPtrD d = true) : ∃ e, d = some (.pointer e) := by
  unfold isPtrD at h; split at h
  · exact ⟨_, rfl⟩
  · cases h
theorem isSliceD_out {d : Option TypeDesc} (h : isSliceD d = true) : ∃ e, d = some (.slice e) := by
  unfold isSliceD at h; split at h
  · exact ⟨_, rfl⟩
  · cases h
theorem isMapD_out {d : Option TypeDesc} (h : isMapD d = true) : ∃ k e, d = some (.map k e) := by
  unfold isMapD at h; split at h
  · exact ⟨_, _, rfl⟩
  · cases h

theorem cond_out {b : Bool} {A : Prop} (h : cond b A False) : b = true ∧ A := by cases b; exact h.elim; exact ⟨rfl, h⟩

theorem run_eq_ptr {t : TypeId} (h : isPtrD (P.underlying t) = true) (p : Option Addr) (w : World) : (Op.equal t (.pointer p) (.pointer none)).run P w = .ok p.isNone w := by
  obtain ⟨e, h⟩ := isPtrD_out h
  unfold Op.equal Op.maxDepth Op.equalIn
  cases p <;> simp [run_underlying h]
theorem run_eq_slice {t : TypeId} (h : isSliceD (P.underlying t) = true) (p : Option Addr) (n c n' c' : Nat) (w : World) : (Op.equal t (.slice p n c) (.slice none n' c')).run P w = .ok p.isNone w := by
  obtain ⟨e, h⟩ := isSliceD_out h
  unfold Op.equal Op.maxDepth Op.equalIn
  cases p <;> simp [run_underlying h]
theorem run_eq_map {t : TypeId} (h : isMapD (P.underlying t) = true) (p : Option Nat) (w : World) : (Op.equal t (.map p) (.map none)).run P w = .ok p.isNone w := by
  obtain ⟨k, e, h⟩ := isMapD_out h
  unfold Op.equal Op.maxDepth Op.equalIn
  cases p <;> simp [run_underlying h]

theorem bin_sound {op : BinOp} {t : TypeId} {x y : Operand} {a b : Value} {w : World} {next : Nxt} {other : Prop} (h : binW P op t a b w next other) (ho : other → RunsP P (do eqGuard op t x y a b; binOp op t a b) w next) :
    RunsP P (do eqGuard op t x y a b; binOp op t a b) w next := by
  unfold binW at h
  split at h
  · rename_i k m k' n
    obtain ⟨hk, c, hc, hq⟩ := cond_out h
    obtain rfl : k = k' := by simpa using hk
    refine ⟨_, fun w => ?_, hq⟩
    simp [eqGuard_plain, binOp, Op.intArith, hc]
  · rename_i k m k' n
    obtain ⟨hk, c, hc, hq⟩ := cond_out h
    obtain rfl : k = k' := by simpa using hk
    refine ⟨_, fun w => ?_, hq⟩
    simp [eqGuard_plain, binOp, Op.intArith, hc]
  · rename_i k m k' n
    obtain ⟨hk, c, hc, hq⟩ := cond_out h
    obtain rfl : k = k' := by simpa using hk
    refine ⟨_, fun w => ?_, hq⟩
    simp [eqGuard_plain, binOp, Op.intArith, hc]
  · obtain ⟨hs, h⟩ := h
    refine ⟨_, fun w => ?_, h⟩
    rename_i u v
    have hm : ¬ ((u.size + v.size : Nat) : Int) > IntKind.i64.max := by
      have : IntKind.i64.max = 9223372036854775807 := by decide
      omega
    simp only [Sem.run_bind, eqGuard_plain (op := .add) (t := t) (x := x) (y := y) (a := .string u) (b := .string v) (fun _ h => by cases h) (fun h => by cases h) w, Result.andThen_ok, binOp, Op.stringOp, if_neg hm, Sem.run_pure]
  · rename_i k m k' n
    obtain ⟨hk, hq⟩ := cond_out h
    obtain rfl : k = k' := by simpa using hk
    cases hd : decide (n = 0) with
    | true => rw [hd] at hq; exact (hq : False).elim
    | false =>
      rw [hd] at hq
      have hn : ¬ n = 0 := of_decide_eq_false hd
      refine ⟨_, fun w => ?_, hq⟩
      simp [eqGuard_plain, binOp, Op.intDiv, hn]
  · rename_i k m k' n
    obtain ⟨hk, hq⟩ := cond_out h
    obtain rfl : k = k' := by simpa using hk
    cases hd : decide (n = 0) with
    | true => rw [hd] at hq; exact (hq : False).elim
    | false =>
      rw [hd] at hq
      have hn : ¬ n = 0 := of_decide_eq_false hd
      refine ⟨_, fun w => ?_, hq⟩
      simp [eqGuard_plain, binOp, Op.intDiv, hn]
  · obtain ⟨hk, h⟩ := cond_out h
    refine ⟨_, fun w => ?_, h⟩
    simp [eqGuard_plain, binOp, run_eq_ptr hk]
  · obtain ⟨hk, h⟩ := cond_out h
    refine ⟨_, fun w => ?_, h⟩
    simp [eqGuard_plain, binOp, run_eq_ptr hk]
  · obtain ⟨hk, h⟩ := cond_out h
    refine ⟨_, fun w => ?_, h⟩
    simp [eqGuard_plain, binOp, run_eq_slice hk]
  · obtain ⟨hk, h⟩ := cond_out h
    refine ⟨_, fun w => ?_, h⟩
    simp [eqGuard_plain, binOp, run_eq_slice hk]
  · obtain ⟨hk, h⟩ := cond_out h
    refine ⟨_, fun w => ?_, h⟩
    simp [eqGuard_plain, binOp, run_eq_map hk]
  · obtain ⟨hk, h⟩ := cond_out h
    refine ⟨_, fun w => ?_, h⟩
    simp [eqGuard_plain, binOp, run_eq_map hk]
  · rename_i xs ys
    obtain ⟨hg, b, hb, hr⟩ := eqlIn_sound h
    refine ⟨_, fun w => ?_, hb⟩
    simp only [Sem.run_bind, run_eqGuard_agg w _ t x y xs ys hg, Result.andThen_ok, run_eql_struct, hr]
  · rename_i xs ys
    obtain ⟨hg, b, hb, hr⟩ := eqlIn_sound h
    refine ⟨_, fun w => ?_, hb⟩
    simp only [Sem.run_bind, run_eqGuard_agg w _ t x y xs ys hg, Result.andThen_ok, run_neq_struct, hr]
  · exact ho h

end Go.Vc
