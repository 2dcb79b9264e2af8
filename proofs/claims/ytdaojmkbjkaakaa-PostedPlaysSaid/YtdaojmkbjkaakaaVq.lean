/- PRINTED by this session's own vc.py: verification conditions of functions, and that they are enough. Conditions: none. -/
import Derived.Test.YtdaojmkbjkaakaaGc
import Derived.Test.YtdaojmkbjkaakaaProg
set_option linter.unusedVariables false
set_option maxRecDepth 100000
namespace Go.Proofs.Ytdaojmkbjkaakaa
open Go.Vc

def V.queue_New  (w : World) (R : Value → World → Prop) : Prop :=
  ∀ (b1 : Nat) (w2 : World), NewM w w2 b1 →
  ∀ (b3 : Nat) (w4 : World), NewM w2 w4 b3 →
  ∀ (b5 : Nat) (w6 : World), New w4 w6 b5 [.map (some b1), .map (some b3)] 72 →
  R (.pointer (some ⟨b5, 0, none⟩)) w6
def V.queue_New_ann : Ann := .no
theorem V.queue_New_eq  (w : World) (R : Value → World → Prop) : V.queue_New  w R = fnW Try.prog [] [.tmp 0] (bodyOf Try.f8) V.queue_New_ann [] w R := by kernel_rfl
theorem V.queue_New_ok : okC 5 (bodyOf Try.f8) V.queue_New_ann = true := by kernel_rfl
theorem V.queue_New_cs : (calleesC (bodyOf Try.f8)).all (entersB Try.prog) = true := by kernel_rfl
theorem V.queue_New_calls  {w : World} {R : Value → World → Prop} (h : V.queue_New  w R) : Calls Try.prog 8 #[] w fun e w' => ∃ v, e = .returned v ∧ R v w' :=
  fn_sound (by kernel_rfl) Try.func8 (by kernel_rfl) V.queue_New_ok (enters_all V.queue_New_cs) (by kernel_rfl) ((V.queue_New_eq  w R).mp h)

def V.queue_Queue_Send (p1 : Option Addr) (s2 : ByteArray) (n3 : Int) (n4 : Int) (n5 : Int) (n6 : Int) (n7 : Int) (n8 : Int) (t9 : Bool) (w : World) (R : Value → World → Prop) : Prop :=
  ∀ (b10 : Nat) (w11 : World), New w w11 b10 [.string s2, .int .i64 n3, .int .i64 n4, .int .i64 n5, .int .i64 n6, .int .i64 n7, .int .i64 n8, .bool t9] 28 →
  Calls Try.prog 32 #[.pointer p1] w11 fun e w12 => ∃ t13 : Bool, e = .returned (.bool t13) ∧
  ifb t13
  (R (.int .i64 1) w12)
  (nilC p1 fun b14 o14 =>
  ∃ m15 : Option Nat, w12.drew.cell? ⟨b14, o14 + 1, none⟩ = some (.map m15) ∧
  ∃ n16 : Int, w12.drew.cell? ⟨b10, 1, none⟩ = some (.int .i64 n16) ∧
  ∃ n17 : Int, w12.drew.cell? ⟨b10, 3, none⟩ = some (.int .i64 n17) ∧
  Go.Maps.Keyed Try.prog 77 ∧ (∃ l, keyOf Try.prog 77 (.agg #[.int .i64 n16, .int .i64 n17]) = some l) ∧
  ∃ es18 : List MapEntry, MapO Try.prog 77 w12.drew m15 es18 ∧ ∃ s21 : ByteArray, ∃ n22 : Int, ∃ n23 : Int, ∃ t24 : Bool, LookR es18 (.agg #[.int .i64 n16, .int .i64 n17]) (.agg #[.string emptyS, .int .i64 0, .int .i64 0]) (.agg #[.string s21, .int .i64 n22, .int .i64 n23]) t24 ∧
  ∀ (b25 : Nat) (w26 : World), New w12.drew w26 b25 [.string emptyS, .int .i64 0, .int .i64 0] 74 →
  (mapSame m15 w12.drew w26) ∧ (w26.cell? ⟨b10, 3, none⟩ = some (.int .i64 n17)) ∧ (w26.cell? ⟨b10, 1, none⟩ = some (.int .i64 n16)) ∧ (w26.cell? ⟨b14, o14 + 1, none⟩ = some (.map m15)) ∧ ∃ (l27 : List Value) (e28 : TypeId), Blk w26 b25 l27 e28 ∧ 0 + 3 ≤ l27.length ∧ ∀ w29 : World, Upd w26 w29 b25 (setSeg l27 0 [.string s21, .int .i64 n22, .int .i64 n23]) e28 →
  ifb t24
  (R (.int .i64 2) w29)
  (∃ t30 : Bool, w29.cell? ⟨b10, 7, none⟩ = some (.bool t30) ∧
  ifb t30
  (R (.int .i64 2) w29)
  (∃ n31 : Int, w29.cell? ⟨b10, 1, none⟩ = some (.int .i64 n31) ∧
  Calls Try.prog 33 #[.int .i64 n31, .int .i64 0, .int .i64 63] w29 fun e w32 => ∃ t33 : Bool, e = .returned (.bool t33) ∧
  ifb (!t33)
  (R (.int .i64 2) w32)
  (∃ n34 : Int, w32.cell? ⟨b10, 2, none⟩ = some (.int .i64 n34) ∧
  Calls Try.prog 33 #[.int .i64 n34, .int .i64 0, .int .i64 63] w32 fun e w35 => ∃ t36 : Bool, e = .returned (.bool t36) ∧
  ifb (!t36)
  (R (.int .i64 2) w35)
  (∃ n37 : Int, w35.cell? ⟨b10, 3, none⟩ = some (.int .i64 n37) ∧
  ifb (decide (n37 < (0 : Int)))
  (R (.int .i64 2) w35)
  (∃ n38 : Int, w35.cell? ⟨b10, 4, none⟩ = some (.int .i64 n38) ∧
  Calls Try.prog 33 #[.int .i64 n38, .int .i64 0, .int .i64 32767] w35 fun e w39 => ∃ t40 : Bool, e = .returned (.bool t40) ∧
  ifb (!t40)
  (R (.int .i64 2) w39)
  (∃ n41 : Int, w39.cell? ⟨b10, 6, none⟩ = some (.int .i64 n41) ∧
  Calls Try.prog 33 #[.int .i64 n41, .int .i64 1, .int .i64 64] w39 fun e w42 => ∃ t43 : Bool, e = .returned (.bool t43) ∧
  ifb (!t43)
  (R (.int .i64 2) w42)
  (∃ s44 : ByteArray, w42.cell? ⟨b10, 0, none⟩ = some (.string s44) ∧
  ∃ n45 : Int, w42.cell? ⟨b10, 1, none⟩ = some (.int .i64 n45) ∧
  ∃ n46 : Int, w42.cell? ⟨b10, 2, none⟩ = some (.int .i64 n46) ∧
  ∀ (b47 : Nat) (w48 : World), New w42 w48 b47 [.string emptyS, .int .i64 0, .int .i64 0] 74 →
  ∃ (l49 : List Value) (e50 : TypeId), Blk w48 b47 l49 e50 ∧ 0 + 3 ≤ l49.length ∧ ∀ w51 : World, Upd w48 w51 b47 (setSeg l49 0 [.string s44, .int .i64 n45, .int .i64 n46]) e50 →
  nilC p1 fun b52 o52 =>
  ∃ m53 : Option Nat, w51.drew.cell? ⟨b52, o52, none⟩ = some (.map m53) ∧
  ∃ s54 : ByteArray, ∃ n55 : Int, ∃ n56 : Int, Cells w51.drew ⟨b47, 0, none⟩ [.string s54, .int .i64 n55, .int .i64 n56] ∧
  ∃ s57 : ByteArray, ∃ n58 : Int, ∃ n59 : Int, ∃ n60 : Int, ∃ n61 : Int, ∃ n62 : Int, ∃ n63 : Int, ∃ t64 : Bool, Cells w51.drew ⟨b10, 0, none⟩ [.string s57, .int .i64 n58, .int .i64 n59, .int .i64 n60, .int .i64 n61, .int .i64 n62, .int .i64 n63, .bool t64] ∧
  ∀ (b65 : Nat) (w66 : World), New w51.drew w66 b65 [.string s57, .int .i64 n58, .int .i64 n59, .int .i64 n60, .int .i64 n61, .int .i64 n62, .int .i64 n63, .bool t64] 28 →
  (Cells w66 ⟨b47, 0, none⟩ [.string s54, .int .i64 n55, .int .i64 n56]) ∧ (w66.cell? ⟨b52, o52, none⟩ = some (.map m53)) ∧ Go.Maps.Keyed Try.prog 74 ∧ (∃ l, keyOf Try.prog 74 (.agg #[.string s54, .int .i64 n55, .int .i64 n56]) = some l) ∧
  optC m53 False fun r73 =>
  ∃ es67 : List MapEntry, MapAt Try.prog 74 w66 r73 es67 ∧ ∃ A70 : Option Addr, ∃ N70 : Nat, ∃ C70 : Nat, ∃ t71 : Bool, LookR es67 (.agg #[.string s54, .int .i64 n55, .int .i64 n56]) (.slice none 0 0) (.slice A70 N70 C70) t71 ∧
  ∀ (w68 : World) (es69 : List MapEntry) (n72 : Int), MTouch es67 (.agg #[.string s54, .int .i64 n55, .int .i64 n56]) (.slice none 0 0) es69 n72 → MapAt Try.prog 74 w68 r73 es69 → Wrote w66 w68 r73 →
  ∃ xs74 news75 : List Value, w68.ownsRow 0 28 8 (.slice A70 N70 C70) N70 xs74 ∧ Reads w68 (some ⟨b65, 0, none⟩) 1 8 news75 ∧ N70 + 1 ≤ maxLen ∧ (N70 + 1) * 72 ≤ 140737488355328 ∧
  ∀ (A77 : Option Addr) (C77 : Nat) (w76 : World), w76.ownsRow 0 28 8 (.slice A77 (N70 + 1) C77) (N70 + 1) (xs74 ++ news75) → App w68 w76 A70 A77 →
  optC m53 False fun r84 =>
  ∃ (pre81 : List MapEntry) (x82 : MapEntry) (post83 : List MapEntry), MapAt Try.prog 74 w76 r84 (pre81 ++ x82 :: post83) ∧ (x82.born : Int) = n72 ∧ ∀ w79 : World, MapAt Try.prog 74 w79 r84 (pre81 ++ { x82 with val := .slice A77 (N70 + 1) C77 } :: post83) → Wrote w76 w79 r84 →
  nilC p1 fun b85 o85 =>
  ∃ m86 : Option Nat, w79.drew.cell? ⟨b85, o85 + 1, none⟩ = some (.map m86) ∧
  ∃ n87 : Int, w79.drew.cell? ⟨b10, 1, none⟩ = some (.int .i64 n87) ∧
  ∃ n88 : Int, w79.drew.cell? ⟨b10, 3, none⟩ = some (.int .i64 n88) ∧
  ∃ s89 : ByteArray, ∃ n90 : Int, ∃ n91 : Int, Cells w79.drew ⟨b47, 0, none⟩ [.string s89, .int .i64 n90, .int .i64 n91] ∧
  Go.Maps.Keyed Try.prog 77 ∧ (∃ l, keyOf Try.prog 77 (.agg #[.int .i64 n87, .int .i64 n88]) = some l) ∧
  optC m86 False fun r95 =>
  ∃ es92 : List MapEntry, MapAt Try.prog 77 w79.drew r95 es92 ∧ ∀ (w93 : World) (es94 : List MapEntry), MPut es92 (.agg #[.int .i64 n87, .int .i64 n88]) (.agg #[.string s89, .int .i64 n90, .int .i64 n91]) es94 → MapAt Try.prog 77 w93 r95 es94 → Wrote w79.drew w93 r95 →
  R (.int .i64 0) w93))))))))
def V.queue_Queue_Send_ann : Ann := .s (.no) (.s (.no) (.s (.draw (.r 0 (.r 1 (.r 2 (.r 3 (.r 4 (.r 5 (.r 6 (.r 7 (.r 8 (.r 9 (.r 10 (.r 11 (.r 12 (.e 13 [] (.e 14 [3, 5, 7, 9] (.e 15 [3, 5, 7, 9] (.done))))))))))))))))) [(14, 3), (14, 5), (14, 7), (14, 9), (15, 3), (15, 5), (15, 7), (15, 9)]) (.s (.no) (.s (.no) (.s (.draw (.r 0 (.r 1 (.r 2 (.r 3 (.r 4 (.r 5 (.e 6 [5] (.e 7 [3, 4, 5] (.r 8 (.r 10 (.e 9 [3, 4, 5] (.e 11 [3, 4, 5] (.done))))))))))))) [(6, 5), (7, 3), (7, 4), (7, 5), (9, 3), (9, 4), (9, 5), (11, 3), (11, 4), (11, 5)]) (.s (.draw (.r 0 (.r 1 (.r 2 (.r 3 (.r 4 (.r 5 (.r 6 (.r 7 (.r 8 (.r 9 (.e 10 [3, 5, 7, 9] (.done)))))))))))) [(10, 3), (10, 5), (10, 7), (10, 9)]) (.no)))))))
theorem V.queue_Queue_Send_eq (p1 : Option Addr) (s2 : ByteArray) (n3 : Int) (n4 : Int) (n5 : Int) (n6 : Int) (n7 : Int) (n8 : Int) (t9 : Bool) (w : World) (R : Value → World → Prop) : V.queue_Queue_Send p1 s2 n3 n4 n5 n6 n7 n8 t9 w R = fnW Try.prog [] [.tmp 4] (bodyOf Try.f9) V.queue_Queue_Send_ann [.pointer p1, .agg #[.string s2, .int .i64 n3, .int .i64 n4, .int .i64 n5, .int .i64 n6, .int .i64 n7, .int .i64 n8, .bool t9]] w R := by kernel_rfl
theorem V.queue_Queue_Send_ok : okC 85 (bodyOf Try.f9) V.queue_Queue_Send_ann = true := by kernel_rfl
theorem V.queue_Queue_Send_cs : (calleesC (bodyOf Try.f9)).all (entersB Try.prog) = true := by kernel_rfl
theorem V.queue_Queue_Send_calls {p1 : Option Addr} {s2 : ByteArray} {n3 : Int} {n4 : Int} {n5 : Int} {n6 : Int} {n7 : Int} {n8 : Int} {t9 : Bool}  {w : World} {R : Value → World → Prop} (h : V.queue_Queue_Send p1 s2 n3 n4 n5 n6 n7 n8 t9 w R) : Calls Try.prog 9 #[.pointer p1, .agg #[.string s2, .int .i64 n3, .int .i64 n4, .int .i64 n5, .int .i64 n6, .int .i64 n7, .int .i64 n8, .bool t9]] w fun e w' => ∃ v, e = .returned v ∧ R v w' :=
  fn_sound (by kernel_rfl) Try.func9 (by kernel_rfl) V.queue_Queue_Send_ok (enters_all V.queue_Queue_Send_cs) (by kernel_rfl) ((V.queue_Queue_Send_eq p1 s2 n3 n4 n5 n6 n7 n8 t9 w R).mp h)

def V.queue_Queue_First (p1 : Option Addr) (s2 : ByteArray) (n3 : Int) (n4 : Int) (n5 : Int) (w : World) (R : Value → World → Prop) : Prop :=
  ∀ (b6 : Nat) (w7 : World), New w w7 b6 [.string emptyS, .int .i64 0, .int .i64 0, .int .i64 0, .int .i64 0, .int .i64 0, .int .i64 0, .bool false] 28 →
  Calls Try.prog 32 #[.pointer p1] w7 fun e w8 => ∃ t9 : Bool, e = .returned (.bool t9) ∧
  ifb t9
  (∃ (l10 : List Value) (e11 : TypeId), Blk w8 b6 l10 e11 ∧ 0 + 8 ≤ l10.length ∧ ∀ w12 : World, Upd w8 w12 b6 (setSeg l10 0 [.string emptyS, .int .i64 0, .int .i64 0, .int .i64 0, .int .i64 0, .int .i64 0, .int .i64 0, .bool false]) e11 →
  ∃ s13 : ByteArray, ∃ n14 : Int, ∃ n15 : Int, ∃ n16 : Int, ∃ n17 : Int, ∃ n18 : Int, ∃ n19 : Int, ∃ t20 : Bool, Cells w12 ⟨b6, 0, none⟩ [.string s13, .int .i64 n14, .int .i64 n15, .int .i64 n16, .int .i64 n17, .int .i64 n18, .int .i64 n19, .bool t20] ∧ R (.tuple #[.agg #[.string s13, .int .i64 n14, .int .i64 n15, .int .i64 n16, .int .i64 n17, .int .i64 n18, .int .i64 n19, .bool t20], .bool false]) w12)
  (nilC p1 fun b21 o21 =>
  ∃ m22 : Option Nat, w8.cell? ⟨b21, o21, none⟩ = some (.map m22) ∧
  Go.Maps.Keyed Try.prog 74 ∧ (∃ l, keyOf Try.prog 74 (.agg #[.string s2, .int .i64 n3, .int .i64 n4]) = some l) ∧
  ∃ es23 : List MapEntry, MapO Try.prog 74 w8 m22 es23 ∧ ∃ A26 : Option Addr, ∃ N26 : Nat, ∃ C26 : Nat, ∃ t27 : Bool, LookR es23 (.agg #[.string s2, .int .i64 n3, .int .i64 n4]) (.slice none 0 0) (.slice A26 N26 C26) t27 ∧
  ∃ (I28 : Int → World → Prop) (μ29 : Int → World → Nat),
  I28 (0 : Int) w8 ∧
  ∀ n32 : Int, ∀ (jk31 : Env) (w30 : World), I28 n32 w30 →
  ifb (decide (n32 < ((N26 : Nat) : Int)))
  (0 ≤ n32 ∧ n32 < ((N26 : Nat) : Int) ∧ ∃ b33 o34 : Nat, (A26 : Option Addr) = some ⟨b33, o34, none⟩ ∧
  ∃ s35 : ByteArray, ∃ n36 : Int, ∃ n37 : Int, ∃ n38 : Int, ∃ n39 : Int, ∃ n40 : Int, ∃ n41 : Int, ∃ t42 : Bool, Cells w30 ⟨b33, o34 + n32.toNat * 8, none⟩ [.string s35, .int .i64 n36, .int .i64 n37, .int .i64 n38, .int .i64 n39, .int .i64 n40, .int .i64 n41, .bool t42] ∧
  ∀ (b43 : Nat) (w44 : World), New w30 w44 b43 [.string emptyS, .int .i64 0, .int .i64 0, .int .i64 0, .int .i64 0, .int .i64 0, .int .i64 0, .bool false] 28 →
  ∃ (l45 : List Value) (e46 : TypeId), Blk w44 b43 l45 e46 ∧ 0 + 8 ≤ l45.length ∧ ∀ w47 : World, Upd w44 w47 b43 (setSeg l45 0 [.string s35, .int .i64 n36, .int .i64 n37, .int .i64 n38, .int .i64 n39, .int .i64 n40, .int .i64 n41, .bool t42]) e46 →
  ∃ t48 : Bool, w47.cell? ⟨b43, 7, none⟩ = some (.bool t48) ∧
  ifb (!t48)
  (ifb (n5 == (-1 : Int))
  (∃ s49 : ByteArray, ∃ n50 : Int, ∃ n51 : Int, ∃ n52 : Int, ∃ n53 : Int, ∃ n54 : Int, ∃ n55 : Int, ∃ t56 : Bool, Cells w47 ⟨b43, 0, none⟩ [.string s49, .int .i64 n50, .int .i64 n51, .int .i64 n52, .int .i64 n53, .int .i64 n54, .int .i64 n55, .bool t56] ∧
  ∃ (l57 : List Value) (e58 : TypeId), Blk w47 b6 l57 e58 ∧ 0 + 8 ≤ l57.length ∧ ∀ w59 : World, Upd w47 w59 b6 (setSeg l57 0 [.string s49, .int .i64 n50, .int .i64 n51, .int .i64 n52, .int .i64 n53, .int .i64 n54, .int .i64 n55, .bool t56]) e58 →
  ∃ s60 : ByteArray, ∃ n61 : Int, ∃ n62 : Int, ∃ n63 : Int, ∃ n64 : Int, ∃ n65 : Int, ∃ n66 : Int, ∃ t67 : Bool, Cells w59 ⟨b6, 0, none⟩ [.string s60, .int .i64 n61, .int .i64 n62, .int .i64 n63, .int .i64 n64, .int .i64 n65, .int .i64 n66, .bool t67] ∧ R (.tuple #[.agg #[.string s60, .int .i64 n61, .int .i64 n62, .int .i64 n63, .int .i64 n64, .int .i64 n65, .int .i64 n66, .bool t67], .bool true]) w59)
  (∃ n68 : Int, w47.cell? ⟨b43, 4, none⟩ = some (.int .i64 n68) ∧
  ifb (n5 == n68)
  (∃ s69 : ByteArray, ∃ n70 : Int, ∃ n71 : Int, ∃ n72 : Int, ∃ n73 : Int, ∃ n74 : Int, ∃ n75 : Int, ∃ t76 : Bool, Cells w47 ⟨b43, 0, none⟩ [.string s69, .int .i64 n70, .int .i64 n71, .int .i64 n72, .int .i64 n73, .int .i64 n74, .int .i64 n75, .bool t76] ∧
  ∃ (l77 : List Value) (e78 : TypeId), Blk w47 b6 l77 e78 ∧ 0 + 8 ≤ l77.length ∧ ∀ w79 : World, Upd w47 w79 b6 (setSeg l77 0 [.string s69, .int .i64 n70, .int .i64 n71, .int .i64 n72, .int .i64 n73, .int .i64 n74, .int .i64 n75, .bool t76]) e78 →
  ∃ s80 : ByteArray, ∃ n81 : Int, ∃ n82 : Int, ∃ n83 : Int, ∃ n84 : Int, ∃ n85 : Int, ∃ n86 : Int, ∃ t87 : Bool, Cells w79 ⟨b6, 0, none⟩ [.string s80, .int .i64 n81, .int .i64 n82, .int .i64 n83, .int .i64 n84, .int .i64 n85, .int .i64 n86, .bool t87] ∧ R (.tuple #[.agg #[.string s80, .int .i64 n81, .int .i64 n82, .int .i64 n83, .int .i64 n84, .int .i64 n85, .int .i64 n86, .bool t87], .bool true]) w79)
  (∃ c88 : Int, IntKind.wrap .i64 (n32 + (1 : Int)) = c88 ∧
  I28 c88 w47 ∧ μ29 c88 w47 < μ29 n32 w30)))
  (∃ c89 : Int, IntKind.wrap .i64 (n32 + (1 : Int)) = c89 ∧
  I28 c89 w47 ∧ μ29 c89 w47 < μ29 n32 w30))
  (∃ (l90 : List Value) (e91 : TypeId), Blk w30 b6 l90 e91 ∧ 0 + 8 ≤ l90.length ∧ ∀ w92 : World, Upd w30 w92 b6 (setSeg l90 0 [.string emptyS, .int .i64 0, .int .i64 0, .int .i64 0, .int .i64 0, .int .i64 0, .int .i64 0, .bool false]) e91 →
  ∃ s93 : ByteArray, ∃ n94 : Int, ∃ n95 : Int, ∃ n96 : Int, ∃ n97 : Int, ∃ n98 : Int, ∃ n99 : Int, ∃ t100 : Bool, Cells w92 ⟨b6, 0, none⟩ [.string s93, .int .i64 n94, .int .i64 n95, .int .i64 n96, .int .i64 n97, .int .i64 n98, .int .i64 n99, .bool t100] ∧ R (.tuple #[.agg #[.string s93, .int .i64 n94, .int .i64 n95, .int .i64 n96, .int .i64 n97, .int .i64 n98, .int .i64 n99, .bool t100], .bool false]) w92))
def V.queue_Queue_First_ann : Ann := .s (.no) (.s (.no) (.s (.s (.no) (.b (.loop [(27, .one (.i .i64))] (.no)))) (.no)))
theorem V.queue_Queue_First_eq (p1 : Option Addr) (s2 : ByteArray) (n3 : Int) (n4 : Int) (n5 : Int) (w : World) (R : Value → World → Prop) : V.queue_Queue_First p1 s2 n3 n4 n5 w R = fnW Try.prog [] [.cell 10 28, .tmp 11] (bodyOf Try.f10) V.queue_Queue_First_ann [.pointer p1, .string s2, .int .i64 n3, .int .i64 n4, .int .i64 n5] w R := by kernel_rfl
theorem V.queue_Queue_First_ok : okC 47 (bodyOf Try.f10) V.queue_Queue_First_ann = true := by kernel_rfl
theorem V.queue_Queue_First_cs : (calleesC (bodyOf Try.f10)).all (entersB Try.prog) = true := by kernel_rfl
theorem V.queue_Queue_First_calls {p1 : Option Addr} {s2 : ByteArray} {n3 : Int} {n4 : Int} {n5 : Int}  {w : World} {R : Value → World → Prop} (h : V.queue_Queue_First p1 s2 n3 n4 n5 w R) : Calls Try.prog 10 #[.pointer p1, .string s2, .int .i64 n3, .int .i64 n4, .int .i64 n5] w fun e w' => ∃ v, e = .returned v ∧ R v w' :=
  fn_sound (by kernel_rfl) Try.func10 (by kernel_rfl) V.queue_Queue_First_ok (enters_all V.queue_Queue_First_cs) (by kernel_rfl) ((V.queue_Queue_First_eq p1 s2 n3 n4 n5 w R).mp h)

def V.queue_Queue_Take (p1 : Option Addr) (n2 : Int) (n3 : Int) (w : World) (R : Value → World → Prop) : Prop :=
  Calls Try.prog 32 #[.pointer p1] w fun e w4 => ∃ t5 : Bool, e = .returned (.bool t5) ∧
  ifb t5
  (R (.int .i64 1) w4)
  (Calls Try.prog 34 #[.pointer p1, .int .i64 n2, .int .i64 n3] w4 fun e w6 => ∃ A7 : Option Addr, ∃ N7 : Nat, ∃ C7 : Nat, ∃ n8 : Int, e = .returned (.tuple #[.slice A7 N7 C7, .int .i64 n8]) ∧
  ifb (decide (n8 < (0 : Int)))
  (R (.int .i64 2) w6)
  (0 ≤ n8 ∧ n8 < ((N7 : Nat) : Int) ∧ ∃ b9 o10 : Nat, (A7 : Option Addr) = some ⟨b9, o10, none⟩ ∧
  ∃ t11 : Bool, w6.cell? ⟨b9, o10 + n8.toNat * 8 + 7, none⟩ = some (.bool t11) ∧
  ifb t11
  (R (.int .i64 2) w6)
  (0 ≤ n8 ∧ n8 < ((N7 : Nat) : Int) ∧ ∃ b12 o13 : Nat, (A7 : Option Addr) = some ⟨b12, o13, none⟩ ∧
  ∃ (l14 : List Value) (e15 : TypeId), Blk w6 b12 l14 e15 ∧ o13 + n8.toNat * 8 + 7 + 1 ≤ l14.length ∧ ∀ w16 : World, Upd w6 w16 b12 (l14.set (o13 + n8.toNat * 8 + 7) (.bool true)) e15 →
  R (.int .i64 0) w16)))
def V.queue_Queue_Take_ann : Ann := .no
theorem V.queue_Queue_Take_eq (p1 : Option Addr) (n2 : Int) (n3 : Int) (w : World) (R : Value → World → Prop) : V.queue_Queue_Take p1 n2 n3 w R = fnW Try.prog [] [.tmp 6] (bodyOf Try.f11) V.queue_Queue_Take_ann [.pointer p1, .int .i64 n2, .int .i64 n3] w R := by kernel_rfl
theorem V.queue_Queue_Take_ok : okC 31 (bodyOf Try.f11) V.queue_Queue_Take_ann = true := by kernel_rfl
theorem V.queue_Queue_Take_cs : (calleesC (bodyOf Try.f11)).all (entersB Try.prog) = true := by kernel_rfl
theorem V.queue_Queue_Take_calls {p1 : Option Addr} {n2 : Int} {n3 : Int}  {w : World} {R : Value → World → Prop} (h : V.queue_Queue_Take p1 n2 n3 w R) : Calls Try.prog 11 #[.pointer p1, .int .i64 n2, .int .i64 n3] w fun e w' => ∃ v, e = .returned v ∧ R v w' :=
  fn_sound (by kernel_rfl) Try.func11 (by kernel_rfl) V.queue_Queue_Take_ok (enters_all V.queue_Queue_Take_cs) (by kernel_rfl) ((V.queue_Queue_Take_eq p1 n2 n3 w R).mp h)

def V.queue_Queue_Find (p1 : Option Addr) (n2 : Int) (n3 : Int) (w : World) (R : Value → World → Prop) : Prop :=
  ∀ (b4 : Nat) (w5 : World), New w w5 b4 [.string emptyS, .int .i64 0, .int .i64 0, .int .i64 0, .int .i64 0, .int .i64 0, .int .i64 0, .bool false] 28 →
  Calls Try.prog 34 #[.pointer p1, .int .i64 n2, .int .i64 n3] w5 fun e w6 => ∃ A7 : Option Addr, ∃ N7 : Nat, ∃ C7 : Nat, ∃ n8 : Int, e = .returned (.tuple #[.slice A7 N7 C7, .int .i64 n8]) ∧
  ifb (decide (n8 < (0 : Int)))
  (∃ (l9 : List Value) (e10 : TypeId), Blk w6 b4 l9 e10 ∧ 0 + 8 ≤ l9.length ∧ ∀ w11 : World, Upd w6 w11 b4 (setSeg l9 0 [.string emptyS, .int .i64 0, .int .i64 0, .int .i64 0, .int .i64 0, .int .i64 0, .int .i64 0, .bool false]) e10 →
  ∃ s12 : ByteArray, ∃ n13 : Int, ∃ n14 : Int, ∃ n15 : Int, ∃ n16 : Int, ∃ n17 : Int, ∃ n18 : Int, ∃ t19 : Bool, Cells w11 ⟨b4, 0, none⟩ [.string s12, .int .i64 n13, .int .i64 n14, .int .i64 n15, .int .i64 n16, .int .i64 n17, .int .i64 n18, .bool t19] ∧ R (.tuple #[.agg #[.string s12, .int .i64 n13, .int .i64 n14, .int .i64 n15, .int .i64 n16, .int .i64 n17, .int .i64 n18, .bool t19], .bool false]) w11)
  (0 ≤ n8 ∧ n8 < ((N7 : Nat) : Int) ∧ ∃ b20 o21 : Nat, (A7 : Option Addr) = some ⟨b20, o21, none⟩ ∧
  ∃ s22 : ByteArray, ∃ n23 : Int, ∃ n24 : Int, ∃ n25 : Int, ∃ n26 : Int, ∃ n27 : Int, ∃ n28 : Int, ∃ t29 : Bool, Cells w6 ⟨b20, o21 + n8.toNat * 8, none⟩ [.string s22, .int .i64 n23, .int .i64 n24, .int .i64 n25, .int .i64 n26, .int .i64 n27, .int .i64 n28, .bool t29] ∧
  ∃ (l30 : List Value) (e31 : TypeId), Blk w6 b4 l30 e31 ∧ 0 + 8 ≤ l30.length ∧ ∀ w32 : World, Upd w6 w32 b4 (setSeg l30 0 [.string s22, .int .i64 n23, .int .i64 n24, .int .i64 n25, .int .i64 n26, .int .i64 n27, .int .i64 n28, .bool t29]) e31 →
  ∃ s33 : ByteArray, ∃ n34 : Int, ∃ n35 : Int, ∃ n36 : Int, ∃ n37 : Int, ∃ n38 : Int, ∃ n39 : Int, ∃ t40 : Bool, Cells w32 ⟨b4, 0, none⟩ [.string s33, .int .i64 n34, .int .i64 n35, .int .i64 n36, .int .i64 n37, .int .i64 n38, .int .i64 n39, .bool t40] ∧ R (.tuple #[.agg #[.string s33, .int .i64 n34, .int .i64 n35, .int .i64 n36, .int .i64 n37, .int .i64 n38, .int .i64 n39, .bool t40], .bool true]) w32)
def V.queue_Queue_Find_ann : Ann := .no
theorem V.queue_Queue_Find_eq (p1 : Option Addr) (n2 : Int) (n3 : Int) (w : World) (R : Value → World → Prop) : V.queue_Queue_Find p1 n2 n3 w R = fnW Try.prog [] [.cell 6 28, .tmp 7] (bodyOf Try.f15) V.queue_Queue_Find_ann [.pointer p1, .int .i64 n2, .int .i64 n3] w R := by kernel_rfl
theorem V.queue_Queue_Find_ok : okC 24 (bodyOf Try.f15) V.queue_Queue_Find_ann = true := by kernel_rfl
theorem V.queue_Queue_Find_cs : (calleesC (bodyOf Try.f15)).all (entersB Try.prog) = true := by kernel_rfl
theorem V.queue_Queue_Find_calls {p1 : Option Addr} {n2 : Int} {n3 : Int}  {w : World} {R : Value → World → Prop} (h : V.queue_Queue_Find p1 n2 n3 w R) : Calls Try.prog 15 #[.pointer p1, .int .i64 n2, .int .i64 n3] w fun e w' => ∃ v, e = .returned v ∧ R v w' :=
  fn_sound (by kernel_rfl) Try.func15 (by kernel_rfl) V.queue_Queue_Find_ok (enters_all V.queue_Queue_Find_cs) (by kernel_rfl) ((V.queue_Queue_Find_eq p1 n2 n3 w R).mp h)

def V.queue_Queue_Senders (p1 : Option Addr) (s2 : ByteArray) (n3 : Int) (w : World) (R : Value → World → Prop) : Prop :=
  Calls Try.prog 32 #[.pointer p1] w fun e w4 => ∃ t5 : Bool, e = .returned (.bool t5) ∧
  ifb t5
  (R (.slice none 0 0) w4)
  (nilC p1 fun b6 o6 =>
  ∃ m7 : Option Nat, w4.cell? ⟨b6, o6, none⟩ = some (.map m7) ∧
  optC m7 False fun r12 =>
  ∃ es8 : List MapEntry, MapAt Try.prog 74 w4 r12 es8 ∧ ∀ (b11 : Nat) (w9 : World), NewI Try.prog 74 w4 w9 b11 r12 es8 →
  ∃ (I13 : Option Addr → Nat → Nat → World → Prop) (μ14 : Option Addr → Nat → Nat → World → Nat),
  I13 none 0 0 w9 ∧
  ∀ A17 : Option Addr, ∀ N17 : Nat, ∀ C17 : Nat, ∀ (jk16 : Env) (w15 : World), I13 A17 N17 C17 w15 →
  ∃ (k18 : TypeId) (r19 : Nat) (es20 left21 : List MapEntry) (cur22 : Option MapEntry), IterAt Try.prog k18 w15 b11 r19 es20 left21 cur22 ∧ (left21 = [] →
  Calls Try.prog 39 #[.slice A17 N17 C17] w15 fun e w27 => e = .returned (.tuple #[]) ∧
  R (.slice A17 N17 C17) w27) ∧
  ∀ (pre23 : List MapEntry) (x24 : MapEntry) (post25 : List MapEntry) (w26 : World), left21 = pre23 ++ x24 :: post25 → IterAt Try.prog k18 w26 b11 r19 es20 (pre23 ++ post25) (some x24) → Wrote w15 w26 b11 →
  ∃ (k28 : TypeId) (r29 : Nat) (es30 left31 : List MapEntry) (x32 : MapEntry), IterAt Try.prog k28 w26 b11 r29 es30 left31 (some x32) ∧ ∃ s33 : ByteArray, ∃ n34 : Int, ∃ n35 : Int, x32.key = .agg #[.string s33, .int .i64 n34, .int .i64 n35] ∧ ∃ A36 : Option Addr, ∃ N36 : Nat, ∃ C36 : Nat, x32.val = .slice A36 N36 C36 ∧
  ∀ (b37 : Nat) (w38 : World), New w26 w38 b37 [.string emptyS, .int .i64 0, .int .i64 0] 74 →
  ∃ (l39 : List Value) (e40 : TypeId), Blk w38 b37 l39 e40 ∧ 0 + 3 ≤ l39.length ∧ ∀ w41 : World, Upd w38 w41 b37 (setSeg l39 0 [.string s33, .int .i64 n34, .int .i64 n35]) e40 →
  Calls Try.prog 37 #[.slice A36 N36 C36, .func (.func 38) #[] #[]] w41 fun e w42 => ∃ t43 : Bool, e = .returned (.bool t43) ∧
  ∃ s44 : ByteArray, ∃ n45 : Int, ∃ n46 : Int, Cells w42 ⟨b37, 0, none⟩ [.string s44, .int .i64 n45, .int .i64 n46] ∧
  ∃ n47 : Int, w42.cell? ⟨b37, 1, none⟩ = some (.int .i64 n47) ∧
  ifb ((s44 == s2) && ((n45 == n47) && ((n46 == n3) && (true))))
  (ifb t43
  (∃ n48 : Int, w42.cell? ⟨b37, 1, none⟩ = some (.int .i64 n48) ∧
  ∀ (b49 : Nat) (w50 : World), New w42 w50 b49 [.int .i64 n48] 3 →
  ∃ xs51 news52 : List Value, w50.ownsRow 0 3 1 (.slice A17 N17 C17) N17 xs51 ∧ Reads w50 (some ⟨b49, 0, none⟩) 1 1 news52 ∧ N17 + 1 ≤ maxLen ∧ (N17 + 1) * 8 ≤ 140737488355328 ∧
  ∀ (A54 : Option Addr) (C54 : Nat) (w53 : World), w53.ownsRow 0 3 1 (.slice A54 (N17 + 1) C54) (N17 + 1) (xs51 ++ news52) → App w50 w53 A17 A54 →
  I13 A54 (N17 + 1) C54 w53 ∧ μ14 A54 (N17 + 1) C54 w53 < μ14 A17 N17 C17 w15)
  (I13 A17 N17 C17 w42 ∧ μ14 A17 N17 C17 w42 < μ14 A17 N17 C17 w15))
  (I13 A17 N17 C17 w42 ∧ μ14 A17 N17 C17 w42 < μ14 A17 N17 C17 w15))
def V.queue_Queue_Senders_ann : Ann := .s (.no) (.s (.no) (.s (.no) (.s (.s (.no) (.b (.loop [(7, .one .sl)] (.no)))) (.no))))
theorem V.queue_Queue_Senders_eq (p1 : Option Addr) (s2 : ByteArray) (n3 : Int) (w : World) (R : Value → World → Prop) : V.queue_Queue_Senders p1 s2 n3 w R = fnW Try.prog [(20, .agg [.s, (.i .i64), (.i .i64)], .one .sl)] [.tmp 6] (bodyOf Try.f17) V.queue_Queue_Senders_ann [.pointer p1, .string s2, .int .i64 n3] w R := by kernel_rfl
theorem V.queue_Queue_Senders_ok : okC 43 (bodyOf Try.f17) V.queue_Queue_Senders_ann = true := by kernel_rfl
theorem V.queue_Queue_Senders_cs : (calleesC (bodyOf Try.f17)).all (entersB Try.prog) = true := by kernel_rfl
theorem V.queue_Queue_Senders_calls {p1 : Option Addr} {s2 : ByteArray} {n3 : Int}  {w : World} {R : Value → World → Prop} (h : V.queue_Queue_Senders p1 s2 n3 w R) : Calls Try.prog 17 #[.pointer p1, .string s2, .int .i64 n3] w fun e w' => ∃ v, e = .returned v ∧ R v w' :=
  fn_sound (by kernel_rfl) Try.func17 (by kernel_rfl) V.queue_Queue_Senders_ok (enters_all V.queue_Queue_Senders_cs) (by kernel_rfl) ((V.queue_Queue_Senders_eq p1 s2 n3 w R).mp h)

def V.queue_Queue_Ahead (p1 : Option Addr) (s2 : ByteArray) (n3 : Int) (n4 : Int) (n5 : Int) (n6 : Int) (n7 : Int) (n8 : Int) (t9 : Bool) (w : World) (R : Value → World → Prop) : Prop :=
  ∀ (b10 : Nat) (w11 : World), New w w11 b10 [.string s2, .int .i64 n3, .int .i64 n4, .int .i64 n5, .int .i64 n6, .int .i64 n7, .int .i64 n8, .bool t9] 28 →
  ∃ n12 : Int, w11.cell? ⟨b10, 1, none⟩ = some (.int .i64 n12) ∧
  ∃ n13 : Int, w11.cell? ⟨b10, 3, none⟩ = some (.int .i64 n13) ∧
  Calls Try.prog 34 #[.pointer p1, .int .i64 n12, .int .i64 n13] w11 fun e w14 => ∃ A15 : Option Addr, ∃ N15 : Nat, ∃ C15 : Nat, ∃ n16 : Int, e = .returned (.tuple #[.slice A15 N15 C15, .int .i64 n16]) ∧
  0 ≤ mx n16 (0 : Int) ∧ mx n16 (0 : Int) ≤ ((C15 : Nat) : Int) ∧
  ∃ (I17 : Option Addr → Nat → Nat → Int → World → Prop) (μ18 : Option Addr → Nat → Nat → Int → World → Nat),
  I17 none 0 0 (0 : Int) w14 ∧
  ∀ A21 : Option Addr, ∀ N21 : Nat, ∀ C21 : Nat, ∀ n22 : Int, ∀ (jk20 : Env) (w19 : World), I17 A21 N21 C21 n22 w19 →
  ifb (decide (n22 < (((mx n16 (0 : Int)).toNat : Nat) : Int)))
  (0 ≤ n22 ∧ n22 < (((mx n16 (0 : Int)).toNat : Nat) : Int) ∧ ∃ b23 o24 : Nat, (A15 : Option Addr) = some ⟨b23, o24, none⟩ ∧
  ∃ s25 : ByteArray, ∃ n26 : Int, ∃ n27 : Int, ∃ n28 : Int, ∃ n29 : Int, ∃ n30 : Int, ∃ n31 : Int, ∃ t32 : Bool, Cells w19 ⟨b23, o24 + n22.toNat * 8, none⟩ [.string s25, .int .i64 n26, .int .i64 n27, .int .i64 n28, .int .i64 n29, .int .i64 n30, .int .i64 n31, .bool t32] ∧
  ∀ (b33 : Nat) (w34 : World), New w19 w34 b33 [.string emptyS, .int .i64 0, .int .i64 0, .int .i64 0, .int .i64 0, .int .i64 0, .int .i64 0, .bool false] 28 →
  ∃ (l35 : List Value) (e36 : TypeId), Blk w34 b33 l35 e36 ∧ 0 + 8 ≤ l35.length ∧ ∀ w37 : World, Upd w34 w37 b33 (setSeg l35 0 [.string s25, .int .i64 n26, .int .i64 n27, .int .i64 n28, .int .i64 n29, .int .i64 n30, .int .i64 n31, .bool t32]) e36 →
  ∃ t38 : Bool, w37.cell? ⟨b33, 7, none⟩ = some (.bool t38) ∧
  ifb (!t38)
  (∃ s39 : ByteArray, ∃ n40 : Int, ∃ n41 : Int, ∃ n42 : Int, ∃ n43 : Int, ∃ n44 : Int, ∃ n45 : Int, ∃ t46 : Bool, Cells w37 ⟨b33, 0, none⟩ [.string s39, .int .i64 n40, .int .i64 n41, .int .i64 n42, .int .i64 n43, .int .i64 n44, .int .i64 n45, .bool t46] ∧
  ∀ (b47 : Nat) (w48 : World), New w37 w48 b47 [.string s39, .int .i64 n40, .int .i64 n41, .int .i64 n42, .int .i64 n43, .int .i64 n44, .int .i64 n45, .bool t46] 28 →
  ∃ xs49 news50 : List Value, w48.ownsRow 0 28 8 (.slice A21 N21 C21) N21 xs49 ∧ Reads w48 (some ⟨b47, 0, none⟩) 1 8 news50 ∧ N21 + 1 ≤ maxLen ∧ (N21 + 1) * 72 ≤ 140737488355328 ∧
  ∀ (A52 : Option Addr) (C52 : Nat) (w51 : World), w51.ownsRow 0 28 8 (.slice A52 (N21 + 1) C52) (N21 + 1) (xs49 ++ news50) → App w48 w51 A21 A52 →
  ∃ c53 : Int, IntKind.wrap .i64 (n22 + (1 : Int)) = c53 ∧
  I17 A52 (N21 + 1) C52 c53 w51 ∧ μ18 A52 (N21 + 1) C52 c53 w51 < μ18 A21 N21 C21 n22 w19)
  (∃ c54 : Int, IntKind.wrap .i64 (n22 + (1 : Int)) = c54 ∧
  I17 A21 N21 C21 c54 w37 ∧ μ18 A21 N21 C21 c54 w37 < μ18 A21 N21 C21 n22 w19))
  (R (.slice A21 N21 C21) w19)
def V.queue_Queue_Ahead_ann : Ann := .s (.no) (.s (.no) (.s (.no) (.s (.s (.no) (.b (.loop [(5, .one .sl), (24, .one (.i .i64))] (.no)))) (.no))))
theorem V.queue_Queue_Ahead_eq (p1 : Option Addr) (s2 : ByteArray) (n3 : Int) (n4 : Int) (n5 : Int) (n6 : Int) (n7 : Int) (n8 : Int) (t9 : Bool) (w : World) (R : Value → World → Prop) : V.queue_Queue_Ahead p1 s2 n3 n4 n5 n6 n7 n8 t9 w R = fnW Try.prog [] [.tmp 4] (bodyOf Try.f18) V.queue_Queue_Ahead_ann [.pointer p1, .agg #[.string s2, .int .i64 n3, .int .i64 n4, .int .i64 n5, .int .i64 n6, .int .i64 n7, .int .i64 n8, .bool t9]] w R := by kernel_rfl
theorem V.queue_Queue_Ahead_ok : okC 37 (bodyOf Try.f18) V.queue_Queue_Ahead_ann = true := by kernel_rfl
theorem V.queue_Queue_Ahead_cs : (calleesC (bodyOf Try.f18)).all (entersB Try.prog) = true := by kernel_rfl
theorem V.queue_Queue_Ahead_calls {p1 : Option Addr} {s2 : ByteArray} {n3 : Int} {n4 : Int} {n5 : Int} {n6 : Int} {n7 : Int} {n8 : Int} {t9 : Bool}  {w : World} {R : Value → World → Prop} (h : V.queue_Queue_Ahead p1 s2 n3 n4 n5 n6 n7 n8 t9 w R) : Calls Try.prog 18 #[.pointer p1, .agg #[.string s2, .int .i64 n3, .int .i64 n4, .int .i64 n5, .int .i64 n6, .int .i64 n7, .int .i64 n8, .bool t9]] w fun e w' => ∃ v, e = .returned v ∧ R v w' :=
  fn_sound (by kernel_rfl) Try.func18 (by kernel_rfl) V.queue_Queue_Ahead_ok (enters_all V.queue_Queue_Ahead_cs) (by kernel_rfl) ((V.queue_Queue_Ahead_eq p1 s2 n3 n4 n5 n6 n7 n8 t9 w R).mp h)

def V.queue_Queue_none (p1 : Option Addr) (w : World) (R : Value → World → Prop) : Prop :=
  ifb p1.isNone
  (R (.bool true) w)
  (nilC p1 fun b2 o2 =>
  ∃ m3 : Option Nat, w.cell? ⟨b2, o2, none⟩ = some (.map m3) ∧
  R (.bool m3.isNone) w)
def V.queue_Queue_none_ann : Ann := .no
theorem V.queue_Queue_none_eq (p1 : Option Addr) (w : World) (R : Value → World → Prop) : V.queue_Queue_none p1 w R = fnW Try.prog [] [.tmp 2] (bodyOf Try.f32) V.queue_Queue_none_ann [.pointer p1] w R := by kernel_rfl
theorem V.queue_Queue_none_ok : okC 12 (bodyOf Try.f32) V.queue_Queue_none_ann = true := by kernel_rfl
theorem V.queue_Queue_none_cs : (calleesC (bodyOf Try.f32)).all (entersB Try.prog) = true := by kernel_rfl
theorem V.queue_Queue_none_calls {p1 : Option Addr}  {w : World} {R : Value → World → Prop} (h : V.queue_Queue_none p1 w R) : Calls Try.prog 32 #[.pointer p1] w fun e w' => ∃ v, e = .returned v ∧ R v w' :=
  fn_sound (by kernel_rfl) Try.func32 (by kernel_rfl) V.queue_Queue_none_ok (enters_all V.queue_Queue_none_cs) (by kernel_rfl) ((V.queue_Queue_none_eq p1 w R).mp h)

def V.queue_in (n1 : Int) (n2 : Int) (n3 : Int) (w : World) (R : Value → World → Prop) : Prop :=
  ifb (decide (n1 ≥ n2))
  (R (.bool (decide (n1 ≤ n3))) w)
  (R (.bool false) w)
def V.queue_in_ann : Ann := .no
theorem V.queue_in_eq (n1 : Int) (n2 : Int) (n3 : Int) (w : World) (R : Value → World → Prop) : V.queue_in n1 n2 n3 w R = fnW Try.prog [] [.tmp 6] (bodyOf Try.f33) V.queue_in_ann [.int .i64 n1, .int .i64 n2, .int .i64 n3] w R := by kernel_rfl
theorem V.queue_in_ok : okC 15 (bodyOf Try.f33) V.queue_in_ann = true := by kernel_rfl
theorem V.queue_in_cs : (calleesC (bodyOf Try.f33)).all (entersB Try.prog) = true := by kernel_rfl
theorem V.queue_in_calls {n1 : Int} {n2 : Int} {n3 : Int}  {w : World} {R : Value → World → Prop} (h : V.queue_in n1 n2 n3 w R) : Calls Try.prog 33 #[.int .i64 n1, .int .i64 n2, .int .i64 n3] w fun e w' => ∃ v, e = .returned v ∧ R v w' :=
  fn_sound (by kernel_rfl) Try.func33 (by kernel_rfl) V.queue_in_ok (enters_all V.queue_in_cs) (by kernel_rfl) ((V.queue_in_eq n1 n2 n3 w R).mp h)

def V.queue_Queue_find (p1 : Option Addr) (n2 : Int) (n3 : Int) (w : World) (R : Value → World → Prop) : Prop :=
  ∀ (b4 : Nat) (w5 : World), New w w5 b4 [.int .i64 n3] 3 →
  Calls Try.prog 32 #[.pointer p1] w5 fun e w6 => ∃ t7 : Bool, e = .returned (.bool t7) ∧
  ifb t7
  (R (.tuple #[.slice none 0 0, .int .i64 (-1)]) w6)
  (nilC p1 fun b8 o8 =>
  ∃ m9 : Option Nat, w6.drew.cell? ⟨b8, o8 + 1, none⟩ = some (.map m9) ∧
  ∃ n10 : Int, w6.drew.cell? ⟨b4, 0, none⟩ = some (.int .i64 n10) ∧
  Go.Maps.Keyed Try.prog 77 ∧ (∃ l, keyOf Try.prog 77 (.agg #[.int .i64 n2, .int .i64 n10]) = some l) ∧
  ∃ es11 : List MapEntry, MapO Try.prog 77 w6.drew m9 es11 ∧ ∃ s14 : ByteArray, ∃ n15 : Int, ∃ n16 : Int, ∃ t17 : Bool, LookR es11 (.agg #[.int .i64 n2, .int .i64 n10]) (.agg #[.string emptyS, .int .i64 0, .int .i64 0]) (.agg #[.string s14, .int .i64 n15, .int .i64 n16]) t17 ∧
  ∀ (b18 : Nat) (w19 : World), New w6.drew w19 b18 [.string emptyS, .int .i64 0, .int .i64 0] 74 →
  (mapSame m9 w6.drew w19) ∧ (w19.cell? ⟨b4, 0, none⟩ = some (.int .i64 n10)) ∧ (w19.cell? ⟨b8, o8 + 1, none⟩ = some (.map m9)) ∧ ∃ (l20 : List Value) (e21 : TypeId), Blk w19 b18 l20 e21 ∧ 0 + 3 ≤ l20.length ∧ ∀ w22 : World, Upd w19 w22 b18 (setSeg l20 0 [.string s14, .int .i64 n15, .int .i64 n16]) e21 →
  ifb (!t17)
  (R (.tuple #[.slice none 0 0, .int .i64 (-1)]) w22)
  (nilC p1 fun b23 o23 =>
  ∃ m24 : Option Nat, w22.drew.cell? ⟨b23, o23, none⟩ = some (.map m24) ∧
  ∃ s25 : ByteArray, ∃ n26 : Int, ∃ n27 : Int, Cells w22.drew ⟨b18, 0, none⟩ [.string s25, .int .i64 n26, .int .i64 n27] ∧
  Go.Maps.Keyed Try.prog 74 ∧ (∃ l, keyOf Try.prog 74 (.agg #[.string s25, .int .i64 n26, .int .i64 n27]) = some l) ∧
  ∃ es28 : List MapEntry, MapO Try.prog 74 w22.drew m24 es28 ∧ ∃ A31 : Option Addr, ∃ N31 : Nat, ∃ C31 : Nat, ∃ t32 : Bool, LookR es28 (.agg #[.string s25, .int .i64 n26, .int .i64 n27]) (.slice none 0 0) (.slice A31 N31 C31) t32 ∧
  Calls Try.prog 56 #[.slice A31 N31 C31, .func (.func 57) #[] #[.pointer (some ⟨b4, 0, none⟩)]] w22.drew fun e w33 => ∃ n34 : Int, e = .returned (.int .i64 n34) ∧
  R (.tuple #[.slice A31 N31 C31, .int .i64 n34]) w33))
def V.queue_Queue_find_ann : Ann := .s (.no) (.s (.no) (.s (.draw (.r 0 (.r 1 (.r 2 (.r 3 (.r 4 (.r 5 (.r 6 (.r 7 (.r 8 (.r 9 (.r 10 (.e 11 [] (.e 12 [3, 5, 7] (.e 13 [3, 5, 7] (.done))))))))))))))) [(12, 3), (12, 5), (12, 7), (13, 3), (13, 5), (13, 7)]) (.s (.no) (.s (.draw (.r 0 (.r 1 (.r 2 (.r 3 (.r 4 (.r 5 (.e 6 [3, 4, 5] (.done)))))))) [(6, 3), (6, 4), (6, 5)]) (.no)))))
theorem V.queue_Queue_find_eq (p1 : Option Addr) (n2 : Int) (n3 : Int) (w : World) (R : Value → World → Prop) : V.queue_Queue_find p1 n2 n3 w R = fnW Try.prog [] [.tmp 6, .tmp 7] (bodyOf Try.f34) V.queue_Queue_find_ann [.pointer p1, .int .i64 n2, .int .i64 n3] w R := by kernel_rfl
theorem V.queue_Queue_find_ok : okC 36 (bodyOf Try.f34) V.queue_Queue_find_ann = true := by kernel_rfl
theorem V.queue_Queue_find_cs : (calleesC (bodyOf Try.f34)).all (entersB Try.prog) = true := by kernel_rfl
theorem V.queue_Queue_find_calls {p1 : Option Addr} {n2 : Int} {n3 : Int}  {w : World} {R : Value → World → Prop} (h : V.queue_Queue_find p1 n2 n3 w R) : Calls Try.prog 34 #[.pointer p1, .int .i64 n2, .int .i64 n3] w fun e w' => ∃ v, e = .returned v ∧ R v w' :=
  fn_sound (by kernel_rfl) Try.func34 (by kernel_rfl) V.queue_Queue_find_ok (enters_all V.queue_Queue_find_cs) (by kernel_rfl) ((V.queue_Queue_find_eq p1 n2 n3 w R).mp h)

def V.queue_Queue_find_1 (s1 : ByteArray) (n2 : Int) (n3 : Int) (n4 : Int) (n5 : Int) (n6 : Int) (n7 : Int) (t8 : Bool) (f9 : Nat) (w : World) (R : Value → World → Prop) : Prop :=
  ∀ (b10 : Nat) (w11 : World), New w w11 b10 [.string s1, .int .i64 n2, .int .i64 n3, .int .i64 n4, .int .i64 n5, .int .i64 n6, .int .i64 n7, .bool t8] 28 →
  ∃ n12 : Int, w11.cell? ⟨b10, 3, none⟩ = some (.int .i64 n12) ∧
  ∃ n13 : Int, w11.cell? ⟨f9, 0, none⟩ = some (.int .i64 n13) ∧
  R (.bool (n12 == n13)) w11
def V.queue_Queue_find_1_ann : Ann := .no
theorem V.queue_Queue_find_1_eq (s1 : ByteArray) (n2 : Int) (n3 : Int) (n4 : Int) (n5 : Int) (n6 : Int) (n7 : Int) (t8 : Bool) (f9 : Nat) (w : World) (R : Value → World → Prop) : V.queue_Queue_find_1 s1 n2 n3 n4 n5 n6 n7 t8 f9 w R = fnW Try.prog [] [.tmp 3] (bodyOf Try.f57) V.queue_Queue_find_1_ann [.agg #[.string s1, .int .i64 n2, .int .i64 n3, .int .i64 n4, .int .i64 n5, .int .i64 n6, .int .i64 n7, .bool t8], .pointer (some ⟨f9, 0, none⟩)] w R := by kernel_rfl
theorem V.queue_Queue_find_1_ok : okC 8 (bodyOf Try.f57) V.queue_Queue_find_1_ann = true := by kernel_rfl
theorem V.queue_Queue_find_1_cs : (calleesC (bodyOf Try.f57)).all (entersB Try.prog) = true := by kernel_rfl
theorem V.queue_Queue_find_1_calls {s1 : ByteArray} {n2 : Int} {n3 : Int} {n4 : Int} {n5 : Int} {n6 : Int} {n7 : Int} {t8 : Bool} {f9 : Nat}  {w : World} {R : Value → World → Prop} (h : V.queue_Queue_find_1 s1 n2 n3 n4 n5 n6 n7 t8 f9 w R) : Calls Try.prog 57 #[.agg #[.string s1, .int .i64 n2, .int .i64 n3, .int .i64 n4, .int .i64 n5, .int .i64 n6, .int .i64 n7, .bool t8], .pointer (some ⟨f9, 0, none⟩)] w fun e w' => ∃ v, e = .returned v ∧ R v w' :=
  fn_sound (by kernel_rfl) Try.func57 (by kernel_rfl) V.queue_Queue_find_1_ok (enters_all V.queue_Queue_find_1_cs) (by kernel_rfl) ((V.queue_Queue_find_1_eq s1 n2 n3 n4 n5 n6 n7 t8 f9 w R).mp h)

def V.slices_IndexFunc_queue_Message_queue_Message (A1 : Option Addr) (N1 : Nat) (C1 : Nat) (g1 : Nat) (cap1 : List Value) (w : World) (R : Value → World → Prop) : Prop :=
  ∃ (I2 : Int → World → Prop) (μ3 : Int → World → Nat),
  I2 (0 : Int) w ∧
  ∀ n6 : Int, ∀ (jk5 : Env) (w4 : World), I2 n6 w4 →
  ifb (decide (n6 < ((N1 : Nat) : Int)))
  (0 ≤ n6 ∧ n6 < ((N1 : Nat) : Int) ∧ ∃ b7 o8 : Nat, (A1 : Option Addr) = some ⟨b7, o8, none⟩ ∧
  ∃ s9 : ByteArray, ∃ n10 : Int, ∃ n11 : Int, ∃ n12 : Int, ∃ n13 : Int, ∃ n14 : Int, ∃ n15 : Int, ∃ t16 : Bool, Cells w4 ⟨b7, o8 + n6.toNat * 8, none⟩ [.string s9, .int .i64 n10, .int .i64 n11, .int .i64 n12, .int .i64 n13, .int .i64 n14, .int .i64 n15, .bool t16] ∧
  Enters Try.prog g1 ∧
  Calls Try.prog g1 ((.agg #[.string s9, .int .i64 n10, .int .i64 n11, .int .i64 n12, .int .i64 n13, .int .i64 n14, .int .i64 n15, .bool t16]) :: cap1).toArray w4 fun e w17 => ∃ t18 : Bool, e = .returned (.bool t18) ∧
  ifb t18
  (R (.int .i64 n6) w17)
  (∃ c19 : Int, IntKind.wrap .i64 (n6 + (1 : Int)) = c19 ∧
  I2 c19 w17 ∧ μ3 c19 w17 < μ3 n6 w4))
  (R (.int .i64 (-1)) w4)
def V.slices_IndexFunc_queue_Message_queue_Message_ann : Ann := .s (.no) (.s (.s (.no) (.b (.loop [(8, .one (.i .i64))] (.no)))) (.no))
theorem V.slices_IndexFunc_queue_Message_queue_Message_eq (A1 : Option Addr) (N1 : Nat) (C1 : Nat) (g1 : Nat) (cap1 : List Value) (w : World) (R : Value → World → Prop) : V.slices_IndexFunc_queue_Message_queue_Message A1 N1 C1 g1 cap1 w R = fnW Try.prog [] [.tmp 4] (bodyOf Try.f56) V.slices_IndexFunc_queue_Message_queue_Message_ann [.slice A1 N1 C1, .func (.func g1) #[] cap1.toArray] w R := by kernel_rfl
theorem V.slices_IndexFunc_queue_Message_queue_Message_ok : okC 19 (bodyOf Try.f56) V.slices_IndexFunc_queue_Message_queue_Message_ann = true := by kernel_rfl
theorem V.slices_IndexFunc_queue_Message_queue_Message_cs : (calleesC (bodyOf Try.f56)).all (entersB Try.prog) = true := by kernel_rfl
theorem V.slices_IndexFunc_queue_Message_queue_Message_calls {A1 : Option Addr} {N1 : Nat} {C1 : Nat} {g1 : Nat} {cap1 : List Value}  {w : World} {R : Value → World → Prop} (h : V.slices_IndexFunc_queue_Message_queue_Message A1 N1 C1 g1 cap1 w R) : Calls Try.prog 56 [.slice A1 N1 C1, .func (.func g1) #[] cap1.toArray].toArray w fun e w' => ∃ v, e = .returned v ∧ R v w' :=
  fn_sound (by kernel_rfl) Try.func56 (by kernel_rfl) V.slices_IndexFunc_queue_Message_queue_Message_ok (enters_all V.slices_IndexFunc_queue_Message_queue_Message_cs) (by kernel_rfl) ((V.slices_IndexFunc_queue_Message_queue_Message_eq A1 N1 C1 g1 cap1 w R).mp h)

def V.queue_Queue_Senders_1 (s1 : ByteArray) (n2 : Int) (n3 : Int) (n4 : Int) (n5 : Int) (n6 : Int) (n7 : Int) (t8 : Bool) (w : World) (R : Value → World → Prop) : Prop :=
  ∀ (b9 : Nat) (w10 : World), New w w10 b9 [.string s1, .int .i64 n2, .int .i64 n3, .int .i64 n4, .int .i64 n5, .int .i64 n6, .int .i64 n7, .bool t8] 28 →
  ∃ t11 : Bool, w10.cell? ⟨b9, 7, none⟩ = some (.bool t11) ∧
  R (.bool (!t11)) w10
def V.queue_Queue_Senders_1_ann : Ann := .no
theorem V.queue_Queue_Senders_1_eq (s1 : ByteArray) (n2 : Int) (n3 : Int) (n4 : Int) (n5 : Int) (n6 : Int) (n7 : Int) (t8 : Bool) (w : World) (R : Value → World → Prop) : V.queue_Queue_Senders_1 s1 n2 n3 n4 n5 n6 n7 t8 w R = fnW Try.prog [] [.tmp 2] (bodyOf Try.f38) V.queue_Queue_Senders_1_ann [.agg #[.string s1, .int .i64 n2, .int .i64 n3, .int .i64 n4, .int .i64 n5, .int .i64 n6, .int .i64 n7, .bool t8]] w R := by kernel_rfl
theorem V.queue_Queue_Senders_1_ok : okC 6 (bodyOf Try.f38) V.queue_Queue_Senders_1_ann = true := by kernel_rfl
theorem V.queue_Queue_Senders_1_cs : (calleesC (bodyOf Try.f38)).all (entersB Try.prog) = true := by kernel_rfl
theorem V.queue_Queue_Senders_1_calls {s1 : ByteArray} {n2 : Int} {n3 : Int} {n4 : Int} {n5 : Int} {n6 : Int} {n7 : Int} {t8 : Bool}  {w : World} {R : Value → World → Prop} (h : V.queue_Queue_Senders_1 s1 n2 n3 n4 n5 n6 n7 t8 w R) : Calls Try.prog 38 #[.agg #[.string s1, .int .i64 n2, .int .i64 n3, .int .i64 n4, .int .i64 n5, .int .i64 n6, .int .i64 n7, .bool t8]] w fun e w' => ∃ v, e = .returned v ∧ R v w' :=
  fn_sound (by kernel_rfl) Try.func38 (by kernel_rfl) V.queue_Queue_Senders_1_ok (enters_all V.queue_Queue_Senders_1_cs) (by kernel_rfl) ((V.queue_Queue_Senders_1_eq s1 n2 n3 n4 n5 n6 n7 t8 w R).mp h)

def V.slices_ContainsFunc_queue_Message_queue_Message (A1 : Option Addr) (N1 : Nat) (C1 : Nat) (g1 : Nat) (cap1 : List Value) (w : World) (R : Value → World → Prop) : Prop :=
  Calls Try.prog 56 #[.slice A1 N1 C1, .func (.func g1) #[] cap1.toArray] w fun e w2 => ∃ n3 : Int, e = .returned (.int .i64 n3) ∧
  R (.bool (decide (n3 ≥ (0 : Int)))) w2
def V.slices_ContainsFunc_queue_Message_queue_Message_ann : Ann := .no
theorem V.slices_ContainsFunc_queue_Message_queue_Message_eq (A1 : Option Addr) (N1 : Nat) (C1 : Nat) (g1 : Nat) (cap1 : List Value) (w : World) (R : Value → World → Prop) : V.slices_ContainsFunc_queue_Message_queue_Message A1 N1 C1 g1 cap1 w R = fnW Try.prog [] [.tmp 4] (bodyOf Try.f37) V.slices_ContainsFunc_queue_Message_queue_Message_ann [.slice A1 N1 C1, .func (.func g1) #[] cap1.toArray] w R := by kernel_rfl
theorem V.slices_ContainsFunc_queue_Message_queue_Message_ok : okC 9 (bodyOf Try.f37) V.slices_ContainsFunc_queue_Message_queue_Message_ann = true := by kernel_rfl
theorem V.slices_ContainsFunc_queue_Message_queue_Message_cs : (calleesC (bodyOf Try.f37)).all (entersB Try.prog) = true := by kernel_rfl
theorem V.slices_ContainsFunc_queue_Message_queue_Message_calls {A1 : Option Addr} {N1 : Nat} {C1 : Nat} {g1 : Nat} {cap1 : List Value}  {w : World} {R : Value → World → Prop} (h : V.slices_ContainsFunc_queue_Message_queue_Message A1 N1 C1 g1 cap1 w R) : Calls Try.prog 37 [.slice A1 N1 C1, .func (.func g1) #[] cap1.toArray].toArray w fun e w' => ∃ v, e = .returned v ∧ R v w' :=
  fn_sound (by kernel_rfl) Try.func37 (by kernel_rfl) V.slices_ContainsFunc_queue_Message_queue_Message_ok (enters_all V.slices_ContainsFunc_queue_Message_queue_Message_cs) (by kernel_rfl) ((V.slices_ContainsFunc_queue_Message_queue_Message_eq A1 N1 C1 g1 cap1 w R).mp h)

def V.queue_Queue_Left (p1 : Option Addr) (w : World) (R : Value → World → Prop) : Prop :=
  Calls Try.prog 32 #[.pointer p1] w fun e w2 => ∃ t3 : Bool, e = .returned (.bool t3) ∧
  ifb t3
  (R (.slice none 0 0) w2)
  (nilC p1 fun b4 o4 =>
  ∃ m5 : Option Nat, w2.cell? ⟨b4, o4, none⟩ = some (.map m5) ∧
  optC m5 False fun r10 =>
  ∃ es6 : List MapEntry, MapAt Try.prog 74 w2 r10 es6 ∧ ∀ (b9 : Nat) (w7 : World), NewI Try.prog 74 w2 w7 b9 r10 es6 →
  ∃ (I11 : Option Addr → Nat → Nat → World → Prop) (μ12 : Option Addr → Nat → Nat → World → Nat),
  I11 none 0 0 w7 ∧
  ∀ A15 : Option Addr, ∀ N15 : Nat, ∀ C15 : Nat, ∀ (jk14 : Env) (w13 : World), I11 A15 N15 C15 w13 →
  ∃ J16 : Bool → World → Prop,
  (∃ (k19 : TypeId) (r20 : Nat) (es21 left22 : List MapEntry) (cur23 : Option MapEntry), IterAt Try.prog k19 w13 b9 r20 es21 left22 cur23 ∧ (left22 = [] →
  J16 false w13) ∧
  ∀ (pre24 : List MapEntry) (x25 : MapEntry) (post26 : List MapEntry) (w27 : World), left22 = pre24 ++ x25 :: post26 → IterAt Try.prog k19 w27 b9 r20 es21 (pre24 ++ post26) (some x25) → Wrote w13 w27 b9 →
  J16 true w27) ∧
  ∀ t28 : Bool, ∀ (jk18 : Env) (w17 : World), J16 t28 w17 →
  ifb t28
  (∃ (k29 : TypeId) (r30 : Nat) (es31 left32 : List MapEntry) (x33 : MapEntry), IterAt Try.prog k29 w17 b9 r30 es31 left32 (some x33) ∧ ∃ s34 : ByteArray, ∃ n35 : Int, ∃ n36 : Int, x33.key = .agg #[.string s34, .int .i64 n35, .int .i64 n36] ∧ ∃ A37 : Option Addr, ∃ N37 : Nat, ∃ C37 : Nat, x33.val = .slice A37 N37 C37 ∧
  ∃ (I38 : Option Addr → Nat → Nat → Int → World → Prop) (μ39 : Option Addr → Nat → Nat → Int → World → Nat),
  I38 A15 N15 C15 (0 : Int) w17 ∧
  ∀ A42 : Option Addr, ∀ N42 : Nat, ∀ C42 : Nat, ∀ n43 : Int, ∀ (jk41 : Env) (w40 : World), I38 A42 N42 C42 n43 w40 →
  ifb (decide (n43 < ((N37 : Nat) : Int)))
  (0 ≤ n43 ∧ n43 < ((N37 : Nat) : Int) ∧ ∃ b44 o45 : Nat, (A37 : Option Addr) = some ⟨b44, o45, none⟩ ∧
  ∃ s46 : ByteArray, ∃ n47 : Int, ∃ n48 : Int, ∃ n49 : Int, ∃ n50 : Int, ∃ n51 : Int, ∃ n52 : Int, ∃ t53 : Bool, Cells w40 ⟨b44, o45 + n43.toNat * 8, none⟩ [.string s46, .int .i64 n47, .int .i64 n48, .int .i64 n49, .int .i64 n50, .int .i64 n51, .int .i64 n52, .bool t53] ∧
  ∀ (b54 : Nat) (w55 : World), New w40 w55 b54 [.string emptyS, .int .i64 0, .int .i64 0, .int .i64 0, .int .i64 0, .int .i64 0, .int .i64 0, .bool false] 28 →
  ∃ (l56 : List Value) (e57 : TypeId), Blk w55 b54 l56 e57 ∧ 0 + 8 ≤ l56.length ∧ ∀ w58 : World, Upd w55 w58 b54 (setSeg l56 0 [.string s46, .int .i64 n47, .int .i64 n48, .int .i64 n49, .int .i64 n50, .int .i64 n51, .int .i64 n52, .bool t53]) e57 →
  ∃ t59 : Bool, w58.cell? ⟨b54, 7, none⟩ = some (.bool t59) ∧
  ifb (!t59)
  (∃ s60 : ByteArray, ∃ n61 : Int, ∃ n62 : Int, ∃ n63 : Int, ∃ n64 : Int, ∃ n65 : Int, ∃ n66 : Int, ∃ t67 : Bool, Cells w58 ⟨b54, 0, none⟩ [.string s60, .int .i64 n61, .int .i64 n62, .int .i64 n63, .int .i64 n64, .int .i64 n65, .int .i64 n66, .bool t67] ∧
  ∀ (b68 : Nat) (w69 : World), New w58 w69 b68 [.string s60, .int .i64 n61, .int .i64 n62, .int .i64 n63, .int .i64 n64, .int .i64 n65, .int .i64 n66, .bool t67] 28 →
  ∃ xs70 news71 : List Value, w69.ownsRow 0 28 8 (.slice A42 N42 C42) N42 xs70 ∧ Reads w69 (some ⟨b68, 0, none⟩) 1 8 news71 ∧ N42 + 1 ≤ maxLen ∧ (N42 + 1) * 72 ≤ 140737488355328 ∧
  ∀ (A73 : Option Addr) (C73 : Nat) (w72 : World), w72.ownsRow 0 28 8 (.slice A73 (N42 + 1) C73) (N42 + 1) (xs70 ++ news71) → App w69 w72 A42 A73 →
  ∃ c74 : Int, IntKind.wrap .i64 (n43 + (1 : Int)) = c74 ∧
  I38 A73 (N42 + 1) C73 c74 w72 ∧ μ39 A73 (N42 + 1) C73 c74 w72 < μ39 A42 N42 C42 n43 w40)
  (∃ c75 : Int, IntKind.wrap .i64 (n43 + (1 : Int)) = c75 ∧
  I38 A42 N42 C42 c75 w58 ∧ μ39 A42 N42 C42 c75 w58 < μ39 A42 N42 C42 n43 w40))
  (I11 A42 N42 C42 w40 ∧ μ12 A42 N42 C42 w40 < μ12 A15 N15 C15 w13))
  (Calls Try.prog 35 #[.slice A15 N15 C15, .func (.func 36) #[] #[]] w17 fun e w76 => e = .returned (.tuple #[]) ∧
  R (.slice A15 N15 C15) w76))
def V.queue_Queue_Left_ann : Ann := .s (.no) (.s (.no) (.s (.no) (.s (.s (.no) (.b (.loop [(3, .one .sl)] (.s (.jn [(16, .one .b)] (.no)) (.s (.no) (.b (.s (.no) (.s (.no) (.b (.loop [(3, .one .sl), (21, .one (.i .i64))] (.no))))))))))) (.no))))
theorem V.queue_Queue_Left_eq (p1 : Option Addr) (w : World) (R : Value → World → Prop) : V.queue_Queue_Left p1 w R = fnW Try.prog [(17, .agg [.s, (.i .i64), (.i .i64)], .one .sl)] [.tmp 2] (bodyOf Try.f14) V.queue_Queue_Left_ann [.pointer p1] w R := by kernel_rfl
theorem V.queue_Queue_Left_ok : okC 36 (bodyOf Try.f14) V.queue_Queue_Left_ann = true := by kernel_rfl
theorem V.queue_Queue_Left_cs : (calleesC (bodyOf Try.f14)).all (entersB Try.prog) = true := by kernel_rfl
theorem V.queue_Queue_Left_calls {p1 : Option Addr}  {w : World} {R : Value → World → Prop} (h : V.queue_Queue_Left p1 w R) : Calls Try.prog 14 #[.pointer p1] w fun e w' => ∃ v, e = .returned v ∧ R v w' :=
  fn_sound (by kernel_rfl) Try.func14 (by kernel_rfl) V.queue_Queue_Left_ok (enters_all V.queue_Queue_Left_cs) (by kernel_rfl) ((V.queue_Queue_Left_eq p1 w R).mp h)

def V.queue_order (s1 : ByteArray) (n2 : Int) (n3 : Int) (n4 : Int) (n5 : Int) (n6 : Int) (n7 : Int) (t8 : Bool) (s9 : ByteArray) (n10 : Int) (n11 : Int) (n12 : Int) (n13 : Int) (n14 : Int) (n15 : Int) (t16 : Bool) (w : World) (R : Value → World → Prop) : Prop :=
  ∀ (b17 : Nat) (w18 : World), New w w18 b17 [.string s1, .int .i64 n2, .int .i64 n3, .int .i64 n4, .int .i64 n5, .int .i64 n6, .int .i64 n7, .bool t8] 28 →
  ∀ (b19 : Nat) (w20 : World), New w18 w20 b19 [.string s9, .int .i64 n10, .int .i64 n11, .int .i64 n12, .int .i64 n13, .int .i64 n14, .int .i64 n15, .bool t16] 28 →
  ∃ s21 : ByteArray, w20.drew.cell? ⟨b17, 0, none⟩ = some (.string s21) ∧
  ∃ s22 : ByteArray, w20.drew.cell? ⟨b19, 0, none⟩ = some (.string s22) ∧
  ∃ n23 : Int, w20.drew.cell? ⟨b17, 1, none⟩ = some (.int .i64 n23) ∧
  ∃ n24 : Int, w20.drew.cell? ⟨b19, 1, none⟩ = some (.int .i64 n24) ∧
  ∃ n25 : Int, w20.drew.cell? ⟨b17, 2, none⟩ = some (.int .i64 n25) ∧
  ∃ n26 : Int, w20.drew.cell? ⟨b19, 2, none⟩ = some (.int .i64 n26) ∧
  Calls Try.prog 60 #[.string s21, .string s22] w20.drew fun e w27 => ∃ n28 : Int, e = .returned (.int .i64 n28) ∧
  (w27.cell? ⟨b19, 2, none⟩ = some (.int .i64 n26)) ∧ (w27.cell? ⟨b17, 2, none⟩ = some (.int .i64 n25)) ∧ (w27.cell? ⟨b19, 1, none⟩ = some (.int .i64 n24)) ∧ (w27.cell? ⟨b17, 1, none⟩ = some (.int .i64 n23)) ∧ Calls Try.prog 61 #[.int .i64 n23, .int .i64 n24] w27 fun e w29 => ∃ n30 : Int, e = .returned (.int .i64 n30) ∧
  (w29.cell? ⟨b19, 2, none⟩ = some (.int .i64 n26)) ∧ (w29.cell? ⟨b17, 2, none⟩ = some (.int .i64 n25)) ∧ Calls Try.prog 61 #[.int .i64 n25, .int .i64 n26] w29 fun e w31 => ∃ n32 : Int, e = .returned (.int .i64 n32) ∧
  ∀ (b33 : Nat) (w34 : World), New w31 w34 b33 [.int .i64 n28, .int .i64 n30, .int .i64 n32] 3 →
  Calls Try.prog 59 #[.slice (some ⟨b33, 0, none⟩) 3 3] w34 fun e w35 => ∃ n36 : Int, e = .returned (.int .i64 n36) ∧
  R (.int .i64 n36) w35
def V.queue_order_ann : Ann := .s (.no) (.s (.draw (.r 0 (.r 1 (.r 2 (.r 3 (.r 5 (.r 6 (.r 7 (.r 8 (.r 10 (.r 11 (.r 12 (.r 13 (.e 4 [1, 3] (.e 9 [1, 3, 6, 8] (.e 14 [1, 3, 6, 8, 11, 13] (.e 15 [1, 3, 6, 8, 11, 13] (.e 16 [1, 3, 6, 8, 11, 13] (.e 17 [1, 3, 6, 8, 11, 13] (.done))))))))))))))))))) [(4, 1), (4, 3), (9, 1), (9, 3), (9, 6), (9, 8), (14, 1), (14, 3), (14, 6), (14, 8), (14, 11), (14, 13), (15, 1), (15, 3), (15, 6), (15, 8), (15, 11), (15, 13), (16, 1), (16, 3), (16, 6), (16, 8), (16, 11), (16, 13), (17, 1), (17, 3), (17, 6), (17, 8), (17, 11), (17, 13)]) (.no))
theorem V.queue_order_eq (s1 : ByteArray) (n2 : Int) (n3 : Int) (n4 : Int) (n5 : Int) (n6 : Int) (n7 : Int) (t8 : Bool) (s9 : ByteArray) (n10 : Int) (n11 : Int) (n12 : Int) (n13 : Int) (n14 : Int) (n15 : Int) (t16 : Bool) (w : World) (R : Value → World → Prop) : V.queue_order s1 n2 n3 n4 n5 n6 n7 t8 s9 n10 n11 n12 n13 n14 n15 t16 w R = fnW Try.prog [] [.tmp 4] (bodyOf Try.f36) V.queue_order_ann [.agg #[.string s1, .int .i64 n2, .int .i64 n3, .int .i64 n4, .int .i64 n5, .int .i64 n6, .int .i64 n7, .bool t8], .agg #[.string s9, .int .i64 n10, .int .i64 n11, .int .i64 n12, .int .i64 n13, .int .i64 n14, .int .i64 n15, .bool t16]] w R := by kernel_rfl
theorem V.queue_order_ok : okC 22 (bodyOf Try.f36) V.queue_order_ann = true := by kernel_rfl
theorem V.queue_order_cs : (calleesC (bodyOf Try.f36)).all (entersB Try.prog) = true := by kernel_rfl
theorem V.queue_order_calls {s1 : ByteArray} {n2 : Int} {n3 : Int} {n4 : Int} {n5 : Int} {n6 : Int} {n7 : Int} {t8 : Bool} {s9 : ByteArray} {n10 : Int} {n11 : Int} {n12 : Int} {n13 : Int} {n14 : Int} {n15 : Int} {t16 : Bool}  {w : World} {R : Value → World → Prop} (h : V.queue_order s1 n2 n3 n4 n5 n6 n7 t8 s9 n10 n11 n12 n13 n14 n15 t16 w R) : Calls Try.prog 36 #[.agg #[.string s1, .int .i64 n2, .int .i64 n3, .int .i64 n4, .int .i64 n5, .int .i64 n6, .int .i64 n7, .bool t8], .agg #[.string s9, .int .i64 n10, .int .i64 n11, .int .i64 n12, .int .i64 n13, .int .i64 n14, .int .i64 n15, .bool t16]] w fun e w' => ∃ v, e = .returned v ∧ R v w' :=
  fn_sound (by kernel_rfl) Try.func36 (by kernel_rfl) V.queue_order_ok (enters_all V.queue_order_cs) (by kernel_rfl) ((V.queue_order_eq s1 n2 n3 n4 n5 n6 n7 t8 s9 n10 n11 n12 n13 n14 n15 t16 w R).mp h)

def V.queue_Queue_Copy (p1 : Option Addr) (w : World) (R : Value → World → Prop) : Prop :=
  ifb p1.isNone
  (R (.pointer none) w)
  (Calls Try.prog 32 #[.pointer p1] w fun e w2 => ∃ t3 : Bool, e = .returned (.bool t3) ∧
  ifb t3
  (∀ (b4 : Nat) (w5 : World), New w2 w5 b4 [.map none, .map none] 72 →
  R (.pointer (some ⟨b4, 0, none⟩)) w5)
  (Calls Try.prog 8 #[] w2 fun e w6 => ∃ p7 : Option Addr, e = .returned (.pointer p7) ∧
  nilC p1 fun b8 o8 =>
  ∃ m9 : Option Nat, w6.cell? ⟨b8, o8, none⟩ = some (.map m9) ∧
  optC m9 False fun r14 =>
  ∃ es10 : List MapEntry, MapAt Try.prog 74 w6 r14 es10 ∧ ∀ (b13 : Nat) (w11 : World), NewI Try.prog 74 w6 w11 b13 r14 es10 →
  ∃ (I15 : World → Prop) (μ16 : World → Nat),
  I15 w11 ∧
  ∀ (jk18 : Env) (w17 : World), I15 w17 →
  ∃ (k19 : TypeId) (r20 : Nat) (es21 left22 : List MapEntry) (cur23 : Option MapEntry), IterAt Try.prog k19 w17 b13 r20 es21 left22 cur23 ∧ (left22 = [] →
  nilC p1 fun b28 o28 =>
  ∃ m29 : Option Nat, w17.cell? ⟨b28, o28 + 1, none⟩ = some (.map m29) ∧
  optC m29 False fun r34 =>
  ∃ es30 : List MapEntry, MapAt Try.prog 77 w17 r34 es30 ∧ ∀ (b33 : Nat) (w31 : World), NewI Try.prog 77 w17 w31 b33 r34 es30 →
  ∃ (I35 : World → Prop) (μ36 : World → Nat),
  I35 w31 ∧
  ∀ (jk38 : Env) (w37 : World), I35 w37 →
  ∃ (k39 : TypeId) (r40 : Nat) (es41 left42 : List MapEntry) (cur43 : Option MapEntry), IterAt Try.prog k39 w37 b33 r40 es41 left42 cur43 ∧ (left42 = [] →
  R (.pointer p7) w37) ∧
  ∀ (pre44 : List MapEntry) (x45 : MapEntry) (post46 : List MapEntry) (w47 : World), left42 = pre44 ++ x45 :: post46 → IterAt Try.prog k39 w47 b33 r40 es41 (pre44 ++ post46) (some x45) → Wrote w37 w47 b33 →
  ∃ (k48 : TypeId) (r49 : Nat) (es50 left51 : List MapEntry) (x52 : MapEntry), IterAt Try.prog k48 w47 b33 r49 es50 left51 (some x52) ∧ ∃ n53 : Int, ∃ n54 : Int, x52.key = .agg #[.int .i64 n53, .int .i64 n54] ∧ ∃ s55 : ByteArray, ∃ n56 : Int, ∃ n57 : Int, x52.val = .agg #[.string s55, .int .i64 n56, .int .i64 n57] ∧
  ∀ (b58 : Nat) (w59 : World), New w47 w59 b58 [.int .i64 0, .int .i64 0] 77 →
  ∀ (b60 : Nat) (w61 : World), New w59 w61 b60 [.string emptyS, .int .i64 0, .int .i64 0] 74 →
  ∃ (l62 : List Value) (e63 : TypeId), Blk w61 b58 l62 e63 ∧ 0 + 2 ≤ l62.length ∧ ∀ w64 : World, Upd w61 w64 b58 (setSeg l62 0 [.int .i64 n53, .int .i64 n54]) e63 →
  ∃ (l65 : List Value) (e66 : TypeId), Blk w64 b60 l65 e66 ∧ 0 + 3 ≤ l65.length ∧ ∀ w67 : World, Upd w64 w67 b60 (setSeg l65 0 [.string s55, .int .i64 n56, .int .i64 n57]) e66 →
  nilC p7 fun b68 o68 =>
  ∃ m69 : Option Nat, w67.drew.cell? ⟨b68, o68 + 1, none⟩ = some (.map m69) ∧
  ∃ n70 : Int, ∃ n71 : Int, Cells w67.drew ⟨b58, 0, none⟩ [.int .i64 n70, .int .i64 n71] ∧
  ∃ s72 : ByteArray, ∃ n73 : Int, ∃ n74 : Int, Cells w67.drew ⟨b60, 0, none⟩ [.string s72, .int .i64 n73, .int .i64 n74] ∧
  Go.Maps.Keyed Try.prog 77 ∧ (∃ l, keyOf Try.prog 77 (.agg #[.int .i64 n70, .int .i64 n71]) = some l) ∧
  optC m69 False fun r78 =>
  ∃ es75 : List MapEntry, MapAt Try.prog 77 w67.drew r78 es75 ∧ ∀ (w76 : World) (es77 : List MapEntry), MPut es75 (.agg #[.int .i64 n70, .int .i64 n71]) (.agg #[.string s72, .int .i64 n73, .int .i64 n74]) es77 → MapAt Try.prog 77 w76 r78 es77 → Wrote w67.drew w76 r78 →
  I35 w76 ∧ μ36 w76 < μ36 w37) ∧
  ∀ (pre24 : List MapEntry) (x25 : MapEntry) (post26 : List MapEntry) (w27 : World), left22 = pre24 ++ x25 :: post26 → IterAt Try.prog k19 w27 b13 r20 es21 (pre24 ++ post26) (some x25) → Wrote w17 w27 b13 →
  ∃ (k79 : TypeId) (r80 : Nat) (es81 left82 : List MapEntry) (x83 : MapEntry), IterAt Try.prog k79 w27 b13 r80 es81 left82 (some x83) ∧ ∃ s84 : ByteArray, ∃ n85 : Int, ∃ n86 : Int, x83.key = .agg #[.string s84, .int .i64 n85, .int .i64 n86] ∧ ∃ A87 : Option Addr, ∃ N87 : Nat, ∃ C87 : Nat, x83.val = .slice A87 N87 C87 ∧
  ∀ (b88 : Nat) (w89 : World), New w27 w89 b88 [.string emptyS, .int .i64 0, .int .i64 0] 74 →
  ∃ (l90 : List Value) (e91 : TypeId), Blk w89 b88 l90 e91 ∧ 0 + 3 ≤ l90.length ∧ ∀ w92 : World, Upd w89 w92 b88 (setSeg l90 0 [.string s84, .int .i64 n85, .int .i64 n86]) e91 →
  nilC p7 fun b93 o93 =>
  ∃ m94 : Option Nat, w92.drew.cell? ⟨b93, o93, none⟩ = some (.map m94) ∧
  ∃ s95 : ByteArray, ∃ n96 : Int, ∃ n97 : Int, Cells w92.drew ⟨b88, 0, none⟩ [.string s95, .int .i64 n96, .int .i64 n97] ∧
  Calls Try.prog 70 #[.slice A87 N87 C87] w92.drew fun e w98 => ∃ A99 : Option Addr, ∃ N99 : Nat, ∃ C99 : Nat, e = .returned (.slice A99 N99 C99) ∧
  (Cells w98 ⟨b88, 0, none⟩ [.string s95, .int .i64 n96, .int .i64 n97]) ∧ (w98.cell? ⟨b93, o93, none⟩ = some (.map m94)) ∧ Go.Maps.Keyed Try.prog 74 ∧ (∃ l, keyOf Try.prog 74 (.agg #[.string s95, .int .i64 n96, .int .i64 n97]) = some l) ∧
  optC m94 False fun r103 =>
  ∃ es100 : List MapEntry, MapAt Try.prog 74 w98 r103 es100 ∧ ∀ (w101 : World) (es102 : List MapEntry), MPut es100 (.agg #[.string s95, .int .i64 n96, .int .i64 n97]) (.slice A99 N99 C99) es102 → MapAt Try.prog 74 w101 r103 es102 → Wrote w98 w101 r103 →
  I15 w101 ∧ μ16 w101 < μ16 w17))
def V.queue_Queue_Copy_ann : Ann := .s (.no) (.s (.no) (.s (.no) (.s (.no) (.s (.s (.no) (.b (.loop [] (.s (.no) (.s (.no) (.b (.s (.no) (.draw (.r 0 (.r 1 (.r 2 (.r 3 (.r 4 (.r 5 (.e 6 [] (.e 7 [3, 4] (.done))))))))) [(7, 3), (7, 4)])))))))) (.s (.s (.no) (.b (.loop [] (.s (.no) (.s (.no) (.b (.s (.no) (.draw (.r 0 (.r 1 (.r 2 (.r 3 (.r 4 (.r 5 (.e 6 [3, 4, 5] (.done)))))))) [(6, 3), (6, 4), (6, 5)])))))))) (.no))))))
theorem V.queue_Queue_Copy_eq (p1 : Option Addr) (w : World) (R : Value → World → Prop) : V.queue_Queue_Copy p1 w R = fnW Try.prog [(22, .agg [.s, (.i .i64), (.i .i64)], .one .sl), (39, .agg [(.i .i64), (.i .i64)], .agg [.s, (.i .i64), (.i .i64)])] [.tmp 2] (bodyOf Try.f46) V.queue_Queue_Copy_ann [.pointer p1] w R := by kernel_rfl
theorem V.queue_Queue_Copy_ok : okC 49 (bodyOf Try.f46) V.queue_Queue_Copy_ann = true := by kernel_rfl
theorem V.queue_Queue_Copy_cs : (calleesC (bodyOf Try.f46)).all (entersB Try.prog) = true := by kernel_rfl
theorem V.queue_Queue_Copy_calls {p1 : Option Addr}  {w : World} {R : Value → World → Prop} (h : V.queue_Queue_Copy p1 w R) : Calls Try.prog 46 #[.pointer p1] w fun e w' => ∃ v, e = .returned v ∧ R v w' :=
  fn_sound (by kernel_rfl) Try.func46 (by kernel_rfl) V.queue_Queue_Copy_ok (enters_all V.queue_Queue_Copy_cs) (by kernel_rfl) ((V.queue_Queue_Copy_eq p1 w R).mp h)

end Go.Proofs.Ytdaojmkbjkaakaa
