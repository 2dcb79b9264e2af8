/- PRINTED by this session's own vc.py: verification conditions of functions, and that they are enough. Conditions: none. -/
import Derived.Test.YtdaojmkbjkaakaaGc
import Derived.Test.YtdaojmkbjkaakaaProg
set_option linter.unusedVariables false
set_option maxRecDepth 100000
namespace Go.Proofs.Ytdaojmkbjkaakaa
open Go.Vc

def V.dispatcherlaw13_QueueOrder (A1 : Option Addr) (N1 : Nat) (C1 : Nat) (n2 : Int) (n3 : Int) (t4 : Bool) (n5 : Int) (w : World) (R : Value → World → Prop) : Prop :=
  Calls Try.prog 7 #[] w fun e w6 => ∃ t7 : Bool, e = .returned (.bool t7) ∧
  ifb (!t7)
  (R (.bool false) w6)
  (ifb (decide (((N1 : Nat) : Int) > (60 : Int)))
  (R (.bool true) w6)
  (ifb (decide (n5 < (-1 : Int)))
  (R (.bool true) w6)
  (ifb (decide (n5 > (3 : Int)))
  (R (.bool true) w6)
  (∃ c8 : Int, IntKind.wrap .i64 (Int.tmod n2 (64 : Int)) = c8 ∧
  ∃ c9 : Int, IntKind.wrap .i64 (Int.tmod n3 (64 : Int)) = c9 ∧
  Calls Try.prog 8 #[] w6 fun e w10 => ∃ p11 : Option Addr, e = .returned (.pointer p11) ∧
  ∃ (I12 : Option Addr → Nat → Nat → Int → World → Prop) (μ13 : Option Addr → Nat → Nat → Int → World → Nat),
  I12 none 0 0 (0 : Int) w10 ∧
  ∀ A16 : Option Addr, ∀ N16 : Nat, ∀ C16 : Nat, ∀ n17 : Int, ∀ (jk15 : Env) (w14 : World), I12 A16 N16 C16 n17 w14 →
  ifb (decide (n17 < ((N1 : Nat) : Int)))
  (∃ c18 : Int, IntKind.wrap .i64 ((2 : Int) * n17) = c18 ∧
  0 ≤ n17 ∧ n17 < ((N1 : Nat) : Int) ∧ ∃ b19 o20 : Nat, (A1 : Option Addr) = some ⟨b19, o20, none⟩ ∧
  ∃ n21 : Int, w14.cell? ⟨b19, o20 + n17.toNat * 1, none⟩ = some (.int .u8 n21) ∧
  ∃ c22 : Int, IntKind.wrap .i64 (Int.tmod n21 (4 : Int)) = c22 ∧
  ∀ (b23 : Nat) (w24 : World), New w14 w24 b23 [.string emptyS, .int .i64 0, .int .i64 0, .int .i64 0, .int .i64 0, .int .i64 0, .int .i64 0, .bool false] 28 →
  ∃ (l25 : List Value) (e26 : TypeId), Blk w24 b23 l25 e26 ∧ 0 + 8 ≤ l25.length ∧ ∀ w27 : World, Upd w24 w27 b23 (setSeg l25 0 [.string ⟨#[107]⟩, .int .i64 c8, .int .i64 c9, .int .i64 c18, .int .i64 c22, .int .i64 0, .int .i64 1, .bool false]) e26 →
  ∃ s28 : ByteArray, ∃ n29 : Int, ∃ n30 : Int, ∃ n31 : Int, ∃ n32 : Int, ∃ n33 : Int, ∃ n34 : Int, ∃ t35 : Bool, Cells w27 ⟨b23, 0, none⟩ [.string s28, .int .i64 n29, .int .i64 n30, .int .i64 n31, .int .i64 n32, .int .i64 n33, .int .i64 n34, .bool t35] ∧
  Calls Try.prog 9 #[.pointer p11, .agg #[.string s28, .int .i64 n29, .int .i64 n30, .int .i64 n31, .int .i64 n32, .int .i64 n33, .int .i64 n34, .bool t35]] w27 fun e w36 => ∃ n37 : Int, e = .returned (.int .i64 n37) ∧
  ifb (n37 != (0 : Int))
  (R (.bool false) w36)
  (ifb (n5 == (-1 : Int))
  (∃ c38 : Int, IntKind.wrap .i64 ((2 : Int) * n17) = c38 ∧
  ∀ (b39 : Nat) (w40 : World), New w36 w40 b39 [.int .i64 c38] 3 →
  ∃ xs41 news42 : List Value, w40.ownsRow 0 3 1 (.slice A16 N16 C16) N16 xs41 ∧ Reads w40 (some ⟨b39, 0, none⟩) 1 1 news42 ∧ N16 + 1 ≤ maxLen ∧ (N16 + 1) * 8 ≤ 140737488355328 ∧
  ∀ (A44 : Option Addr) (C44 : Nat) (w43 : World), w43.ownsRow 0 3 1 (.slice A44 (N16 + 1) C44) (N16 + 1) (xs41 ++ news42) → App w40 w43 A16 A44 →
  ifb t4
  (∃ c45 : Int, IntKind.wrap .i64 ((2 : Int) * n17) = c45 ∧
  ∃ c46 : Int, IntKind.wrap .i64 (c45 + (1 : Int)) = c46 ∧
  ∃ n47 : Int, w43.cell? ⟨b23, 4, none⟩ = some (.int .i64 n47) ∧
  Calls Try.prog 9 #[.pointer p11, .agg #[.string ⟨#[108]⟩, .int .i64 c8, .int .i64 c9, .int .i64 c46, .int .i64 n47, .int .i64 0, .int .i64 1, .bool false]] w43 fun e w48 => ∃ n49 : Int, e = .returned (.int .i64 n49) ∧
  ∃ c50 : Int, IntKind.wrap .i64 (n17 + (1 : Int)) = c50 ∧
  I12 A44 (N16 + 1) C44 c50 w48 ∧ μ13 A44 (N16 + 1) C44 c50 w48 < μ13 A16 N16 C16 n17 w14)
  (∃ c51 : Int, IntKind.wrap .i64 (n17 + (1 : Int)) = c51 ∧
  I12 A44 (N16 + 1) C44 c51 w43 ∧ μ13 A44 (N16 + 1) C44 c51 w43 < μ13 A16 N16 C16 n17 w14))
  (∃ n52 : Int, w36.cell? ⟨b23, 4, none⟩ = some (.int .i64 n52) ∧
  ifb (n5 == n52)
  (∃ c53 : Int, IntKind.wrap .i64 ((2 : Int) * n17) = c53 ∧
  ∀ (b54 : Nat) (w55 : World), New w36 w55 b54 [.int .i64 c53] 3 →
  ∃ xs56 news57 : List Value, w55.ownsRow 0 3 1 (.slice A16 N16 C16) N16 xs56 ∧ Reads w55 (some ⟨b54, 0, none⟩) 1 1 news57 ∧ N16 + 1 ≤ maxLen ∧ (N16 + 1) * 8 ≤ 140737488355328 ∧
  ∀ (A59 : Option Addr) (C59 : Nat) (w58 : World), w58.ownsRow 0 3 1 (.slice A59 (N16 + 1) C59) (N16 + 1) (xs56 ++ news57) → App w55 w58 A16 A59 →
  ifb t4
  (∃ c60 : Int, IntKind.wrap .i64 ((2 : Int) * n17) = c60 ∧
  ∃ c61 : Int, IntKind.wrap .i64 (c60 + (1 : Int)) = c61 ∧
  ∃ n62 : Int, w58.cell? ⟨b23, 4, none⟩ = some (.int .i64 n62) ∧
  Calls Try.prog 9 #[.pointer p11, .agg #[.string ⟨#[108]⟩, .int .i64 c8, .int .i64 c9, .int .i64 c61, .int .i64 n62, .int .i64 0, .int .i64 1, .bool false]] w58 fun e w63 => ∃ n64 : Int, e = .returned (.int .i64 n64) ∧
  ∃ c65 : Int, IntKind.wrap .i64 (n17 + (1 : Int)) = c65 ∧
  I12 A59 (N16 + 1) C59 c65 w63 ∧ μ13 A59 (N16 + 1) C59 c65 w63 < μ13 A16 N16 C16 n17 w14)
  (∃ c66 : Int, IntKind.wrap .i64 (n17 + (1 : Int)) = c66 ∧
  I12 A59 (N16 + 1) C59 c66 w58 ∧ μ13 A59 (N16 + 1) C59 c66 w58 < μ13 A16 N16 C16 n17 w14))
  (ifb t4
  (∃ c67 : Int, IntKind.wrap .i64 ((2 : Int) * n17) = c67 ∧
  ∃ c68 : Int, IntKind.wrap .i64 (c67 + (1 : Int)) = c68 ∧
  ∃ n69 : Int, w36.cell? ⟨b23, 4, none⟩ = some (.int .i64 n69) ∧
  Calls Try.prog 9 #[.pointer p11, .agg #[.string ⟨#[108]⟩, .int .i64 c8, .int .i64 c9, .int .i64 c68, .int .i64 n69, .int .i64 0, .int .i64 1, .bool false]] w36 fun e w70 => ∃ n71 : Int, e = .returned (.int .i64 n71) ∧
  ∃ c72 : Int, IntKind.wrap .i64 (n17 + (1 : Int)) = c72 ∧
  I12 A16 N16 C16 c72 w70 ∧ μ13 A16 N16 C16 c72 w70 < μ13 A16 N16 C16 n17 w14)
  (∃ c73 : Int, IntKind.wrap .i64 (n17 + (1 : Int)) = c73 ∧
  I12 A16 N16 C16 c73 w36 ∧ μ13 A16 N16 C16 c73 w36 < μ13 A16 N16 C16 n17 w14)))))
  (∃ (I74 : Int → World → Prop) (μ75 : Int → World → Nat),
  I74 (0 : Int) w14 ∧
  ∀ n78 : Int, ∀ (jk77 : Env) (w76 : World), I74 n78 w76 →
  ifb (decide (n78 < ((N16 : Nat) : Int)))
  (Calls Try.prog 10 #[.pointer p11, .string ⟨#[107]⟩, .int .i64 c8, .int .i64 c9, .int .i64 n5] w76 fun e w79 => ∃ s80 : ByteArray, ∃ n81 : Int, ∃ n82 : Int, ∃ n83 : Int, ∃ n84 : Int, ∃ n85 : Int, ∃ n86 : Int, ∃ t87 : Bool, ∃ t88 : Bool, e = .returned (.tuple #[.agg #[.string s80, .int .i64 n81, .int .i64 n82, .int .i64 n83, .int .i64 n84, .int .i64 n85, .int .i64 n86, .bool t87], .bool t88]) ∧
  ∀ (b89 : Nat) (w90 : World), New w79 w90 b89 [.string emptyS, .int .i64 0, .int .i64 0, .int .i64 0, .int .i64 0, .int .i64 0, .int .i64 0, .bool false] 28 →
  ∃ (l91 : List Value) (e92 : TypeId), Blk w90 b89 l91 e92 ∧ 0 + 8 ≤ l91.length ∧ ∀ w93 : World, Upd w90 w93 b89 (setSeg l91 0 [.string s80, .int .i64 n81, .int .i64 n82, .int .i64 n83, .int .i64 n84, .int .i64 n85, .int .i64 n86, .bool t87]) e92 →
  ifb (!t88)
  (R (.bool false) w93.drew)
  (∃ n94 : Int, w93.drew.cell? ⟨b89, 3, none⟩ = some (.int .i64 n94) ∧
  0 ≤ n78 ∧ n78 < ((N16 : Nat) : Int) ∧ ∃ b95 o96 : Nat, (A16 : Option Addr) = some ⟨b95, o96, none⟩ ∧
  ∃ n97 : Int, w93.drew.cell? ⟨b95, o96 + n78.toNat * 1, none⟩ = some (.int .i64 n97) ∧
  ifb (n94 != n97)
  (R (.bool false) w93.drew)
  (∃ n98 : Int, w93.drew.cell? ⟨b89, 3, none⟩ = some (.int .i64 n98) ∧
  Calls Try.prog 11 #[.pointer p11, .int .i64 c8, .int .i64 n98] w93.drew fun e w99 => ∃ n100 : Int, e = .returned (.int .i64 n100) ∧
  ifb (n100 != (0 : Int))
  (R (.bool false) w99)
  (∃ n101 : Int, w99.cell? ⟨b89, 3, none⟩ = some (.int .i64 n101) ∧
  Calls Try.prog 11 #[.pointer p11, .int .i64 c8, .int .i64 n101] w99 fun e w102 => ∃ n103 : Int, e = .returned (.int .i64 n103) ∧
  ifb (n103 != (2 : Int))
  (R (.bool false) w102)
  (∃ c104 : Int, IntKind.wrap .i64 (n78 + (1 : Int)) = c104 ∧
  I74 c104 w102 ∧ μ75 c104 w102 < μ75 n78 w76)))))
  (Calls Try.prog 10 #[.pointer p11, .string ⟨#[107]⟩, .int .i64 c8, .int .i64 c9, .int .i64 n5] w76 fun e w105 => ∃ s106 : ByteArray, ∃ n107 : Int, ∃ n108 : Int, ∃ n109 : Int, ∃ n110 : Int, ∃ n111 : Int, ∃ n112 : Int, ∃ t113 : Bool, ∃ t114 : Bool, e = .returned (.tuple #[.agg #[.string s106, .int .i64 n107, .int .i64 n108, .int .i64 n109, .int .i64 n110, .int .i64 n111, .int .i64 n112, .bool t113], .bool t114]) ∧
  ∀ (b115 : Nat) (w116 : World), New w105 w116 b115 [.string emptyS, .int .i64 0, .int .i64 0, .int .i64 0, .int .i64 0, .int .i64 0, .int .i64 0, .bool false] 28 →
  ∃ (l117 : List Value) (e118 : TypeId), Blk w116 b115 l117 e118 ∧ 0 + 8 ≤ l117.length ∧ ∀ w119 : World, Upd w116 w119 b115 (setSeg l117 0 [.string s106, .int .i64 n107, .int .i64 n108, .int .i64 n109, .int .i64 n110, .int .i64 n111, .int .i64 n112, .bool t113]) e118 →
  R (.bool (!t114)) w119))))))
def V.dispatcherlaw13_QueueOrder_ann : Ann := .s (.no) (.s (.no) (.s (.no) (.s (.no) (.s (.no) (.s (.no) (.s (.s (.no) (.b (.loop [(14, .one .sl), (15, .one (.i .i64))] (.no)))) (.s (.s (.no) (.b (.loop [(17, .one (.i .i64))] (.s (.no) (.s (.b (.s (.no) (.s (.draw (.r 0 (.r 1 (.r 2 (.r 3 (.r 4 (.r 5 (.r 6 (.r 7 (.r 8 (.r 9 (.r 10 (.r 11 (.r 12 (.r 13 (.r 14 (.r 15 (.e 16 [4, 8, 15] (.r 17 (.r 18 (.r 19 (.r 20 (.r 21 (.r 22 (.r 23 (.e 24 [4, 8, 15, 23] (.r 25 (.r 26 (.done)))))))))))))))))))))))))))) [(9, 4), (9, 8), (10, 4), (10, 8), (11, 4), (11, 8), (16, 4), (16, 8), (16, 15), (19, 4), (19, 8), (19, 15), (24, 4), (24, 8), (24, 15), (24, 23)]) (.no)))) (.no)))))) (.no))))))))
theorem V.dispatcherlaw13_QueueOrder_eq (A1 : Option Addr) (N1 : Nat) (C1 : Nat) (n2 : Int) (n3 : Int) (t4 : Bool) (n5 : Int) (w : World) (R : Value → World → Prop) : V.dispatcherlaw13_QueueOrder A1 N1 C1 n2 n3 t4 n5 w R = fnW Try.prog [] [.tmp 10] (bodyOf Try.f3) V.dispatcherlaw13_QueueOrder_ann [.slice A1 N1 C1, .int .u8 n2, .int .u8 n3, .bool t4, .int .i64 n5] w R := by kernel_rfl
theorem V.dispatcherlaw13_QueueOrder_ok : okC 138 (bodyOf Try.f3) V.dispatcherlaw13_QueueOrder_ann = true := by kernel_rfl
theorem V.dispatcherlaw13_QueueOrder_cs : (calleesC (bodyOf Try.f3)).all (entersB Try.prog) = true := by kernel_rfl
theorem V.dispatcherlaw13_QueueOrder_calls {A1 : Option Addr} {N1 : Nat} {C1 : Nat} {n2 : Int} {n3 : Int} {t4 : Bool} {n5 : Int}  {w : World} {R : Value → World → Prop} (h : V.dispatcherlaw13_QueueOrder A1 N1 C1 n2 n3 t4 n5 w R) : Calls Try.prog 3 #[.slice A1 N1 C1, .int .u8 n2, .int .u8 n3, .bool t4, .int .i64 n5] w fun e w' => ∃ v, e = .returned v ∧ R v w' :=
  fn_sound (by kernel_rfl) Try.func3 (by kernel_rfl) V.dispatcherlaw13_QueueOrder_ok (enters_all V.dispatcherlaw13_QueueOrder_cs) (by kernel_rfl) ((V.dispatcherlaw13_QueueOrder_eq A1 N1 C1 n2 n3 t4 n5 w R).mp h)

def V.dispatcherlaw13_QueueApart (A1 : Option Addr) (N1 : Nat) (C1 : Nat) (s2 : ByteArray) (n3 : Int) (n4 : Int) (n5 : Int) (w : World) (R : Value → World → Prop) : Prop :=
  Calls Try.prog 7 #[] w fun e w6 => ∃ t7 : Bool, e = .returned (.bool t7) ∧
  ifb (!t7)
  (R (.bool false) w6)
  (Calls Try.prog 12 #[.slice A1 N1 C1] w6 fun e w8 => ∃ t9 : Bool, e = .returned (.bool t9) ∧
  ifb t9
  (R (.bool true) w8)
  (ifb (decide (((s2.size : Nat) : Int) > (100 : Int)))
  (R (.bool true) w8)
  (Calls Try.prog 8 #[] w8 fun e w10 => ∃ p11 : Option Addr, e = .returned (.pointer p11) ∧
  ∃ (I12 : Int → World → Prop) (μ13 : Int → World → Nat),
  I12 (0 : Int) w10 ∧
  ∀ n16 : Int, ∀ (jk15 : Env) (w14 : World), I12 n16 w14 →
  ifb (decide (n16 < ((N1 : Nat) : Int)))
  (0 ≤ n16 ∧ n16 < ((N1 : Nat) : Int) ∧ ∃ b17 o18 : Nat, (A1 : Option Addr) = some ⟨b17, o18, none⟩ ∧
  ∃ s19 : ByteArray, ∃ n20 : Int, ∃ n21 : Int, ∃ n22 : Int, ∃ n23 : Int, ∃ n24 : Int, ∃ n25 : Int, ∃ t26 : Bool, Cells w14 ⟨b17, o18 + n16.toNat * 9 + 1, none⟩ [.string s19, .int .i64 n20, .int .i64 n21, .int .i64 n22, .int .i64 n23, .int .i64 n24, .int .i64 n25, .bool t26] ∧
  ∀ (b27 : Nat) (w28 : World), New w14 w28 b27 [.string emptyS, .int .i64 0, .int .i64 0, .int .i64 0, .int .i64 0, .int .i64 0, .int .i64 0, .bool false] 28 →
  ∃ (l29 : List Value) (e30 : TypeId), Blk w28 b27 l29 e30 ∧ 0 + 8 ≤ l29.length ∧ ∀ w31 : World, Upd w28 w31 b27 (setSeg l29 0 [.string s19, .int .i64 n20, .int .i64 n21, .int .i64 n22, .int .i64 n23, .int .i64 n24, .int .i64 n25, .bool t26]) e30 →
  Calls Try.prog 10 #[.pointer p11, .string s2, .int .i64 n3, .int .i64 n4, .int .i64 n5] w31 fun e w32 => ∃ s33 : ByteArray, ∃ n34 : Int, ∃ n35 : Int, ∃ n36 : Int, ∃ n37 : Int, ∃ n38 : Int, ∃ n39 : Int, ∃ t40 : Bool, ∃ t41 : Bool, e = .returned (.tuple #[.agg #[.string s33, .int .i64 n34, .int .i64 n35, .int .i64 n36, .int .i64 n37, .int .i64 n38, .int .i64 n39, .bool t40], .bool t41]) ∧
  ∀ (b42 : Nat) (w43 : World), New w32 w43 b42 [.string emptyS, .int .i64 0, .int .i64 0, .int .i64 0, .int .i64 0, .int .i64 0, .int .i64 0, .bool false] 28 →
  ∃ (l44 : List Value) (e45 : TypeId), Blk w43 b42 l44 e45 ∧ 0 + 8 ≤ l44.length ∧ ∀ w46 : World, Upd w43 w46 b42 (setSeg l44 0 [.string s33, .int .i64 n34, .int .i64 n35, .int .i64 n36, .int .i64 n37, .int .i64 n38, .int .i64 n39, .bool t40]) e45 →
  Calls Try.prog 14 #[.pointer p11] w46 fun e w47 => ∃ A48 : Option Addr, ∃ N48 : Nat, ∃ C48 : Nat, e = .returned (.slice A48 N48 C48) ∧
  Calls Try.prog 13 #[.slice A48 N48 C48, .string s2, .int .i64 n3, .int .i64 n4] w47 fun e w49 => ∃ A50 : Option Addr, ∃ N50 : Nat, ∃ C50 : Nat, e = .returned (.slice A50 N50 C50) ∧
  ∃ J51 : World → Prop,
  (0 ≤ n16 ∧ n16 < ((N1 : Nat) : Int) ∧ ∃ b54 o55 : Nat, (A1 : Option Addr) = some ⟨b54, o55, none⟩ ∧
  ∃ n56 : Int, w49.cell? ⟨b54, o55 + n16.toNat * 9, none⟩ = some (.int .u8 n56) ∧
  ifb (Int.tmod n56 (4 : Int) == (2 : Int))
  (∃ n57 : Int, w49.cell? ⟨b27, 1, none⟩ = some (.int .i64 n57) ∧
  ∃ n58 : Int, w49.cell? ⟨b27, 3, none⟩ = some (.int .i64 n58) ∧
  Calls Try.prog 15 #[.pointer p11, .int .i64 n57, .int .i64 n58] w49 fun e w59 => ∃ s60 : ByteArray, ∃ n61 : Int, ∃ n62 : Int, ∃ n63 : Int, ∃ n64 : Int, ∃ n65 : Int, ∃ n66 : Int, ∃ t67 : Bool, ∃ t68 : Bool, e = .returned (.tuple #[.agg #[.string s60, .int .i64 n61, .int .i64 n62, .int .i64 n63, .int .i64 n64, .int .i64 n65, .int .i64 n66, .bool t67], .bool t68]) ∧
  ∀ (b69 : Nat) (w70 : World), New w59 w70 b69 [.string emptyS, .int .i64 0, .int .i64 0, .int .i64 0, .int .i64 0, .int .i64 0, .int .i64 0, .bool false] 28 →
  ∃ (l71 : List Value) (e72 : TypeId), Blk w70 b69 l71 e72 ∧ 0 + 8 ≤ l71.length ∧ ∀ w73 : World, Upd w70 w73 b69 (setSeg l71 0 [.string s60, .int .i64 n61, .int .i64 n62, .int .i64 n63, .int .i64 n64, .int .i64 n65, .int .i64 n66, .bool t67]) e72 →
  ∃ n74 : Int, w73.cell? ⟨b27, 1, none⟩ = some (.int .i64 n74) ∧
  ∃ n75 : Int, w73.cell? ⟨b27, 3, none⟩ = some (.int .i64 n75) ∧
  Calls Try.prog 11 #[.pointer p11, .int .i64 n74, .int .i64 n75] w73 fun e w76 => ∃ n77 : Int, e = .returned (.int .i64 n77) ∧
  ifb t68
  (∃ s78 : ByteArray, ∃ n79 : Int, ∃ n80 : Int, ∃ n81 : Int, ∃ n82 : Int, ∃ n83 : Int, ∃ n84 : Int, ∃ t85 : Bool, Cells w76 ⟨b69, 0, none⟩ [.string s78, .int .i64 n79, .int .i64 n80, .int .i64 n81, .int .i64 n82, .int .i64 n83, .int .i64 n84, .bool t85] ∧
  ∃ (l86 : List Value) (e87 : TypeId), Blk w76 b27 l86 e87 ∧ 0 + 8 ≤ l86.length ∧ ∀ w88 : World, Upd w76 w88 b27 (setSeg l86 0 [.string s78, .int .i64 n79, .int .i64 n80, .int .i64 n81, .int .i64 n82, .int .i64 n83, .int .i64 n84, .bool t85]) e87 →
  J51 w88)
  (J51 w76))
  (∃ s89 : ByteArray, ∃ n90 : Int, ∃ n91 : Int, ∃ n92 : Int, ∃ n93 : Int, ∃ n94 : Int, ∃ n95 : Int, ∃ t96 : Bool, Cells w49 ⟨b27, 0, none⟩ [.string s89, .int .i64 n90, .int .i64 n91, .int .i64 n92, .int .i64 n93, .int .i64 n94, .int .i64 n95, .bool t96] ∧
  Calls Try.prog 9 #[.pointer p11, .agg #[.string s89, .int .i64 n90, .int .i64 n91, .int .i64 n92, .int .i64 n93, .int .i64 n94, .int .i64 n95, .bool t96]] w49 fun e w97 => ∃ n98 : Int, e = .returned (.int .i64 n98) ∧
  J51 w97)) ∧
  ∀ (jk53 : Env) (w52 : World), J51 w52 →
  ∃ J99 : World → Prop,
  (∃ s102 : ByteArray, w52.cell? ⟨b27, 0, none⟩ = some (.string s102) ∧
  ifb (s102.toList == s2.toList)
  (∃ n103 : Int, w52.cell? ⟨b27, 1, none⟩ = some (.int .i64 n103) ∧
  ifb (n103 == n3)
  (∃ n104 : Int, w52.cell? ⟨b27, 2, none⟩ = some (.int .i64 n104) ∧
  ifb (n104 == n4)
  (∃ c105 : Int, IntKind.wrap .i64 (n16 + (1 : Int)) = c105 ∧
  I12 c105 w52 ∧ μ13 c105 w52 < μ13 n16 w14)
  (J99 w52))
  (J99 w52))
  (J99 w52)) ∧
  ∀ (jk101 : Env) (w100 : World), J99 w100 →
  Calls Try.prog 10 #[.pointer p11, .string s2, .int .i64 n3, .int .i64 n4, .int .i64 n5] w100 fun e w106 => ∃ s107 : ByteArray, ∃ n108 : Int, ∃ n109 : Int, ∃ n110 : Int, ∃ n111 : Int, ∃ n112 : Int, ∃ n113 : Int, ∃ t114 : Bool, ∃ t115 : Bool, e = .returned (.tuple #[.agg #[.string s107, .int .i64 n108, .int .i64 n109, .int .i64 n110, .int .i64 n111, .int .i64 n112, .int .i64 n113, .bool t114], .bool t115]) ∧
  ∀ (b116 : Nat) (w117 : World), New w106 w117 b116 [.string emptyS, .int .i64 0, .int .i64 0, .int .i64 0, .int .i64 0, .int .i64 0, .int .i64 0, .bool false] 28 →
  ∃ (l118 : List Value) (e119 : TypeId), Blk w117 b116 l118 e119 ∧ 0 + 8 ≤ l118.length ∧ ∀ w120 : World, Upd w117 w120 b116 (setSeg l118 0 [.string s107, .int .i64 n108, .int .i64 n109, .int .i64 n110, .int .i64 n111, .int .i64 n112, .int .i64 n113, .bool t114]) e119 →
  ∃ s121 : ByteArray, ∃ n122 : Int, ∃ n123 : Int, ∃ n124 : Int, ∃ n125 : Int, ∃ n126 : Int, ∃ n127 : Int, ∃ t128 : Bool, Cells w120 ⟨b42, 0, none⟩ [.string s121, .int .i64 n122, .int .i64 n123, .int .i64 n124, .int .i64 n125, .int .i64 n126, .int .i64 n127, .bool t128] ∧
  ∃ s129 : ByteArray, ∃ n130 : Int, ∃ n131 : Int, ∃ n132 : Int, ∃ n133 : Int, ∃ n134 : Int, ∃ n135 : Int, ∃ t136 : Bool, Cells w120 ⟨b116, 0, none⟩ [.string s129, .int .i64 n130, .int .i64 n131, .int .i64 n132, .int .i64 n133, .int .i64 n134, .int .i64 n135, .bool t136] ∧
  ifb (!((s121 == s129) && ((n122 == n130) && ((n123 == n131) && ((n124 == n132) && ((n125 == n133) && ((n126 == n134) && ((n127 == n135) && ((t128 == t136) && (true))))))))))
  (R (.bool false) w120)
  (ifb (!(t41 == t115))
  (R (.bool false) w120)
  (Calls Try.prog 14 #[.pointer p11] w120 fun e w137 => ∃ A138 : Option Addr, ∃ N138 : Nat, ∃ C138 : Nat, e = .returned (.slice A138 N138 C138) ∧
  Calls Try.prog 13 #[.slice A138 N138 C138, .string s2, .int .i64 n3, .int .i64 n4] w137 fun e w139 => ∃ A140 : Option Addr, ∃ N140 : Nat, ∃ C140 : Nat, e = .returned (.slice A140 N140 C140) ∧
  Calls Try.prog 16 #[.slice A50 N50 C50, .slice A140 N140 C140] w139 fun e w141 => ∃ t142 : Bool, e = .returned (.bool t142) ∧
  ifb (!t142)
  (R (.bool false) w141)
  (∃ c143 : Int, IntKind.wrap .i64 (n16 + (1 : Int)) = c143 ∧
  I12 c143 w141 ∧ μ13 c143 w141 < μ13 n16 w14))))
  (R (.bool true) w14))))
def V.dispatcherlaw13_QueueApart_ann : Ann := .s (.no) (.s (.no) (.s (.no) (.s (.no) (.s (.s (.no) (.b (.loop [(12, .one (.i .i64))] (.s (.no) (.s (.b (.s (.no) (.s (.no) (.s (.no) (.s (.jn [] (.no)) (.s (.jn [] (.no)) (.no))))))) (.no)))))) (.no)))))
theorem V.dispatcherlaw13_QueueApart_eq (A1 : Option Addr) (N1 : Nat) (C1 : Nat) (s2 : ByteArray) (n3 : Int) (n4 : Int) (n5 : Int) (w : World) (R : Value → World → Prop) : V.dispatcherlaw13_QueueApart A1 N1 C1 s2 n3 n4 n5 w R = fnW Try.prog [] [.tmp 10] (bodyOf Try.f4) V.dispatcherlaw13_QueueApart_ann [.slice A1 N1 C1, .string s2, .int .i64 n3, .int .i64 n4, .int .i64 n5] w R := by kernel_rfl
theorem V.dispatcherlaw13_QueueApart_ok : okC 128 (bodyOf Try.f4) V.dispatcherlaw13_QueueApart_ann = true := by kernel_rfl
theorem V.dispatcherlaw13_QueueApart_cs : (calleesC (bodyOf Try.f4)).all (entersB Try.prog) = true := by kernel_rfl
theorem V.dispatcherlaw13_QueueApart_calls {A1 : Option Addr} {N1 : Nat} {C1 : Nat} {s2 : ByteArray} {n3 : Int} {n4 : Int} {n5 : Int}  {w : World} {R : Value → World → Prop} (h : V.dispatcherlaw13_QueueApart A1 N1 C1 s2 n3 n4 n5 w R) : Calls Try.prog 4 #[.slice A1 N1 C1, .string s2, .int .i64 n3, .int .i64 n4, .int .i64 n5] w fun e w' => ∃ v, e = .returned v ∧ R v w' :=
  fn_sound (by kernel_rfl) Try.func4 (by kernel_rfl) V.dispatcherlaw13_QueueApart_ok (enters_all V.dispatcherlaw13_QueueApart_cs) (by kernel_rfl) ((V.dispatcherlaw13_QueueApart_eq A1 N1 C1 s2 n3 n4 n5 w R).mp h)

def V.dispatcherlaw13_QueueLeft (A1 : Option Addr) (N1 : Nat) (C1 : Nat) (w : World) (R : Value → World → Prop) : Prop :=
  Calls Try.prog 7 #[] w fun e w2 => ∃ t3 : Bool, e = .returned (.bool t3) ∧
  ifb (!t3)
  (R (.bool false) w2)
  (Calls Try.prog 12 #[.slice A1 N1 C1] w2 fun e w4 => ∃ t5 : Bool, e = .returned (.bool t5) ∧
  ifb t5
  (R (.bool true) w4)
  (Calls Try.prog 8 #[] w4 fun e w6 => ∃ p7 : Option Addr, e = .returned (.pointer p7) ∧
  ∃ (I8 : Int → Int → World → Prop) (μ9 : Int → Int → World → Nat),
  I8 (0 : Int) (0 : Int) w6 ∧
  ∀ n12 : Int, ∀ n13 : Int, ∀ (jk11 : Env) (w10 : World), I8 n12 n13 w10 →
  ifb (decide (n13 < ((N1 : Nat) : Int)))
  (0 ≤ n13 ∧ n13 < ((N1 : Nat) : Int) ∧ ∃ b14 o15 : Nat, (A1 : Option Addr) = some ⟨b14, o15, none⟩ ∧
  ∃ s16 : ByteArray, ∃ n17 : Int, ∃ n18 : Int, ∃ n19 : Int, ∃ n20 : Int, ∃ n21 : Int, ∃ n22 : Int, ∃ t23 : Bool, Cells w10 ⟨b14, o15 + n13.toNat * 9 + 1, none⟩ [.string s16, .int .i64 n17, .int .i64 n18, .int .i64 n19, .int .i64 n20, .int .i64 n21, .int .i64 n22, .bool t23] ∧
  ∀ (b24 : Nat) (w25 : World), New w10 w25 b24 [.string emptyS, .int .i64 0, .int .i64 0, .int .i64 0, .int .i64 0, .int .i64 0, .int .i64 0, .bool false] 28 →
  ∃ (l26 : List Value) (e27 : TypeId), Blk w25 b24 l26 e27 ∧ 0 + 8 ≤ l26.length ∧ ∀ w28 : World, Upd w25 w28 b24 (setSeg l26 0 [.string s16, .int .i64 n17, .int .i64 n18, .int .i64 n19, .int .i64 n20, .int .i64 n21, .int .i64 n22, .bool t23]) e27 →
  0 ≤ n13 ∧ n13 < ((N1 : Nat) : Int) ∧ ∃ b29 o30 : Nat, (A1 : Option Addr) = some ⟨b29, o30, none⟩ ∧
  ∃ n31 : Int, w28.cell? ⟨b29, o30 + n13.toNat * 9, none⟩ = some (.int .u8 n31) ∧
  ifb (Int.tmod n31 (4 : Int) == (2 : Int))
  (∃ n32 : Int, w28.cell? ⟨b24, 1, none⟩ = some (.int .i64 n32) ∧
  ∃ n33 : Int, w28.cell? ⟨b24, 3, none⟩ = some (.int .i64 n33) ∧
  Calls Try.prog 15 #[.pointer p7, .int .i64 n32, .int .i64 n33] w28 fun e w34 => ∃ s35 : ByteArray, ∃ n36 : Int, ∃ n37 : Int, ∃ n38 : Int, ∃ n39 : Int, ∃ n40 : Int, ∃ n41 : Int, ∃ t42 : Bool, ∃ t43 : Bool, e = .returned (.tuple #[.agg #[.string s35, .int .i64 n36, .int .i64 n37, .int .i64 n38, .int .i64 n39, .int .i64 n40, .int .i64 n41, .bool t42], .bool t43]) ∧
  ∀ (b44 : Nat) (w45 : World), New w34 w45 b44 [.string emptyS, .int .i64 0, .int .i64 0, .int .i64 0, .int .i64 0, .int .i64 0, .int .i64 0, .bool false] 28 →
  ∃ (l46 : List Value) (e47 : TypeId), Blk w45 b44 l46 e47 ∧ 0 + 8 ≤ l46.length ∧ ∀ w48 : World, Upd w45 w48 b44 (setSeg l46 0 [.string s35, .int .i64 n36, .int .i64 n37, .int .i64 n38, .int .i64 n39, .int .i64 n40, .int .i64 n41, .bool t42]) e47 →
  ∃ n49 : Int, w48.cell? ⟨b24, 1, none⟩ = some (.int .i64 n49) ∧
  ∃ n50 : Int, w48.cell? ⟨b24, 3, none⟩ = some (.int .i64 n50) ∧
  Calls Try.prog 11 #[.pointer p7, .int .i64 n49, .int .i64 n50] w48 fun e w51 => ∃ n52 : Int, e = .returned (.int .i64 n52) ∧
  ifb t43
  (∃ t53 : Bool, w51.cell? ⟨b44, 7, none⟩ = some (.bool t53) ∧
  ifb (!((n52 == (0 : Int)) == (!t53)))
  (R (.bool false) w51)
  (ifb (n52 == (0 : Int))
  (∃ c54 : Int, IntKind.wrap .i64 (n12 - (1 : Int)) = c54 ∧
  ∃ c55 : Int, IntKind.wrap .i64 (n13 + (1 : Int)) = c55 ∧
  I8 c54 c55 w51 ∧ μ9 c54 c55 w51 < μ9 n12 n13 w10)
  (∃ c56 : Int, IntKind.wrap .i64 (n13 + (1 : Int)) = c56 ∧
  I8 n12 c56 w51 ∧ μ9 n12 c56 w51 < μ9 n12 n13 w10)))
  (ifb (!((n52 == (0 : Int)) == false))
  (R (.bool false) w51)
  (ifb (n52 == (0 : Int))
  (∃ c57 : Int, IntKind.wrap .i64 (n12 - (1 : Int)) = c57 ∧
  ∃ c58 : Int, IntKind.wrap .i64 (n13 + (1 : Int)) = c58 ∧
  I8 c57 c58 w51 ∧ μ9 c57 c58 w51 < μ9 n12 n13 w10)
  (∃ c59 : Int, IntKind.wrap .i64 (n13 + (1 : Int)) = c59 ∧
  I8 n12 c59 w51 ∧ μ9 n12 c59 w51 < μ9 n12 n13 w10))))
  (∃ s60 : ByteArray, ∃ n61 : Int, ∃ n62 : Int, ∃ n63 : Int, ∃ n64 : Int, ∃ n65 : Int, ∃ n66 : Int, ∃ t67 : Bool, Cells w28 ⟨b24, 0, none⟩ [.string s60, .int .i64 n61, .int .i64 n62, .int .i64 n63, .int .i64 n64, .int .i64 n65, .int .i64 n66, .bool t67] ∧
  Calls Try.prog 9 #[.pointer p7, .agg #[.string s60, .int .i64 n61, .int .i64 n62, .int .i64 n63, .int .i64 n64, .int .i64 n65, .int .i64 n66, .bool t67]] w28 fun e w68 => ∃ n69 : Int, e = .returned (.int .i64 n69) ∧
  ifb (n69 == (0 : Int))
  (∃ c70 : Int, IntKind.wrap .i64 (n12 + (1 : Int)) = c70 ∧
  ∃ c71 : Int, IntKind.wrap .i64 (n13 + (1 : Int)) = c71 ∧
  I8 c70 c71 w68 ∧ μ9 c70 c71 w68 < μ9 n12 n13 w10)
  (∃ c72 : Int, IntKind.wrap .i64 (n13 + (1 : Int)) = c72 ∧
  I8 n12 c72 w68 ∧ μ9 n12 c72 w68 < μ9 n12 n13 w10)))
  (Calls Try.prog 14 #[.pointer p7] w10 fun e w73 => ∃ A74 : Option Addr, ∃ N74 : Nat, ∃ C74 : Nat, e = .returned (.slice A74 N74 C74) ∧
  ifb (((N74 : Nat) : Int) != n12)
  (R (.bool false) w73)
  (∃ (I75 : Int → World → Prop) (μ76 : Int → World → Nat),
  I75 (0 : Int) w73 ∧
  ∀ n79 : Int, ∀ (jk78 : Env) (w77 : World), I75 n79 w77 →
  ifb (decide (n79 < ((N74 : Nat) : Int)))
  (0 ≤ n79 ∧ n79 < ((N74 : Nat) : Int) ∧ ∃ b80 o81 : Nat, (A74 : Option Addr) = some ⟨b80, o81, none⟩ ∧
  ∃ s82 : ByteArray, ∃ n83 : Int, ∃ n84 : Int, ∃ n85 : Int, ∃ n86 : Int, ∃ n87 : Int, ∃ n88 : Int, ∃ t89 : Bool, Cells w77 ⟨b80, o81 + n79.toNat * 8, none⟩ [.string s82, .int .i64 n83, .int .i64 n84, .int .i64 n85, .int .i64 n86, .int .i64 n87, .int .i64 n88, .bool t89] ∧
  ∀ (b90 : Nat) (w91 : World), New w77 w91 b90 [.string emptyS, .int .i64 0, .int .i64 0, .int .i64 0, .int .i64 0, .int .i64 0, .int .i64 0, .bool false] 28 →
  ∃ (l92 : List Value) (e93 : TypeId), Blk w91 b90 l92 e93 ∧ 0 + 8 ≤ l92.length ∧ ∀ w94 : World, Upd w91 w94 b90 (setSeg l92 0 [.string s82, .int .i64 n83, .int .i64 n84, .int .i64 n85, .int .i64 n86, .int .i64 n87, .int .i64 n88, .bool t89]) e93 →
  ∃ n95 : Int, w94.cell? ⟨b90, 1, none⟩ = some (.int .i64 n95) ∧
  ∃ n96 : Int, w94.cell? ⟨b90, 3, none⟩ = some (.int .i64 n96) ∧
  Calls Try.prog 15 #[.pointer p7, .int .i64 n95, .int .i64 n96] w94 fun e w97 => ∃ s98 : ByteArray, ∃ n99 : Int, ∃ n100 : Int, ∃ n101 : Int, ∃ n102 : Int, ∃ n103 : Int, ∃ n104 : Int, ∃ t105 : Bool, ∃ t106 : Bool, e = .returned (.tuple #[.agg #[.string s98, .int .i64 n99, .int .i64 n100, .int .i64 n101, .int .i64 n102, .int .i64 n103, .int .i64 n104, .bool t105], .bool t106]) ∧
  ∀ (b107 : Nat) (w108 : World), New w97 w108 b107 [.string emptyS, .int .i64 0, .int .i64 0, .int .i64 0, .int .i64 0, .int .i64 0, .int .i64 0, .bool false] 28 →
  ∃ (l109 : List Value) (e110 : TypeId), Blk w108 b107 l109 e110 ∧ 0 + 8 ≤ l109.length ∧ ∀ w111 : World, Upd w108 w111 b107 (setSeg l109 0 [.string s98, .int .i64 n99, .int .i64 n100, .int .i64 n101, .int .i64 n102, .int .i64 n103, .int .i64 n104, .bool t105]) e110 →
  ∃ J112 : World → Prop,
  (ifb (!t106)
  (R (.bool false) w111.drew)
  (∃ s115 : ByteArray, ∃ n116 : Int, ∃ n117 : Int, ∃ n118 : Int, ∃ n119 : Int, ∃ n120 : Int, ∃ n121 : Int, ∃ t122 : Bool, Cells w111.drew ⟨b107, 0, none⟩ [.string s115, .int .i64 n116, .int .i64 n117, .int .i64 n118, .int .i64 n119, .int .i64 n120, .int .i64 n121, .bool t122] ∧
  ∃ s123 : ByteArray, ∃ n124 : Int, ∃ n125 : Int, ∃ n126 : Int, ∃ n127 : Int, ∃ n128 : Int, ∃ n129 : Int, ∃ t130 : Bool, Cells w111.drew ⟨b90, 0, none⟩ [.string s123, .int .i64 n124, .int .i64 n125, .int .i64 n126, .int .i64 n127, .int .i64 n128, .int .i64 n129, .bool t130] ∧
  ifb (!((s115 == s123) && ((n116 == n124) && ((n117 == n125) && ((n118 == n126) && ((n119 == n127) && ((n120 == n128) && ((n121 == n129) && ((t122 == t130) && (true))))))))))
  (R (.bool false) w111.drew)
  (∃ t131 : Bool, w111.drew.cell? ⟨b90, 7, none⟩ = some (.bool t131) ∧
  ifb t131
  (R (.bool false) w111.drew)
  (ifb (decide (n79 > (0 : Int)))
  (∃ c132 : Int, IntKind.wrap .i64 (n79 - (1 : Int)) = c132 ∧
  0 ≤ c132 ∧ c132 < ((N74 : Nat) : Int) ∧ ∃ b133 o134 : Nat, (A74 : Option Addr) = some ⟨b133, o134, none⟩ ∧
  ∃ n135 : Int, w111.drew.cell? ⟨b133, o134 + c132.toNat * 8 + 1, none⟩ = some (.int .i64 n135) ∧
  ∃ n136 : Int, w111.drew.cell? ⟨b90, 1, none⟩ = some (.int .i64 n136) ∧
  ifb (n135 == n136)
  (∃ c137 : Int, IntKind.wrap .i64 (n79 - (1 : Int)) = c137 ∧
  0 ≤ c137 ∧ c137 < ((N74 : Nat) : Int) ∧ ∃ b138 o139 : Nat, (A74 : Option Addr) = some ⟨b138, o139, none⟩ ∧
  ∃ n140 : Int, w111.drew.cell? ⟨b138, o139 + c137.toNat * 8 + 3, none⟩ = some (.int .i64 n140) ∧
  ∃ n141 : Int, w111.drew.cell? ⟨b90, 3, none⟩ = some (.int .i64 n141) ∧
  ifb (n140 == n141)
  (R (.bool false) w111.drew)
  (J112 w111.drew))
  (J112 w111.drew))
  (J112 w111.drew))))) ∧
  ∀ (jk114 : Env) (w113 : World), J112 w113 →
  ∃ s142 : ByteArray, w113.cell? ⟨b90, 0, none⟩ = some (.string s142) ∧
  ∃ n143 : Int, w113.cell? ⟨b90, 2, none⟩ = some (.int .i64 n143) ∧
  Calls Try.prog 17 #[.pointer p7, .string s142, .int .i64 n143] w113 fun e w144 => ∃ A145 : Option Addr, ∃ N145 : Nat, ∃ C145 : Nat, e = .returned (.slice A145 N145 C145) ∧
  ∃ (I146 : Bool → Int → World → Prop) (μ147 : Bool → Int → World → Nat),
  I146 false (0 : Int) w144 ∧
  ∀ t150 : Bool, ∀ n151 : Int, ∀ (jk149 : Env) (w148 : World), I146 t150 n151 w148 →
  ifb (decide (n151 < ((N145 : Nat) : Int)))
  (ifb t150
  (∃ c152 : Int, IntKind.wrap .i64 (n151 + (1 : Int)) = c152 ∧
  I146 true c152 w148.drew ∧ μ147 true c152 w148.drew < μ147 t150 n151 w148)
  (0 ≤ n151 ∧ n151 < ((N145 : Nat) : Int) ∧ ∃ b153 o154 : Nat, (A145 : Option Addr) = some ⟨b153, o154, none⟩ ∧
  ∃ n155 : Int, w148.drew.cell? ⟨b153, o154 + n151.toNat * 1, none⟩ = some (.int .i64 n155) ∧
  ∃ n156 : Int, w148.drew.cell? ⟨b90, 1, none⟩ = some (.int .i64 n156) ∧
  ∃ c157 : Int, IntKind.wrap .i64 (n151 + (1 : Int)) = c157 ∧
  I146 (n155 == n156) c157 w148.drew ∧ μ147 (n155 == n156) c157 w148.drew < μ147 t150 n151 w148))
  (0 ≤ n79 ∧ n79 ≤ ((C74 : Nat) : Int) ∧
  ∃ s158 : ByteArray, w148.drew.cell? ⟨b90, 0, none⟩ = some (.string s158) ∧
  ∃ n159 : Int, w148.drew.cell? ⟨b90, 1, none⟩ = some (.int .i64 n159) ∧
  ∃ n160 : Int, w148.drew.cell? ⟨b90, 2, none⟩ = some (.int .i64 n160) ∧
  Calls Try.prog 13 #[.slice A74 n79.toNat C74, .string s158, .int .i64 n159, .int .i64 n160] w148.drew fun e w161 => ∃ A162 : Option Addr, ∃ N162 : Nat, ∃ C162 : Nat, e = .returned (.slice A162 N162 C162) ∧
  ifb (!t150)
  (R (.bool false) w161)
  (∃ s163 : ByteArray, ∃ n164 : Int, ∃ n165 : Int, ∃ n166 : Int, ∃ n167 : Int, ∃ n168 : Int, ∃ n169 : Int, ∃ t170 : Bool, Cells w161 ⟨b90, 0, none⟩ [.string s163, .int .i64 n164, .int .i64 n165, .int .i64 n166, .int .i64 n167, .int .i64 n168, .int .i64 n169, .bool t170] ∧
  Calls Try.prog 18 #[.pointer p7, .agg #[.string s163, .int .i64 n164, .int .i64 n165, .int .i64 n166, .int .i64 n167, .int .i64 n168, .int .i64 n169, .bool t170]] w161 fun e w171 => ∃ A172 : Option Addr, ∃ N172 : Nat, ∃ C172 : Nat, e = .returned (.slice A172 N172 C172) ∧
  Calls Try.prog 16 #[.slice A172 N172 C172, .slice A162 N162 C162] w171 fun e w173 => ∃ t174 : Bool, e = .returned (.bool t174) ∧
  ifb (!t174)
  (R (.bool false) w173)
  (∃ c175 : Int, IntKind.wrap .i64 (n79 + (1 : Int)) = c175 ∧
  I75 c175 w173 ∧ μ76 c175 w173 < μ76 n79 w77))))
  (R (.bool true) w77)))))
def V.dispatcherlaw13_QueueLeft_ann : Ann := .s (.no) (.s (.no) (.s (.no) (.s (.no) (.s (.no) (.s (.s (.no) (.b (.loop [(4, .one (.i .i64)), (5, .one (.i .i64))] (.no)))) (.s (.no) (.s (.no) (.s (.s (.no) (.b (.loop [(11, .one (.i .i64))] (.s (.no) (.s (.b (.s (.no) (.s (.no) (.s (.jn [] (.s (.draw (.r 0 (.r 1 (.r 2 (.r 3 (.r 4 (.r 5 (.r 6 (.r 7 (.r 8 (.r 9 (.r 10 (.r 11 (.r 12 (.r 13 (.r 14 (.r 15 (.r 16 (.r 17 (.r 18 (.r 19 (.r 20 (.r 21 (.r 22 (.r 23 (.r 24 (.r 25 (.r 26 (.r 27 (.r 28 (.r 29 (.r 30 (.r 31 (.r 32 (.r 33 (.r 34 (.r 35 (.r 36 (.done)))))))))))))))))))))))))))))))))))))) []) (.no))) (.s (.no) (.s (.no) (.s (.s (.no) (.b (.loop [(16, .one .b), (17, .one (.i .i64))] (.s (.no) (.s (.b (.draw (.r 0 (.r 1 (.r 2 (.r 3 (.r 4 (.r 5 (.r 6 (.r 7 (.r 8 (.r 9 (.e 10 [5, 7] (.done)))))))))))) [(10, 5), (10, 7)])) (.no)))))) (.s (.draw (.r 0 (.r 1 (.r 2 (.r 3 (.r 4 (.r 5 (.r 6 (.r 7 (.r 8 (.e 9 [4, 6, 8] (.e 10 [4, 6, 8] (.done)))))))))))) [(9, 4), (9, 6), (9, 8), (10, 4), (10, 6), (10, 8)]) (.no))))))))) (.no)))))) (.no)))))))))
theorem V.dispatcherlaw13_QueueLeft_eq (A1 : Option Addr) (N1 : Nat) (C1 : Nat) (w : World) (R : Value → World → Prop) : V.dispatcherlaw13_QueueLeft A1 N1 C1 w R = fnW Try.prog [] [.tmp 2] (bodyOf Try.f5) V.dispatcherlaw13_QueueLeft_ann [.slice A1 N1 C1] w R := by kernel_rfl
theorem V.dispatcherlaw13_QueueLeft_ok : okC 180 (bodyOf Try.f5) V.dispatcherlaw13_QueueLeft_ann = true := by kernel_rfl
theorem V.dispatcherlaw13_QueueLeft_cs : (calleesC (bodyOf Try.f5)).all (entersB Try.prog) = true := by kernel_rfl
theorem V.dispatcherlaw13_QueueLeft_calls {A1 : Option Addr} {N1 : Nat} {C1 : Nat}  {w : World} {R : Value → World → Prop} (h : V.dispatcherlaw13_QueueLeft A1 N1 C1 w R) : Calls Try.prog 5 #[.slice A1 N1 C1] w fun e w' => ∃ v, e = .returned v ∧ R v w' :=
  fn_sound (by kernel_rfl) Try.func5 (by kernel_rfl) V.dispatcherlaw13_QueueLeft_ok (enters_all V.dispatcherlaw13_QueueLeft_cs) (by kernel_rfl) ((V.dispatcherlaw13_QueueLeft_eq A1 N1 C1 w R).mp h)

def V.dispatcherlaw13_awake  (w : World) (R : Value → World → Prop) : Prop :=
  Calls Try.prog 8 #[] w fun e w1 => ∃ p2 : Option Addr, e = .returned (.pointer p2) ∧
  ifb p2.isNone
  (R (.bool false) w1)
  (Calls Try.prog 30 #[.int .i64 0, .int .i64 5] w1 fun e w3 => ∃ s4 : ByteArray, ∃ n5 : Int, ∃ n6 : Int, ∃ n7 : Int, ∃ n8 : Int, ∃ n9 : Int, ∃ n10 : Int, ∃ t11 : Bool, e = .returned (.agg #[.string s4, .int .i64 n5, .int .i64 n6, .int .i64 n7, .int .i64 n8, .int .i64 n9, .int .i64 n10, .bool t11]) ∧
  Calls Try.prog 9 #[.pointer p2, .agg #[.string s4, .int .i64 n5, .int .i64 n6, .int .i64 n7, .int .i64 n8, .int .i64 n9, .int .i64 n10, .bool t11]] w3 fun e w12 => ∃ n13 : Int, e = .returned (.int .i64 n13) ∧
  ifb (n13 != (0 : Int))
  (R (.bool false) w12)
  (Calls Try.prog 30 #[.int .i64 1, .int .i64 6] w12 fun e w14 => ∃ s15 : ByteArray, ∃ n16 : Int, ∃ n17 : Int, ∃ n18 : Int, ∃ n19 : Int, ∃ n20 : Int, ∃ n21 : Int, ∃ t22 : Bool, e = .returned (.agg #[.string s15, .int .i64 n16, .int .i64 n17, .int .i64 n18, .int .i64 n19, .int .i64 n20, .int .i64 n21, .bool t22]) ∧
  Calls Try.prog 9 #[.pointer p2, .agg #[.string s15, .int .i64 n16, .int .i64 n17, .int .i64 n18, .int .i64 n19, .int .i64 n20, .int .i64 n21, .bool t22]] w14 fun e w23 => ∃ n24 : Int, e = .returned (.int .i64 n24) ∧
  ifb (n24 != (0 : Int))
  (R (.bool false) w23)
  (Calls Try.prog 30 #[.int .i64 1, .int .i64 7] w23 fun e w25 => ∃ s26 : ByteArray, ∃ n27 : Int, ∃ n28 : Int, ∃ n29 : Int, ∃ n30 : Int, ∃ n31 : Int, ∃ n32 : Int, ∃ t33 : Bool, e = .returned (.agg #[.string s26, .int .i64 n27, .int .i64 n28, .int .i64 n29, .int .i64 n30, .int .i64 n31, .int .i64 n32, .bool t33]) ∧
  Calls Try.prog 9 #[.pointer p2, .agg #[.string s26, .int .i64 n27, .int .i64 n28, .int .i64 n29, .int .i64 n30, .int .i64 n31, .int .i64 n32, .bool t33]] w25 fun e w34 => ∃ n35 : Int, e = .returned (.int .i64 n35) ∧
  ifb (n35 != (2 : Int))
  (R (.bool false) w34)
  (Calls Try.prog 10 #[.pointer p2, .string emptyS, .int .i64 0, .int .i64 1, .int .i64 (-1)] w34 fun e w36 => ∃ s37 : ByteArray, ∃ n38 : Int, ∃ n39 : Int, ∃ n40 : Int, ∃ n41 : Int, ∃ n42 : Int, ∃ n43 : Int, ∃ t44 : Bool, ∃ t45 : Bool, e = .returned (.tuple #[.agg #[.string s37, .int .i64 n38, .int .i64 n39, .int .i64 n40, .int .i64 n41, .int .i64 n42, .int .i64 n43, .bool t44], .bool t45]) ∧
  ∀ (b46 : Nat) (w47 : World), New w36 w47 b46 [.string emptyS, .int .i64 0, .int .i64 0, .int .i64 0, .int .i64 0, .int .i64 0, .int .i64 0, .bool false] 28 →
  ∃ (l48 : List Value) (e49 : TypeId), Blk w47 b46 l48 e49 ∧ 0 + 8 ≤ l48.length ∧ ∀ w50 : World, Upd w47 w50 b46 (setSeg l48 0 [.string s37, .int .i64 n38, .int .i64 n39, .int .i64 n40, .int .i64 n41, .int .i64 n42, .int .i64 n43, .bool t44]) e49 →
  Calls Try.prog 10 #[.pointer p2, .string emptyS, .int .i64 0, .int .i64 1, .int .i64 6] w50 fun e w51 => ∃ s52 : ByteArray, ∃ n53 : Int, ∃ n54 : Int, ∃ n55 : Int, ∃ n56 : Int, ∃ n57 : Int, ∃ n58 : Int, ∃ t59 : Bool, ∃ t60 : Bool, e = .returned (.tuple #[.agg #[.string s52, .int .i64 n53, .int .i64 n54, .int .i64 n55, .int .i64 n56, .int .i64 n57, .int .i64 n58, .bool t59], .bool t60]) ∧
  ∀ (b61 : Nat) (w62 : World), New w51 w62 b61 [.string emptyS, .int .i64 0, .int .i64 0, .int .i64 0, .int .i64 0, .int .i64 0, .int .i64 0, .bool false] 28 →
  ∃ (l63 : List Value) (e64 : TypeId), Blk w62 b61 l63 e64 ∧ 0 + 8 ≤ l63.length ∧ ∀ w65 : World, Upd w62 w65 b61 (setSeg l63 0 [.string s52, .int .i64 n53, .int .i64 n54, .int .i64 n55, .int .i64 n56, .int .i64 n57, .int .i64 n58, .bool t59]) e64 →
  Calls Try.prog 30 #[.int .i64 1, .int .i64 0] w65 fun e w66 => ∃ s67 : ByteArray, ∃ n68 : Int, ∃ n69 : Int, ∃ n70 : Int, ∃ n71 : Int, ∃ n72 : Int, ∃ n73 : Int, ∃ t74 : Bool, e = .returned (.agg #[.string s67, .int .i64 n68, .int .i64 n69, .int .i64 n70, .int .i64 n71, .int .i64 n72, .int .i64 n73, .bool t74]) ∧
  Calls Try.prog 18 #[.pointer p2, .agg #[.string s67, .int .i64 n68, .int .i64 n69, .int .i64 n70, .int .i64 n71, .int .i64 n72, .int .i64 n73, .bool t74]] w66 fun e w75 => ∃ A76 : Option Addr, ∃ N76 : Nat, ∃ C76 : Nat, e = .returned (.slice A76 N76 C76) ∧
  Calls Try.prog 17 #[.pointer p2, .string emptyS, .int .i64 1] w75 fun e w77 => ∃ A78 : Option Addr, ∃ N78 : Nat, ∃ C78 : Nat, e = .returned (.slice A78 N78 C78) ∧
  Calls Try.prog 11 #[.pointer p2, .int .i64 0, .int .i64 0] w77 fun e w79 => ∃ n80 : Int, e = .returned (.int .i64 n80) ∧
  Calls Try.prog 10 #[.pointer p2, .string emptyS, .int .i64 0, .int .i64 1, .int .i64 (-1)] w79 fun e w81 => ∃ s82 : ByteArray, ∃ n83 : Int, ∃ n84 : Int, ∃ n85 : Int, ∃ n86 : Int, ∃ n87 : Int, ∃ n88 : Int, ∃ t89 : Bool, ∃ t90 : Bool, e = .returned (.tuple #[.agg #[.string s82, .int .i64 n83, .int .i64 n84, .int .i64 n85, .int .i64 n86, .int .i64 n87, .int .i64 n88, .bool t89], .bool t90]) ∧
  ∀ (b91 : Nat) (w92 : World), New w81 w92 b91 [.string emptyS, .int .i64 0, .int .i64 0, .int .i64 0, .int .i64 0, .int .i64 0, .int .i64 0, .bool false] 28 →
  ∃ (l93 : List Value) (e94 : TypeId), Blk w92 b91 l93 e94 ∧ 0 + 8 ≤ l93.length ∧ ∀ w95 : World, Upd w92 w95 b91 (setSeg l93 0 [.string s82, .int .i64 n83, .int .i64 n84, .int .i64 n85, .int .i64 n86, .int .i64 n87, .int .i64 n88, .bool t89]) e94 →
  ∃ n96 : Int, w95.cell? ⟨b46, 3, none⟩ = some (.int .i64 n96) ∧
  ifb (n96 == (0 : Int))
  (ifb t45
  (∃ n97 : Int, w95.cell? ⟨b61, 3, none⟩ = some (.int .i64 n97) ∧
  ifb (n97 == (1 : Int))
  (ifb t60
  (ifb (((N76 : Nat) : Int) == (1 : Int))
  (0 ≤ (0 : Int) ∧ (0 : Int) < ((N76 : Nat) : Int) ∧ ∃ b98 o99 : Nat, (A76 : Option Addr) = some ⟨b98, o99, none⟩ ∧
  ∃ n100 : Int, w95.cell? ⟨b98, o99 + (0 : Int).toNat * 8 + 3, none⟩ = some (.int .i64 n100) ∧
  ifb (n100 == (0 : Int))
  (∀ (b101 : Nat) (w102 : World), New w95 w102 b101 [.int .i64 0] 3 →
  Calls Try.prog 31 #[.slice A78 N78 C78, .slice (some ⟨b101, 0, none⟩) 1 1] w102 fun e w103 => ∃ t104 : Bool, e = .returned (.bool t104) ∧
  ifb t104
  (ifb (n80 == (0 : Int))
  (∃ n105 : Int, w103.cell? ⟨b91, 3, none⟩ = some (.int .i64 n105) ∧
  ifb (n105 == (1 : Int))
  (ifb t90
  (Calls Try.prog 14 #[.pointer p2] w103 fun e w106 => ∃ A107 : Option Addr, ∃ N107 : Nat, ∃ C107 : Nat, e = .returned (.slice A107 N107 C107) ∧
  R (.bool (((N107 : Nat) : Int) == (1 : Int))) w106)
  (R (.bool false) w103))
  (R (.bool false) w103))
  (R (.bool false) w103))
  (R (.bool false) w103))
  (R (.bool false) w95))
  (R (.bool false) w95))
  (R (.bool false) w95))
  (R (.bool false) w95))
  (R (.bool false) w95))
  (R (.bool false) w95)))))
def V.dispatcherlaw13_awake_ann : Ann := .no
theorem V.dispatcherlaw13_awake_eq  (w : World) (R : Value → World → Prop) : V.dispatcherlaw13_awake  w R = fnW Try.prog [] [.tmp 0] (bodyOf Try.f7) V.dispatcherlaw13_awake_ann [] w R := by kernel_rfl
theorem V.dispatcherlaw13_awake_ok : okC 103 (bodyOf Try.f7) V.dispatcherlaw13_awake_ann = true := by kernel_rfl
theorem V.dispatcherlaw13_awake_cs : (calleesC (bodyOf Try.f7)).all (entersB Try.prog) = true := by kernel_rfl
theorem V.dispatcherlaw13_awake_calls  {w : World} {R : Value → World → Prop} (h : V.dispatcherlaw13_awake  w R) : Calls Try.prog 7 #[] w fun e w' => ∃ v, e = .returned v ∧ R v w' :=
  fn_sound (by kernel_rfl) Try.func7 (by kernel_rfl) V.dispatcherlaw13_awake_ok (enters_all V.dispatcherlaw13_awake_cs) (by kernel_rfl) ((V.dispatcherlaw13_awake_eq  w R).mp h)

def V.dispatcherlaw13_Great (A1 : Option Addr) (N1 : Nat) (C1 : Nat) (w : World) (R : Value → World → Prop) : Prop :=
  ifb (decide (((N1 : Nat) : Int) > (200 : Int)))
  (R (.bool true) w)
  (∃ (I2 : Int → World → Prop) (μ3 : Int → World → Nat),
  I2 (0 : Int) w ∧
  ∀ n6 : Int, ∀ (jk5 : Env) (w4 : World), I2 n6 w4 →
  ifb (decide (n6 < ((N1 : Nat) : Int)))
  (0 ≤ n6 ∧ n6 < ((N1 : Nat) : Int) ∧ ∃ b7 o8 : Nat, (A1 : Option Addr) = some ⟨b7, o8, none⟩ ∧
  ∃ s9 : ByteArray, w4.cell? ⟨b7, o8 + n6.toNat * 9 + 1, none⟩ = some (.string s9) ∧
  ifb (decide (((s9.size : Nat) : Int) > (100 : Int)))
  (R (.bool true) w4)
  (∃ c10 : Int, IntKind.wrap .i64 (n6 + (1 : Int)) = c10 ∧
  I2 c10 w4 ∧ μ3 c10 w4 < μ3 n6 w4))
  (R (.bool false) w4))
def V.dispatcherlaw13_Great_ann : Ann := .s (.no) (.s (.no) (.s (.s (.no) (.b (.loop [(3, .one (.i .i64))] (.no)))) (.no)))
theorem V.dispatcherlaw13_Great_eq (A1 : Option Addr) (N1 : Nat) (C1 : Nat) (w : World) (R : Value → World → Prop) : V.dispatcherlaw13_Great A1 N1 C1 w R = fnW Try.prog [] [.tmp 2] (bodyOf Try.f12) V.dispatcherlaw13_Great_ann [.slice A1 N1 C1] w R := by kernel_rfl
theorem V.dispatcherlaw13_Great_ok : okC 21 (bodyOf Try.f12) V.dispatcherlaw13_Great_ann = true := by kernel_rfl
theorem V.dispatcherlaw13_Great_cs : (calleesC (bodyOf Try.f12)).all (entersB Try.prog) = true := by kernel_rfl
theorem V.dispatcherlaw13_Great_calls {A1 : Option Addr} {N1 : Nat} {C1 : Nat}  {w : World} {R : Value → World → Prop} (h : V.dispatcherlaw13_Great A1 N1 C1 w R) : Calls Try.prog 12 #[.slice A1 N1 C1] w fun e w' => ∃ v, e = .returned v ∧ R v w' :=
  fn_sound (by kernel_rfl) Try.func12 (by kernel_rfl) V.dispatcherlaw13_Great_ok (enters_all V.dispatcherlaw13_Great_cs) (by kernel_rfl) ((V.dispatcherlaw13_Great_eq A1 N1 C1 w R).mp h)

def V.dispatcherlaw13_of (A1 : Option Addr) (N1 : Nat) (C1 : Nat) (s2 : ByteArray) (n3 : Int) (n4 : Int) (w : World) (R : Value → World → Prop) : Prop :=
  ∃ (I5 : Option Addr → Nat → Nat → Int → World → Prop) (μ6 : Option Addr → Nat → Nat → Int → World → Nat),
  I5 none 0 0 (0 : Int) w ∧
  ∀ A9 : Option Addr, ∀ N9 : Nat, ∀ C9 : Nat, ∀ n10 : Int, ∀ (jk8 : Env) (w7 : World), I5 A9 N9 C9 n10 w7 →
  ifb (decide (n10 < ((N1 : Nat) : Int)))
  (0 ≤ n10 ∧ n10 < ((N1 : Nat) : Int) ∧ ∃ b11 o12 : Nat, (A1 : Option Addr) = some ⟨b11, o12, none⟩ ∧
  ∃ s13 : ByteArray, w7.cell? ⟨b11, o12 + n10.toNat * 8, none⟩ = some (.string s13) ∧
  ifb (s13.toList == s2.toList)
  (0 ≤ n10 ∧ n10 < ((N1 : Nat) : Int) ∧ ∃ b14 o15 : Nat, (A1 : Option Addr) = some ⟨b14, o15, none⟩ ∧
  ∃ n16 : Int, w7.cell? ⟨b14, o15 + n10.toNat * 8 + 1, none⟩ = some (.int .i64 n16) ∧
  ifb (n16 == n3)
  (0 ≤ n10 ∧ n10 < ((N1 : Nat) : Int) ∧ ∃ b17 o18 : Nat, (A1 : Option Addr) = some ⟨b17, o18, none⟩ ∧
  ∃ n19 : Int, w7.cell? ⟨b17, o18 + n10.toNat * 8 + 2, none⟩ = some (.int .i64 n19) ∧
  ifb (n19 == n4)
  (0 ≤ n10 ∧ n10 < ((N1 : Nat) : Int) ∧ ∃ b20 o21 : Nat, (A1 : Option Addr) = some ⟨b20, o21, none⟩ ∧
  ∃ s22 : ByteArray, ∃ n23 : Int, ∃ n24 : Int, ∃ n25 : Int, ∃ n26 : Int, ∃ n27 : Int, ∃ n28 : Int, ∃ t29 : Bool, Cells w7 ⟨b20, o21 + n10.toNat * 8, none⟩ [.string s22, .int .i64 n23, .int .i64 n24, .int .i64 n25, .int .i64 n26, .int .i64 n27, .int .i64 n28, .bool t29] ∧
  ∀ (b30 : Nat) (w31 : World), New w7 w31 b30 [.string s22, .int .i64 n23, .int .i64 n24, .int .i64 n25, .int .i64 n26, .int .i64 n27, .int .i64 n28, .bool t29] 28 →
  ∃ xs32 news33 : List Value, w31.ownsRow 0 28 8 (.slice A9 N9 C9) N9 xs32 ∧ Reads w31 (some ⟨b30, 0, none⟩) 1 8 news33 ∧ N9 + 1 ≤ maxLen ∧ (N9 + 1) * 72 ≤ 140737488355328 ∧
  ∀ (A35 : Option Addr) (C35 : Nat) (w34 : World), w34.ownsRow 0 28 8 (.slice A35 (N9 + 1) C35) (N9 + 1) (xs32 ++ news33) → App w31 w34 A9 A35 →
  ∃ c36 : Int, IntKind.wrap .i64 (n10 + (1 : Int)) = c36 ∧
  I5 A35 (N9 + 1) C35 c36 w34 ∧ μ6 A35 (N9 + 1) C35 c36 w34 < μ6 A9 N9 C9 n10 w7)
  (∃ c37 : Int, IntKind.wrap .i64 (n10 + (1 : Int)) = c37 ∧
  I5 A9 N9 C9 c37 w7 ∧ μ6 A9 N9 C9 c37 w7 < μ6 A9 N9 C9 n10 w7))
  (∃ c38 : Int, IntKind.wrap .i64 (n10 + (1 : Int)) = c38 ∧
  I5 A9 N9 C9 c38 w7 ∧ μ6 A9 N9 C9 c38 w7 < μ6 A9 N9 C9 n10 w7))
  (∃ c39 : Int, IntKind.wrap .i64 (n10 + (1 : Int)) = c39 ∧
  I5 A9 N9 C9 c39 w7 ∧ μ6 A9 N9 C9 c39 w7 < μ6 A9 N9 C9 n10 w7))
  (R (.slice A9 N9 C9) w7)
def V.dispatcherlaw13_of_ann : Ann := .s (.no) (.s (.no) (.s (.s (.no) (.b (.loop [(9, .one .sl), (10, .one (.i .i64))] (.no)))) (.no)))
theorem V.dispatcherlaw13_of_eq (A1 : Option Addr) (N1 : Nat) (C1 : Nat) (s2 : ByteArray) (n3 : Int) (n4 : Int) (w : World) (R : Value → World → Prop) : V.dispatcherlaw13_of A1 N1 C1 s2 n3 n4 w R = fnW Try.prog [] [.tmp 8] (bodyOf Try.f13) V.dispatcherlaw13_of_ann [.slice A1 N1 C1, .string s2, .int .i64 n3, .int .i64 n4] w R := by kernel_rfl
theorem V.dispatcherlaw13_of_ok : okC 50 (bodyOf Try.f13) V.dispatcherlaw13_of_ann = true := by kernel_rfl
theorem V.dispatcherlaw13_of_cs : (calleesC (bodyOf Try.f13)).all (entersB Try.prog) = true := by kernel_rfl
theorem V.dispatcherlaw13_of_calls {A1 : Option Addr} {N1 : Nat} {C1 : Nat} {s2 : ByteArray} {n3 : Int} {n4 : Int}  {w : World} {R : Value → World → Prop} (h : V.dispatcherlaw13_of A1 N1 C1 s2 n3 n4 w R) : Calls Try.prog 13 #[.slice A1 N1 C1, .string s2, .int .i64 n3, .int .i64 n4] w fun e w' => ∃ v, e = .returned v ∧ R v w' :=
  fn_sound (by kernel_rfl) Try.func13 (by kernel_rfl) V.dispatcherlaw13_of_ok (enters_all V.dispatcherlaw13_of_cs) (by kernel_rfl) ((V.dispatcherlaw13_of_eq A1 N1 C1 s2 n3 n4 w R).mp h)

def V.dispatcherref13_Same (A1 : Option Addr) (N1 : Nat) (C1 : Nat) (A2 : Option Addr) (N2 : Nat) (C2 : Nat) (w : World) (R : Value → World → Prop) : Prop :=
  ifb (((N1 : Nat) : Int) != ((N2 : Nat) : Int))
  (R (.bool false) w)
  (∃ (I3 : Int → World → Prop) (μ4 : Int → World → Nat),
  I3 (0 : Int) w ∧
  ∀ n7 : Int, ∀ (jk6 : Env) (w5 : World), I3 n7 w5 →
  ifb (decide (n7 < ((N1 : Nat) : Int)))
  (0 ≤ n7 ∧ n7 < ((N1 : Nat) : Int) ∧ ∃ b8 o9 : Nat, (A1 : Option Addr) = some ⟨b8, o9, none⟩ ∧
  ∃ s10 : ByteArray, ∃ n11 : Int, ∃ n12 : Int, ∃ n13 : Int, ∃ n14 : Int, ∃ n15 : Int, ∃ n16 : Int, ∃ t17 : Bool, Cells w5.drew ⟨b8, o9 + n7.toNat * 8, none⟩ [.string s10, .int .i64 n11, .int .i64 n12, .int .i64 n13, .int .i64 n14, .int .i64 n15, .int .i64 n16, .bool t17] ∧
  0 ≤ n7 ∧ n7 < ((N2 : Nat) : Int) ∧ ∃ b18 o19 : Nat, (A2 : Option Addr) = some ⟨b18, o19, none⟩ ∧
  ∃ s20 : ByteArray, ∃ n21 : Int, ∃ n22 : Int, ∃ n23 : Int, ∃ n24 : Int, ∃ n25 : Int, ∃ n26 : Int, ∃ t27 : Bool, Cells w5.drew ⟨b18, o19 + n7.toNat * 8, none⟩ [.string s20, .int .i64 n21, .int .i64 n22, .int .i64 n23, .int .i64 n24, .int .i64 n25, .int .i64 n26, .bool t27] ∧
  ifb (!((s10 == s20) && ((n11 == n21) && ((n12 == n22) && ((n13 == n23) && ((n14 == n24) && ((n15 == n25) && ((n16 == n26) && ((t17 == t27) && (true))))))))))
  (R (.bool false) w5.drew)
  (∃ c28 : Int, IntKind.wrap .i64 (n7 + (1 : Int)) = c28 ∧
  I3 c28 w5.drew ∧ μ4 c28 w5.drew < μ4 n7 w5))
  (R (.bool true) w5))
def V.dispatcherref13_Same_ann : Ann := .s (.no) (.s (.no) (.s (.s (.no) (.b (.loop [(5, .one (.i .i64))] (.s (.no) (.s (.b (.s (.draw (.r 0 (.r 1 (.r 2 (.r 3 (.r 4 (.r 5 (.r 6 (.r 7 (.r 8 (.done)))))))))) []) (.no))) (.no)))))) (.no)))
theorem V.dispatcherref13_Same_eq (A1 : Option Addr) (N1 : Nat) (C1 : Nat) (A2 : Option Addr) (N2 : Nat) (C2 : Nat) (w : World) (R : Value → World → Prop) : V.dispatcherref13_Same A1 N1 C1 A2 N2 C2 w R = fnW Try.prog [] [.tmp 4] (bodyOf Try.f16) V.dispatcherref13_Same_ann [.slice A1 N1 C1, .slice A2 N2 C2] w R := by kernel_rfl
theorem V.dispatcherref13_Same_ok : okC 26 (bodyOf Try.f16) V.dispatcherref13_Same_ann = true := by kernel_rfl
theorem V.dispatcherref13_Same_cs : (calleesC (bodyOf Try.f16)).all (entersB Try.prog) = true := by kernel_rfl
theorem V.dispatcherref13_Same_calls {A1 : Option Addr} {N1 : Nat} {C1 : Nat} {A2 : Option Addr} {N2 : Nat} {C2 : Nat}  {w : World} {R : Value → World → Prop} (h : V.dispatcherref13_Same A1 N1 C1 A2 N2 C2 w R) : Calls Try.prog 16 #[.slice A1 N1 C1, .slice A2 N2 C2] w fun e w' => ∃ v, e = .returned v ∧ R v w' :=
  fn_sound (by kernel_rfl) Try.func16 (by kernel_rfl) V.dispatcherref13_Same_ok (enters_all V.dispatcherref13_Same_cs) (by kernel_rfl) ((V.dispatcherref13_Same_eq A1 N1 C1 A2 N2 C2 w R).mp h)

def V.dispatcherlaw13_message (n1 : Int) (n2 : Int) (w : World) (R : Value → World → Prop) : Prop :=
  ∀ (b3 : Nat) (w4 : World), New w w4 b3 [.string emptyS, .int .i64 0, .int .i64 0, .int .i64 0, .int .i64 0, .int .i64 0, .int .i64 0, .bool false] 28 →
  ∃ (l5 : List Value) (e6 : TypeId), Blk w4 b3 l5 e6 ∧ 0 + 8 ≤ l5.length ∧ ∀ w7 : World, Upd w4 w7 b3 (setSeg l5 0 [.string emptyS, .int .i64 0, .int .i64 1, .int .i64 n1, .int .i64 n2, .int .i64 0, .int .i64 1, .bool false]) e6 →
  ∃ s8 : ByteArray, ∃ n9 : Int, ∃ n10 : Int, ∃ n11 : Int, ∃ n12 : Int, ∃ n13 : Int, ∃ n14 : Int, ∃ t15 : Bool, Cells w7 ⟨b3, 0, none⟩ [.string s8, .int .i64 n9, .int .i64 n10, .int .i64 n11, .int .i64 n12, .int .i64 n13, .int .i64 n14, .bool t15] ∧ R (.agg #[.string s8, .int .i64 n9, .int .i64 n10, .int .i64 n11, .int .i64 n12, .int .i64 n13, .int .i64 n14, .bool t15]) w7
def V.dispatcherlaw13_message_ann : Ann := .no
theorem V.dispatcherlaw13_message_eq (n1 : Int) (n2 : Int) (w : World) (R : Value → World → Prop) : V.dispatcherlaw13_message n1 n2 w R = fnW Try.prog [] [.cell 4 28] (bodyOf Try.f30) V.dispatcherlaw13_message_ann [.int .i64 n1, .int .i64 n2] w R := by kernel_rfl
theorem V.dispatcherlaw13_message_ok : okC 8 (bodyOf Try.f30) V.dispatcherlaw13_message_ann = true := by kernel_rfl
theorem V.dispatcherlaw13_message_cs : (calleesC (bodyOf Try.f30)).all (entersB Try.prog) = true := by kernel_rfl
theorem V.dispatcherlaw13_message_calls {n1 : Int} {n2 : Int}  {w : World} {R : Value → World → Prop} (h : V.dispatcherlaw13_message n1 n2 w R) : Calls Try.prog 30 #[.int .i64 n1, .int .i64 n2] w fun e w' => ∃ v, e = .returned v ∧ R v w' :=
  fn_sound (by kernel_rfl) Try.func30 (by kernel_rfl) V.dispatcherlaw13_message_ok (enters_all V.dispatcherlaw13_message_cs) (by kernel_rfl) ((V.dispatcherlaw13_message_eq n1 n2 w R).mp h)

def V.dispatcherref11_Ints (A1 : Option Addr) (N1 : Nat) (C1 : Nat) (A2 : Option Addr) (N2 : Nat) (C2 : Nat) (w : World) (R : Value → World → Prop) : Prop :=
  ifb (((N1 : Nat) : Int) != ((N2 : Nat) : Int))
  (R (.bool false) w)
  (∃ (I3 : Int → World → Prop) (μ4 : Int → World → Nat),
  I3 (0 : Int) w ∧
  ∀ n7 : Int, ∀ (jk6 : Env) (w5 : World), I3 n7 w5 →
  ifb (decide (n7 < ((N1 : Nat) : Int)))
  (0 ≤ n7 ∧ n7 < ((N1 : Nat) : Int) ∧ ∃ b8 o9 : Nat, (A1 : Option Addr) = some ⟨b8, o9, none⟩ ∧
  ∃ n10 : Int, w5.drew.cell? ⟨b8, o9 + n7.toNat * 1, none⟩ = some (.int .i64 n10) ∧
  0 ≤ n7 ∧ n7 < ((N2 : Nat) : Int) ∧ ∃ b11 o12 : Nat, (A2 : Option Addr) = some ⟨b11, o12, none⟩ ∧
  ∃ n13 : Int, w5.drew.cell? ⟨b11, o12 + n7.toNat * 1, none⟩ = some (.int .i64 n13) ∧
  ifb (n10 != n13)
  (R (.bool false) w5.drew)
  (∃ c14 : Int, IntKind.wrap .i64 (n7 + (1 : Int)) = c14 ∧
  I3 c14 w5.drew ∧ μ4 c14 w5.drew < μ4 n7 w5))
  (R (.bool true) w5))
def V.dispatcherref11_Ints_ann : Ann := .s (.no) (.s (.no) (.s (.s (.no) (.b (.loop [(5, .one (.i .i64))] (.s (.no) (.s (.b (.s (.draw (.r 0 (.r 1 (.r 2 (.r 3 (.r 4 (.r 5 (.r 6 (.r 7 (.r 8 (.done)))))))))) []) (.no))) (.no)))))) (.no)))
theorem V.dispatcherref11_Ints_eq (A1 : Option Addr) (N1 : Nat) (C1 : Nat) (A2 : Option Addr) (N2 : Nat) (C2 : Nat) (w : World) (R : Value → World → Prop) : V.dispatcherref11_Ints A1 N1 C1 A2 N2 C2 w R = fnW Try.prog [] [.tmp 4] (bodyOf Try.f31) V.dispatcherref11_Ints_ann [.slice A1 N1 C1, .slice A2 N2 C2] w R := by kernel_rfl
theorem V.dispatcherref11_Ints_ok : okC 26 (bodyOf Try.f31) V.dispatcherref11_Ints_ann = true := by kernel_rfl
theorem V.dispatcherref11_Ints_cs : (calleesC (bodyOf Try.f31)).all (entersB Try.prog) = true := by kernel_rfl
theorem V.dispatcherref11_Ints_calls {A1 : Option Addr} {N1 : Nat} {C1 : Nat} {A2 : Option Addr} {N2 : Nat} {C2 : Nat}  {w : World} {R : Value → World → Prop} (h : V.dispatcherref11_Ints A1 N1 C1 A2 N2 C2 w R) : Calls Try.prog 31 #[.slice A1 N1 C1, .slice A2 N2 C2] w fun e w' => ∃ v, e = .returned v ∧ R v w' :=
  fn_sound (by kernel_rfl) Try.func31 (by kernel_rfl) V.dispatcherref11_Ints_ok (enters_all V.dispatcherref11_Ints_cs) (by kernel_rfl) ((V.dispatcherref11_Ints_eq A1 N1 C1 A2 N2 C2 w R).mp h)

end Go.Proofs.Ytdaojmkbjkaakaa
