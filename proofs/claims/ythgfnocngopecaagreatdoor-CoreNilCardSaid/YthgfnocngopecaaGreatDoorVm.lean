/- PRINTED by this session's own vc.py: verification conditions of functions, and that they are enough. Conditions: none. -/
import Derived.Test.YthgfnocngopecaaGreatDoorGc
import Derived.Test.YthgfnocngopecaaGreatDoorProg
set_option linter.unusedVariables false
set_option maxRecDepth 100000
namespace Go.Proofs.YthgfnocngopecaaGreatDoor
open Go.Vc

def V.dispatcherlaw17_CoreNil (n1 : Int) (n2 : Int) (n3 : Int) (n4 : Int) (n5 : Int) (n6 : Int) (n7 : Int) (n8 : Int) (n9 : Int) (n10 : Int) (A11 : Option Addr) (N11 : Nat) (C11 : Nat) (n12 : Int) (n13 : Int) (n14 : Int) (n15 : Int) (n16 : Int) (n17 : Int) (n18 : Int) (n19 : Int) (n20 : Int) (w : World) (R : Value → World → Prop) : Prop :=
  ∀ (b21 : Nat) (w22 : World), New w w22 b21 [.int .u8 n1, .int .i64 n2, .int .u8 n3, .int .i64 n4, .int .i64 n5, .int .i64 n6, .int .i64 n7, .int .i64 n8, .int .i64 n9, .int .u8 n10, .slice A11 N11 C11, .int .i64 n12, .int .i64 n13, .int .i64 n14, .int .u8 n15, .int .i64 n16, .int .i64 n17, .int .i64 n18, .int .i64 n19, .int .i64 n20] 67 →
  ∃ n23 : Int, ∃ n24 : Int, ∃ n25 : Int, ∃ n26 : Int, ∃ n27 : Int, ∃ n28 : Int, ∃ n29 : Int, ∃ n30 : Int, ∃ n31 : Int, ∃ n32 : Int, ∃ A33 : Option Addr, ∃ N33 : Nat, ∃ C33 : Nat, ∃ n34 : Int, ∃ n35 : Int, ∃ n36 : Int, ∃ n37 : Int, ∃ n38 : Int, ∃ n39 : Int, ∃ n40 : Int, ∃ n41 : Int, ∃ n42 : Int, Cells w22 ⟨b21, 0, none⟩ [.int .u8 n23, .int .i64 n24, .int .u8 n25, .int .i64 n26, .int .i64 n27, .int .i64 n28, .int .i64 n29, .int .i64 n30, .int .i64 n31, .int .u8 n32, .slice A33 N33 C33, .int .i64 n34, .int .i64 n35, .int .i64 n36, .int .u8 n37, .int .i64 n38, .int .i64 n39, .int .i64 n40, .int .i64 n41, .int .i64 n42] ∧
  ∀ (b43 : Nat) (w44 : World), New w22 w44 b43 [.int .u8 n23, .int .i64 n24, .int .u8 n25, .int .i64 n26, .int .i64 n27, .int .i64 n28, .int .i64 n29, .int .i64 n30, .int .i64 n31, .int .u8 n32, .slice A33 N33 C33, .int .i64 n34, .int .i64 n35, .int .i64 n36, .int .u8 n37, .int .i64 n38, .int .i64 n39, .int .i64 n40, .int .i64 n41, .int .i64 n42] 67 →
  Calls Tryz.prog 17 #[.agg #[.int .i64 0, .int .i64 0, .bool false, .int .i64 0, .int .i64 0, .int .i64 0], .slice (some ⟨b43, 0, none⟩) 1 1] w44 fun e w45 => ∃ t46 : Bool, e = .returned (.bool t46) ∧
  ifb t46
  (R (.bool true) w45)
  (∀ (b47 : Nat) (w48 : World), New w45 w48 b47 [.int .i64 0, .int .i64 0, .bool false, .int .i64 0, .int .i64 0, .int .i64 0, .slice none 0 0, .pointer none, .pointer none, .pointer none, .map none] 93 →
  ∀ (b49 : Nat) (w50 : World), New w48 w50 b49 [.pointer none, .pointer (some ⟨b47, 0, none⟩)] 57 →
  ∃ (I51 : Int → World → Prop) (μ52 : Int → World → Nat),
  I51 (0 : Int) w50 ∧
  ∀ n55 : Int, ∀ (jk54 : Env) (w53 : World), I51 n55 w53 →
  ifb (decide (n55 < ((2 : Nat) : Int)))
  (0 ≤ n55 ∧ n55 < ((2 : Nat) : Int) ∧ ∃ b56 o57 : Nat, (some ⟨b49, 0, none⟩ : Option Addr) = some ⟨b56, o57, none⟩ ∧
  ∃ p58 : Option Addr, w53.cell? ⟨b56, o57 + n55.toNat * 1, none⟩ = some (.pointer p58) ∧
  ∃ n59 : Int, w53.cell? ⟨b21, 1, none⟩ = some (.int .i64 n59) ∧
  ∃ n60 : Int, ∃ n61 : Int, ∃ n62 : Int, ∃ n63 : Int, ∃ n64 : Int, ∃ n65 : Int, ∃ n66 : Int, ∃ n67 : Int, ∃ A68 : Option Addr, ∃ N68 : Nat, ∃ C68 : Nat, ∃ n69 : Int, ∃ n70 : Int, Cells w53 ⟨b21, 2, none⟩ [.int .u8 n60, .int .i64 n61, .int .i64 n62, .int .i64 n63, .int .i64 n64, .int .i64 n65, .int .i64 n66, .int .u8 n67, .slice A68 N68 C68, .int .i64 n69, .int .i64 n70] ∧
  Calls Tryz.prog 34 #[.pointer p58, .int .i64 n59, .agg #[.int .u8 n60, .int .i64 n61, .int .i64 n62, .int .i64 n63, .int .i64 n64, .int .i64 n65, .int .i64 n66, .int .u8 n67, .slice A68 N68 C68, .int .i64 n69, .int .i64 n70]] w53 fun e w71 => ∃ t72 : Bool, ∃ n73 : Int, e = .returned (.tuple #[.bool t72, .int .i64 n73]) ∧
  ∃ n74 : Int, w71.cell? ⟨b21, 1, none⟩ = some (.int .i64 n74) ∧
  Calls Tryz.prog 35 #[.pointer p58, .int .i64 n74] w71 fun e w75 => ∃ t76 : Bool, ∃ n77 : Int, ∃ n78 : Int, ∃ n79 : Int, ∃ n80 : Int, ∃ n81 : Int, ∃ n82 : Int, ∃ A83 : Option Addr, ∃ N83 : Nat, ∃ C83 : Nat, ∃ n84 : Int, e = .returned (.tuple #[.agg #[.bool t76, .int .i64 n77, .int .i64 n78, .int .i64 n79, .int .i64 n80, .int .i64 n81, .int .i64 n82, .slice A83 N83 C83], .int .i64 n84]) ∧
  ∀ (b85 : Nat) (w86 : World), New w75 w86 b85 [.bool false, .int .i64 0, .int .i64 0, .int .i64 0, .int .i64 0, .int .i64 0, .int .i64 0, .slice none 0 0] 31 →
  ∃ (l87 : List Value) (e88 : TypeId), Blk w86 b85 l87 e88 ∧ 0 + 8 ≤ l87.length ∧ ∀ w89 : World, Upd w86 w89 b85 (setSeg l87 0 [.bool t76, .int .i64 n77, .int .i64 n78, .int .i64 n79, .int .i64 n80, .int .i64 n81, .int .i64 n82, .slice A83 N83 C83]) e88 →
  ifb (n73 != (1 : Int))
  (R (.bool false) w89)
  (ifb (n84 != (1 : Int))
  (R (.bool false) w89)
  (∃ n90 : Int, w89.cell? ⟨b21, 1, none⟩ = some (.int .i64 n90) ∧
  Calls Tryz.prog 36 #[.pointer p58, .int .i64 n90] w89 fun e w91 => ∃ n92 : Int, e = .returned (.int .i64 n92) ∧
  ifb (n92 != (1 : Int))
  (R (.bool false) w91)
  (∃ n93 : Int, ∃ n94 : Int, ∃ n95 : Int, ∃ n96 : Int, ∃ n97 : Int, ∃ n98 : Int, Cells w91 ⟨b21, 14, none⟩ [.int .u8 n93, .int .i64 n94, .int .i64 n95, .int .i64 n96, .int .i64 n97, .int .i64 n98] ∧
  Calls Tryz.prog 22 #[.pointer p58, .agg #[.int .u8 n93, .int .i64 n94, .int .i64 n95, .int .i64 n96, .int .i64 n97, .int .i64 n98]] w91 fun e w99 => ∃ n100 : Int, e = .returned (.int .i64 n100) ∧
  ifb (n100 != (1 : Int))
  (R (.bool false) w99)
  (∃ n101 : Int, w99.cell? ⟨b21, 1, none⟩ = some (.int .i64 n101) ∧
  Calls Tryz.prog 27 #[.pointer p58, .int .i64 n101] w99 fun e w102 => ∃ n103 : Int, e = .returned (.int .i64 n103) ∧
  ifb (n103 != (0 : Int))
  (R (.bool false) w102)
  (∃ n104 : Int, w102.cell? ⟨b21, 1, none⟩ = some (.int .i64 n104) ∧
  Calls Tryz.prog 37 #[.pointer p58, .int .i64 n104] w102 fun e w105 => ∃ t106 : Bool, e = .returned (.bool t106) ∧
  ifb t106
  (R (.bool false) w105)
  (∃ n107 : Int, w105.cell? ⟨b21, 1, none⟩ = some (.int .i64 n107) ∧
  Calls Tryz.prog 20 #[.pointer p58, .int .i64 n107] w105 fun e w108 => ∃ t109 : Bool, e = .returned (.bool t109) ∧
  ifb t109
  (R (.bool false) w108)
  (∃ n110 : Int, w108.cell? ⟨b21, 1, none⟩ = some (.int .i64 n110) ∧
  Calls Tryz.prog 38 #[.pointer p58, .int .i64 n110] w108 fun e w111 => ∃ t112 : Bool, e = .returned (.bool t112) ∧
  ifb t112
  (R (.bool false) w111)
  (∃ n113 : Int, w111.cell? ⟨b21, 1, none⟩ = some (.int .i64 n113) ∧
  Calls Tryz.prog 39 #[.pointer p58, .int .i64 n113, .int .i64 0] w111 fun e w114 => ∃ t115 : Bool, e = .returned (.bool t115) ∧
  ifb t115
  (R (.bool false) w114)
  (∃ n116 : Int, w114.drew.cell? ⟨b21, 1, none⟩ = some (.int .i64 n116) ∧
  ∃ n117 : Int, w114.drew.cell? ⟨b21, 1, none⟩ = some (.int .i64 n117) ∧
  ∃ n118 : Int, w114.drew.cell? ⟨b21, 1, none⟩ = some (.int .i64 n118) ∧
  Calls Tryz.prog 19 #[.pointer p58, .int .i64 n116] w114.drew fun e w119 => ∃ A120 : Option Addr, ∃ N120 : Nat, ∃ C120 : Nat, e = .returned (.slice A120 N120 C120) ∧
  (w119.cell? ⟨b21, 1, none⟩ = some (.int .i64 n118)) ∧ (w119.cell? ⟨b21, 1, none⟩ = some (.int .i64 n117)) ∧ Calls Tryz.prog 40 #[.pointer p58, .int .i64 n117] w119 fun e w121 => ∃ A122 : Option Addr, ∃ N122 : Nat, ∃ C122 : Nat, e = .returned (.slice A122 N122 C122) ∧
  (w121.cell? ⟨b21, 1, none⟩ = some (.int .i64 n118)) ∧ ∃ c123 : Int, IntKind.wrap .i64 (((N120 : Nat) : Int) + ((N122 : Nat) : Int)) = c123 ∧
  Calls Tryz.prog 41 #[.pointer p58, .int .i64 n118] w121 fun e w124 => ∃ A125 : Option Addr, ∃ N125 : Nat, ∃ C125 : Nat, e = .returned (.slice A125 N125 C125) ∧
  ∃ c126 : Int, IntKind.wrap .i64 (c123 + ((N125 : Nat) : Int)) = c126 ∧
  Calls Tryz.prog 28 #[.pointer p58] w124 fun e w127 => ∃ A128 : Option Addr, ∃ N128 : Nat, ∃ C128 : Nat, e = .returned (.slice A128 N128 C128) ∧
  ∃ c129 : Int, IntKind.wrap .i64 (c126 + ((N128 : Nat) : Int)) = c129 ∧
  Calls Tryz.prog 42 #[.pointer p58] w127 fun e w130 => ∃ A131 : Option Addr, ∃ N131 : Nat, ∃ C131 : Nat, e = .returned (.slice A131 N131 C131) ∧
  ∃ c132 : Int, IntKind.wrap .i64 (c129 + ((N131 : Nat) : Int)) = c132 ∧
  ifb (c132 != (0 : Int))
  (R (.bool false) w130)
  (∃ c133 : Int, IntKind.wrap .i64 (n55 + (1 : Int)) = c133 ∧
  I51 c133 w130 ∧ μ52 c133 w130 < μ52 n55 w53)))))))))))
  (Calls Tryz.prog 33 #[.pointer none] w53 fun e w134 => ∃ p135 : Option Addr, e = .returned (.pointer p135) ∧
  R (.bool p135.isNone) w134))
def V.dispatcherlaw17_CoreNil_ann : Ann := .s (.no) (.s (.no) (.s (.no) (.s (.no) (.s (.s (.no) (.b (.loop [(5, .one (.i .i64))] (.s (.no) (.s (.b (.s (.no) (.s (.no) (.s (.no) (.s (.no) (.s (.draw (.r 0 (.r 1 (.r 2 (.r 5 (.r 6 (.r 7 (.r 11 (.r 12 (.r 13 (.r 17 (.r 21 (.e 3 [2] (.r 4 (.e 8 [2, 7] (.r 9 (.r 10 (.e 14 [2, 7, 13] (.r 15 (.r 16 (.e 18 [2, 7, 13] (.r 19 (.r 20 (.e 22 [2, 7, 13] (.r 23 (.r 24 (.r 25 (.done))))))))))))))))))))))))))) [(3, 2), (8, 2), (8, 7), (14, 2), (14, 7), (14, 13), (18, 2), (18, 7), (18, 13), (22, 2), (22, 7), (22, 13)]) (.no))))))) (.no)))))) (.no)))))
theorem V.dispatcherlaw17_CoreNil_eq (n1 : Int) (n2 : Int) (n3 : Int) (n4 : Int) (n5 : Int) (n6 : Int) (n7 : Int) (n8 : Int) (n9 : Int) (n10 : Int) (A11 : Option Addr) (N11 : Nat) (C11 : Nat) (n12 : Int) (n13 : Int) (n14 : Int) (n15 : Int) (n16 : Int) (n17 : Int) (n18 : Int) (n19 : Int) (n20 : Int) (w : World) (R : Value → World → Prop) : V.dispatcherlaw17_CoreNil n1 n2 n3 n4 n5 n6 n7 n8 n9 n10 A11 N11 C11 n12 n13 n14 n15 n16 n17 n18 n19 n20 w R = fnW Tryz.prog [] [.tmp 2] (bodyOf Tryz.f9) V.dispatcherlaw17_CoreNil_ann [.agg #[.int .u8 n1, .int .i64 n2, .int .u8 n3, .int .i64 n4, .int .i64 n5, .int .i64 n6, .int .i64 n7, .int .i64 n8, .int .i64 n9, .int .u8 n10, .slice A11 N11 C11, .int .i64 n12, .int .i64 n13, .int .i64 n14, .int .u8 n15, .int .i64 n16, .int .i64 n17, .int .i64 n18, .int .i64 n19, .int .i64 n20]] w R := by kernel_rfl
theorem V.dispatcherlaw17_CoreNil_ok : okC 125 (bodyOf Tryz.f9) V.dispatcherlaw17_CoreNil_ann = true := by kernel_rfl
theorem V.dispatcherlaw17_CoreNil_cs : (calleesC (bodyOf Tryz.f9)).all (entersB Tryz.prog) = true := by kernel_rfl
theorem V.dispatcherlaw17_CoreNil_calls {n1 : Int} {n2 : Int} {n3 : Int} {n4 : Int} {n5 : Int} {n6 : Int} {n7 : Int} {n8 : Int} {n9 : Int} {n10 : Int} {A11 : Option Addr} {N11 : Nat} {C11 : Nat} {n12 : Int} {n13 : Int} {n14 : Int} {n15 : Int} {n16 : Int} {n17 : Int} {n18 : Int} {n19 : Int} {n20 : Int}  {w : World} {R : Value → World → Prop} (h : V.dispatcherlaw17_CoreNil n1 n2 n3 n4 n5 n6 n7 n8 n9 n10 A11 N11 C11 n12 n13 n14 n15 n16 n17 n18 n19 n20 w R) : Calls Tryz.prog 9 #[.agg #[.int .u8 n1, .int .i64 n2, .int .u8 n3, .int .i64 n4, .int .i64 n5, .int .i64 n6, .int .i64 n7, .int .i64 n8, .int .i64 n9, .int .u8 n10, .slice A11 N11 C11, .int .i64 n12, .int .i64 n13, .int .i64 n14, .int .u8 n15, .int .i64 n16, .int .i64 n17, .int .i64 n18, .int .i64 n19, .int .i64 n20]] w fun e w' => ∃ v, e = .returned v ∧ R v w' :=
  fn_sound (by kernel_rfl) Tryz.func9 (by kernel_rfl) V.dispatcherlaw17_CoreNil_ok (enters_all V.dispatcherlaw17_CoreNil_cs) (by kernel_rfl) ((V.dispatcherlaw17_CoreNil_eq n1 n2 n3 n4 n5 n6 n7 n8 n9 n10 A11 N11 C11 n12 n13 n14 n15 n16 n17 n18 n19 n20 w R).mp h)

def V.dispatcherlaw17_Great (n1 : Int) (n2 : Int) (t3 : Bool) (n4 : Int) (n5 : Int) (n6 : Int) (A7 : Option Addr) (N7 : Nat) (C7 : Nat) (w : World) (R : Value → World → Prop) : Prop :=
  ∀ (b8 : Nat) (w9 : World), New w w9 b8 [.int .i64 n1, .int .i64 n2, .bool t3, .int .i64 n4, .int .i64 n5, .int .i64 n6] 54 →
  ∃ J10 : World → Prop,
  (ifb (decide (((N7 : Nat) : Int) > (150 : Int)))
  (R (.bool true) w9)
  (∃ n13 : Int, w9.cell? ⟨b8, 0, none⟩ = some (.int .i64 n13) ∧
  ifb (decide (n13 > (5 : Int)))
  (∃ n14 : Int, w9.cell? ⟨b8, 0, none⟩ = some (.int .i64 n14) ∧
  ifb (decide (n14 ≤ (64 : Int)))
  (R (.bool true) w9)
  (J10 w9))
  (J10 w9))) ∧
  ∀ (jk12 : Env) (w11 : World), J10 w11 →
  ∃ (I15 : Int → World → Prop) (μ16 : Int → World → Nat),
  I15 (0 : Int) w11 ∧
  ∀ n19 : Int, ∀ (jk18 : Env) (w17 : World), I15 n19 w17 →
  ifb (decide (n19 < ((N7 : Nat) : Int)))
  (0 ≤ n19 ∧ n19 < ((N7 : Nat) : Int) ∧ ∃ b20 o21 : Nat, (A7 : Option Addr) = some ⟨b20, o21, none⟩ ∧
  ∃ A22 : Option Addr, ∃ N22 : Nat, ∃ C22 : Nat, w17.cell? ⟨b20, o21 + n19.toNat * 20 + 2 + 8, none⟩ = some (.slice A22 N22 C22) ∧
  ifb (decide (((N22 : Nat) : Int) > (20 : Int)))
  (R (.bool true) w17)
  (∃ c23 : Int, IntKind.wrap .i64 (n19 + (1 : Int)) = c23 ∧
  I15 c23 w17 ∧ μ16 c23 w17 < μ16 n19 w17))
  (R (.bool false) w17)
def V.dispatcherlaw17_Great_ann : Ann := .s (.no) (.s (.jn [] (.no)) (.s (.s (.no) (.b (.loop [(5, .one (.i .i64))] (.no)))) (.no)))
theorem V.dispatcherlaw17_Great_eq (n1 : Int) (n2 : Int) (t3 : Bool) (n4 : Int) (n5 : Int) (n6 : Int) (A7 : Option Addr) (N7 : Nat) (C7 : Nat) (w : World) (R : Value → World → Prop) : V.dispatcherlaw17_Great n1 n2 t3 n4 n5 n6 A7 N7 C7 w R = fnW Tryz.prog [] [.tmp 4] (bodyOf Tryz.f17) V.dispatcherlaw17_Great_ann [.agg #[.int .i64 n1, .int .i64 n2, .bool t3, .int .i64 n4, .int .i64 n5, .int .i64 n6], .slice A7 N7 C7] w R := by kernel_rfl
theorem V.dispatcherlaw17_Great_ok : okC 33 (bodyOf Tryz.f17) V.dispatcherlaw17_Great_ann = true := by kernel_rfl
theorem V.dispatcherlaw17_Great_cs : (calleesC (bodyOf Tryz.f17)).all (entersB Tryz.prog) = true := by kernel_rfl
theorem V.dispatcherlaw17_Great_calls {n1 : Int} {n2 : Int} {t3 : Bool} {n4 : Int} {n5 : Int} {n6 : Int} {A7 : Option Addr} {N7 : Nat} {C7 : Nat}  {w : World} {R : Value → World → Prop} (h : V.dispatcherlaw17_Great n1 n2 t3 n4 n5 n6 A7 N7 C7 w R) : Calls Tryz.prog 17 #[.agg #[.int .i64 n1, .int .i64 n2, .bool t3, .int .i64 n4, .int .i64 n5, .int .i64 n6], .slice A7 N7 C7] w fun e w' => ∃ v, e = .returned v ∧ R v w' :=
  fn_sound (by kernel_rfl) Tryz.func17 (by kernel_rfl) V.dispatcherlaw17_Great_ok (enters_all V.dispatcherlaw17_Great_cs) (by kernel_rfl) ((V.dispatcherlaw17_Great_eq n1 n2 t3 n4 n5 n6 A7 N7 C7 w R).mp h)

def V.core_Core_Picks (p1 : Option Addr) (n2 : Int) (w : World) (R : Value → World → Prop) : Prop :=
  Calls Tryz.prog 64 #[.pointer p1, .int .i64 n2] w fun e w3 => ∃ p4 : Option Addr, e = .returned (.pointer p4) ∧
  ifb p4.isNone
  (R (.slice none 0 0) w3)
  (nilC p1 fun b5 o5 =>
  ∃ p6 : Option Addr, w3.cell? ⟨b5, o5 + 8, none⟩ = some (.pointer p6) ∧
  Calls Tryz.prog 65 #[.pointer p6, .int .i64 n2] w3 fun e w7 => ∃ A8 : Option Addr, ∃ N8 : Nat, ∃ C8 : Nat, e = .returned (.slice A8 N8 C8) ∧
  ∃ (I9 : Option Addr → Nat → Nat → Int → World → Prop) (μ10 : Option Addr → Nat → Nat → Int → World → Nat),
  I9 none 0 0 (0 : Int) w7 ∧
  ∀ A13 : Option Addr, ∀ N13 : Nat, ∀ C13 : Nat, ∀ n14 : Int, ∀ (jk12 : Env) (w11 : World), I9 A13 N13 C13 n14 w11 →
  ifb (decide (n14 < ((N8 : Nat) : Int)))
  (0 ≤ n14 ∧ n14 < ((N8 : Nat) : Int) ∧ ∃ b15 o16 : Nat, (A8 : Option Addr) = some ⟨b15, o16, none⟩ ∧
  ∃ s17 : ByteArray, ∃ n18 : Int, ∃ n19 : Int, ∃ n20 : Int, ∃ n21 : Int, ∃ n22 : Int, ∃ t23 : Bool, ∃ n24 : Int, ∃ n25 : Int, Cells w11 ⟨b15, o16 + n14.toNat * 9, none⟩ [.string s17, .int .i64 n18, .int .i64 n19, .int .i64 n20, .int .i64 n21, .int .i64 n22, .bool t23, .int .i64 n24, .int .i64 n25] ∧
  ∀ (b26 : Nat) (w27 : World), New w11 w27 b26 [.string emptyS, .int .i64 0, .int .i64 0, .int .i64 0, .int .i64 0, .int .i64 0, .bool false, .int .i64 0, .int .i64 0] 154 →
  ∃ (l28 : List Value) (e29 : TypeId), Blk w27 b26 l28 e29 ∧ 0 + 9 ≤ l28.length ∧ ∀ w30 : World, Upd w27 w30 b26 (setSeg l28 0 [.string s17, .int .i64 n18, .int .i64 n19, .int .i64 n20, .int .i64 n21, .int .i64 n22, .bool t23, .int .i64 n24, .int .i64 n25]) e29 →
  nilC p1 fun b31 o31 =>
  ∃ p32 : Option Addr, w30.drew.cell? ⟨b31, o31 + 8, none⟩ = some (.pointer p32) ∧
  nilC p1 fun b33 o33 =>
  ∃ p34 : Option Addr, w30.drew.cell? ⟨b33, o33 + 7, none⟩ = some (.pointer p34) ∧
  ∃ n35 : Int, w30.drew.cell? ⟨b26, 2, none⟩ = some (.int .i64 n35) ∧
  Calls Tryz.prog 66 #[.pointer p32, .pointer p34, .int .i64 n2, .int .i64 n35] w30.drew fun e w36 => ∃ A37 : Option Addr, ∃ N37 : Nat, ∃ C37 : Nat, e = .returned (.slice A37 N37 C37) ∧
  ∃ (I38 : Option Addr → Nat → Nat → Int → World → Prop) (μ39 : Option Addr → Nat → Nat → Int → World → Nat),
  I38 A13 N13 C13 (0 : Int) w36 ∧
  ∀ A42 : Option Addr, ∀ N42 : Nat, ∀ C42 : Nat, ∀ n43 : Int, ∀ (jk41 : Env) (w40 : World), I38 A42 N42 C42 n43 w40 →
  ifb (decide (n43 < ((N37 : Nat) : Int)))
  (0 ≤ n43 ∧ n43 < ((N37 : Nat) : Int) ∧ ∃ b44 o45 : Nat, (A37 : Option Addr) = some ⟨b44, o45, none⟩ ∧
  ∃ s46 : ByteArray, ∃ n47 : Int, ∃ n48 : Int, ∃ n49 : Int, ∃ n50 : Int, ∃ n51 : Int, ∃ n52 : Int, ∃ t53 : Bool, Cells w40 ⟨b44, o45 + n43.toNat * 8, none⟩ [.string s46, .int .i64 n47, .int .i64 n48, .int .i64 n49, .int .i64 n50, .int .i64 n51, .int .i64 n52, .bool t53] ∧
  ∀ (b54 : Nat) (w55 : World), New w40 w55 b54 [.string emptyS, .int .i64 0, .int .i64 0, .int .i64 0, .int .i64 0, .int .i64 0, .int .i64 0, .bool false] 157 →
  ∃ (l56 : List Value) (e57 : TypeId), Blk w55 b54 l56 e57 ∧ 0 + 8 ≤ l56.length ∧ ∀ w58 : World, Upd w55 w58 b54 (setSeg l56 0 [.string s46, .int .i64 n47, .int .i64 n48, .int .i64 n49, .int .i64 n50, .int .i64 n51, .int .i64 n52, .bool t53]) e57 →
  ∃ n59 : Int, w58.cell? ⟨b26, 2, none⟩ = some (.int .i64 n59) ∧
  ∃ n60 : Int, w58.cell? ⟨b54, 1, none⟩ = some (.int .i64 n60) ∧
  ∃ n61 : Int, w58.cell? ⟨b54, 3, none⟩ = some (.int .i64 n61) ∧
  ∀ (b62 : Nat) (w63 : World), New w58 w63 b62 [.int .u8 2, .int .i64 n2, .int .i64 n59, .int .i64 n60, .int .i64 n61, .int .i64 0] 65 →
  ∃ xs64 news65 : List Value, w63.ownsRow 0 65 6 (.slice A42 N42 C42) N42 xs64 ∧ Reads w63 (some ⟨b62, 0, none⟩) 1 6 news65 ∧ N42 + 1 ≤ maxLen ∧ (N42 + 1) * 48 ≤ 140737488355328 ∧
  ∀ (A67 : Option Addr) (C67 : Nat) (w66 : World), w66.ownsRow 0 65 6 (.slice A67 (N42 + 1) C67) (N42 + 1) (xs64 ++ news65) → App w63 w66 A42 A67 →
  ∃ c68 : Int, IntKind.wrap .i64 (n43 + (1 : Int)) = c68 ∧
  I38 A67 (N42 + 1) C67 c68 w66 ∧ μ39 A67 (N42 + 1) C67 c68 w66 < μ39 A42 N42 C42 n43 w40)
  (∃ c69 : Int, IntKind.wrap .i64 (n14 + (1 : Int)) = c69 ∧
  I9 A42 N42 C42 c69 w40 ∧ μ10 A42 N42 C42 c69 w40 < μ10 A13 N13 C13 n14 w11))
  (∃ J70 : Bool → World → Prop,
  (nilC p4 fun b73 o73 =>
  ∃ t74 : Bool, w11.cell? ⟨b73, o73 + 3, none⟩ = some (.bool t74) ∧
  ifb t74
  (nilC p4 fun b75 o75 =>
  ∃ p76 : Option Addr, w11.cell? ⟨b75, o75 + 4, none⟩ = some (.pointer p76) ∧
  J70 p76.isNone w11)
  (J70 false w11)) ∧
  ∀ t77 : Bool, ∀ (jk72 : Env) (w71 : World), J70 t77 w71 →
  ifb t77
  (Calls Tryz.prog 67 #[.pointer p1, .int .i64 n2, .pointer p4] w71 fun e w78 => ∃ A79 : Option Addr, ∃ N79 : Nat, ∃ C79 : Nat, e = .returned (.slice A79 N79 C79) ∧
  ∃ (I80 : Option Addr → Nat → Nat → Int → World → Prop) (μ81 : Option Addr → Nat → Nat → Int → World → Nat),
  I80 A13 N13 C13 (0 : Int) w78 ∧
  ∀ A84 : Option Addr, ∀ N84 : Nat, ∀ C84 : Nat, ∀ n85 : Int, ∀ (jk83 : Env) (w82 : World), I80 A84 N84 C84 n85 w82 →
  ifb (decide (n85 < ((N79 : Nat) : Int)))
  (0 ≤ n85 ∧ n85 < ((N79 : Nat) : Int) ∧ ∃ b86 o87 : Nat, (A79 : Option Addr) = some ⟨b86, o87, none⟩ ∧
  ∃ n88 : Int, ∃ n89 : Int, ∃ n90 : Int, Cells w82 ⟨b86, o87 + n85.toNat * 3, none⟩ [.int .i64 n88, .int .i64 n89, .int .i64 n90] ∧
  ∀ (b91 : Nat) (w92 : World), New w82 w92 b91 [.int .i64 0, .int .i64 0, .int .i64 0] 161 →
  ∃ (l93 : List Value) (e94 : TypeId), Blk w92 b91 l93 e94 ∧ 0 + 3 ≤ l93.length ∧ ∀ w95 : World, Upd w92 w95 b91 (setSeg l93 0 [.int .i64 n88, .int .i64 n89, .int .i64 n90]) e94 →
  nilC p4 fun b96 o96 =>
  ∃ A97 : Option Addr, ∃ N97 : Nat, ∃ C97 : Nat, w95.drew.cell? ⟨b96, o96 + 2, none⟩ = some (.slice A97 N97 C97) ∧
  ∃ c98 : Int, IntKind.wrap .i64 (((N97 : Nat) : Int) - (1 : Int)) = c98 ∧
  ∃ n99 : Int, w95.drew.cell? ⟨b91, 1, none⟩ = some (.int .i64 n99) ∧
  ∃ n100 : Int, w95.drew.cell? ⟨b91, 2, none⟩ = some (.int .i64 n100) ∧
  ∃ n101 : Int, w95.drew.cell? ⟨b91, 0, none⟩ = some (.int .i64 n101) ∧
  ∀ (b102 : Nat) (w103 : World), New w95.drew w103 b102 [.int .u8 3, .int .i64 n2, .int .i64 c98, .int .i64 n99, .int .i64 n100, .int .i64 n101] 65 →
  ∃ xs104 news105 : List Value, w103.ownsRow 0 65 6 (.slice A84 N84 C84) N84 xs104 ∧ Reads w103 (some ⟨b102, 0, none⟩) 1 6 news105 ∧ N84 + 1 ≤ maxLen ∧ (N84 + 1) * 48 ≤ 140737488355328 ∧
  ∀ (A107 : Option Addr) (C107 : Nat) (w106 : World), w106.ownsRow 0 65 6 (.slice A107 (N84 + 1) C107) (N84 + 1) (xs104 ++ news105) → App w103 w106 A84 A107 →
  ∃ c108 : Int, IntKind.wrap .i64 (n85 + (1 : Int)) = c108 ∧
  I80 A107 (N84 + 1) C107 c108 w106 ∧ μ81 A107 (N84 + 1) C107 c108 w106 < μ81 A84 N84 C84 n85 w82)
  (R (.slice A84 N84 C84) w82))
  (R (.slice A13 N13 C13) w71)))
def V.core_Core_Picks_ann : Ann := .s (.no) (.s (.no) (.s (.no) (.s (.no) (.s (.s (.no) (.b (.loop [(6, .one .sl), (25, .one (.i .i64))] (.s (.no) (.s (.no) (.s (.b (.s (.no) (.s (.draw (.r 0 (.r 1 (.r 2 (.r 3 (.r 4 (.r 5 (.r 6 (.r 7 (.r 8 (.r 9 (.r 10 (.r 13 (.e 11 [3, 7, 10] (.r 12 (.done))))))))))))))) [(11, 3), (11, 7), (11, 10)]) (.b (.loop [(6, .one .sl), (42, .one (.i .i64))] (.no)))))) (.no))))))) (.s (.s (.jn [(69, .one .b)] (.no)) (.s (.s (.no) (.b (.loop [(6, .one .sl), (75, .one (.i .i64))] (.s (.no) (.s (.no) (.s (.b (.s (.no) (.draw (.r 0 (.r 1 (.r 2 (.r 3 (.r 4 (.r 5 (.r 6 (.r 7 (.r 8 (.r 9 (.r 10 (.r 11 (.r 12 (.r 13 (.r 14 (.e 15 [5, 9, 11, 13] (.e 16 [5, 9, 11, 13] (.e 17 [5, 9, 11, 13] (.done))))))))))))))))))) [(6, 5), (7, 5), (14, 5), (14, 9), (14, 11), (14, 13), (15, 5), (15, 9), (15, 11), (15, 13), (16, 5), (16, 9), (16, 11), (16, 13), (17, 5), (17, 9), (17, 11), (17, 13)]))) (.no))))))) (.no))) (.no))))))
theorem V.core_Core_Picks_eq (p1 : Option Addr) (n2 : Int) (w : World) (R : Value → World → Prop) : V.core_Core_Picks p1 n2 w R = fnW Tryz.prog [] [.tmp 4] (bodyOf Tryz.f19) V.core_Core_Picks_ann [.pointer p1, .int .i64 n2] w R := by kernel_rfl
theorem V.core_Core_Picks_ok : okC 98 (bodyOf Tryz.f19) V.core_Core_Picks_ann = true := by kernel_rfl
theorem V.core_Core_Picks_cs : (calleesC (bodyOf Tryz.f19)).all (entersB Tryz.prog) = true := by kernel_rfl
theorem V.core_Core_Picks_calls {p1 : Option Addr} {n2 : Int}  {w : World} {R : Value → World → Prop} (h : V.core_Core_Picks p1 n2 w R) : Calls Tryz.prog 19 #[.pointer p1, .int .i64 n2] w fun e w' => ∃ v, e = .returned v ∧ R v w' :=
  fn_sound (by kernel_rfl) Tryz.func19 (by kernel_rfl) V.core_Core_Picks_ok (enters_all V.core_Core_Picks_cs) (by kernel_rfl) ((V.core_Core_Picks_eq p1 n2 w R).mp h)

def V.core_Core_Over (p1 : Option Addr) (n2 : Int) (w : World) (R : Value → World → Prop) : Prop :=
  Calls Tryz.prog 64 #[.pointer p1, .int .i64 n2] w fun e w3 => ∃ p4 : Option Addr, e = .returned (.pointer p4) ∧
  ifb (!p4.isNone)
  (nilC p4 fun b5 o5 =>
  ∃ t6 : Bool, w3.cell? ⟨b5, o5 + 3, none⟩ = some (.bool t6) ∧
  ifb t6
  (Calls Tryz.prog 68 #[.pointer p1, .int .i64 n2, .pointer p4] w3 fun e w7 => ∃ t8 : Bool, e = .returned (.bool t8) ∧
  R (.bool t8) w7)
  (R (.bool false) w3))
  (R (.bool false) w3)
def V.core_Core_Over_ann : Ann := .no
theorem V.core_Core_Over_eq (p1 : Option Addr) (n2 : Int) (w : World) (R : Value → World → Prop) : V.core_Core_Over p1 n2 w R = fnW Tryz.prog [] [.tmp 4] (bodyOf Tryz.f20) V.core_Core_Over_ann [.pointer p1, .int .i64 n2] w R := by kernel_rfl
theorem V.core_Core_Over_ok : okC 23 (bodyOf Tryz.f20) V.core_Core_Over_ann = true := by kernel_rfl
theorem V.core_Core_Over_cs : (calleesC (bodyOf Tryz.f20)).all (entersB Tryz.prog) = true := by kernel_rfl
theorem V.core_Core_Over_calls {p1 : Option Addr} {n2 : Int}  {w : World} {R : Value → World → Prop} (h : V.core_Core_Over p1 n2 w R) : Calls Tryz.prog 20 #[.pointer p1, .int .i64 n2] w fun e w' => ∃ v, e = .returned v ∧ R v w' :=
  fn_sound (by kernel_rfl) Tryz.func20 (by kernel_rfl) V.core_Core_Over_ok (enters_all V.core_Core_Over_cs) (by kernel_rfl) ((V.core_Core_Over_eq p1 n2 w R).mp h)

def V.core_Core_Do (p1 : Option Addr) (n2 : Int) (n3 : Int) (n4 : Int) (n5 : Int) (n6 : Int) (n7 : Int) (w : World) (R : Value → World → Prop) : Prop :=
  ∀ (b8 : Nat) (w9 : World), New w w9 b8 [.int .u8 n2, .int .i64 n3, .int .i64 n4, .int .i64 n5, .int .i64 n6, .int .i64 n7] 65 →
  ifb p1.isNone
  (R (.int .i64 1) w9)
  (nilC p1 fun b10 o10 =>
  ∃ A11 : Option Addr, ∃ N11 : Nat, ∃ C11 : Nat, w9.cell? ⟨b10, o10 + 6, none⟩ = some (.slice A11 N11 C11) ∧
  ifb (((N11 : Nat) : Int) == (0 : Int))
  (R (.int .i64 1) w9)
  (∃ n12 : Int, w9.drew.cell? ⟨b8, 1, none⟩ = some (.int .i64 n12) ∧
  ∃ n13 : Int, ∃ n14 : Int, ∃ n15 : Int, ∃ n16 : Int, ∃ n17 : Int, ∃ n18 : Int, Cells w9.drew ⟨b8, 0, none⟩ [.int .u8 n13, .int .i64 n14, .int .i64 n15, .int .i64 n16, .int .i64 n17, .int .i64 n18] ∧
  Calls Tryz.prog 19 #[.pointer p1, .int .i64 n12] w9.drew fun e w19 => ∃ A20 : Option Addr, ∃ N20 : Nat, ∃ C20 : Nat, e = .returned (.slice A20 N20 C20) ∧
  (Cells w19 ⟨b8, 0, none⟩ [.int .u8 n13, .int .i64 n14, .int .i64 n15, .int .i64 n16, .int .i64 n17, .int .i64 n18]) ∧ Calls Tryz.prog 69 #[.slice A20 N20 C20, .agg #[.int .u8 n13, .int .i64 n14, .int .i64 n15, .int .i64 n16, .int .i64 n17, .int .i64 n18]] w19 fun e w21 => ∃ t22 : Bool, e = .returned (.bool t22) ∧
  ifb (!t22)
  (R (.int .i64 200) w21)
  (∃ n23 : Int, w21.cell? ⟨b8, 0, none⟩ = some (.int .u8 n23) ∧
  ifb (n23 == (2 : Int))
  (∃ n24 : Int, ∃ n25 : Int, ∃ n26 : Int, ∃ n27 : Int, ∃ n28 : Int, ∃ n29 : Int, Cells w21 ⟨b8, 0, none⟩ [.int .u8 n24, .int .i64 n25, .int .i64 n26, .int .i64 n27, .int .i64 n28, .int .i64 n29] ∧
  Calls Tryz.prog 70 #[.pointer p1, .agg #[.int .u8 n24, .int .i64 n25, .int .i64 n26, .int .i64 n27, .int .i64 n28, .int .i64 n29]] w21 fun e w30 => e = .returned (.tuple #[]) ∧
  R (.int .i64 0) w30)
  (nilC p1 fun b31 o31 =>
  ∃ A32 : Option Addr, ∃ N32 : Nat, ∃ C32 : Nat, w21.drew.cell? ⟨b31, o31 + 6, none⟩ = some (.slice A32 N32 C32) ∧
  ∃ n33 : Int, w21.drew.cell? ⟨b8, 1, none⟩ = some (.int .i64 n33) ∧
  0 ≤ n33 ∧ n33 < ((N32 : Nat) : Int) ∧ ∃ b34 o35 : Nat, (A32 : Option Addr) = some ⟨b34, o35, none⟩ ∧
  ∃ p36 : Option Addr, w21.drew.cell? ⟨b34, o35 + n33.toNat * 1, none⟩ = some (.pointer p36) ∧
  ∃ n37 : Int, w21.drew.cell? ⟨b8, 5, none⟩ = some (.int .i64 n37) ∧
  ∃ n38 : Int, w21.drew.cell? ⟨b8, 3, none⟩ = some (.int .i64 n38) ∧
  ∃ n39 : Int, w21.drew.cell? ⟨b8, 4, none⟩ = some (.int .i64 n39) ∧
  ∀ (b40 : Nat) (w41 : World), New w21.drew w41 b40 [.int .i64 n37, .int .i64 n38, .int .i64 n39] 161 →
  nilC p36 fun b42 o42 =>
  ∃ (l43 : List Value) (e44 : TypeId), Blk w41 b42 l43 e44 ∧ o42 + 4 + 1 ≤ l43.length ∧ ∀ w45 : World, Upd w41 w45 b42 (l43.set (o42 + 4) (.pointer (some ⟨b40, 0, none⟩))) e44 →
  ∃ n46 : Int, w45.cell? ⟨b8, 5, none⟩ = some (.int .i64 n46) ∧
  ifb (decide (n46 < (0 : Int)))
  (nilC p36 fun b47 o47 =>
  ∃ n48 : Int, w45.cell? ⟨b47, o47 + 5, none⟩ = some (.int .i64 n48) ∧
  ∃ c49 : Int, IntKind.wrap .i64 (n48 + (1 : Int)) = c49 ∧
  nilC p36 fun b50 o50 =>
  ∃ (l51 : List Value) (e52 : TypeId), Blk w45 b50 l51 e52 ∧ o50 + 5 + 1 ≤ l51.length ∧ ∀ w53 : World, Upd w45 w53 b50 (l51.set (o50 + 5) (.int .i64 c49)) e52 →
  R (.int .i64 0) w53)
  (R (.int .i64 0) w45)))))
def V.core_Core_Do_ann : Ann := .s (.no) (.s (.no) (.s (.s (.draw (.r 0 (.r 1 (.r 2 (.r 4 (.e 3 [2] (.e 5 [2, 4] (.r 6 (.done)))))))) [(3, 2), (5, 2), (5, 4)]) (.no)) (.s (.no) (.s (.draw (.r 0 (.r 1 (.r 2 (.r 3 (.r 4 (.r 5 (.r 6 (.r 7 (.e 8 [3, 5, 7] (.done)))))))))) [(8, 3), (8, 5), (8, 7)]) (.no)))))
theorem V.core_Core_Do_eq (p1 : Option Addr) (n2 : Int) (n3 : Int) (n4 : Int) (n5 : Int) (n6 : Int) (n7 : Int) (w : World) (R : Value → World → Prop) : V.core_Core_Do p1 n2 n3 n4 n5 n6 n7 w R = fnW Tryz.prog [] [.tmp 4] (bodyOf Tryz.f22) V.core_Core_Do_ann [.pointer p1, .agg #[.int .u8 n2, .int .i64 n3, .int .i64 n4, .int .i64 n5, .int .i64 n6, .int .i64 n7]] w R := by kernel_rfl
theorem V.core_Core_Do_ok : okC 58 (bodyOf Tryz.f22) V.core_Core_Do_ann = true := by kernel_rfl
theorem V.core_Core_Do_cs : (calleesC (bodyOf Tryz.f22)).all (entersB Tryz.prog) = true := by kernel_rfl
theorem V.core_Core_Do_calls {p1 : Option Addr} {n2 : Int} {n3 : Int} {n4 : Int} {n5 : Int} {n6 : Int} {n7 : Int}  {w : World} {R : Value → World → Prop} (h : V.core_Core_Do p1 n2 n3 n4 n5 n6 n7 w R) : Calls Tryz.prog 22 #[.pointer p1, .agg #[.int .u8 n2, .int .i64 n3, .int .i64 n4, .int .i64 n5, .int .i64 n6, .int .i64 n7]] w fun e w' => ∃ v, e = .returned v ∧ R v w' :=
  fn_sound (by kernel_rfl) Tryz.func22 (by kernel_rfl) V.core_Core_Do_ok (enters_all V.core_Core_Do_cs) (by kernel_rfl) ((V.core_Core_Do_eq p1 n2 n3 n4 n5 n6 n7 w R).mp h)

def V.core_Core_Call (p1 : Option Addr) (n2 : Int) (n3 : Int) (w : World) (R : Value → World → Prop) : Prop :=
  ∀ (b4 : Nat) (w5 : World), New w w5 b4 [.int .u8 0, .int .i64 0, .int .i64 0, .int .i64 0, .int .i64 0, .int .i64 0, .int .i64 0, .int .u8 0, .slice none 0 0, .int .i64 0, .int .i64 0] 46 →
  ∀ (b6 : Nat) (w7 : World), New w5 w7 b6 [.bool false, .int .i64 0, .int .i64 0, .int .i64 0, .int .i64 0, .int .i64 0, .int .i64 0, .slice none 0 0] 31 →
  Calls Tryz.prog 64 #[.pointer p1, .int .i64 n2] w7 fun e w8 => ∃ p9 : Option Addr, e = .returned (.pointer p9) ∧
  ifb p9.isNone
  (∃ (l10 : List Value) (e11 : TypeId), Blk w8 b4 l10 e11 ∧ 0 + 11 ≤ l10.length ∧ ∀ w12 : World, Upd w8 w12 b4 (setSeg l10 0 [.int .u8 0, .int .i64 0, .int .i64 0, .int .i64 0, .int .i64 0, .int .i64 0, .int .i64 0, .int .u8 0, .slice none 0 0, .int .i64 0, .int .i64 0]) e11 →
  ∃ (l13 : List Value) (e14 : TypeId), Blk w12 b6 l13 e14 ∧ 0 + 8 ≤ l13.length ∧ ∀ w15 : World, Upd w12 w15 b6 (setSeg l13 0 [.bool false, .int .i64 0, .int .i64 0, .int .i64 0, .int .i64 0, .int .i64 0, .int .i64 0, .slice none 0 0]) e14 →
  ∃ n16 : Int, ∃ n17 : Int, ∃ n18 : Int, ∃ n19 : Int, ∃ n20 : Int, ∃ n21 : Int, ∃ n22 : Int, ∃ n23 : Int, ∃ A24 : Option Addr, ∃ N24 : Nat, ∃ C24 : Nat, ∃ n25 : Int, ∃ n26 : Int, Cells w15 ⟨b4, 0, none⟩ [.int .u8 n16, .int .i64 n17, .int .i64 n18, .int .i64 n19, .int .i64 n20, .int .i64 n21, .int .i64 n22, .int .u8 n23, .slice A24 N24 C24, .int .i64 n25, .int .i64 n26] ∧ ∃ t27 : Bool, ∃ n28 : Int, ∃ n29 : Int, ∃ n30 : Int, ∃ n31 : Int, ∃ n32 : Int, ∃ n33 : Int, ∃ A34 : Option Addr, ∃ N34 : Nat, ∃ C34 : Nat, Cells w15 ⟨b6, 0, none⟩ [.bool t27, .int .i64 n28, .int .i64 n29, .int .i64 n30, .int .i64 n31, .int .i64 n32, .int .i64 n33, .slice A34 N34 C34] ∧ R (.tuple #[.agg #[.int .u8 n16, .int .i64 n17, .int .i64 n18, .int .i64 n19, .int .i64 n20, .int .i64 n21, .int .i64 n22, .int .u8 n23, .slice A24 N24 C24, .int .i64 n25, .int .i64 n26], .agg #[.bool t27, .int .i64 n28, .int .i64 n29, .int .i64 n30, .int .i64 n31, .int .i64 n32, .int .i64 n33, .slice A34 N34 C34], .bool false]) w15)
  (nilC p9 fun b35 o35 =>
  ∃ A36 : Option Addr, ∃ N36 : Nat, ∃ C36 : Nat, w8.cell? ⟨b35, o35 + 2, none⟩ = some (.slice A36 N36 C36) ∧
  ∃ c37 : Int, IntKind.wrap .i64 (((N36 : Nat) : Int) - (1 : Int)) = c37 ∧
  Calls Tryz.prog 58 #[.int .i64 n3, .int .i64 0, .int .i64 c37] w8 fun e w38 => ∃ t39 : Bool, e = .returned (.bool t39) ∧
  ifb (!t39)
  (∃ (l40 : List Value) (e41 : TypeId), Blk w38 b4 l40 e41 ∧ 0 + 11 ≤ l40.length ∧ ∀ w42 : World, Upd w38 w42 b4 (setSeg l40 0 [.int .u8 0, .int .i64 0, .int .i64 0, .int .i64 0, .int .i64 0, .int .i64 0, .int .i64 0, .int .u8 0, .slice none 0 0, .int .i64 0, .int .i64 0]) e41 →
  ∃ (l43 : List Value) (e44 : TypeId), Blk w42 b6 l43 e44 ∧ 0 + 8 ≤ l43.length ∧ ∀ w45 : World, Upd w42 w45 b6 (setSeg l43 0 [.bool false, .int .i64 0, .int .i64 0, .int .i64 0, .int .i64 0, .int .i64 0, .int .i64 0, .slice none 0 0]) e44 →
  ∃ n46 : Int, ∃ n47 : Int, ∃ n48 : Int, ∃ n49 : Int, ∃ n50 : Int, ∃ n51 : Int, ∃ n52 : Int, ∃ n53 : Int, ∃ A54 : Option Addr, ∃ N54 : Nat, ∃ C54 : Nat, ∃ n55 : Int, ∃ n56 : Int, Cells w45 ⟨b4, 0, none⟩ [.int .u8 n46, .int .i64 n47, .int .i64 n48, .int .i64 n49, .int .i64 n50, .int .i64 n51, .int .i64 n52, .int .u8 n53, .slice A54 N54 C54, .int .i64 n55, .int .i64 n56] ∧ ∃ t57 : Bool, ∃ n58 : Int, ∃ n59 : Int, ∃ n60 : Int, ∃ n61 : Int, ∃ n62 : Int, ∃ n63 : Int, ∃ A64 : Option Addr, ∃ N64 : Nat, ∃ C64 : Nat, Cells w45 ⟨b6, 0, none⟩ [.bool t57, .int .i64 n58, .int .i64 n59, .int .i64 n60, .int .i64 n61, .int .i64 n62, .int .i64 n63, .slice A64 N64 C64] ∧ R (.tuple #[.agg #[.int .u8 n46, .int .i64 n47, .int .i64 n48, .int .i64 n49, .int .i64 n50, .int .i64 n51, .int .i64 n52, .int .u8 n53, .slice A54 N54 C54, .int .i64 n55, .int .i64 n56], .agg #[.bool t57, .int .i64 n58, .int .i64 n59, .int .i64 n60, .int .i64 n61, .int .i64 n62, .int .i64 n63, .slice A64 N64 C64], .bool false]) w45)
  (nilC p9 fun b65 o65 =>
  ∃ A66 : Option Addr, ∃ N66 : Nat, ∃ C66 : Nat, w38.drew.cell? ⟨b65, o65 + 2, none⟩ = some (.slice A66 N66 C66) ∧
  0 ≤ n3 ∧ n3 < ((N66 : Nat) : Int) ∧ ∃ b67 o68 : Nat, (A66 : Option Addr) = some ⟨b67, o68, none⟩ ∧
  ∃ n69 : Int, ∃ n70 : Int, ∃ n71 : Int, ∃ n72 : Int, ∃ n73 : Int, ∃ n74 : Int, ∃ n75 : Int, ∃ n76 : Int, ∃ A77 : Option Addr, ∃ N77 : Nat, ∃ C77 : Nat, ∃ n78 : Int, ∃ n79 : Int, Cells w38.drew ⟨b67, o68 + n3.toNat * 22, none⟩ [.int .u8 n69, .int .i64 n70, .int .i64 n71, .int .i64 n72, .int .i64 n73, .int .i64 n74, .int .i64 n75, .int .u8 n76, .slice A77 N77 C77, .int .i64 n78, .int .i64 n79] ∧
  nilC p9 fun b80 o80 =>
  ∃ A81 : Option Addr, ∃ N81 : Nat, ∃ C81 : Nat, w38.drew.cell? ⟨b80, o80 + 2, none⟩ = some (.slice A81 N81 C81) ∧
  0 ≤ n3 ∧ n3 < ((N81 : Nat) : Int) ∧ ∃ b82 o83 : Nat, (A81 : Option Addr) = some ⟨b82, o83, none⟩ ∧
  ∃ t84 : Bool, ∃ n85 : Int, ∃ n86 : Int, ∃ n87 : Int, ∃ n88 : Int, ∃ n89 : Int, ∃ n90 : Int, ∃ A91 : Option Addr, ∃ N91 : Nat, ∃ C91 : Nat, Cells w38.drew ⟨b82, o83 + n3.toNat * 22 + 11, none⟩ [.bool t84, .int .i64 n85, .int .i64 n86, .int .i64 n87, .int .i64 n88, .int .i64 n89, .int .i64 n90, .slice A91 N91 C91] ∧
  Calls Tryz.prog 71 #[.agg #[.int .u8 n69, .int .i64 n70, .int .i64 n71, .int .i64 n72, .int .i64 n73, .int .i64 n74, .int .i64 n75, .int .u8 n76, .slice A77 N77 C77, .int .i64 n78, .int .i64 n79]] w38.drew fun e w92 => ∃ n93 : Int, ∃ n94 : Int, ∃ n95 : Int, ∃ n96 : Int, ∃ n97 : Int, ∃ n98 : Int, ∃ n99 : Int, ∃ n100 : Int, ∃ A101 : Option Addr, ∃ N101 : Nat, ∃ C101 : Nat, ∃ n102 : Int, ∃ n103 : Int, e = .returned (.agg #[.int .u8 n93, .int .i64 n94, .int .i64 n95, .int .i64 n96, .int .i64 n97, .int .i64 n98, .int .i64 n99, .int .u8 n100, .slice A101 N101 C101, .int .i64 n102, .int .i64 n103]) ∧
  (Cells w92 ⟨b82, o83 + n3.toNat * 22 + 11, none⟩ [.bool t84, .int .i64 n85, .int .i64 n86, .int .i64 n87, .int .i64 n88, .int .i64 n89, .int .i64 n90, .slice A91 N91 C91]) ∧ (w92.cell? ⟨b80, o80 + 2, none⟩ = some (.slice A81 N81 C81)) ∧ Calls Tryz.prog 72 #[.agg #[.bool t84, .int .i64 n85, .int .i64 n86, .int .i64 n87, .int .i64 n88, .int .i64 n89, .int .i64 n90, .slice A91 N91 C91]] w92 fun e w104 => ∃ t105 : Bool, ∃ n106 : Int, ∃ n107 : Int, ∃ n108 : Int, ∃ n109 : Int, ∃ n110 : Int, ∃ n111 : Int, ∃ A112 : Option Addr, ∃ N112 : Nat, ∃ C112 : Nat, e = .returned (.agg #[.bool t105, .int .i64 n106, .int .i64 n107, .int .i64 n108, .int .i64 n109, .int .i64 n110, .int .i64 n111, .slice A112 N112 C112]) ∧
  ∃ (l113 : List Value) (e114 : TypeId), Blk w104 b4 l113 e114 ∧ 0 + 11 ≤ l113.length ∧ ∀ w115 : World, Upd w104 w115 b4 (setSeg l113 0 [.int .u8 n93, .int .i64 n94, .int .i64 n95, .int .i64 n96, .int .i64 n97, .int .i64 n98, .int .i64 n99, .int .u8 n100, .slice A101 N101 C101, .int .i64 n102, .int .i64 n103]) e114 →
  ∃ (l116 : List Value) (e117 : TypeId), Blk w115 b6 l116 e117 ∧ 0 + 8 ≤ l116.length ∧ ∀ w118 : World, Upd w115 w118 b6 (setSeg l116 0 [.bool t105, .int .i64 n106, .int .i64 n107, .int .i64 n108, .int .i64 n109, .int .i64 n110, .int .i64 n111, .slice A112 N112 C112]) e117 →
  ∃ n119 : Int, ∃ n120 : Int, ∃ n121 : Int, ∃ n122 : Int, ∃ n123 : Int, ∃ n124 : Int, ∃ n125 : Int, ∃ n126 : Int, ∃ A127 : Option Addr, ∃ N127 : Nat, ∃ C127 : Nat, ∃ n128 : Int, ∃ n129 : Int, Cells w118 ⟨b4, 0, none⟩ [.int .u8 n119, .int .i64 n120, .int .i64 n121, .int .i64 n122, .int .i64 n123, .int .i64 n124, .int .i64 n125, .int .u8 n126, .slice A127 N127 C127, .int .i64 n128, .int .i64 n129] ∧ ∃ t130 : Bool, ∃ n131 : Int, ∃ n132 : Int, ∃ n133 : Int, ∃ n134 : Int, ∃ n135 : Int, ∃ n136 : Int, ∃ A137 : Option Addr, ∃ N137 : Nat, ∃ C137 : Nat, Cells w118 ⟨b6, 0, none⟩ [.bool t130, .int .i64 n131, .int .i64 n132, .int .i64 n133, .int .i64 n134, .int .i64 n135, .int .i64 n136, .slice A137 N137 C137] ∧ R (.tuple #[.agg #[.int .u8 n119, .int .i64 n120, .int .i64 n121, .int .i64 n122, .int .i64 n123, .int .i64 n124, .int .i64 n125, .int .u8 n126, .slice A127 N127 C127, .int .i64 n128, .int .i64 n129], .agg #[.bool t130, .int .i64 n131, .int .i64 n132, .int .i64 n133, .int .i64 n134, .int .i64 n135, .int .i64 n136, .slice A137 N137 C137], .bool true]) w118))
def V.core_Core_Call_ann : Ann := .s (.no) (.s (.no) (.s (.no) (.s (.draw (.r 0 (.r 1 (.r 2 (.r 3 (.r 4 (.r 5 (.r 6 (.r 7 (.r 9 (.r 10 (.r 11 (.r 12 (.r 13 (.r 14 (.r 15 (.r 16 (.e 8 [3, 7] (.e 17 [3, 7, 12, 16] (.e 18 [3, 7, 12, 16] (.e 19 [3, 7, 12, 16] (.e 20 [3, 7, 12, 16] (.done)))))))))))))))))))))) [(5, 3), (6, 3), (7, 3), (8, 3), (8, 7), (14, 12), (15, 12), (16, 12), (17, 3), (17, 7), (17, 12), (17, 16), (18, 3), (18, 7), (18, 12), (18, 16), (19, 3), (19, 7), (19, 12), (19, 16), (20, 3), (20, 7), (20, 12), (20, 16)]) (.no))))
theorem V.core_Core_Call_eq (p1 : Option Addr) (n2 : Int) (n3 : Int) (w : World) (R : Value → World → Prop) : V.core_Core_Call p1 n2 n3 w R = fnW Tryz.prog [] [.cell 6 46, .cell 7 31, .tmp 8] (bodyOf Tryz.f26) V.core_Core_Call_ann [.pointer p1, .int .i64 n2, .int .i64 n3] w R := by kernel_rfl
theorem V.core_Core_Call_ok : okC 46 (bodyOf Tryz.f26) V.core_Core_Call_ann = true := by kernel_rfl
theorem V.core_Core_Call_cs : (calleesC (bodyOf Tryz.f26)).all (entersB Tryz.prog) = true := by kernel_rfl
theorem V.core_Core_Call_calls {p1 : Option Addr} {n2 : Int} {n3 : Int}  {w : World} {R : Value → World → Prop} (h : V.core_Core_Call p1 n2 n3 w R) : Calls Tryz.prog 26 #[.pointer p1, .int .i64 n2, .int .i64 n3] w fun e w' => ∃ v, e = .returned v ∧ R v w' :=
  fn_sound (by kernel_rfl) Tryz.func26 (by kernel_rfl) V.core_Core_Call_ok (enters_all V.core_Core_Call_cs) (by kernel_rfl) ((V.core_Core_Call_eq p1 n2 n3 w R).mp h)

def V.core_Core_Calls (p1 : Option Addr) (n2 : Int) (w : World) (R : Value → World → Prop) : Prop :=
  Calls Tryz.prog 64 #[.pointer p1, .int .i64 n2] w fun e w3 => ∃ p4 : Option Addr, e = .returned (.pointer p4) ∧
  ifb (!p4.isNone)
  (nilC p4 fun b5 o5 =>
  ∃ A6 : Option Addr, ∃ N6 : Nat, ∃ C6 : Nat, w3.cell? ⟨b5, o5 + 2, none⟩ = some (.slice A6 N6 C6) ∧
  R (.int .i64 ((N6 : Nat) : Int)) w3)
  (R (.int .i64 0) w3)
def V.core_Core_Calls_ann : Ann := .no
theorem V.core_Core_Calls_eq (p1 : Option Addr) (n2 : Int) (w : World) (R : Value → World → Prop) : V.core_Core_Calls p1 n2 w R = fnW Tryz.prog [] [.tmp 4] (bodyOf Tryz.f27) V.core_Core_Calls_ann [.pointer p1, .int .i64 n2] w R := by kernel_rfl
theorem V.core_Core_Calls_ok : okC 16 (bodyOf Tryz.f27) V.core_Core_Calls_ann = true := by kernel_rfl
theorem V.core_Core_Calls_cs : (calleesC (bodyOf Tryz.f27)).all (entersB Tryz.prog) = true := by kernel_rfl
theorem V.core_Core_Calls_calls {p1 : Option Addr} {n2 : Int}  {w : World} {R : Value → World → Prop} (h : V.core_Core_Calls p1 n2 w R) : Calls Tryz.prog 27 #[.pointer p1, .int .i64 n2] w fun e w' => ∃ v, e = .returned v ∧ R v w' :=
  fn_sound (by kernel_rfl) Tryz.func27 (by kernel_rfl) V.core_Core_Calls_ok (enters_all V.core_Core_Calls_cs) (by kernel_rfl) ((V.core_Core_Calls_eq p1 n2 w R).mp h)

def V.core_Core_Messages (p1 : Option Addr) (w : World) (R : Value → World → Prop) : Prop :=
  ifb p1.isNone
  (R (.slice none 0 0) w)
  (nilC p1 fun b2 o2 =>
  ∃ p3 : Option Addr, w.cell? ⟨b2, o2 + 7, none⟩ = some (.pointer p3) ∧
  Calls Tryz.prog 73 #[.pointer p3] w fun e w4 => ∃ A5 : Option Addr, ∃ N5 : Nat, ∃ C5 : Nat, e = .returned (.slice A5 N5 C5) ∧
  R (.slice A5 N5 C5) w4)
def V.core_Core_Messages_ann : Ann := .no
theorem V.core_Core_Messages_eq (p1 : Option Addr) (w : World) (R : Value → World → Prop) : V.core_Core_Messages p1 w R = fnW Tryz.prog [] [.tmp 2] (bodyOf Tryz.f28) V.core_Core_Messages_ann [.pointer p1] w R := by kernel_rfl
theorem V.core_Core_Messages_ok : okC 10 (bodyOf Tryz.f28) V.core_Core_Messages_ann = true := by kernel_rfl
theorem V.core_Core_Messages_cs : (calleesC (bodyOf Tryz.f28)).all (entersB Tryz.prog) = true := by kernel_rfl
theorem V.core_Core_Messages_calls {p1 : Option Addr}  {w : World} {R : Value → World → Prop} (h : V.core_Core_Messages p1 w R) : Calls Tryz.prog 28 #[.pointer p1] w fun e w' => ∃ v, e = .returned v ∧ R v w' :=
  fn_sound (by kernel_rfl) Tryz.func28 (by kernel_rfl) V.core_Core_Messages_ok (enters_all V.core_Core_Messages_cs) (by kernel_rfl) ((V.core_Core_Messages_eq p1 w R).mp h)

def V.core_Core_Copy (p1 : Option Addr) (w : World) (R : Value → World → Prop) : Prop :=
  ifb p1.isNone
  (R (.pointer none) w)
  (nilC p1 fun b2 o2 =>
  ∃ n3 : Int, ∃ n4 : Int, ∃ t5 : Bool, ∃ n6 : Int, ∃ n7 : Int, ∃ n8 : Int, ∃ A9 : Option Addr, ∃ N9 : Nat, ∃ C9 : Nat, ∃ p10 : Option Addr, ∃ p11 : Option Addr, ∃ p12 : Option Addr, ∃ m13 : Option Nat, Cells w ⟨b2, o2, none⟩ [.int .i64 n3, .int .i64 n4, .bool t5, .int .i64 n6, .int .i64 n7, .int .i64 n8, .slice A9 N9 C9, .pointer p10, .pointer p11, .pointer p12, .map m13] ∧
  ∀ (b14 : Nat) (w15 : World), New w w15 b14 [.int .i64 0, .int .i64 0, .bool false, .int .i64 0, .int .i64 0, .int .i64 0, .slice none 0 0, .pointer none, .pointer none, .pointer none, .map none] 93 →
  ∃ (l16 : List Value) (e17 : TypeId), Blk w15 b14 l16 e17 ∧ 0 + 11 ≤ l16.length ∧ ∀ w18 : World, Upd w15 w18 b14 (setSeg l16 0 [.int .i64 n3, .int .i64 n4, .bool t5, .int .i64 n6, .int .i64 n7, .int .i64 n8, .slice A9 N9 C9, .pointer p10, .pointer p11, .pointer p12, .map m13]) e17 →
  ∃ J19 : World → Prop,
  (nilC p1 fun b22 o22 =>
  ∃ p23 : Option Addr, w18.drew.cell? ⟨b22, o22 + 7, none⟩ = some (.pointer p23) ∧
  nilC p1 fun b24 o24 =>
  ∃ p25 : Option Addr, w18.drew.cell? ⟨b24, o24 + 8, none⟩ = some (.pointer p25) ∧
  nilC p1 fun b26 o26 =>
  ∃ p27 : Option Addr, w18.drew.cell? ⟨b26, o26 + 9, none⟩ = some (.pointer p27) ∧
  (Calls Tryz.prog 95 #[.pointer p23] w18.drew fun e w28 => ∃ p29 : Option Addr, e = .returned (.pointer p29) ∧
  (w28.cell? ⟨b26, o26 + 9, none⟩ = some (.pointer p27)) ∧ (w28.cell? ⟨b24, o24 + 8, none⟩ = some (.pointer p25)) ∧ (Calls Tryz.prog 96 #[.pointer p25] w28 fun e w30 => ∃ p31 : Option Addr, e = .returned (.pointer p31) ∧
  (w30.cell? ⟨b26, o26 + 9, none⟩ = some (.pointer p27)) ∧ (Calls Tryz.prog 97 #[.pointer p27] w30 fun e w32 => ∃ p33 : Option Addr, e = .returned (.pointer p33) ∧
  (∀ (b34 : Nat) (w35 : World), NewM w32 w35 b34 →
  ∃ (l36 : List Value) (e37 : TypeId), Blk w35 b14 l36 e37 ∧ 7 + 1 ≤ l36.length ∧ ∀ w38 : World, Upd w35 w38 b14 (l36.set 7 (.pointer p29)) e37 →
  ∃ (l39 : List Value) (e40 : TypeId), Blk w38 b14 l39 e40 ∧ 8 + 1 ≤ l39.length ∧ ∀ w41 : World, Upd w38 w41 b14 (l39.set 8 (.pointer p31)) e40 →
  ∃ (l42 : List Value) (e43 : TypeId), Blk w41 b14 l42 e43 ∧ 9 + 1 ≤ l42.length ∧ ∀ w44 : World, Upd w41 w44 b14 (l42.set 9 (.pointer p33)) e43 →
  ∃ (l45 : List Value) (e46 : TypeId), Blk w44 b14 l45 e46 ∧ 6 + 1 ≤ l45.length ∧ ∀ w47 : World, Upd w44 w47 b14 (l45.set 6 (.slice none 0 0)) e46 →
  ∃ (l48 : List Value) (e49 : TypeId), Blk w47 b14 l48 e49 ∧ 10 + 1 ≤ l48.length ∧ ∀ w50 : World, Upd w47 w50 b14 (l48.set 10 (.map (some b34))) e49 →
  J19 w50) ∧
  ∃ (l51 : List Value) (e52 : TypeId), Blk w32 b14 l51 e52 ∧ 7 + 1 ≤ l51.length ∧ ∀ w53 : World, Upd w32 w53 b14 (l51.set 7 (.pointer p29)) e52 →
  (∀ (b54 : Nat) (w55 : World), NewM w53 w55 b54 →
  ∃ (l56 : List Value) (e57 : TypeId), Blk w55 b14 l56 e57 ∧ 8 + 1 ≤ l56.length ∧ ∀ w58 : World, Upd w55 w58 b14 (l56.set 8 (.pointer p31)) e57 →
  ∃ (l59 : List Value) (e60 : TypeId), Blk w58 b14 l59 e60 ∧ 9 + 1 ≤ l59.length ∧ ∀ w61 : World, Upd w58 w61 b14 (l59.set 9 (.pointer p33)) e60 →
  ∃ (l62 : List Value) (e63 : TypeId), Blk w61 b14 l62 e63 ∧ 6 + 1 ≤ l62.length ∧ ∀ w64 : World, Upd w61 w64 b14 (l62.set 6 (.slice none 0 0)) e63 →
  ∃ (l65 : List Value) (e66 : TypeId), Blk w64 b14 l65 e66 ∧ 10 + 1 ≤ l65.length ∧ ∀ w67 : World, Upd w64 w67 b14 (l65.set 10 (.map (some b54))) e66 →
  J19 w67) ∧
  ∃ (l68 : List Value) (e69 : TypeId), Blk w53 b14 l68 e69 ∧ 8 + 1 ≤ l68.length ∧ ∀ w70 : World, Upd w53 w70 b14 (l68.set 8 (.pointer p31)) e69 →
  (∀ (b71 : Nat) (w72 : World), NewM w70 w72 b71 →
  ∃ (l73 : List Value) (e74 : TypeId), Blk w72 b14 l73 e74 ∧ 9 + 1 ≤ l73.length ∧ ∀ w75 : World, Upd w72 w75 b14 (l73.set 9 (.pointer p33)) e74 →
  ∃ (l76 : List Value) (e77 : TypeId), Blk w75 b14 l76 e77 ∧ 6 + 1 ≤ l76.length ∧ ∀ w78 : World, Upd w75 w78 b14 (l76.set 6 (.slice none 0 0)) e77 →
  ∃ (l79 : List Value) (e80 : TypeId), Blk w78 b14 l79 e80 ∧ 10 + 1 ≤ l79.length ∧ ∀ w81 : World, Upd w78 w81 b14 (l79.set 10 (.map (some b71))) e80 →
  J19 w81) ∧
  ∃ (l82 : List Value) (e83 : TypeId), Blk w70 b14 l82 e83 ∧ 9 + 1 ≤ l82.length ∧ ∀ w84 : World, Upd w70 w84 b14 (l82.set 9 (.pointer p33)) e83 →
  (∀ (b85 : Nat) (w86 : World), NewM w84 w86 b85 →
  ∃ (l87 : List Value) (e88 : TypeId), Blk w86 b14 l87 e88 ∧ 6 + 1 ≤ l87.length ∧ ∀ w89 : World, Upd w86 w89 b14 (l87.set 6 (.slice none 0 0)) e88 →
  ∃ (l90 : List Value) (e91 : TypeId), Blk w89 b14 l90 e91 ∧ 10 + 1 ≤ l90.length ∧ ∀ w92 : World, Upd w89 w92 b14 (l90.set 10 (.map (some b85))) e91 →
  J19 w92) ∧
  ∃ (l93 : List Value) (e94 : TypeId), Blk w84 b14 l93 e94 ∧ 6 + 1 ≤ l93.length ∧ ∀ w95 : World, Upd w84 w95 b14 (l93.set 6 (.slice none 0 0)) e94 →
  ∀ (b96 : Nat) (w97 : World), NewM w95 w97 b96 →
  ∃ (l98 : List Value) (e99 : TypeId), Blk w97 b14 l98 e99 ∧ 10 + 1 ≤ l98.length ∧ ∀ w100 : World, Upd w97 w100 b14 (l98.set 10 (.map (some b96))) e99 →
  J19 w100) ∧
  ∀ (b101 : Nat) (w102 : World), NewM w30 w102 b101 →
  (w102.cell? ⟨b26, o26 + 9, none⟩ = some (.pointer p27)) ∧ Calls Tryz.prog 97 #[.pointer p27] w102 fun e w103 => ∃ p104 : Option Addr, e = .returned (.pointer p104) ∧
  ∃ (l105 : List Value) (e106 : TypeId), Blk w103 b14 l105 e106 ∧ 7 + 1 ≤ l105.length ∧ ∀ w107 : World, Upd w103 w107 b14 (l105.set 7 (.pointer p29)) e106 →
  ∃ (l108 : List Value) (e109 : TypeId), Blk w107 b14 l108 e109 ∧ 8 + 1 ≤ l108.length ∧ ∀ w110 : World, Upd w107 w110 b14 (l108.set 8 (.pointer p31)) e109 →
  ∃ (l111 : List Value) (e112 : TypeId), Blk w110 b14 l111 e112 ∧ 9 + 1 ≤ l111.length ∧ ∀ w113 : World, Upd w110 w113 b14 (l111.set 9 (.pointer p104)) e112 →
  ∃ (l114 : List Value) (e115 : TypeId), Blk w113 b14 l114 e115 ∧ 6 + 1 ≤ l114.length ∧ ∀ w116 : World, Upd w113 w116 b14 (l114.set 6 (.slice none 0 0)) e115 →
  ∃ (l117 : List Value) (e118 : TypeId), Blk w116 b14 l117 e118 ∧ 10 + 1 ≤ l117.length ∧ ∀ w119 : World, Upd w116 w119 b14 (l117.set 10 (.map (some b101))) e118 →
  J19 w119) ∧
  ∀ (b120 : Nat) (w121 : World), NewM w28 w121 b120 →
  (w121.cell? ⟨b26, o26 + 9, none⟩ = some (.pointer p27)) ∧ (w121.cell? ⟨b24, o24 + 8, none⟩ = some (.pointer p25)) ∧ Calls Tryz.prog 96 #[.pointer p25] w121 fun e w122 => ∃ p123 : Option Addr, e = .returned (.pointer p123) ∧
  (w122.cell? ⟨b26, o26 + 9, none⟩ = some (.pointer p27)) ∧ Calls Tryz.prog 97 #[.pointer p27] w122 fun e w124 => ∃ p125 : Option Addr, e = .returned (.pointer p125) ∧
  ∃ (l126 : List Value) (e127 : TypeId), Blk w124 b14 l126 e127 ∧ 7 + 1 ≤ l126.length ∧ ∀ w128 : World, Upd w124 w128 b14 (l126.set 7 (.pointer p29)) e127 →
  ∃ (l129 : List Value) (e130 : TypeId), Blk w128 b14 l129 e130 ∧ 8 + 1 ≤ l129.length ∧ ∀ w131 : World, Upd w128 w131 b14 (l129.set 8 (.pointer p123)) e130 →
  ∃ (l132 : List Value) (e133 : TypeId), Blk w131 b14 l132 e133 ∧ 9 + 1 ≤ l132.length ∧ ∀ w134 : World, Upd w131 w134 b14 (l132.set 9 (.pointer p125)) e133 →
  ∃ (l135 : List Value) (e136 : TypeId), Blk w134 b14 l135 e136 ∧ 6 + 1 ≤ l135.length ∧ ∀ w137 : World, Upd w134 w137 b14 (l135.set 6 (.slice none 0 0)) e136 →
  ∃ (l138 : List Value) (e139 : TypeId), Blk w137 b14 l138 e139 ∧ 10 + 1 ≤ l138.length ∧ ∀ w140 : World, Upd w137 w140 b14 (l138.set 10 (.map (some b120))) e139 →
  J19 w140) ∧
  ∀ (b141 : Nat) (w142 : World), NewM w18.drew w142 b141 →
  (w142.cell? ⟨b26, o26 + 9, none⟩ = some (.pointer p27)) ∧ (w142.cell? ⟨b24, o24 + 8, none⟩ = some (.pointer p25)) ∧ (w142.cell? ⟨b22, o22 + 7, none⟩ = some (.pointer p23)) ∧ Calls Tryz.prog 95 #[.pointer p23] w142 fun e w143 => ∃ p144 : Option Addr, e = .returned (.pointer p144) ∧
  (w143.cell? ⟨b26, o26 + 9, none⟩ = some (.pointer p27)) ∧ (w143.cell? ⟨b24, o24 + 8, none⟩ = some (.pointer p25)) ∧ Calls Tryz.prog 96 #[.pointer p25] w143 fun e w145 => ∃ p146 : Option Addr, e = .returned (.pointer p146) ∧
  (w145.cell? ⟨b26, o26 + 9, none⟩ = some (.pointer p27)) ∧ Calls Tryz.prog 97 #[.pointer p27] w145 fun e w147 => ∃ p148 : Option Addr, e = .returned (.pointer p148) ∧
  ∃ (l149 : List Value) (e150 : TypeId), Blk w147 b14 l149 e150 ∧ 7 + 1 ≤ l149.length ∧ ∀ w151 : World, Upd w147 w151 b14 (l149.set 7 (.pointer p144)) e150 →
  ∃ (l152 : List Value) (e153 : TypeId), Blk w151 b14 l152 e153 ∧ 8 + 1 ≤ l152.length ∧ ∀ w154 : World, Upd w151 w154 b14 (l152.set 8 (.pointer p146)) e153 →
  ∃ (l155 : List Value) (e156 : TypeId), Blk w154 b14 l155 e156 ∧ 9 + 1 ≤ l155.length ∧ ∀ w157 : World, Upd w154 w157 b14 (l155.set 9 (.pointer p148)) e156 →
  ∃ (l158 : List Value) (e159 : TypeId), Blk w157 b14 l158 e159 ∧ 6 + 1 ≤ l158.length ∧ ∀ w160 : World, Upd w157 w160 b14 (l158.set 6 (.slice none 0 0)) e159 →
  ∃ (l161 : List Value) (e162 : TypeId), Blk w160 b14 l161 e162 ∧ 10 + 1 ≤ l161.length ∧ ∀ w163 : World, Upd w160 w163 b14 (l161.set 10 (.map (some b141))) e162 →
  J19 w163) ∧
  ∀ (jk21 : Env) (w20 : World), J19 w20 →
  nilC p1 fun b164 o164 =>
  ∃ m165 : Option Nat, w20.cell? ⟨b164, o164 + 10, none⟩ = some (.map m165) ∧
  optC m165 False fun r170 =>
  ∃ es166 : List MapEntry, MapAt Tryz.prog 9 w20 r170 es166 ∧ ∀ (b169 : Nat) (w167 : World), NewI Tryz.prog 9 w20 w167 b169 r170 es166 →
  ∃ (I171 : World → Prop) (μ172 : World → Nat),
  I171 w167 ∧
  ∀ (jk174 : Env) (w173 : World), I171 w173 →
  ∃ (k175 : TypeId) (r176 : Nat) (es177 left178 : List MapEntry) (cur179 : Option MapEntry), IterAt Tryz.prog k175 w173 b169 r176 es177 left178 cur179 ∧ (left178 = [] →
  nilC p1 fun b184 o184 =>
  ∃ A185 : Option Addr, ∃ N185 : Nat, ∃ C185 : Nat, w173.cell? ⟨b184, o184 + 6, none⟩ = some (.slice A185 N185 C185) ∧
  ∃ (I186 : Int → World → Prop) (μ187 : Int → World → Nat),
  I186 (0 : Int) w173 ∧
  ∀ n190 : Int, ∀ (jk189 : Env) (w188 : World), I186 n190 w188 →
  ifb (decide (n190 < ((N185 : Nat) : Int)))
  (0 ≤ n190 ∧ n190 < ((N185 : Nat) : Int) ∧ ∃ b191 o192 : Nat, (A185 : Option Addr) = some ⟨b191, o192, none⟩ ∧
  ∃ p193 : Option Addr, w188.cell? ⟨b191, o192 + n190.toNat * 1, none⟩ = some (.pointer p193) ∧
  nilC p193 fun b194 o194 =>
  ∃ p195 : Option Addr, ∃ p196 : Option Addr, ∃ A197 : Option Addr, ∃ N197 : Nat, ∃ C197 : Nat, ∃ t198 : Bool, ∃ p199 : Option Addr, ∃ n200 : Int, ∃ t201 : Bool, Cells w188 ⟨b194, o194, none⟩ [.pointer p195, .pointer p196, .slice A197 N197 C197, .bool t198, .pointer p199, .int .i64 n200, .bool t201] ∧
  ∀ (b202 : Nat) (w203 : World), New w188 w203 b202 [.pointer none, .pointer none, .slice none 0 0, .bool false, .pointer none, .int .i64 0, .bool false] 151 →
  ∃ (l204 : List Value) (e205 : TypeId), Blk w203 b202 l204 e205 ∧ 0 + 7 ≤ l204.length ∧ ∀ w206 : World, Upd w203 w206 b202 (setSeg l204 0 [.pointer p195, .pointer p196, .slice A197 N197 C197, .bool t198, .pointer p199, .int .i64 n200, .bool t201]) e205 →
  nilC p193 fun b207 o207 =>
  ∃ p208 : Option Addr, w206.drew.cell? ⟨b207, o207, none⟩ = some (.pointer p208) ∧
  nilC p193 fun b209 o209 =>
  ∃ p210 : Option Addr, w206.drew.cell? ⟨b209, o209 + 1, none⟩ = some (.pointer p210) ∧
  nilC p193 fun b211 o211 =>
  ∃ A212 : Option Addr, ∃ N212 : Nat, ∃ C212 : Nat, w206.drew.cell? ⟨b211, o211 + 2, none⟩ = some (.slice A212 N212 C212) ∧
  Calls Tryz.prog 98 #[.pointer p208] w206.drew fun e w213 => ∃ p214 : Option Addr, e = .returned (.pointer p214) ∧
  (w213.cell? ⟨b211, o211 + 2, none⟩ = some (.slice A212 N212 C212)) ∧ (w213.cell? ⟨b209, o209 + 1, none⟩ = some (.pointer p210)) ∧ Calls Tryz.prog 99 #[.pointer p210] w213 fun e w215 => ∃ p216 : Option Addr, e = .returned (.pointer p216) ∧
  (w215.cell? ⟨b211, o211 + 2, none⟩ = some (.slice A212 N212 C212)) ∧ Calls Tryz.prog 100 #[.slice A212 N212 C212] w215 fun e w217 => ∃ A218 : Option Addr, ∃ N218 : Nat, ∃ C218 : Nat, e = .returned (.slice A218 N218 C218) ∧
  ∃ (l219 : List Value) (e220 : TypeId), Blk w217 b202 l219 e220 ∧ 0 + 1 ≤ l219.length ∧ ∀ w221 : World, Upd w217 w221 b202 (l219.set 0 (.pointer p214)) e220 →
  ∃ (l222 : List Value) (e223 : TypeId), Blk w221 b202 l222 e223 ∧ 1 + 1 ≤ l222.length ∧ ∀ w224 : World, Upd w221 w224 b202 (l222.set 1 (.pointer p216)) e223 →
  ∃ (l225 : List Value) (e226 : TypeId), Blk w224 b202 l225 e226 ∧ 2 + 1 ≤ l225.length ∧ ∀ w227 : World, Upd w224 w227 b202 (l225.set 2 (.slice A218 N218 C218)) e226 →
  ∃ A228 : Option Addr, ∃ N228 : Nat, ∃ C228 : Nat, w227.cell? ⟨b14, 6, none⟩ = some (.slice A228 N228 C228) ∧
  ∀ (b229 : Nat) (w230 : World), New w227 w230 b229 [.pointer (some ⟨b202, 0, none⟩)] 145 →
  ∃ xs231 news232 : List Value, w230.ownsRow 0 145 1 (.slice A228 N228 C228) N228 xs231 ∧ Reads w230 (some ⟨b229, 0, none⟩) 1 1 news232 ∧ N228 + 1 ≤ maxLen ∧ (N228 + 1) * 8 ≤ 140737488355328 ∧
  ∀ (A234 : Option Addr) (C234 : Nat) (w233 : World), w233.ownsRow 0 145 1 (.slice A234 (N228 + 1) C234) (N228 + 1) (xs231 ++ news232) → App w230 w233 A228 A234 →
  ∃ (l235 : List Value) (e236 : TypeId), Blk w233 b14 l235 e236 ∧ 6 + 1 ≤ l235.length ∧ ∀ w237 : World, Upd w233 w237 b14 (l235.set 6 (.slice A234 (N228 + 1) C234)) e236 →
  ∃ c238 : Int, IntKind.wrap .i64 (n190 + (1 : Int)) = c238 ∧
  I186 c238 w237 ∧ μ187 c238 w237 < μ187 n190 w188)
  (R (.pointer (some ⟨b14, 0, none⟩)) w188)) ∧
  ∀ (pre180 : List MapEntry) (x181 : MapEntry) (post182 : List MapEntry) (w183 : World), left178 = pre180 ++ x181 :: post182 → IterAt Tryz.prog k175 w183 b169 r176 es177 (pre180 ++ post182) (some x181) → Wrote w173 w183 b169 →
  ∃ (k239 : TypeId) (r240 : Nat) (es241 left242 : List MapEntry) (x243 : MapEntry), IterAt Tryz.prog k239 w183 b169 r240 es241 left242 (some x243) ∧ ∃ s244 : ByteArray, x243.key = .string s244 ∧ ∃ s245 : ByteArray, ∃ A246 : Option Addr, ∃ N246 : Nat, ∃ C246 : Nat, x243.val = .agg #[.string s245, .slice A246 N246 C246] ∧
  ∀ (b247 : Nat) (w248 : World), New w183 w248 b247 [.string emptyS, .slice none 0 0] 135 →
  ∃ (l249 : List Value) (e250 : TypeId), Blk w248 b247 l249 e250 ∧ 0 + 2 ≤ l249.length ∧ ∀ w251 : World, Upd w248 w251 b247 (setSeg l249 0 [.string s245, .slice A246 N246 C246]) e250 →
  ∃ m252 : Option Nat, w251.cell? ⟨b14, 10, none⟩ = some (.map m252) ∧
  ∃ s253 : ByteArray, ∃ A254 : Option Addr, ∃ N254 : Nat, ∃ C254 : Nat, Cells w251 ⟨b247, 0, none⟩ [.string s253, .slice A254 N254 C254] ∧
  Go.Maps.Keyed Tryz.prog 9 ∧ (∃ l, keyOf Tryz.prog 9 (.string s244) = some l) ∧
  optC m252 False fun r258 =>
  ∃ es255 : List MapEntry, MapAt Tryz.prog 9 w251 r258 es255 ∧ ∀ (w256 : World) (es257 : List MapEntry), MPut es255 (.string s244) (.agg #[.string s253, .slice A254 N254 C254]) es257 → MapAt Tryz.prog 9 w256 r258 es257 → Wrote w251 w256 r258 →
  I171 w256 ∧ μ172 w256 < μ172 w173)
def V.core_Core_Copy_ann : Ann := .s (.no) (.s (.no) (.s (.no) (.s (.jn [] (.draw (.r 0 (.r 1 (.r 2 (.r 3 (.r 5 (.r 6 (.r 7 (.r 8 (.r 10 (.r 11 (.r 12 (.r 13 (.e2 4 [3] (.e2 9 [3, 8] (.e2 14 [3, 8, 13] (.r 16 (.e2 15 [] (.e 17 [3, 8, 13] (.r 18 (.e 19 [3, 8, 13] (.r 20 (.e 21 [3, 8, 13] (.r 22 (.e 23 [3, 8, 13] (.r 24 (.e 25 [3, 8, 13] (.done)))))))))) 17 [3, 8, 13] (.r 18 (.e2 15 [] (.e 19 [3, 8, 13] (.r 20 (.e 21 [3, 8, 13] (.r 22 (.e 23 [3, 8, 13] (.r 24 (.e 25 [3, 8, 13] (.done)))))))) 19 [3, 8, 13] (.r 20 (.e2 15 [] (.e 21 [3, 8, 13] (.r 22 (.e 23 [3, 8, 13] (.r 24 (.e 25 [3, 8, 13] (.done)))))) 21 [3, 8, 13] (.r 22 (.e2 15 [] (.e 23 [3, 8, 13] (.r 24 (.e 25 [3, 8, 13] (.done)))) 23 [3, 8, 13] (.e 15 [] (.r 24 (.e 25 [3, 8, 13] (.done)))))))))))) 15 [] (.e 14 [3, 8, 13] (.r 16 (.e 17 [3, 8, 13] (.r 18 (.e 19 [3, 8, 13] (.r 20 (.e 21 [3, 8, 13] (.r 22 (.e 23 [3, 8, 13] (.r 24 (.e 25 [3, 8, 13] (.done))))))))))))) 15 [] (.e 9 [3, 8] (.e 14 [3, 8, 13] (.r 16 (.e 17 [3, 8, 13] (.r 18 (.e 19 [3, 8, 13] (.r 20 (.e 21 [3, 8, 13] (.r 22 (.e 23 [3, 8, 13] (.r 24 (.e 25 [3, 8, 13] (.done)))))))))))))) 15 [] (.e 4 [3] (.e 9 [3, 8] (.e 14 [3, 8, 13] (.r 16 (.e 17 [3, 8, 13] (.r 18 (.e 19 [3, 8, 13] (.r 20 (.e 21 [3, 8, 13] (.r 22 (.e 23 [3, 8, 13] (.r 24 (.e 25 [3, 8, 13] (.done))))))))))))))))))))))))))) [(4, 3), (9, 3), (9, 8), (14, 3), (14, 8), (14, 13), (17, 3), (17, 8), (17, 13), (19, 3), (19, 8), (19, 13), (21, 3), (21, 8), (21, 13), (23, 3), (23, 8), (23, 13), (25, 3), (25, 8), (25, 13)])) (.s (.s (.no) (.b (.loop [] (.no)))) (.s (.s (.no) (.b (.loop [(54, .one (.i .i64))] (.s (.no) (.s (.no) (.s (.b (.s (.no) (.s (.no) (.s (.draw (.r 0 (.r 1 (.r 2 (.r 3 (.r 5 (.r 6 (.r 7 (.r 8 (.r 10 (.r 11 (.r 12 (.r 13 (.e 4 [3] (.e 9 [3, 8] (.e 14 [3, 8, 13] (.r 15 (.e 16 [3, 8, 13] (.r 17 (.e 18 [3, 8, 13] (.r 19 (.e 20 [3, 8, 13] (.done)))))))))))))))))))))) [(4, 3), (9, 3), (9, 8), (14, 3), (14, 8), (14, 13), (16, 3), (16, 8), (16, 13), (18, 3), (18, 8), (18, 13), (20, 3), (20, 8), (20, 13)]) (.no))))) (.no))))))) (.no))))))
theorem V.core_Core_Copy_eq (p1 : Option Addr) (w : World) (R : Value → World → Prop) : V.core_Core_Copy p1 w R = fnW Tryz.prog [(42, .one .s, .agg [.s, .sl])] [.tmp 2] (bodyOf Tryz.f33) V.core_Core_Copy_ann [.pointer p1] w R := by kernel_rfl
theorem V.core_Core_Copy_ok : okC 85 (bodyOf Tryz.f33) V.core_Core_Copy_ann = true := by kernel_rfl
theorem V.core_Core_Copy_cs : (calleesC (bodyOf Tryz.f33)).all (entersB Tryz.prog) = true := by kernel_rfl
theorem V.core_Core_Copy_calls {p1 : Option Addr}  {w : World} {R : Value → World → Prop} (h : V.core_Core_Copy p1 w R) : Calls Tryz.prog 33 #[.pointer p1] w fun e w' => ∃ v, e = .returned v ∧ R v w' :=
  fn_sound (by kernel_rfl) Tryz.func33 (by kernel_rfl) V.core_Core_Copy_ok (enters_all V.core_Core_Copy_cs) (by kernel_rfl) ((V.core_Core_Copy_eq p1 w R).mp h)

def V.core_Core_Make (p1 : Option Addr) (n2 : Int) (n3 : Int) (n4 : Int) (n5 : Int) (n6 : Int) (n7 : Int) (n8 : Int) (n9 : Int) (n10 : Int) (A11 : Option Addr) (N11 : Nat) (C11 : Nat) (n12 : Int) (n13 : Int) (w : World) (R : Value → World → Prop) : Prop :=
  ∀ (b14 : Nat) (w15 : World), New w w15 b14 [.int .u8 n3, .int .i64 n4, .int .i64 n5, .int .i64 n6, .int .i64 n7, .int .i64 n8, .int .i64 n9, .int .u8 n10, .slice A11 N11 C11, .int .i64 n12, .int .i64 n13] 46 →
  ifb p1.isNone
  (R (.tuple #[.bool false, .int .i64 1]) w15)
  (nilC p1 fun b16 o16 =>
  ∃ A17 : Option Addr, ∃ N17 : Nat, ∃ C17 : Nat, w15.cell? ⟨b16, o16 + 6, none⟩ = some (.slice A17 N17 C17) ∧
  ifb (((N17 : Nat) : Int) == (0 : Int))
  (R (.tuple #[.bool false, .int .i64 1]) w15)
  (Calls Tryz.prog 64 #[.pointer p1, .int .i64 n2] w15 fun e w18 => ∃ p19 : Option Addr, e = .returned (.pointer p19) ∧
  ifb p19.isNone
  (R (.tuple #[.bool false, .int .i64 2]) w18)
  (nilC p19 fun b20 o20 =>
  ∃ t21 : Bool, w18.cell? ⟨b20, o20 + 3, none⟩ = some (.bool t21) ∧
  ifb t21
  (R (.tuple #[.bool false, .int .i64 2]) w18)
  (nilC p19 fun b22 o22 =>
  ∃ t23 : Bool, w18.cell? ⟨b22, o22 + 6, none⟩ = some (.bool t23) ∧
  ifb t23
  (R (.tuple #[.bool false, .int .i64 2]) w18)
  (Calls Tryz.prog 101 #[] w18 fun e w24 => ∃ xs25 : List Value, e = .returned (.agg xs25.toArray) ∧
  ∀ (b26 : Nat) (w27 : World), New w24 w27 b26 [.nilFunc, .nilFunc, .nilFunc, .nilFunc, .nilFunc, .nilFunc, .nilFunc, .nilFunc, .nilFunc, .nilFunc, .nilFunc, .nilFunc, .nilFunc, .nilFunc, .nilFunc, .nilFunc, .nilFunc, .nilFunc, .nilFunc, .nilFunc, .nilFunc, .nilFunc, .nilFunc] 207 →
  cellsOk xs25 23 (∃ (l28 : List Value) (e29 : TypeId), Blk w27 b26 l28 e29 ∧ 0 + xs25.length ≤ l28.length ∧ ∀ w30 : World, Upd w27 w30 b26 (setSeg l28 0 xs25) e29 →
  ∃ n31 : Int, w30.cell? ⟨b14, 0, none⟩ = some (.int .u8 n31) ∧
  ifb (n31 == (0 : Int))
  (R (.tuple #[.bool true, .int .i64 0]) w30)
  (∃ n32 : Int, w30.cell? ⟨b14, 0, none⟩ = some (.int .u8 n32) ∧
  ∃ c33 : Int, IntKind.wrap .i64 n32 = c33 ∧
  ifb (decide (c33 ≥ (23 : Int)))
  (R (.tuple #[.bool true, .int .i64 0]) w30)
  (∃ n34 : Int, ∃ n35 : Int, ∃ n36 : Int, ∃ n37 : Int, ∃ n38 : Int, ∃ n39 : Int, ∃ n40 : Int, ∃ n41 : Int, ∃ A42 : Option Addr, ∃ N42 : Nat, ∃ C42 : Nat, ∃ n43 : Int, ∃ n44 : Int, Cells w30.drew ⟨b14, 0, none⟩ [.int .u8 n34, .int .i64 n35, .int .i64 n36, .int .i64 n37, .int .i64 n38, .int .i64 n39, .int .i64 n40, .int .u8 n41, .slice A42 N42 C42, .int .i64 n43, .int .i64 n44] ∧
  ∃ n45 : Int, ∃ n46 : Int, ∃ n47 : Int, ∃ n48 : Int, ∃ n49 : Int, ∃ n50 : Int, ∃ n51 : Int, ∃ n52 : Int, ∃ A53 : Option Addr, ∃ N53 : Nat, ∃ C53 : Nat, ∃ n54 : Int, ∃ n55 : Int, Cells w30.drew ⟨b14, 0, none⟩ [.int .u8 n45, .int .i64 n46, .int .i64 n47, .int .i64 n48, .int .i64 n49, .int .i64 n50, .int .i64 n51, .int .u8 n52, .slice A53 N53 C53, .int .i64 n54, .int .i64 n55] ∧
  Calls Tryz.prog 71 #[.agg #[.int .u8 n34, .int .i64 n35, .int .i64 n36, .int .i64 n37, .int .i64 n38, .int .i64 n39, .int .i64 n40, .int .u8 n41, .slice A42 N42 C42, .int .i64 n43, .int .i64 n44]] w30.drew fun e w56 => ∃ n57 : Int, ∃ n58 : Int, ∃ n59 : Int, ∃ n60 : Int, ∃ n61 : Int, ∃ n62 : Int, ∃ n63 : Int, ∃ n64 : Int, ∃ A65 : Option Addr, ∃ N65 : Nat, ∃ C65 : Nat, ∃ n66 : Int, ∃ n67 : Int, e = .returned (.agg #[.int .u8 n57, .int .i64 n58, .int .i64 n59, .int .i64 n60, .int .i64 n61, .int .i64 n62, .int .i64 n63, .int .u8 n64, .slice A65 N65 C65, .int .i64 n66, .int .i64 n67]) ∧
  (Cells w56 ⟨b14, 0, none⟩ [.int .u8 n45, .int .i64 n46, .int .i64 n47, .int .i64 n48, .int .i64 n49, .int .i64 n50, .int .i64 n51, .int .u8 n52, .slice A53 N53 C53, .int .i64 n54, .int .i64 n55]) ∧ Calls Tryz.prog 71 #[.agg #[.int .u8 n45, .int .i64 n46, .int .i64 n47, .int .i64 n48, .int .i64 n49, .int .i64 n50, .int .i64 n51, .int .u8 n52, .slice A53 N53 C53, .int .i64 n54, .int .i64 n55]] w56 fun e w68 => ∃ n69 : Int, ∃ n70 : Int, ∃ n71 : Int, ∃ n72 : Int, ∃ n73 : Int, ∃ n74 : Int, ∃ n75 : Int, ∃ n76 : Int, ∃ A77 : Option Addr, ∃ N77 : Nat, ∃ C77 : Nat, ∃ n78 : Int, ∃ n79 : Int, e = .returned (.agg #[.int .u8 n69, .int .i64 n70, .int .i64 n71, .int .i64 n72, .int .i64 n73, .int .i64 n74, .int .i64 n75, .int .u8 n76, .slice A77 N77 C77, .int .i64 n78, .int .i64 n79]) ∧
  ∀ (b80 : Nat) (w81 : World), New w68 w81 b80 [.pointer p1, .int .i64 n2, .pointer p19, .int .u8 n57, .int .i64 n58, .int .i64 n59, .int .i64 n60, .int .i64 n61, .int .i64 n62, .int .i64 n63, .int .u8 n64, .slice A65 N65 C65, .int .i64 n66, .int .i64 n67, .string emptyS, .slice none 0 0, .int .u8 n69, .int .i64 n70, .int .i64 n71, .int .i64 n72, .int .i64 n73, .int .i64 n74, .int .i64 n75, .int .u8 n76, .slice A77 N77 C77, .int .i64 n78, .int .i64 n79, .bool false, .int .i64 0, .int .i64 0, .int .i64 0, .int .i64 0, .int .i64 0, .int .i64 0, .slice none 0 0, .int .i64 (-1), .string emptyS, .int .i64 0] 211 →
  ∃ J82 : World → Prop,
  (∃ n85 : Int, w81.cell? ⟨b14, 0, none⟩ = some (.int .u8 n85) ∧
  Calls Tryz.prog 102 #[.int .u8 n85] w81 fun e w86 => ∃ t87 : Bool, e = .returned (.bool t87) ∧
  ifb (!t87)
  (nilC p19 fun b88 o88 =>
  ∃ p89 : Option Addr, w86.drew.cell? ⟨b88, o88, none⟩ = some (.pointer p89) ∧
  ∃ n90 : Int, w86.drew.cell? ⟨b14, 1, none⟩ = some (.int .i64 n90) ∧
  (Calls Tryz.prog 103 #[.pointer p89, .int .i64 n90] w86.drew fun e w91 => ∃ s92 : ByteArray, ∃ A93 : Option Addr, ∃ N93 : Nat, ∃ C93 : Nat, ∃ n94 : Int, e = .returned (.tuple #[.agg #[.string s92, .slice A93 N93 C93], .int .i64 n94]) ∧
  ∀ (b95 : Nat) (w96 : World), New w91 w96 b95 [.string emptyS, .slice none 0 0] 135 →
  ∃ (l97 : List Value) (e98 : TypeId), Blk w96 b95 l97 e98 ∧ 0 + 2 ≤ l97.length ∧ ∀ w99 : World, Upd w96 w99 b95 (setSeg l97 0 [.string s92, .slice A93 N93 C93]) e98 →
  ifb (n94 != (0 : Int))
  (R (.tuple #[.bool true, .int .i64 0]) w99)
  (∃ s100 : ByteArray, ∃ A101 : Option Addr, ∃ N101 : Nat, ∃ C101 : Nat, Cells w99 ⟨b95, 0, none⟩ [.string s100, .slice A101 N101 C101] ∧
  ∃ (l102 : List Value) (e103 : TypeId), Blk w99 b80 l102 e103 ∧ 14 + 2 ≤ l102.length ∧ ∀ w104 : World, Upd w99 w104 b80 (setSeg l102 14 [.string s100, .slice A101 N101 C101]) e103 →
  J82 w104)) ∧
  ∀ (b105 : Nat) (w106 : World), New w86.drew w106 b105 [.string emptyS, .slice none 0 0] 135 →
  (w106.cell? ⟨b14, 1, none⟩ = some (.int .i64 n90)) ∧ (w106.cell? ⟨b88, o88, none⟩ = some (.pointer p89)) ∧ Calls Tryz.prog 103 #[.pointer p89, .int .i64 n90] w106 fun e w107 => ∃ s108 : ByteArray, ∃ A109 : Option Addr, ∃ N109 : Nat, ∃ C109 : Nat, ∃ n110 : Int, e = .returned (.tuple #[.agg #[.string s108, .slice A109 N109 C109], .int .i64 n110]) ∧
  ∃ (l111 : List Value) (e112 : TypeId), Blk w107 b105 l111 e112 ∧ 0 + 2 ≤ l111.length ∧ ∀ w113 : World, Upd w107 w113 b105 (setSeg l111 0 [.string s108, .slice A109 N109 C109]) e112 →
  ifb (n110 != (0 : Int))
  (R (.tuple #[.bool true, .int .i64 0]) w113)
  (∃ s114 : ByteArray, ∃ A115 : Option Addr, ∃ N115 : Nat, ∃ C115 : Nat, Cells w113 ⟨b105, 0, none⟩ [.string s114, .slice A115 N115 C115] ∧
  ∃ (l116 : List Value) (e117 : TypeId), Blk w113 b80 l116 e117 ∧ 14 + 2 ≤ l116.length ∧ ∀ w118 : World, Upd w113 w118 b80 (setSeg l116 14 [.string s114, .slice A115 N115 C115]) e117 →
  J82 w118))
  (J82 w86)) ∧
  ∀ (jk84 : Env) (w83 : World), J82 w83 →
  ∃ n119 : Int, w83.cell? ⟨b14, 0, none⟩ = some (.int .u8 n119) ∧
  0 ≤ n119 ∧ n119 < ((23 : Nat) : Int) ∧ ∃ b120 o121 : Nat, (some ⟨b26, 0, none⟩ : Option Addr) = some ⟨b120, o121, none⟩ ∧
  ∃ v122 : Value, w83.cell? ⟨b120, o121 + n119.toNat * 1, none⟩ = some (v122) ∧
  funcC v122 fun g123 cf124 cc125 =>
  Enters Tryz.prog g123 ∧
  Calls Tryz.prog g123 (cf124 ++ (([.pointer (some ⟨b80, 0, none⟩)] : List Value) ++ cc125)).toArray w83 fun e w126 => ∃ t127 : Bool, e = .returned (.bool t127) ∧
  ifb (!t127)
  (R (.tuple #[.bool true, .int .i64 0]) w126)
  (nilC p19 fun b128 o128 =>
  ∃ A129 : Option Addr, ∃ N129 : Nat, ∃ C129 : Nat, w126.drew.cell? ⟨b128, o128 + 2, none⟩ = some (.slice A129 N129 C129) ∧
  ∃ n130 : Int, ∃ n131 : Int, ∃ n132 : Int, ∃ n133 : Int, ∃ n134 : Int, ∃ n135 : Int, ∃ n136 : Int, ∃ n137 : Int, ∃ A138 : Option Addr, ∃ N138 : Nat, ∃ C138 : Nat, ∃ n139 : Int, ∃ n140 : Int, ∃ t141 : Bool, ∃ n142 : Int, ∃ n143 : Int, ∃ n144 : Int, ∃ n145 : Int, ∃ n146 : Int, ∃ n147 : Int, ∃ A148 : Option Addr, ∃ N148 : Nat, ∃ C148 : Nat, ∃ n149 : Int, ∃ s150 : ByteArray, ∃ n151 : Int, Cells w126.drew ⟨b80, 16, none⟩ [.int .u8 n130, .int .i64 n131, .int .i64 n132, .int .i64 n133, .int .i64 n134, .int .i64 n135, .int .i64 n136, .int .u8 n137, .slice A138 N138 C138, .int .i64 n139, .int .i64 n140, .bool t141, .int .i64 n142, .int .i64 n143, .int .i64 n144, .int .i64 n145, .int .i64 n146, .int .i64 n147, .slice A148 N148 C148, .int .i64 n149, .string s150, .int .i64 n151] ∧
  ∀ (b152 : Nat) (w153 : World), New w126.drew w153 b152 [.int .u8 n130, .int .i64 n131, .int .i64 n132, .int .i64 n133, .int .i64 n134, .int .i64 n135, .int .i64 n136, .int .u8 n137, .slice A138 N138 C138, .int .i64 n139, .int .i64 n140, .bool t141, .int .i64 n142, .int .i64 n143, .int .i64 n144, .int .i64 n145, .int .i64 n146, .int .i64 n147, .slice A148 N148 C148, .int .i64 n149, .string s150, .int .i64 n151] 167 →
  (w153.cell? ⟨b128, o128 + 2, none⟩ = some (.slice A129 N129 C129)) ∧ ∃ xs154 news155 : List Value, w153.ownsRow 0 167 22 (.slice A129 N129 C129) N129 xs154 ∧ Reads w153 (some ⟨b152, 0, none⟩) 1 22 news155 ∧ N129 + 1 ≤ maxLen ∧ (N129 + 1) * 216 ≤ 140737488355328 ∧
  ∀ (A157 : Option Addr) (C157 : Nat) (w156 : World), w156.ownsRow 0 167 22 (.slice A157 (N129 + 1) C157) (N129 + 1) (xs154 ++ news155) → App w153 w156 A129 A157 →
  nilC p19 fun b158 o158 =>
  ∃ (l159 : List Value) (e160 : TypeId), Blk w156 b158 l159 e160 ∧ o158 + 2 + 1 ≤ l159.length ∧ ∀ w161 : World, Upd w156 w161 b158 (l159.set (o158 + 2) (.slice A157 (N129 + 1) C157)) e160 →
  nilC p19 fun b162 o162 =>
  ∃ (l163 : List Value) (e164 : TypeId), Blk w161 b162 l163 e164 ∧ o162 + 3 + 1 ≤ l163.length ∧ ∀ w165 : World, Upd w161 w165 b162 (l163.set (o162 + 3) (.bool true)) e164 →
  nilC p19 fun b166 o166 =>
  ∃ (l167 : List Value) (e168 : TypeId), Blk w165 b166 l167 e168 ∧ o166 + 4 + 1 ≤ l167.length ∧ ∀ w169 : World, Upd w165 w169 b166 (l167.set (o166 + 4) (.pointer none)) e168 →
  R (.tuple #[.bool false, .int .i64 0]) w169)))))))))
def V.core_Core_Make_ann : Ann := .s (.no) (.s (.no) (.s (.no) (.s (.no) (.s (.no) (.s (.no) (.s (.draw (.r 0 (.r 1 (.r 2 (.r 3 (.r 5 (.e 4 [3] (.e 6 [3, 5] (.r 7 (.r 8 (.e 9 [3, 5] (.e 10 [3, 5] (.done)))))))))))) [(4, 3), (6, 3), (6, 5), (7, 5), (8, 3), (8, 5), (9, 3), (9, 5), (10, 3), (10, 5)]) (.s (.jn [] (.s (.no) (.s (.s (.draw (.r 0 (.r 1 (.r 2 (.r 3 (.r 4 (.r 5 (.e2 6 [3, 5] (.r 7 (.r 8 (.r 9 (.e 10 [] (.e 11 [3, 5] (.e 12 [3, 5] (.done))))))) 10 [] (.e 6 [3, 5] (.r 7 (.r 8 (.r 9 (.e 11 [3, 5] (.e 12 [3, 5] (.done)))))))))))))) [(6, 3), (6, 5), (11, 3), (11, 5), (12, 3), (12, 5)]) (.no)) (.no)))) (.s (.no) (.s (.draw (.r 0 (.r 1 (.r 2 (.r 3 (.r 4 (.r 5 (.r 6 (.r 7 (.r 8 (.r 9 (.r 10 (.e 11 [10] (.e 12 [6, 10] (.r 13 (.r 14 (.e 15 [6, 10] (.r 16 (.r 17 (.e 18 [6, 10] (.r 19 (.r 20 (.e 21 [6, 10] (.done))))))))))))))))))))))) [(11, 10), (12, 6), (12, 10), (15, 6), (15, 10), (18, 6), (18, 10), (21, 6), (21, 10)]) (.no))))))))))
theorem V.core_Core_Make_eq (p1 : Option Addr) (n2 : Int) (n3 : Int) (n4 : Int) (n5 : Int) (n6 : Int) (n7 : Int) (n8 : Int) (n9 : Int) (n10 : Int) (A11 : Option Addr) (N11 : Nat) (C11 : Nat) (n12 : Int) (n13 : Int) (w : World) (R : Value → World → Prop) : V.core_Core_Make p1 n2 n3 n4 n5 n6 n7 n8 n9 n10 A11 N11 C11 n12 n13 w R = fnW Tryz.prog [] [.tmp 6, .tmp 7] (bodyOf Tryz.f34) V.core_Core_Make_ann [.pointer p1, .int .i64 n2, .agg #[.int .u8 n3, .int .i64 n4, .int .i64 n5, .int .i64 n6, .int .i64 n7, .int .i64 n8, .int .i64 n9, .int .u8 n10, .slice A11 N11 C11, .int .i64 n12, .int .i64 n13]] w R := by kernel_rfl
theorem V.core_Core_Make_ok : okC 106 (bodyOf Tryz.f34) V.core_Core_Make_ann = true := by kernel_rfl
theorem V.core_Core_Make_cs : (calleesC (bodyOf Tryz.f34)).all (entersB Tryz.prog) = true := by kernel_rfl
theorem V.core_Core_Make_calls {p1 : Option Addr} {n2 : Int} {n3 : Int} {n4 : Int} {n5 : Int} {n6 : Int} {n7 : Int} {n8 : Int} {n9 : Int} {n10 : Int} {A11 : Option Addr} {N11 : Nat} {C11 : Nat} {n12 : Int} {n13 : Int}  {w : World} {R : Value → World → Prop} (h : V.core_Core_Make p1 n2 n3 n4 n5 n6 n7 n8 n9 n10 A11 N11 C11 n12 n13 w R) : Calls Tryz.prog 34 #[.pointer p1, .int .i64 n2, .agg #[.int .u8 n3, .int .i64 n4, .int .i64 n5, .int .i64 n6, .int .i64 n7, .int .i64 n8, .int .i64 n9, .int .u8 n10, .slice A11 N11 C11, .int .i64 n12, .int .i64 n13]] w fun e w' => ∃ v, e = .returned v ∧ R v w' :=
  fn_sound (by kernel_rfl) Tryz.func34 (by kernel_rfl) V.core_Core_Make_ok (enters_all V.core_Core_Make_cs) (by kernel_rfl) ((V.core_Core_Make_eq p1 n2 n3 n4 n5 n6 n7 n8 n9 n10 A11 N11 C11 n12 n13 w R).mp h)

def V.core_Core_Tell (p1 : Option Addr) (n2 : Int) (w : World) (R : Value → World → Prop) : Prop :=
  ∀ (b3 : Nat) (w4 : World), New w w4 b3 [.bool false, .int .i64 0, .int .i64 0, .int .i64 0, .int .i64 0, .int .i64 0, .int .i64 0, .slice none 0 0] 31 →
  ifb p1.isNone
  (∃ (l5 : List Value) (e6 : TypeId), Blk w4 b3 l5 e6 ∧ 0 + 8 ≤ l5.length ∧ ∀ w7 : World, Upd w4 w7 b3 (setSeg l5 0 [.bool false, .int .i64 0, .int .i64 0, .int .i64 0, .int .i64 0, .int .i64 0, .int .i64 0, .slice none 0 0]) e6 →
  ∃ t8 : Bool, ∃ n9 : Int, ∃ n10 : Int, ∃ n11 : Int, ∃ n12 : Int, ∃ n13 : Int, ∃ n14 : Int, ∃ A15 : Option Addr, ∃ N15 : Nat, ∃ C15 : Nat, Cells w7 ⟨b3, 0, none⟩ [.bool t8, .int .i64 n9, .int .i64 n10, .int .i64 n11, .int .i64 n12, .int .i64 n13, .int .i64 n14, .slice A15 N15 C15] ∧ R (.tuple #[.agg #[.bool t8, .int .i64 n9, .int .i64 n10, .int .i64 n11, .int .i64 n12, .int .i64 n13, .int .i64 n14, .slice A15 N15 C15], .int .i64 1]) w7)
  (nilC p1 fun b16 o16 =>
  ∃ A17 : Option Addr, ∃ N17 : Nat, ∃ C17 : Nat, w4.cell? ⟨b16, o16 + 6, none⟩ = some (.slice A17 N17 C17) ∧
  ifb (((N17 : Nat) : Int) == (0 : Int))
  (∃ (l18 : List Value) (e19 : TypeId), Blk w4 b3 l18 e19 ∧ 0 + 8 ≤ l18.length ∧ ∀ w20 : World, Upd w4 w20 b3 (setSeg l18 0 [.bool false, .int .i64 0, .int .i64 0, .int .i64 0, .int .i64 0, .int .i64 0, .int .i64 0, .slice none 0 0]) e19 →
  ∃ t21 : Bool, ∃ n22 : Int, ∃ n23 : Int, ∃ n24 : Int, ∃ n25 : Int, ∃ n26 : Int, ∃ n27 : Int, ∃ A28 : Option Addr, ∃ N28 : Nat, ∃ C28 : Nat, Cells w20 ⟨b3, 0, none⟩ [.bool t21, .int .i64 n22, .int .i64 n23, .int .i64 n24, .int .i64 n25, .int .i64 n26, .int .i64 n27, .slice A28 N28 C28] ∧ R (.tuple #[.agg #[.bool t21, .int .i64 n22, .int .i64 n23, .int .i64 n24, .int .i64 n25, .int .i64 n26, .int .i64 n27, .slice A28 N28 C28], .int .i64 1]) w20)
  (Calls Tryz.prog 64 #[.pointer p1, .int .i64 n2] w4 fun e w29 => ∃ p30 : Option Addr, e = .returned (.pointer p30) ∧
  ifb p30.isNone
  (∃ (l31 : List Value) (e32 : TypeId), Blk w29 b3 l31 e32 ∧ 0 + 8 ≤ l31.length ∧ ∀ w33 : World, Upd w29 w33 b3 (setSeg l31 0 [.bool false, .int .i64 0, .int .i64 0, .int .i64 0, .int .i64 0, .int .i64 0, .int .i64 0, .slice none 0 0]) e32 →
  ∃ t34 : Bool, ∃ n35 : Int, ∃ n36 : Int, ∃ n37 : Int, ∃ n38 : Int, ∃ n39 : Int, ∃ n40 : Int, ∃ A41 : Option Addr, ∃ N41 : Nat, ∃ C41 : Nat, Cells w33 ⟨b3, 0, none⟩ [.bool t34, .int .i64 n35, .int .i64 n36, .int .i64 n37, .int .i64 n38, .int .i64 n39, .int .i64 n40, .slice A41 N41 C41] ∧ R (.tuple #[.agg #[.bool t34, .int .i64 n35, .int .i64 n36, .int .i64 n37, .int .i64 n38, .int .i64 n39, .int .i64 n40, .slice A41 N41 C41], .int .i64 2]) w33)
  (nilC p30 fun b42 o42 =>
  ∃ t43 : Bool, w29.cell? ⟨b42, o42 + 3, none⟩ = some (.bool t43) ∧
  ifb (!t43)
  (∃ (l44 : List Value) (e45 : TypeId), Blk w29 b3 l44 e45 ∧ 0 + 8 ≤ l44.length ∧ ∀ w46 : World, Upd w29 w46 b3 (setSeg l44 0 [.bool false, .int .i64 0, .int .i64 0, .int .i64 0, .int .i64 0, .int .i64 0, .int .i64 0, .slice none 0 0]) e45 →
  ∃ t47 : Bool, ∃ n48 : Int, ∃ n49 : Int, ∃ n50 : Int, ∃ n51 : Int, ∃ n52 : Int, ∃ n53 : Int, ∃ A54 : Option Addr, ∃ N54 : Nat, ∃ C54 : Nat, Cells w46 ⟨b3, 0, none⟩ [.bool t47, .int .i64 n48, .int .i64 n49, .int .i64 n50, .int .i64 n51, .int .i64 n52, .int .i64 n53, .slice A54 N54 C54] ∧ R (.tuple #[.agg #[.bool t47, .int .i64 n48, .int .i64 n49, .int .i64 n50, .int .i64 n51, .int .i64 n52, .int .i64 n53, .slice A54 N54 C54], .int .i64 2]) w46)
  (Calls Tryz.prog 68 #[.pointer p1, .int .i64 n2, .pointer p30] w29 fun e w55 => ∃ t56 : Bool, e = .returned (.bool t56) ∧
  ifb (!t56)
  (∃ (l57 : List Value) (e58 : TypeId), Blk w55 b3 l57 e58 ∧ 0 + 8 ≤ l57.length ∧ ∀ w59 : World, Upd w55 w59 b3 (setSeg l57 0 [.bool false, .int .i64 0, .int .i64 0, .int .i64 0, .int .i64 0, .int .i64 0, .int .i64 0, .slice none 0 0]) e58 →
  ∃ t60 : Bool, ∃ n61 : Int, ∃ n62 : Int, ∃ n63 : Int, ∃ n64 : Int, ∃ n65 : Int, ∃ n66 : Int, ∃ A67 : Option Addr, ∃ N67 : Nat, ∃ C67 : Nat, Cells w59 ⟨b3, 0, none⟩ [.bool t60, .int .i64 n61, .int .i64 n62, .int .i64 n63, .int .i64 n64, .int .i64 n65, .int .i64 n66, .slice A67 N67 C67] ∧ R (.tuple #[.agg #[.bool t60, .int .i64 n61, .int .i64 n62, .int .i64 n63, .int .i64 n64, .int .i64 n65, .int .i64 n66, .slice A67 N67 C67], .int .i64 2]) w59)
  (Calls Tryz.prog 104 #[.pointer p1, .int .i64 n2, .pointer p30] w55 fun e w68 => ∃ t69 : Bool, ∃ n70 : Int, ∃ n71 : Int, ∃ n72 : Int, ∃ n73 : Int, ∃ n74 : Int, ∃ n75 : Int, ∃ A76 : Option Addr, ∃ N76 : Nat, ∃ C76 : Nat, e = .returned (.agg #[.bool t69, .int .i64 n70, .int .i64 n71, .int .i64 n72, .int .i64 n73, .int .i64 n74, .int .i64 n75, .slice A76 N76 C76]) ∧
  ∀ (b77 : Nat) (w78 : World), New w68 w78 b77 [.bool false, .int .i64 0, .int .i64 0, .int .i64 0, .int .i64 0, .int .i64 0, .int .i64 0, .slice none 0 0] 31 →
  ∃ (l79 : List Value) (e80 : TypeId), Blk w78 b77 l79 e80 ∧ 0 + 8 ≤ l79.length ∧ ∀ w81 : World, Upd w78 w81 b77 (setSeg l79 0 [.bool t69, .int .i64 n70, .int .i64 n71, .int .i64 n72, .int .i64 n73, .int .i64 n74, .int .i64 n75, .slice A76 N76 C76]) e80 →
  nilC p30 fun b82 o82 =>
  ∃ A83 : Option Addr, ∃ N83 : Nat, ∃ C83 : Nat, w81.drew.cell? ⟨b82, o82 + 2, none⟩ = some (.slice A83 N83 C83) ∧
  nilC p30 fun b84 o84 =>
  ∃ A85 : Option Addr, ∃ N85 : Nat, ∃ C85 : Nat, w81.drew.cell? ⟨b84, o84 + 2, none⟩ = some (.slice A85 N85 C85) ∧
  ∃ c86 : Int, IntKind.wrap .i64 (((N85 : Nat) : Int) - (1 : Int)) = c86 ∧
  ∃ t87 : Bool, ∃ n88 : Int, ∃ n89 : Int, ∃ n90 : Int, ∃ n91 : Int, ∃ n92 : Int, ∃ n93 : Int, ∃ A94 : Option Addr, ∃ N94 : Nat, ∃ C94 : Nat, Cells w81.drew ⟨b77, 0, none⟩ [.bool t87, .int .i64 n88, .int .i64 n89, .int .i64 n90, .int .i64 n91, .int .i64 n92, .int .i64 n93, .slice A94 N94 C94] ∧
  0 ≤ c86 ∧ c86 < ((N83 : Nat) : Int) ∧ ∃ b95 o96 : Nat, (A83 : Option Addr) = some ⟨b95, o96, none⟩ ∧
  ∃ (l97 : List Value) (e98 : TypeId), Blk w81.drew b95 l97 e98 ∧ o96 + c86.toNat * 22 + 11 + 8 ≤ l97.length ∧ ∀ w99 : World, Upd w81.drew w99 b95 (setSeg l97 (o96 + c86.toNat * 22 + 11) [.bool t87, .int .i64 n88, .int .i64 n89, .int .i64 n90, .int .i64 n91, .int .i64 n92, .int .i64 n93, .slice A94 N94 C94]) e98 →
  nilC p30 fun b100 o100 =>
  ∃ (l101 : List Value) (e102 : TypeId), Blk w99 b100 l101 e102 ∧ o100 + 3 + 1 ≤ l101.length ∧ ∀ w103 : World, Upd w99 w103 b100 (l101.set (o100 + 3) (.bool false)) e102 →
  nilC p30 fun b104 o104 =>
  ∃ (l105 : List Value) (e106 : TypeId), Blk w103 b104 l105 e106 ∧ o104 + 4 + 1 ≤ l105.length ∧ ∀ w107 : World, Upd w103 w107 b104 (l105.set (o104 + 4) (.pointer none)) e106 →
  ∃ t108 : Bool, ∃ n109 : Int, ∃ n110 : Int, ∃ n111 : Int, ∃ n112 : Int, ∃ n113 : Int, ∃ n114 : Int, ∃ A115 : Option Addr, ∃ N115 : Nat, ∃ C115 : Nat, Cells w107 ⟨b77, 0, none⟩ [.bool t108, .int .i64 n109, .int .i64 n110, .int .i64 n111, .int .i64 n112, .int .i64 n113, .int .i64 n114, .slice A115 N115 C115] ∧
  Calls Tryz.prog 72 #[.agg #[.bool t108, .int .i64 n109, .int .i64 n110, .int .i64 n111, .int .i64 n112, .int .i64 n113, .int .i64 n114, .slice A115 N115 C115]] w107 fun e w116 => ∃ t117 : Bool, ∃ n118 : Int, ∃ n119 : Int, ∃ n120 : Int, ∃ n121 : Int, ∃ n122 : Int, ∃ n123 : Int, ∃ A124 : Option Addr, ∃ N124 : Nat, ∃ C124 : Nat, e = .returned (.agg #[.bool t117, .int .i64 n118, .int .i64 n119, .int .i64 n120, .int .i64 n121, .int .i64 n122, .int .i64 n123, .slice A124 N124 C124]) ∧
  ∃ (l125 : List Value) (e126 : TypeId), Blk w116 b3 l125 e126 ∧ 0 + 8 ≤ l125.length ∧ ∀ w127 : World, Upd w116 w127 b3 (setSeg l125 0 [.bool t117, .int .i64 n118, .int .i64 n119, .int .i64 n120, .int .i64 n121, .int .i64 n122, .int .i64 n123, .slice A124 N124 C124]) e126 →
  ∃ t128 : Bool, ∃ n129 : Int, ∃ n130 : Int, ∃ n131 : Int, ∃ n132 : Int, ∃ n133 : Int, ∃ n134 : Int, ∃ A135 : Option Addr, ∃ N135 : Nat, ∃ C135 : Nat, Cells w127 ⟨b3, 0, none⟩ [.bool t128, .int .i64 n129, .int .i64 n130, .int .i64 n131, .int .i64 n132, .int .i64 n133, .int .i64 n134, .slice A135 N135 C135] ∧ R (.tuple #[.agg #[.bool t128, .int .i64 n129, .int .i64 n130, .int .i64 n131, .int .i64 n132, .int .i64 n133, .int .i64 n134, .slice A135 N135 C135], .int .i64 0]) w127)))))
def V.core_Core_Tell_ann : Ann := .s (.no) (.s (.no) (.s (.no) (.s (.no) (.s (.no) (.s (.draw (.r 0 (.r 1 (.r 2 (.r 3 (.r 4 (.r 5 (.r 6 (.r 7 (.r 8 (.r 9 (.r 10 (.r 11 (.r 12 (.e 13 [3, 7, 10] (.done))))))))))))))) [(13, 3), (13, 7), (13, 10)]) (.no))))))
theorem V.core_Core_Tell_eq (p1 : Option Addr) (n2 : Int) (w : World) (R : Value → World → Prop) : V.core_Core_Tell p1 n2 w R = fnW Tryz.prog [] [.cell 4 31, .tmp 5] (bodyOf Tryz.f35) V.core_Core_Tell_ann [.pointer p1, .int .i64 n2] w R := by kernel_rfl
theorem V.core_Core_Tell_ok : okC 64 (bodyOf Tryz.f35) V.core_Core_Tell_ann = true := by kernel_rfl
theorem V.core_Core_Tell_cs : (calleesC (bodyOf Tryz.f35)).all (entersB Tryz.prog) = true := by kernel_rfl
theorem V.core_Core_Tell_calls {p1 : Option Addr} {n2 : Int}  {w : World} {R : Value → World → Prop} (h : V.core_Core_Tell p1 n2 w R) : Calls Tryz.prog 35 #[.pointer p1, .int .i64 n2] w fun e w' => ∃ v, e = .returned v ∧ R v w' :=
  fn_sound (by kernel_rfl) Tryz.func35 (by kernel_rfl) V.core_Core_Tell_ok (enters_all V.core_Core_Tell_cs) (by kernel_rfl) ((V.core_Core_Tell_eq p1 n2 w R).mp h)

def V.core_Core_End (p1 : Option Addr) (n2 : Int) (w : World) (R : Value → World → Prop) : Prop :=
  ifb p1.isNone
  (R (.int .i64 1) w)
  (nilC p1 fun b3 o3 =>
  ∃ A4 : Option Addr, ∃ N4 : Nat, ∃ C4 : Nat, w.cell? ⟨b3, o3 + 6, none⟩ = some (.slice A4 N4 C4) ∧
  ifb (((N4 : Nat) : Int) == (0 : Int))
  (R (.int .i64 1) w)
  (Calls Tryz.prog 64 #[.pointer p1, .int .i64 n2] w fun e w5 => ∃ p6 : Option Addr, e = .returned (.pointer p6) ∧
  ifb p6.isNone
  (R (.int .i64 2) w5)
  (nilC p6 fun b7 o7 =>
  ∃ t8 : Bool, w5.cell? ⟨b7, o7 + 3, none⟩ = some (.bool t8) ∧
  ifb t8
  (R (.int .i64 2) w5)
  (nilC p6 fun b9 o9 =>
  ∃ t10 : Bool, w5.cell? ⟨b9, o9 + 6, none⟩ = some (.bool t10) ∧
  ifb t10
  (R (.int .i64 2) w5)
  (nilC p6 fun b11 o11 =>
  ∃ (l12 : List Value) (e13 : TypeId), Blk w5 b11 l12 e13 ∧ o11 + 6 + 1 ≤ l12.length ∧ ∀ w14 : World, Upd w5 w14 b11 (l12.set (o11 + 6) (.bool true)) e13 →
  R (.int .i64 0) w14)))))
def V.core_Core_End_ann : Ann := .no
theorem V.core_Core_End_eq (p1 : Option Addr) (n2 : Int) (w : World) (R : Value → World → Prop) : V.core_Core_End p1 n2 w R = fnW Tryz.prog [] [.tmp 4] (bodyOf Tryz.f36) V.core_Core_End_ann [.pointer p1, .int .i64 n2] w R := by kernel_rfl
theorem V.core_Core_End_ok : okC 36 (bodyOf Tryz.f36) V.core_Core_End_ann = true := by kernel_rfl
theorem V.core_Core_End_cs : (calleesC (bodyOf Tryz.f36)).all (entersB Tryz.prog) = true := by kernel_rfl
theorem V.core_Core_End_calls {p1 : Option Addr} {n2 : Int}  {w : World} {R : Value → World → Prop} (h : V.core_Core_End p1 n2 w R) : Calls Tryz.prog 36 #[.pointer p1, .int .i64 n2] w fun e w' => ∃ v, e = .returned v ∧ R v w' :=
  fn_sound (by kernel_rfl) Tryz.func36 (by kernel_rfl) V.core_Core_End_ok (enters_all V.core_Core_End_cs) (by kernel_rfl) ((V.core_Core_End_eq p1 n2 w R).mp h)

def V.core_Core_Open (p1 : Option Addr) (n2 : Int) (w : World) (R : Value → World → Prop) : Prop :=
  Calls Tryz.prog 64 #[.pointer p1, .int .i64 n2] w fun e w3 => ∃ p4 : Option Addr, e = .returned (.pointer p4) ∧
  ifb (!p4.isNone)
  (nilC p4 fun b5 o5 =>
  ∃ t6 : Bool, w3.cell? ⟨b5, o5 + 3, none⟩ = some (.bool t6) ∧
  R (.bool t6) w3)
  (R (.bool false) w3)
def V.core_Core_Open_ann : Ann := .no
theorem V.core_Core_Open_eq (p1 : Option Addr) (n2 : Int) (w : World) (R : Value → World → Prop) : V.core_Core_Open p1 n2 w R = fnW Tryz.prog [] [.tmp 4] (bodyOf Tryz.f37) V.core_Core_Open_ann [.pointer p1, .int .i64 n2] w R := by kernel_rfl
theorem V.core_Core_Open_ok : okC 17 (bodyOf Tryz.f37) V.core_Core_Open_ann = true := by kernel_rfl
theorem V.core_Core_Open_cs : (calleesC (bodyOf Tryz.f37)).all (entersB Tryz.prog) = true := by kernel_rfl
theorem V.core_Core_Open_calls {p1 : Option Addr} {n2 : Int}  {w : World} {R : Value → World → Prop} (h : V.core_Core_Open p1 n2 w R) : Calls Tryz.prog 37 #[.pointer p1, .int .i64 n2] w fun e w' => ∃ v, e = .returned v ∧ R v w' :=
  fn_sound (by kernel_rfl) Tryz.func37 (by kernel_rfl) V.core_Core_Open_ok (enters_all V.core_Core_Open_cs) (by kernel_rfl) ((V.core_Core_Open_eq p1 n2 w R).mp h)

def V.core_Core_Ended (p1 : Option Addr) (n2 : Int) (w : World) (R : Value → World → Prop) : Prop :=
  Calls Tryz.prog 64 #[.pointer p1, .int .i64 n2] w fun e w3 => ∃ p4 : Option Addr, e = .returned (.pointer p4) ∧
  ifb (!p4.isNone)
  (nilC p4 fun b5 o5 =>
  ∃ t6 : Bool, w3.cell? ⟨b5, o5 + 6, none⟩ = some (.bool t6) ∧
  R (.bool t6) w3)
  (R (.bool false) w3)
def V.core_Core_Ended_ann : Ann := .no
theorem V.core_Core_Ended_eq (p1 : Option Addr) (n2 : Int) (w : World) (R : Value → World → Prop) : V.core_Core_Ended p1 n2 w R = fnW Tryz.prog [] [.tmp 4] (bodyOf Tryz.f38) V.core_Core_Ended_ann [.pointer p1, .int .i64 n2] w R := by kernel_rfl
theorem V.core_Core_Ended_ok : okC 17 (bodyOf Tryz.f38) V.core_Core_Ended_ann = true := by kernel_rfl
theorem V.core_Core_Ended_cs : (calleesC (bodyOf Tryz.f38)).all (entersB Tryz.prog) = true := by kernel_rfl
theorem V.core_Core_Ended_calls {p1 : Option Addr} {n2 : Int}  {w : World} {R : Value → World → Prop} (h : V.core_Core_Ended p1 n2 w R) : Calls Tryz.prog 38 #[.pointer p1, .int .i64 n2] w fun e w' => ∃ v, e = .returned v ∧ R v w' :=
  fn_sound (by kernel_rfl) Tryz.func38 (by kernel_rfl) V.core_Core_Ended_ok (enters_all V.core_Core_Ended_cs) (by kernel_rfl) ((V.core_Core_Ended_eq p1 n2 w R).mp h)

def V.core_Core_Point (p1 : Option Addr) (n2 : Int) (n3 : Int) (w : World) (R : Value → World → Prop) : Prop :=
  Calls Tryz.prog 26 #[.pointer p1, .int .i64 n2, .int .i64 n3] w fun e w4 => ∃ n5 : Int, ∃ n6 : Int, ∃ n7 : Int, ∃ n8 : Int, ∃ n9 : Int, ∃ n10 : Int, ∃ n11 : Int, ∃ n12 : Int, ∃ A13 : Option Addr, ∃ N13 : Nat, ∃ C13 : Nat, ∃ n14 : Int, ∃ n15 : Int, ∃ t16 : Bool, ∃ n17 : Int, ∃ n18 : Int, ∃ n19 : Int, ∃ n20 : Int, ∃ n21 : Int, ∃ n22 : Int, ∃ A23 : Option Addr, ∃ N23 : Nat, ∃ C23 : Nat, ∃ t24 : Bool, e = .returned (.tuple #[.agg #[.int .u8 n5, .int .i64 n6, .int .i64 n7, .int .i64 n8, .int .i64 n9, .int .i64 n10, .int .i64 n11, .int .u8 n12, .slice A13 N13 C13, .int .i64 n14, .int .i64 n15], .agg #[.bool t16, .int .i64 n17, .int .i64 n18, .int .i64 n19, .int .i64 n20, .int .i64 n21, .int .i64 n22, .slice A23 N23 C23], .bool t24]) ∧
  ∀ (b25 : Nat) (w26 : World), New w4 w26 b25 [.int .u8 0, .int .i64 0, .int .i64 0, .int .i64 0, .int .i64 0, .int .i64 0, .int .i64 0, .int .u8 0, .slice none 0 0, .int .i64 0, .int .i64 0] 46 →
  ∀ (b27 : Nat) (w28 : World), New w26 w28 b27 [.bool false, .int .i64 0, .int .i64 0, .int .i64 0, .int .i64 0, .int .i64 0, .int .i64 0, .slice none 0 0] 31 →
  ∃ (l29 : List Value) (e30 : TypeId), Blk w28 b25 l29 e30 ∧ 0 + 11 ≤ l29.length ∧ ∀ w31 : World, Upd w28 w31 b25 (setSeg l29 0 [.int .u8 n5, .int .i64 n6, .int .i64 n7, .int .i64 n8, .int .i64 n9, .int .i64 n10, .int .i64 n11, .int .u8 n12, .slice A13 N13 C13, .int .i64 n14, .int .i64 n15]) e30 →
  ∃ (l32 : List Value) (e33 : TypeId), Blk w31 b27 l32 e33 ∧ 0 + 8 ≤ l32.length ∧ ∀ w34 : World, Upd w31 w34 b27 (setSeg l32 0 [.bool t16, .int .i64 n17, .int .i64 n18, .int .i64 n19, .int .i64 n20, .int .i64 n21, .int .i64 n22, .slice A23 N23 C23]) e33 →
  ifb t24
  (∃ n35 : Int, ∃ n36 : Int, ∃ n37 : Int, ∃ n38 : Int, ∃ n39 : Int, ∃ n40 : Int, ∃ n41 : Int, ∃ n42 : Int, ∃ A43 : Option Addr, ∃ N43 : Nat, ∃ C43 : Nat, ∃ n44 : Int, ∃ n45 : Int, Cells w34 ⟨b25, 0, none⟩ [.int .u8 n35, .int .i64 n36, .int .i64 n37, .int .i64 n38, .int .i64 n39, .int .i64 n40, .int .i64 n41, .int .u8 n42, .slice A43 N43 C43, .int .i64 n44, .int .i64 n45] ∧
  Calls Tryz.prog 105 #[.agg #[.int .u8 n35, .int .i64 n36, .int .i64 n37, .int .i64 n38, .int .i64 n39, .int .i64 n40, .int .i64 n41, .int .u8 n42, .slice A43 N43 C43, .int .i64 n44, .int .i64 n45]] w34 fun e w46 => ∃ t47 : Bool, e = .returned (.bool t47) ∧
  R (.bool t47) w46)
  (R (.bool false) w34)
def V.core_Core_Point_ann : Ann := .no
theorem V.core_Core_Point_eq (p1 : Option Addr) (n2 : Int) (n3 : Int) (w : World) (R : Value → World → Prop) : V.core_Core_Point p1 n2 n3 w R = fnW Tryz.prog [] [.tmp 6] (bodyOf Tryz.f39) V.core_Core_Point_ann [.pointer p1, .int .i64 n2, .int .i64 n3] w R := by kernel_rfl
theorem V.core_Core_Point_ok : okC 23 (bodyOf Tryz.f39) V.core_Core_Point_ann = true := by kernel_rfl
theorem V.core_Core_Point_cs : (calleesC (bodyOf Tryz.f39)).all (entersB Tryz.prog) = true := by kernel_rfl
theorem V.core_Core_Point_calls {p1 : Option Addr} {n2 : Int} {n3 : Int}  {w : World} {R : Value → World → Prop} (h : V.core_Core_Point p1 n2 n3 w R) : Calls Tryz.prog 39 #[.pointer p1, .int .i64 n2, .int .i64 n3] w fun e w' => ∃ v, e = .returned v ∧ R v w' :=
  fn_sound (by kernel_rfl) Tryz.func39 (by kernel_rfl) V.core_Core_Point_ok (enters_all V.core_Core_Point_cs) (by kernel_rfl) ((V.core_Core_Point_eq p1 n2 n3 w R).mp h)

def V.core_Core_Left (p1 : Option Addr) (n2 : Int) (w : World) (R : Value → World → Prop) : Prop :=
  Calls Tryz.prog 64 #[.pointer p1, .int .i64 n2] w fun e w3 => ∃ p4 : Option Addr, e = .returned (.pointer p4) ∧
  ifb p4.isNone
  (R (.slice none 0 0) w3)
  (nilC p4 fun b5 o5 =>
  ∃ p6 : Option Addr, w3.cell? ⟨b5, o5 + 1, none⟩ = some (.pointer p6) ∧
  Calls Tryz.prog 106 #[.pointer p6] w3 fun e w7 => ∃ A8 : Option Addr, ∃ N8 : Nat, ∃ C8 : Nat, e = .returned (.slice A8 N8 C8) ∧
  R (.slice A8 N8 C8) w7)
def V.core_Core_Left_ann : Ann := .no
theorem V.core_Core_Left_eq (p1 : Option Addr) (n2 : Int) (w : World) (R : Value → World → Prop) : V.core_Core_Left p1 n2 w R = fnW Tryz.prog [] [.tmp 4] (bodyOf Tryz.f40) V.core_Core_Left_ann [.pointer p1, .int .i64 n2] w R := by kernel_rfl
theorem V.core_Core_Left_ok : okC 16 (bodyOf Tryz.f40) V.core_Core_Left_ann = true := by kernel_rfl
theorem V.core_Core_Left_cs : (calleesC (bodyOf Tryz.f40)).all (entersB Tryz.prog) = true := by kernel_rfl
theorem V.core_Core_Left_calls {p1 : Option Addr} {n2 : Int}  {w : World} {R : Value → World → Prop} (h : V.core_Core_Left p1 n2 w R) : Calls Tryz.prog 40 #[.pointer p1, .int .i64 n2] w fun e w' => ∃ v, e = .returned v ∧ R v w' :=
  fn_sound (by kernel_rfl) Tryz.func40 (by kernel_rfl) V.core_Core_Left_ok (enters_all V.core_Core_Left_cs) (by kernel_rfl) ((V.core_Core_Left_eq p1 n2 w R).mp h)

def V.core_Core_Waiting (p1 : Option Addr) (n2 : Int) (w : World) (R : Value → World → Prop) : Prop :=
  Calls Tryz.prog 64 #[.pointer p1, .int .i64 n2] w fun e w3 => ∃ p4 : Option Addr, e = .returned (.pointer p4) ∧
  ifb p4.isNone
  (R (.slice none 0 0) w3)
  (nilC p1 fun b5 o5 =>
  ∃ p6 : Option Addr, w3.cell? ⟨b5, o5 + 8, none⟩ = some (.pointer p6) ∧
  Calls Tryz.prog 65 #[.pointer p6, .int .i64 n2] w3 fun e w7 => ∃ A8 : Option Addr, ∃ N8 : Nat, ∃ C8 : Nat, e = .returned (.slice A8 N8 C8) ∧
  R (.slice A8 N8 C8) w7)
def V.core_Core_Waiting_ann : Ann := .no
theorem V.core_Core_Waiting_eq (p1 : Option Addr) (n2 : Int) (w : World) (R : Value → World → Prop) : V.core_Core_Waiting p1 n2 w R = fnW Tryz.prog [] [.tmp 4] (bodyOf Tryz.f41) V.core_Core_Waiting_ann [.pointer p1, .int .i64 n2] w R := by kernel_rfl
theorem V.core_Core_Waiting_ok : okC 15 (bodyOf Tryz.f41) V.core_Core_Waiting_ann = true := by kernel_rfl
theorem V.core_Core_Waiting_cs : (calleesC (bodyOf Tryz.f41)).all (entersB Tryz.prog) = true := by kernel_rfl
theorem V.core_Core_Waiting_calls {p1 : Option Addr} {n2 : Int}  {w : World} {R : Value → World → Prop} (h : V.core_Core_Waiting p1 n2 w R) : Calls Tryz.prog 41 #[.pointer p1, .int .i64 n2] w fun e w' => ∃ v, e = .returned v ∧ R v w' :=
  fn_sound (by kernel_rfl) Tryz.func41 (by kernel_rfl) V.core_Core_Waiting_ok (enters_all V.core_Core_Waiting_cs) (by kernel_rfl) ((V.core_Core_Waiting_eq p1 n2 w R).mp h)

def V.core_Core_Odd (p1 : Option Addr) (w : World) (R : Value → World → Prop) : Prop :=
  ifb p1.isNone
  (R (.slice none 0 0) w)
  (nilC p1 fun b2 o2 =>
  ∃ p3 : Option Addr, w.cell? ⟨b2, o2 + 9, none⟩ = some (.pointer p3) ∧
  Calls Tryz.prog 107 #[.pointer p3] w fun e w4 => ∃ A5 : Option Addr, ∃ N5 : Nat, ∃ C5 : Nat, e = .returned (.slice A5 N5 C5) ∧
  R (.slice A5 N5 C5) w4)
def V.core_Core_Odd_ann : Ann := .no
theorem V.core_Core_Odd_eq (p1 : Option Addr) (w : World) (R : Value → World → Prop) : V.core_Core_Odd p1 w R = fnW Tryz.prog [] [.tmp 2] (bodyOf Tryz.f42) V.core_Core_Odd_ann [.pointer p1] w R := by kernel_rfl
theorem V.core_Core_Odd_ok : okC 10 (bodyOf Tryz.f42) V.core_Core_Odd_ann = true := by kernel_rfl
theorem V.core_Core_Odd_cs : (calleesC (bodyOf Tryz.f42)).all (entersB Tryz.prog) = true := by kernel_rfl
theorem V.core_Core_Odd_calls {p1 : Option Addr}  {w : World} {R : Value → World → Prop} (h : V.core_Core_Odd p1 w R) : Calls Tryz.prog 42 #[.pointer p1] w fun e w' => ∃ v, e = .returned v ∧ R v w' :=
  fn_sound (by kernel_rfl) Tryz.func42 (by kernel_rfl) V.core_Core_Odd_ok (enters_all V.core_Core_Odd_cs) (by kernel_rfl) ((V.core_Core_Odd_eq p1 w R).mp h)

def V.core_in (n1 : Int) (n2 : Int) (n3 : Int) (w : World) (R : Value → World → Prop) : Prop :=
  ifb (decide (n1 ≥ n2))
  (R (.bool (decide (n1 ≤ n3))) w)
  (R (.bool false) w)
def V.core_in_ann : Ann := .no
theorem V.core_in_eq (n1 : Int) (n2 : Int) (n3 : Int) (w : World) (R : Value → World → Prop) : V.core_in n1 n2 n3 w R = fnW Tryz.prog [] [.tmp 6] (bodyOf Tryz.f58) V.core_in_ann [.int .i64 n1, .int .i64 n2, .int .i64 n3] w R := by kernel_rfl
theorem V.core_in_ok : okC 15 (bodyOf Tryz.f58) V.core_in_ann = true := by kernel_rfl
theorem V.core_in_cs : (calleesC (bodyOf Tryz.f58)).all (entersB Tryz.prog) = true := by kernel_rfl
theorem V.core_in_calls {n1 : Int} {n2 : Int} {n3 : Int}  {w : World} {R : Value → World → Prop} (h : V.core_in n1 n2 n3 w R) : Calls Tryz.prog 58 #[.int .i64 n1, .int .i64 n2, .int .i64 n3] w fun e w' => ∃ v, e = .returned v ∧ R v w' :=
  fn_sound (by kernel_rfl) Tryz.func58 (by kernel_rfl) V.core_in_ok (enters_all V.core_in_cs) (by kernel_rfl) ((V.core_in_eq n1 n2 n3 w R).mp h)

def V.core_Core_of (p1 : Option Addr) (n2 : Int) (w : World) (R : Value → World → Prop) : Prop :=
  ifb p1.isNone
  (R (.pointer none) w)
  (nilC p1 fun b3 o3 =>
  ∃ A4 : Option Addr, ∃ N4 : Nat, ∃ C4 : Nat, w.cell? ⟨b3, o3 + 6, none⟩ = some (.slice A4 N4 C4) ∧
  ∃ c5 : Int, IntKind.wrap .i64 (((N4 : Nat) : Int) - (1 : Int)) = c5 ∧
  Calls Tryz.prog 58 #[.int .i64 n2, .int .i64 0, .int .i64 c5] w fun e w6 => ∃ t7 : Bool, e = .returned (.bool t7) ∧
  ifb (!t7)
  (R (.pointer none) w6)
  (nilC p1 fun b8 o8 =>
  ∃ A9 : Option Addr, ∃ N9 : Nat, ∃ C9 : Nat, w6.cell? ⟨b8, o8 + 6, none⟩ = some (.slice A9 N9 C9) ∧
  0 ≤ n2 ∧ n2 < ((N9 : Nat) : Int) ∧ ∃ b10 o11 : Nat, (A9 : Option Addr) = some ⟨b10, o11, none⟩ ∧
  ∃ p12 : Option Addr, w6.cell? ⟨b10, o11 + n2.toNat * 1, none⟩ = some (.pointer p12) ∧
  R (.pointer p12) w6))
def V.core_Core_of_ann : Ann := .no
theorem V.core_Core_of_eq (p1 : Option Addr) (n2 : Int) (w : World) (R : Value → World → Prop) : V.core_Core_of p1 n2 w R = fnW Tryz.prog [] [.tmp 4] (bodyOf Tryz.f64) V.core_Core_of_ann [.pointer p1, .int .i64 n2] w R := by kernel_rfl
theorem V.core_Core_of_ok : okC 25 (bodyOf Tryz.f64) V.core_Core_of_ann = true := by kernel_rfl
theorem V.core_Core_of_cs : (calleesC (bodyOf Tryz.f64)).all (entersB Tryz.prog) = true := by kernel_rfl
theorem V.core_Core_of_calls {p1 : Option Addr} {n2 : Int}  {w : World} {R : Value → World → Prop} (h : V.core_Core_of p1 n2 w R) : Calls Tryz.prog 64 #[.pointer p1, .int .i64 n2] w fun e w' => ∃ v, e = .returned v ∧ R v w' :=
  fn_sound (by kernel_rfl) Tryz.func64 (by kernel_rfl) V.core_Core_of_ok (enters_all V.core_Core_of_cs) (by kernel_rfl) ((V.core_Core_of_eq p1 n2 w R).mp h)

def V.queue_Queue_Left (p1 : Option Addr) (w : World) (R : Value → World → Prop) : Prop :=
  Calls Tryz.prog 143 #[.pointer p1] w fun e w2 => ∃ t3 : Bool, e = .returned (.bool t3) ∧
  ifb t3
  (R (.slice none 0 0) w2)
  (nilC p1 fun b4 o4 =>
  ∃ m5 : Option Nat, w2.cell? ⟨b4, o4, none⟩ = some (.map m5) ∧
  optC m5 False fun r10 =>
  ∃ es6 : List MapEntry, MapAt Tryz.prog 280 w2 r10 es6 ∧ ∀ (b9 : Nat) (w7 : World), NewI Tryz.prog 280 w2 w7 b9 r10 es6 →
  ∃ (I11 : Option Addr → Nat → Nat → World → Prop) (μ12 : Option Addr → Nat → Nat → World → Nat),
  I11 none 0 0 w7 ∧
  ∀ A15 : Option Addr, ∀ N15 : Nat, ∀ C15 : Nat, ∀ (jk14 : Env) (w13 : World), I11 A15 N15 C15 w13 →
  ∃ J16 : Bool → World → Prop,
  (∃ (k19 : TypeId) (r20 : Nat) (es21 left22 : List MapEntry) (cur23 : Option MapEntry), IterAt Tryz.prog k19 w13 b9 r20 es21 left22 cur23 ∧ (left22 = [] →
  J16 false w13) ∧
  ∀ (pre24 : List MapEntry) (x25 : MapEntry) (post26 : List MapEntry) (w27 : World), left22 = pre24 ++ x25 :: post26 → IterAt Tryz.prog k19 w27 b9 r20 es21 (pre24 ++ post26) (some x25) → Wrote w13 w27 b9 →
  J16 true w27) ∧
  ∀ t28 : Bool, ∀ (jk18 : Env) (w17 : World), J16 t28 w17 →
  ifb t28
  (∃ (k29 : TypeId) (r30 : Nat) (es31 left32 : List MapEntry) (x33 : MapEntry), IterAt Tryz.prog k29 w17 b9 r30 es31 left32 (some x33) ∧ ∃ s34 : ByteArray, ∃ n35 : Int, ∃ n36 : Int, x33.key = .agg #[.string s34, .int .i64 n35, .int .i64 n36] ∧ ∃ A37 : Option Addr, ∃ N37 : Nat, ∃ C37 : Nat, x33.val = .slice A37 N37 C37 ∧
  ∃ (I38 : Option Addr → Nat → Nat → Int → World → Prop) (μ39 : Option Addr → Nat → Nat → Int → World → Nat),
  I38 A15 N15 C15 (0 : Int) w17 ∧
  ∀ A42 : Option Addr, ∀ N42 : Nat, ∀ C42 : Nat, ∀ n43 : Int, ∀ (jk41 : Env) (w40 : World), I38 A42 N42 C42 n43 w40 →
  ifb (decide (n43 < ((N37 : Nat) : Int)))
  (0 ≤ n43 ∧ n43 < ((N37 : Nat) : Int) ∧ ∃ b44 o45 : Nat, (A37 : Option Addr) = some ⟨b44, o45, none⟩ ∧
  ∃ s46 : ByteArray, ∃ n47 : Int, ∃ n48 : Int, ∃ n49 : Int, ∃ n50 : Int, ∃ n51 : Int, ∃ n52 : Int, ∃ t53 : Bool, Cells w40 ⟨b44, o45 + n43.toNat * 8, none⟩ [.string s46, .int .i64 n47, .int .i64 n48, .int .i64 n49, .int .i64 n50, .int .i64 n51, .int .i64 n52, .bool t53] ∧
  ∀ (b54 : Nat) (w55 : World), New w40 w55 b54 [.string emptyS, .int .i64 0, .int .i64 0, .int .i64 0, .int .i64 0, .int .i64 0, .int .i64 0, .bool false] 157 →
  ∃ (l56 : List Value) (e57 : TypeId), Blk w55 b54 l56 e57 ∧ 0 + 8 ≤ l56.length ∧ ∀ w58 : World, Upd w55 w58 b54 (setSeg l56 0 [.string s46, .int .i64 n47, .int .i64 n48, .int .i64 n49, .int .i64 n50, .int .i64 n51, .int .i64 n52, .bool t53]) e57 →
  ∃ t59 : Bool, w58.cell? ⟨b54, 7, none⟩ = some (.bool t59) ∧
  ifb (!t59)
  (∃ s60 : ByteArray, ∃ n61 : Int, ∃ n62 : Int, ∃ n63 : Int, ∃ n64 : Int, ∃ n65 : Int, ∃ n66 : Int, ∃ t67 : Bool, Cells w58 ⟨b54, 0, none⟩ [.string s60, .int .i64 n61, .int .i64 n62, .int .i64 n63, .int .i64 n64, .int .i64 n65, .int .i64 n66, .bool t67] ∧
  ∀ (b68 : Nat) (w69 : World), New w58 w69 b68 [.string s60, .int .i64 n61, .int .i64 n62, .int .i64 n63, .int .i64 n64, .int .i64 n65, .int .i64 n66, .bool t67] 157 →
  ∃ xs70 news71 : List Value, w69.ownsRow 0 157 8 (.slice A42 N42 C42) N42 xs70 ∧ Reads w69 (some ⟨b68, 0, none⟩) 1 8 news71 ∧ N42 + 1 ≤ maxLen ∧ (N42 + 1) * 72 ≤ 140737488355328 ∧
  ∀ (A73 : Option Addr) (C73 : Nat) (w72 : World), w72.ownsRow 0 157 8 (.slice A73 (N42 + 1) C73) (N42 + 1) (xs70 ++ news71) → App w69 w72 A42 A73 →
  ∃ c74 : Int, IntKind.wrap .i64 (n43 + (1 : Int)) = c74 ∧
  I38 A73 (N42 + 1) C73 c74 w72 ∧ μ39 A73 (N42 + 1) C73 c74 w72 < μ39 A42 N42 C42 n43 w40)
  (∃ c75 : Int, IntKind.wrap .i64 (n43 + (1 : Int)) = c75 ∧
  I38 A42 N42 C42 c75 w58 ∧ μ39 A42 N42 C42 c75 w58 < μ39 A42 N42 C42 n43 w40))
  (I11 A42 N42 C42 w40 ∧ μ12 A42 N42 C42 w40 < μ12 A15 N15 C15 w13))
  (Calls Tryz.prog 144 #[.slice A15 N15 C15, .func (.func 145) #[] #[]] w17 fun e w76 => e = .returned (.tuple #[]) ∧
  R (.slice A15 N15 C15) w76))
def V.queue_Queue_Left_ann : Ann := .s (.no) (.s (.no) (.s (.no) (.s (.s (.no) (.b (.loop [(3, .one .sl)] (.s (.jn [(16, .one .b)] (.no)) (.s (.no) (.b (.s (.no) (.s (.no) (.b (.loop [(3, .one .sl), (21, .one (.i .i64))] (.no))))))))))) (.no))))
theorem V.queue_Queue_Left_eq (p1 : Option Addr) (w : World) (R : Value → World → Prop) : V.queue_Queue_Left p1 w R = fnW Tryz.prog [(17, .agg [.s, (.i .i64), (.i .i64)], .one .sl)] [.tmp 2] (bodyOf Tryz.f73) V.queue_Queue_Left_ann [.pointer p1] w R := by kernel_rfl
theorem V.queue_Queue_Left_ok : okC 36 (bodyOf Tryz.f73) V.queue_Queue_Left_ann = true := by kernel_rfl
theorem V.queue_Queue_Left_cs : (calleesC (bodyOf Tryz.f73)).all (entersB Tryz.prog) = true := by kernel_rfl
theorem V.queue_Queue_Left_calls {p1 : Option Addr}  {w : World} {R : Value → World → Prop} (h : V.queue_Queue_Left p1 w R) : Calls Tryz.prog 73 #[.pointer p1] w fun e w' => ∃ v, e = .returned v ∧ R v w' :=
  fn_sound (by kernel_rfl) Tryz.func73 (by kernel_rfl) V.queue_Queue_Left_ok (enters_all V.queue_Queue_Left_cs) (by kernel_rfl) ((V.queue_Queue_Left_eq p1 w R).mp h)

def V.queue_Queue_none (p1 : Option Addr) (w : World) (R : Value → World → Prop) : Prop :=
  ifb p1.isNone
  (R (.bool true) w)
  (nilC p1 fun b2 o2 =>
  ∃ m3 : Option Nat, w.cell? ⟨b2, o2, none⟩ = some (.map m3) ∧
  R (.bool m3.isNone) w)
def V.queue_Queue_none_ann : Ann := .no
theorem V.queue_Queue_none_eq (p1 : Option Addr) (w : World) (R : Value → World → Prop) : V.queue_Queue_none p1 w R = fnW Tryz.prog [] [.tmp 2] (bodyOf Tryz.f143) V.queue_Queue_none_ann [.pointer p1] w R := by kernel_rfl
theorem V.queue_Queue_none_ok : okC 12 (bodyOf Tryz.f143) V.queue_Queue_none_ann = true := by kernel_rfl
theorem V.queue_Queue_none_cs : (calleesC (bodyOf Tryz.f143)).all (entersB Tryz.prog) = true := by kernel_rfl
theorem V.queue_Queue_none_calls {p1 : Option Addr}  {w : World} {R : Value → World → Prop} (h : V.queue_Queue_none p1 w R) : Calls Tryz.prog 143 #[.pointer p1] w fun e w' => ∃ v, e = .returned v ∧ R v w' :=
  fn_sound (by kernel_rfl) Tryz.func143 (by kernel_rfl) V.queue_Queue_none_ok (enters_all V.queue_Queue_none_cs) (by kernel_rfl) ((V.queue_Queue_none_eq p1 w R).mp h)

def V.coll_Coll_Odd (p1 : Option Addr) (w : World) (R : Value → World → Prop) : Prop :=
  Calls Tryz.prog 183 #[.pointer p1] w fun e w2 => ∃ t3 : Bool, e = .returned (.bool t3) ∧
  ifb t3
  (R (.slice none 0 0) w2)
  (nilC p1 fun b4 o4 =>
  ∃ m5 : Option Nat, w2.cell? ⟨b4, o4 + 1, none⟩ = some (.map m5) ∧
  Calls Tryz.prog 201 #[.map m5] w2 fun e w6 => ∃ v7 : Value, e = .returned (v7) ∧
  Calls Tryz.prog 200 #[v7] w6 fun e w8 => ∃ A9 : Option Addr, ∃ N9 : Nat, ∃ C9 : Nat, e = .returned (.slice A9 N9 C9) ∧
  ∃ (I10 : Option Addr → Nat → Nat → Int → World → Prop) (μ11 : Option Addr → Nat → Nat → Int → World → Nat),
  I10 none 0 0 (0 : Int) w8 ∧
  ∀ A14 : Option Addr, ∀ N14 : Nat, ∀ C14 : Nat, ∀ n15 : Int, ∀ (jk13 : Env) (w12 : World), I10 A14 N14 C14 n15 w12 →
  ifb (decide (n15 < ((N9 : Nat) : Int)))
  (0 ≤ n15 ∧ n15 < ((N9 : Nat) : Int) ∧ ∃ b16 o17 : Nat, (A9 : Option Addr) = some ⟨b16, o17, none⟩ ∧
  ∃ s18 : ByteArray, w12.cell? ⟨b16, o17 + n15.toNat * 1, none⟩ = some (.string s18) ∧
  nilC p1 fun b19 o19 =>
  ∃ m20 : Option Nat, w12.cell? ⟨b19, o19 + 1, none⟩ = some (.map m20) ∧
  Go.Maps.Keyed Tryz.prog 9 ∧ (∃ l, keyOf Tryz.prog 9 (.string s18) = some l) ∧
  ∃ es21 : List MapEntry, MapO Tryz.prog 9 w12 m20 es21 ∧ ∃ p24 : Option Addr, ∃ t25 : Bool, LookR es21 (.string s18) (.pointer none) (.pointer p24) t25 ∧
  nilC p24 fun b26 o26 =>
  ∃ A27 : Option Addr, ∃ N27 : Nat, ∃ C27 : Nat, w12.cell? ⟨b26, o26 + 2, none⟩ = some (.slice A27 N27 C27) ∧
  ∃ (I28 : Int → Int → World → Prop) (μ29 : Int → Int → World → Nat),
  I28 (0 : Int) (0 : Int) w12 ∧
  ∀ n32 : Int, ∀ n33 : Int, ∀ (jk31 : Env) (w30 : World), I28 n32 n33 w30 →
  ifb (decide (n33 < ((N27 : Nat) : Int)))
  (0 ≤ n33 ∧ n33 < ((N27 : Nat) : Int) ∧ ∃ b34 o35 : Nat, (A27 : Option Addr) = some ⟨b34, o35, none⟩ ∧
  ∃ A36 : Option Addr, ∃ N36 : Nat, ∃ C36 : Nat, w30.cell? ⟨b34, o35 + n33.toNat * 1, none⟩ = some (.slice A36 N36 C36) ∧
  ∃ c37 : Int, IntKind.wrap .i64 (n33 + (1 : Int)) = c37 ∧
  I28 (mx n32 ((N36 : Nat) : Int)) c37 w30 ∧ μ29 (mx n32 ((N36 : Nat) : Int)) c37 w30 < μ29 n32 n33 w30)
  (∃ (I38 : Option Addr → Nat → Nat → Int → World → Prop) (μ39 : Option Addr → Nat → Nat → Int → World → Nat),
  I38 A14 N14 C14 (0 : Int) w30 ∧
  ∀ A42 : Option Addr, ∀ N42 : Nat, ∀ C42 : Nat, ∀ n43 : Int, ∀ (jk41 : Env) (w40 : World), I38 A42 N42 C42 n43 w40 →
  ifb (decide (n43 < n32))
  (Calls Tryz.prog 202 #[.pointer p24, .int .i64 n43] w40 fun e w44 => ∃ t45 : Bool, e = .returned (.bool t45) ∧
  ifb t45
  ((s18 : ByteArray).size + (⟨#[46]⟩ : ByteArray).size ≤ 9223372036854775807 ∧
  Calls Tryz.prog 203 #[.int .i64 n43] w44 fun e w46 => ∃ s47 : ByteArray, e = .returned (.string s47) ∧
  ((s18 : ByteArray) ++ (⟨#[46]⟩ : ByteArray) : ByteArray).size + (s47 : ByteArray).size ≤ 9223372036854775807 ∧
  ∀ (b48 : Nat) (w49 : World), New w46 w49 b48 [.string (((s18 : ByteArray) ++ (⟨#[46]⟩ : ByteArray) : ByteArray) ++ (s47 : ByteArray))] 9 →
  ∃ xs50 news51 : List Value, w49.ownsRow 0 9 1 (.slice A42 N42 C42) N42 xs50 ∧ Reads w49 (some ⟨b48, 0, none⟩) 1 1 news51 ∧ N42 + 1 ≤ maxLen ∧ (N42 + 1) * 16 ≤ 140737488355328 ∧
  ∀ (A53 : Option Addr) (C53 : Nat) (w52 : World), w52.ownsRow 0 9 1 (.slice A53 (N42 + 1) C53) (N42 + 1) (xs50 ++ news51) → App w49 w52 A42 A53 →
  ∃ c54 : Int, IntKind.wrap .i64 (n43 + (1 : Int)) = c54 ∧
  I38 A53 (N42 + 1) C53 c54 w52 ∧ μ39 A53 (N42 + 1) C53 c54 w52 < μ39 A42 N42 C42 n43 w40)
  (∃ c55 : Int, IntKind.wrap .i64 (n43 + (1 : Int)) = c55 ∧
  I38 A42 N42 C42 c55 w44 ∧ μ39 A42 N42 C42 c55 w44 < μ39 A42 N42 C42 n43 w40))
  (∃ c56 : Int, IntKind.wrap .i64 (n15 + (1 : Int)) = c56 ∧
  I10 A42 N42 C42 c56 w40 ∧ μ11 A42 N42 C42 c56 w40 < μ11 A14 N14 C14 n15 w12)))
  (R (.slice A14 N14 C14) w12))
def V.coll_Coll_Odd_ann : Ann := .s (.no) (.s (.no) (.s (.no) (.s (.s (.no) (.b (.loop [(3, .one .sl), (20, .one (.i .i64))] (.s (.no) (.s (.no) (.s (.b (.s (.no) (.s (.no) (.s (.no) (.s (.s (.no) (.b (.loop [(7, .one (.i .i64)), (35, .one (.i .i64))] (.no)))) (.s (.no) (.b (.loop [(3, .one .sl), (45, .one (.i .i64))] (.no))))))))) (.no))))))) (.no))))
theorem V.coll_Coll_Odd_eq (p1 : Option Addr) (w : World) (R : Value → World → Prop) : V.coll_Coll_Odd p1 w R = fnW Tryz.prog [] [.tmp 2] (bodyOf Tryz.f107) V.coll_Coll_Odd_ann [.pointer p1] w R := by kernel_rfl
theorem V.coll_Coll_Odd_ok : okC 62 (bodyOf Tryz.f107) V.coll_Coll_Odd_ann = true := by kernel_rfl
theorem V.coll_Coll_Odd_cs : (calleesC (bodyOf Tryz.f107)).all (entersB Tryz.prog) = true := by kernel_rfl
theorem V.coll_Coll_Odd_calls {p1 : Option Addr}  {w : World} {R : Value → World → Prop} (h : V.coll_Coll_Odd p1 w R) : Calls Tryz.prog 107 #[.pointer p1] w fun e w' => ∃ v, e = .returned v ∧ R v w' :=
  fn_sound (by kernel_rfl) Tryz.func107 (by kernel_rfl) V.coll_Coll_Odd_ok (enters_all V.coll_Coll_Odd_cs) (by kernel_rfl) ((V.coll_Coll_Odd_eq p1 w R).mp h)

def V.coll_Coll_none (p1 : Option Addr) (w : World) (R : Value → World → Prop) : Prop :=
  ifb p1.isNone
  (R (.bool true) w)
  (nilC p1 fun b2 o2 =>
  ∃ m3 : Option Nat, w.cell? ⟨b2, o2 + 1, none⟩ = some (.map m3) ∧
  R (.bool m3.isNone) w)
def V.coll_Coll_none_ann : Ann := .no
theorem V.coll_Coll_none_eq (p1 : Option Addr) (w : World) (R : Value → World → Prop) : V.coll_Coll_none p1 w R = fnW Tryz.prog [] [.tmp 2] (bodyOf Tryz.f183) V.coll_Coll_none_ann [.pointer p1] w R := by kernel_rfl
theorem V.coll_Coll_none_ok : okC 12 (bodyOf Tryz.f183) V.coll_Coll_none_ann = true := by kernel_rfl
theorem V.coll_Coll_none_cs : (calleesC (bodyOf Tryz.f183)).all (entersB Tryz.prog) = true := by kernel_rfl
theorem V.coll_Coll_none_calls {p1 : Option Addr}  {w : World} {R : Value → World → Prop} (h : V.coll_Coll_none p1 w R) : Calls Tryz.prog 183 #[.pointer p1] w fun e w' => ∃ v, e = .returned v ∧ R v w' :=
  fn_sound (by kernel_rfl) Tryz.func183 (by kernel_rfl) V.coll_Coll_none_ok (enters_all V.coll_Coll_none_cs) (by kernel_rfl) ((V.coll_Coll_none_eq p1 w R).mp h)

end Go.Proofs.YthgfnocngopecaaGreatDoor
