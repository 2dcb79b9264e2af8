/- PRINTED by this session's own vc.py: verification conditions of functions, and that they are enough. Conditions: none. -/
import Derived.Test.YtdaojmkbjkaakaaDoorGc
import Derived.Test.YtdaojmkbjkaakaaDoorProg
set_option linter.unusedVariables false
set_option maxRecDepth 100000
namespace Go.Proofs.YtdaojmkbjkaakaaDoor
open Go.Vc

def V.dispatcherlaw15_CollNil (s1 : ByteArray) (A2 : Option Addr) (N2 : Nat) (C2 : Nat) (n3 : Int) (n4 : Int) (n5 : Int) (n6 : Int) (n7 : Int) (n8 : Int) (n9 : Int) (t10 : Bool) (w : World) (R : Value → World → Prop) : Prop :=
  ∀ (b11 : Nat) (w12 : World), New w w12 b11 [.string s1, .slice A2 N2 C2, .int .i64 n3, .int .u8 n4, .int .i64 n5, .int .u8 n6, .int .i64 n7, .int .i64 n8, .int .i64 n9, .bool t10] 36 →
  ∃ s13 : ByteArray, ∃ A14 : Option Addr, ∃ N14 : Nat, ∃ C14 : Nat, ∃ n15 : Int, ∃ n16 : Int, ∃ n17 : Int, ∃ n18 : Int, ∃ n19 : Int, ∃ n20 : Int, ∃ n21 : Int, ∃ t22 : Bool, Cells w12 ⟨b11, 0, none⟩ [.string s13, .slice A14 N14 C14, .int .i64 n15, .int .u8 n16, .int .i64 n17, .int .u8 n18, .int .i64 n19, .int .i64 n20, .int .i64 n21, .bool t22] ∧
  ∀ (b23 : Nat) (w24 : World), New w12 w24 b23 [.string s13, .slice A14 N14 C14, .int .i64 n15, .int .u8 n16, .int .i64 n17, .int .u8 n18, .int .i64 n19, .int .i64 n20, .int .i64 n21, .bool t22] 36 →
  Calls Tryd.prog 10 #[.slice (some ⟨b23, 0, none⟩) 1 1] w24 fun e w25 => ∃ t26 : Bool, e = .returned (.bool t26) ∧
  ifb t26
  (R (.bool true) w25)
  (∀ (b27 : Nat) (w28 : World), New w25 w28 b27 [.bool false, .map none] 72 →
  ∀ (b29 : Nat) (w30 : World), New w28 w30 b29 [.pointer none, .pointer (some ⟨b27, 0, none⟩)] 24 →
  ∃ (I31 : Int → World → Prop) (μ32 : Int → World → Nat),
  I31 (0 : Int) w30 ∧
  ∀ n35 : Int, ∀ (jk34 : Env) (w33 : World), I31 n35 w33 →
  ifb (decide (n35 < ((2 : Nat) : Int)))
  (0 ≤ n35 ∧ n35 < ((2 : Nat) : Int) ∧ ∃ b36 o37 : Nat, (some ⟨b29, 0, none⟩ : Option Addr) = some ⟨b36, o37, none⟩ ∧
  ∃ p38 : Option Addr, w33.cell? ⟨b36, o37 + n35.toNat * 1, none⟩ = some (.pointer p38) ∧
  ∃ s39 : ByteArray, ∃ A40 : Option Addr, ∃ N40 : Nat, ∃ C40 : Nat, Cells w33 ⟨b11, 0, none⟩ [.string s39, .slice A40 N40 C40] ∧
  ∃ n41 : Int, w33.cell? ⟨b11, 2, none⟩ = some (.int .i64 n41) ∧
  ∃ n42 : Int, ∃ n43 : Int, ∃ n44 : Int, ∃ n45 : Int, ∃ n46 : Int, ∃ n47 : Int, Cells w33 ⟨b11, 3, none⟩ [.int .u8 n42, .int .i64 n43, .int .u8 n44, .int .i64 n45, .int .i64 n46, .int .i64 n47] ∧
  Calls Tryd.prog 12 #[.pointer p38, .agg #[.string s39, .slice A40 N40 C40], .int .i64 n41, .agg #[.int .u8 n42, .int .i64 n43, .int .u8 n44, .int .i64 n45, .int .i64 n46, .int .i64 n47]] w33 fun e w48 => ∃ n49 : Int, ∃ n50 : Int, e = .returned (.tuple #[.int .i64 n49, .int .i64 n50]) ∧
  ∃ s51 : ByteArray, w48.cell? ⟨b11, 0, none⟩ = some (.string s51) ∧
  ∃ n52 : Int, w48.cell? ⟨b11, 2, none⟩ = some (.int .i64 n52) ∧
  Calls Tryd.prog 27 #[.pointer p38, .string s51, .int .i64 n52, .int .i64 0] w48 fun e w53 => ∃ n54 : Int, ∃ A55 : Option Addr, ∃ N55 : Nat, ∃ C55 : Nat, ∃ s56 : ByteArray, ∃ A57 : Option Addr, ∃ N57 : Nat, ∃ C57 : Nat, ∃ t58 : Bool, ∃ t59 : Bool, e = .returned (.tuple #[.agg #[.int .i64 n54, .slice A55 N55 C55, .string s56, .slice A57 N57 C57, .bool t58], .bool t59]) ∧
  ∀ (b60 : Nat) (w61 : World), New w53 w61 b60 [.int .i64 0, .slice none 0 0, .string emptyS, .slice none 0 0, .bool false] 57 →
  ∃ (l62 : List Value) (e63 : TypeId), Blk w61 b60 l62 e63 ∧ 0 + 5 ≤ l62.length ∧ ∀ w64 : World, Upd w61 w64 b60 (setSeg l62 0 [.int .i64 n54, .slice A55 N55 C55, .string s56, .slice A57 N57 C57, .bool t58]) e63 →
  ifb (n50 != (1 : Int))
  (R (.bool false) w64)
  (ifb t59
  (R (.bool false) w64)
  (∃ n65 : Int, ∃ A66 : Option Addr, ∃ N66 : Nat, ∃ C66 : Nat, ∃ s67 : ByteArray, ∃ A68 : Option Addr, ∃ N68 : Nat, ∃ C68 : Nat, ∃ t69 : Bool, Cells w64 ⟨b60, 0, none⟩ [.int .i64 n65, .slice A66 N66 C66, .string s67, .slice A68 N68 C68, .bool t69] ∧
  Calls Tryd.prog 28 #[.agg #[.int .i64 n65, .slice A66 N66 C66, .string s67, .slice A68 N68 C68, .bool t69], .agg #[.int .i64 0, .slice none 0 0, .string emptyS, .slice none 0 0, .bool false]] w64 fun e w70 => ∃ t71 : Bool, e = .returned (.bool t71) ∧
  ifb (!t71)
  (R (.bool false) w70)
  (∃ s72 : ByteArray, w70.cell? ⟨b11, 0, none⟩ = some (.string s72) ∧
  ∃ n73 : Int, w70.cell? ⟨b11, 2, none⟩ = some (.int .i64 n73) ∧
  Calls Tryd.prog 31 #[.pointer p38, .string s72, .int .i64 n73, .int .i64 0] w70 fun e w74 => ∃ t75 : Bool, e = .returned (.bool t75) ∧
  ifb t75
  (R (.bool false) w74)
  (∃ s76 : ByteArray, w74.cell? ⟨b11, 0, none⟩ = some (.string s76) ∧
  ∃ n77 : Int, w74.cell? ⟨b11, 2, none⟩ = some (.int .i64 n77) ∧
  Calls Tryd.prog 17 #[.pointer p38, .string s76, .int .i64 n77] w74 fun e w78 => ∃ n79 : Int, e = .returned (.int .i64 n79) ∧
  ifb (n79 != (0 : Int))
  (R (.bool false) w78)
  (Calls Tryd.prog 24 #[.pointer p38] w78 fun e w80 => ∃ A81 : Option Addr, ∃ N81 : Nat, ∃ C81 : Nat, e = .returned (.slice A81 N81 C81) ∧
  ifb (((N81 : Nat) : Int) != (0 : Int))
  (R (.bool false) w80)
  (∃ c82 : Int, IntKind.wrap .i64 (n35 + (1 : Int)) = c82 ∧
  I31 c82 w80 ∧ μ32 c82 w80 < μ32 n35 w33)))))))
  (Calls Tryd.prog 15 #[.pointer none] w33 fun e w83 => ∃ p84 : Option Addr, e = .returned (.pointer p84) ∧
  R (.bool p84.isNone) w83))
def V.dispatcherlaw15_CollNil_ann : Ann := .s (.no) (.s (.no) (.s (.no) (.s (.no) (.s (.s (.no) (.b (.loop [(5, .one (.i .i64))] (.no)))) (.no)))))
theorem V.dispatcherlaw15_CollNil_eq (s1 : ByteArray) (A2 : Option Addr) (N2 : Nat) (C2 : Nat) (n3 : Int) (n4 : Int) (n5 : Int) (n6 : Int) (n7 : Int) (n8 : Int) (n9 : Int) (t10 : Bool) (w : World) (R : Value → World → Prop) : V.dispatcherlaw15_CollNil s1 A2 N2 C2 n3 n4 n5 n6 n7 n8 n9 t10 w R = fnW Tryd.prog [] [.tmp 2] (bodyOf Tryd.f9) V.dispatcherlaw15_CollNil_ann [.agg #[.string s1, .slice A2 N2 C2, .int .i64 n3, .int .u8 n4, .int .i64 n5, .int .u8 n6, .int .i64 n7, .int .i64 n8, .int .i64 n9, .bool t10]] w R := by kernel_rfl
theorem V.dispatcherlaw15_CollNil_ok : okC 88 (bodyOf Tryd.f9) V.dispatcherlaw15_CollNil_ann = true := by kernel_rfl
theorem V.dispatcherlaw15_CollNil_cs : (calleesC (bodyOf Tryd.f9)).all (entersB Tryd.prog) = true := by kernel_rfl
theorem V.dispatcherlaw15_CollNil_calls {s1 : ByteArray} {A2 : Option Addr} {N2 : Nat} {C2 : Nat} {n3 : Int} {n4 : Int} {n5 : Int} {n6 : Int} {n7 : Int} {n8 : Int} {n9 : Int} {t10 : Bool}  {w : World} {R : Value → World → Prop} (h : V.dispatcherlaw15_CollNil s1 A2 N2 C2 n3 n4 n5 n6 n7 n8 n9 t10 w R) : Calls Tryd.prog 9 #[.agg #[.string s1, .slice A2 N2 C2, .int .i64 n3, .int .u8 n4, .int .i64 n5, .int .u8 n6, .int .i64 n7, .int .i64 n8, .int .i64 n9, .bool t10]] w fun e w' => ∃ v, e = .returned v ∧ R v w' :=
  fn_sound (by kernel_rfl) Tryd.func9 (by kernel_rfl) V.dispatcherlaw15_CollNil_ok (enters_all V.dispatcherlaw15_CollNil_cs) (by kernel_rfl) ((V.dispatcherlaw15_CollNil_eq s1 A2 N2 C2 n3 n4 n5 n6 n7 n8 n9 t10 w R).mp h)

def V.dispatcherlaw15_Great (A1 : Option Addr) (N1 : Nat) (C1 : Nat) (w : World) (R : Value → World → Prop) : Prop :=
  ifb (decide (((N1 : Nat) : Int) > (80 : Int)))
  (R (.bool true) w)
  (∃ (I2 : Int → World → Prop) (μ3 : Int → World → Nat),
  I2 (0 : Int) w ∧
  ∀ n6 : Int, ∀ (jk5 : Env) (w4 : World), I2 n6 w4 →
  ifb (decide (n6 < ((N1 : Nat) : Int)))
  (0 ≤ n6 ∧ n6 < ((N1 : Nat) : Int) ∧ ∃ b7 o8 : Nat, (A1 : Option Addr) = some ⟨b7, o8, none⟩ ∧
  ∃ s9 : ByteArray, ∃ A10 : Option Addr, ∃ N10 : Nat, ∃ C10 : Nat, Cells w4 ⟨b7, o8 + n6.toNat * 10, none⟩ [.string s9, .slice A10 N10 C10] ∧
  Calls Tryd.prog 33 #[.agg #[.string s9, .slice A10 N10 C10]] w4 fun e w11 => ∃ t12 : Bool, e = .returned (.bool t12) ∧
  ifb t12
  (R (.bool true) w11)
  (0 ≤ n6 ∧ n6 < ((N1 : Nat) : Int) ∧ ∃ b13 o14 : Nat, (A1 : Option Addr) = some ⟨b13, o14, none⟩ ∧
  ∃ A15 : Option Addr, ∃ N15 : Nat, ∃ C15 : Nat, w11.cell? ⟨b13, o14 + n6.toNat * 10 + 1, none⟩ = some (.slice A15 N15 C15) ∧
  ifb (decide (((N15 : Nat) : Int) > (8 : Int)))
  (R (.bool true) w11)
  (∃ c16 : Int, IntKind.wrap .i64 (n6 + (1 : Int)) = c16 ∧
  I2 c16 w11 ∧ μ3 c16 w11 < μ3 n6 w4)))
  (R (.bool false) w4))
def V.dispatcherlaw15_Great_ann : Ann := .s (.no) (.s (.no) (.s (.s (.no) (.b (.loop [(3, .one (.i .i64))] (.no)))) (.no)))
theorem V.dispatcherlaw15_Great_eq (A1 : Option Addr) (N1 : Nat) (C1 : Nat) (w : World) (R : Value → World → Prop) : V.dispatcherlaw15_Great A1 N1 C1 w R = fnW Tryd.prog [] [.tmp 2] (bodyOf Tryd.f10) V.dispatcherlaw15_Great_ann [.slice A1 N1 C1] w R := by kernel_rfl
theorem V.dispatcherlaw15_Great_ok : okC 29 (bodyOf Tryd.f10) V.dispatcherlaw15_Great_ann = true := by kernel_rfl
theorem V.dispatcherlaw15_Great_cs : (calleesC (bodyOf Tryd.f10)).all (entersB Tryd.prog) = true := by kernel_rfl
theorem V.dispatcherlaw15_Great_calls {A1 : Option Addr} {N1 : Nat} {C1 : Nat}  {w : World} {R : Value → World → Prop} (h : V.dispatcherlaw15_Great A1 N1 C1 w R) : Calls Tryd.prog 10 #[.slice A1 N1 C1] w fun e w' => ∃ v, e = .returned v ∧ R v w' :=
  fn_sound (by kernel_rfl) Tryd.func10 (by kernel_rfl) V.dispatcherlaw15_Great_ok (enters_all V.dispatcherlaw15_Great_cs) (by kernel_rfl) ((V.dispatcherlaw15_Great_eq A1 N1 C1 w R).mp h)

def V.dispatcherlaw11_Great (s1 : ByteArray) (A2 : Option Addr) (N2 : Nat) (C2 : Nat) (w : World) (R : Value → World → Prop) : Prop :=
  ∀ (b3 : Nat) (w4 : World), New w w4 b3 [.string s1, .slice A2 N2 C2] 32 →
  ∃ A5 : Option Addr, ∃ N5 : Nat, ∃ C5 : Nat, w4.cell? ⟨b3, 1, none⟩ = some (.slice A5 N5 C5) ∧
  ifb (decide (((N5 : Nat) : Int) > (80 : Int)))
  (R (.bool true) w4)
  (∃ s6 : ByteArray, w4.cell? ⟨b3, 0, none⟩ = some (.string s6) ∧
  R (.bool (decide (((s6.size : Nat) : Int) > (200 : Int)))) w4)
def V.dispatcherlaw11_Great_ann : Ann := .no
theorem V.dispatcherlaw11_Great_eq (s1 : ByteArray) (A2 : Option Addr) (N2 : Nat) (C2 : Nat) (w : World) (R : Value → World → Prop) : V.dispatcherlaw11_Great s1 A2 N2 C2 w R = fnW Tryd.prog [] [.tmp 2] (bodyOf Tryd.f33) V.dispatcherlaw11_Great_ann [.agg #[.string s1, .slice A2 N2 C2]] w R := by kernel_rfl
theorem V.dispatcherlaw11_Great_ok : okC 13 (bodyOf Tryd.f33) V.dispatcherlaw11_Great_ann = true := by kernel_rfl
theorem V.dispatcherlaw11_Great_cs : (calleesC (bodyOf Tryd.f33)).all (entersB Tryd.prog) = true := by kernel_rfl
theorem V.dispatcherlaw11_Great_calls {s1 : ByteArray} {A2 : Option Addr} {N2 : Nat} {C2 : Nat}  {w : World} {R : Value → World → Prop} (h : V.dispatcherlaw11_Great s1 A2 N2 C2 w R) : Calls Tryd.prog 33 #[.agg #[.string s1, .slice A2 N2 C2]] w fun e w' => ∃ v, e = .returned v ∧ R v w' :=
  fn_sound (by kernel_rfl) Tryd.func33 (by kernel_rfl) V.dispatcherlaw11_Great_ok (enters_all V.dispatcherlaw11_Great_cs) (by kernel_rfl) ((V.dispatcherlaw11_Great_eq s1 A2 N2 C2 w R).mp h)

def V.coll_Coll_Bring (p1 : Option Addr) (s2 : ByteArray) (A3 : Option Addr) (N3 : Nat) (C3 : Nat) (n4 : Int) (n5 : Int) (n6 : Int) (n7 : Int) (n8 : Int) (n9 : Int) (n10 : Int) (w : World) (R : Value → World → Prop) : Prop :=
  ∀ (b11 : Nat) (w12 : World), New w w12 b11 [.string s2, .slice A3 N3 C3] 32 →
  ∀ (b13 : Nat) (w14 : World), New w12 w14 b13 [.int .u8 n5, .int .i64 n6, .int .u8 n7, .int .i64 n8, .int .i64 n9, .int .i64 n10] 34 →
  Calls Tryd.prog 34 #[.pointer p1] w14 fun e w15 => ∃ t16 : Bool, e = .returned (.bool t16) ∧
  ifb t16
  (R (.tuple #[.int .i64 0, .int .i64 1]) w15)
  (nilC p1 fun b17 o17 =>
  ∃ m18 : Option Nat, w15.drew.cell? ⟨b17, o17 + 1, none⟩ = some (.map m18) ∧
  ∃ s19 : ByteArray, w15.drew.cell? ⟨b11, 0, none⟩ = some (.string s19) ∧
  Go.Maps.Keyed Tryd.prog 9 ∧ (∃ l, keyOf Tryd.prog 9 (.string s19) = some l) ∧
  ∃ es20 : List MapEntry, MapO Tryd.prog 9 w15.drew m18 es20 ∧ ∃ p23 : Option Addr, ∃ t24 : Bool, LookR es20 (.string s19) (.pointer none) (.pointer p23) t24 ∧
  ∃ s25 : ByteArray, ∃ A26 : Option Addr, ∃ N26 : Nat, ∃ C26 : Nat, Cells w15.drew ⟨b11, 0, none⟩ [.string s25, .slice A26 N26 C26] ∧
  Calls Tryd.prog 35 #[.agg #[.string s25, .slice A26 N26 C26], .int .i64 n4] w15.drew fun e w27 => ∃ n28 : Int, ∃ t29 : Bool, e = .returned (.tuple #[.int .i64 n28, .bool t29]) ∧
  ∃ J30 : World → Prop,
  (∃ s33 : ByteArray, ∃ A34 : Option Addr, ∃ N34 : Nat, ∃ C34 : Nat, Cells w27.drew ⟨b11, 0, none⟩ [.string s33, .slice A34 N34 C34] ∧
  Calls Tryd.prog 36 #[.agg #[.string s33, .slice A34 N34 C34]] w27.drew fun e w35 => ∃ t36 : Bool, e = .returned (.bool t36) ∧
  ifb (!t36)
  (R (.tuple #[.int .i64 0, .int .i64 2]) w35)
  (ifb (!t29)
  (R (.tuple #[.int .i64 0, .int .i64 2]) w35)
  (ifb (!p23.isNone)
  (nilC p23 fun b37 o37 =>
  ∃ s38 : ByteArray, ∃ A39 : Option Addr, ∃ N39 : Nat, ∃ C39 : Nat, Cells w35 ⟨b37, o37, none⟩ [.string s38, .slice A39 N39 C39] ∧
  ∃ s40 : ByteArray, ∃ A41 : Option Addr, ∃ N41 : Nat, ∃ C41 : Nat, Cells w35 ⟨b11, 0, none⟩ [.string s40, .slice A41 N41 C41] ∧
  Calls Tryd.prog 37 #[.agg #[.string s38, .slice A39 N39 C39], .agg #[.string s40, .slice A41 N41 C41]] w35 fun e w42 => ∃ t43 : Bool, e = .returned (.bool t43) ∧
  ifb (!t43)
  (R (.tuple #[.int .i64 0, .int .i64 2]) w42)
  (∃ s44 : ByteArray, ∃ A45 : Option Addr, ∃ N45 : Nat, ∃ C45 : Nat, Cells w42 ⟨b11, 0, none⟩ [.string s44, .slice A45 N45 C45] ∧
  ∃ n46 : Int, ∃ n47 : Int, ∃ n48 : Int, ∃ n49 : Int, ∃ n50 : Int, ∃ n51 : Int, Cells w42 ⟨b13, 0, none⟩ [.int .u8 n46, .int .i64 n47, .int .u8 n48, .int .i64 n49, .int .i64 n50, .int .i64 n51] ∧
  Calls Tryd.prog 19 #[.agg #[.string s44, .slice A45 N45 C45], .agg #[.int .u8 n46, .int .i64 n47, .int .u8 n48, .int .i64 n49, .int .i64 n50, .int .i64 n51]] w42 fun e w52 => ∃ t53 : Bool, e = .returned (.bool t53) ∧
  ifb (!t53)
  (R (.tuple #[.int .i64 0, .int .i64 2]) w52)
  (J30 w52)))
  (∃ s54 : ByteArray, ∃ A55 : Option Addr, ∃ N55 : Nat, ∃ C55 : Nat, Cells w35 ⟨b11, 0, none⟩ [.string s54, .slice A55 N55 C55] ∧
  ∃ n56 : Int, ∃ n57 : Int, ∃ n58 : Int, ∃ n59 : Int, ∃ n60 : Int, ∃ n61 : Int, Cells w35 ⟨b13, 0, none⟩ [.int .u8 n56, .int .i64 n57, .int .u8 n58, .int .i64 n59, .int .i64 n60, .int .i64 n61] ∧
  Calls Tryd.prog 19 #[.agg #[.string s54, .slice A55 N55 C55], .agg #[.int .u8 n56, .int .i64 n57, .int .u8 n58, .int .i64 n59, .int .i64 n60, .int .i64 n61]] w35 fun e w62 => ∃ t63 : Bool, e = .returned (.bool t63) ∧
  ifb (!t63)
  (R (.tuple #[.int .i64 0, .int .i64 2]) w62)
  (J30 w62))))) ∧
  ∀ (jk32 : Env) (w31 : World), J30 w31 →
  ∃ J64 : Option Addr → World → Prop,
  (ifb p23.isNone
  (∃ s67 : ByteArray, w31.drew.cell? ⟨b11, 0, none⟩ = some (.string s67) ∧
  ∃ A68 : Option Addr, ∃ N68 : Nat, ∃ C68 : Nat, w31.drew.cell? ⟨b11, 1, none⟩ = some (.slice A68 N68 C68) ∧
  ∃ A69 : Option Addr, ∃ N69 : Nat, ∃ C69 : Nat, w31.drew.cell? ⟨b11, 1, none⟩ = some (.slice A69 N69 C69) ∧
  (Calls Tryd.prog 38 #[.slice A68 N68 C68] w31.drew fun e w70 => ∃ A71 : Option Addr, ∃ N71 : Nat, ∃ C71 : Nat, e = .returned (.slice A71 N71 C71) ∧
  (w70.cell? ⟨b11, 1, none⟩ = some (.slice A69 N69 C69)) ∧ (w70.cell? ⟨b11, 0, none⟩ = some (.string s67)) ∧ 0 ≤ ((N69 : Nat) : Int) ∧ ((N69 : Nat) : Int) ≤ ((N69 : Nat) : Int) ∧ ((N69 : Nat) : Int) * ((24 : Nat) : Int) ≤ 140737488355328 ∧ ∀ (b72 : Nat) (w73 : World), New w70 w73 b72 (zcells [.slice none 0 0] (((N69 : Nat) : Int).toNat * 1)) 61 →
  (w73.cell? ⟨b11, 0, none⟩ = some (.string s67)) ∧ ∀ (b74 : Nat) (w75 : World), New w73 w75 b74 [.string s67, .slice A71 N71 C71, .slice (some ⟨b72, 0, none⟩) (((N69 : Nat) : Int).toNat) (((N69 : Nat) : Int).toNat)] 82 →
  nilC p1 fun b76 o76 =>
  ∃ m77 : Option Nat, w75.drew.cell? ⟨b76, o76 + 1, none⟩ = some (.map m77) ∧
  ∃ s78 : ByteArray, w75.drew.cell? ⟨b11, 0, none⟩ = some (.string s78) ∧
  Go.Maps.Keyed Tryd.prog 9 ∧ (∃ l, keyOf Tryd.prog 9 (.string s78) = some l) ∧
  optC m77 False fun r82 =>
  ∃ es79 : List MapEntry, MapAt Tryd.prog 9 w75.drew r82 es79 ∧ ∀ (w80 : World) (es81 : List MapEntry), MPut es79 (.string s78) (.pointer (some ⟨b74, 0, none⟩)) es81 → MapAt Tryd.prog 9 w80 r82 es81 → Wrote w75.drew w80 r82 →
  J64 (some ⟨b74, 0, none⟩) w80) ∧
  0 ≤ ((N69 : Nat) : Int) ∧ ((N69 : Nat) : Int) ≤ ((N69 : Nat) : Int) ∧ ((N69 : Nat) : Int) * ((24 : Nat) : Int) ≤ 140737488355328 ∧ ∀ (b83 : Nat) (w84 : World), New w31.drew w84 b83 (zcells [.slice none 0 0] (((N69 : Nat) : Int).toNat * 1)) 61 →
  (w84.cell? ⟨b11, 1, none⟩ = some (.slice A68 N68 C68)) ∧ (w84.cell? ⟨b11, 0, none⟩ = some (.string s67)) ∧ Calls Tryd.prog 38 #[.slice A68 N68 C68] w84 fun e w85 => ∃ A86 : Option Addr, ∃ N86 : Nat, ∃ C86 : Nat, e = .returned (.slice A86 N86 C86) ∧
  (w85.cell? ⟨b11, 0, none⟩ = some (.string s67)) ∧ ∀ (b87 : Nat) (w88 : World), New w85 w88 b87 [.string s67, .slice A86 N86 C86, .slice (some ⟨b83, 0, none⟩) (((N69 : Nat) : Int).toNat) (((N69 : Nat) : Int).toNat)] 82 →
  nilC p1 fun b89 o89 =>
  ∃ m90 : Option Nat, w88.drew.cell? ⟨b89, o89 + 1, none⟩ = some (.map m90) ∧
  ∃ s91 : ByteArray, w88.drew.cell? ⟨b11, 0, none⟩ = some (.string s91) ∧
  Go.Maps.Keyed Tryd.prog 9 ∧ (∃ l, keyOf Tryd.prog 9 (.string s91) = some l) ∧
  optC m90 False fun r95 =>
  ∃ es92 : List MapEntry, MapAt Tryd.prog 9 w88.drew r95 es92 ∧ ∀ (w93 : World) (es94 : List MapEntry), MPut es92 (.string s91) (.pointer (some ⟨b87, 0, none⟩)) es94 → MapAt Tryd.prog 9 w93 r95 es94 → Wrote w88.drew w93 r95 →
  J64 (some ⟨b87, 0, none⟩) w93)
  (J64 p23 w31)) ∧
  ∀ p96 : Option Addr, ∀ (jk66 : Env) (w65 : World), J64 p96 w65 →
  nilC p96 fun b97 o97 =>
  ∃ A98 : Option Addr, ∃ N98 : Nat, ∃ C98 : Nat, w65.drew.cell? ⟨b97, o97 + 2, none⟩ = some (.slice A98 N98 C98) ∧
  nilC p96 fun b99 o99 =>
  ∃ A100 : Option Addr, ∃ N100 : Nat, ∃ C100 : Nat, w65.drew.cell? ⟨b99, o99 + 2, none⟩ = some (.slice A100 N100 C100) ∧
  0 ≤ n28 ∧ n28 < ((N100 : Nat) : Int) ∧ ∃ b101 o102 : Nat, (A100 : Option Addr) = some ⟨b101, o102, none⟩ ∧
  ∃ A103 : Option Addr, ∃ N103 : Nat, ∃ C103 : Nat, w65.drew.cell? ⟨b101, o102 + n28.toNat * 1, none⟩ = some (.slice A103 N103 C103) ∧
  ∃ n104 : Int, ∃ n105 : Int, ∃ n106 : Int, ∃ n107 : Int, ∃ n108 : Int, ∃ n109 : Int, Cells w65.drew ⟨b13, 0, none⟩ [.int .u8 n104, .int .i64 n105, .int .u8 n106, .int .i64 n107, .int .i64 n108, .int .i64 n109] ∧
  ∀ (b110 : Nat) (w111 : World), New w65.drew w111 b110 [.int .u8 n104, .int .i64 n105, .int .u8 n106, .int .i64 n107, .int .i64 n108, .int .i64 n109] 34 →
  (w111.cell? ⟨b101, o102 + n28.toNat * 1, none⟩ = some (.slice A103 N103 C103)) ∧ (w111.cell? ⟨b99, o99 + 2, none⟩ = some (.slice A100 N100 C100)) ∧ (w111.cell? ⟨b97, o97 + 2, none⟩ = some (.slice A98 N98 C98)) ∧ ∃ xs112 news113 : List Value, w111.ownsRow 0 34 6 (.slice A103 N103 C103) N103 xs112 ∧ Reads w111 (some ⟨b110, 0, none⟩) 1 6 news113 ∧ N103 + 1 ≤ maxLen ∧ (N103 + 1) * 48 ≤ 140737488355328 ∧
  ∀ (A115 : Option Addr) (C115 : Nat) (w114 : World), w114.ownsRow 0 34 6 (.slice A115 (N103 + 1) C115) (N103 + 1) (xs112 ++ news113) → App w111 w114 A103 A115 →
  (w114.cell? ⟨b97, o97 + 2, none⟩ = some (.slice A98 N98 C98)) ∧ 0 ≤ n28 ∧ n28 < ((N98 : Nat) : Int) ∧ ∃ b116 o117 : Nat, (A98 : Option Addr) = some ⟨b116, o117, none⟩ ∧
  ∃ (l118 : List Value) (e119 : TypeId), Blk w114 b116 l118 e119 ∧ o117 + n28.toNat * 1 + 1 ≤ l118.length ∧ ∀ w120 : World, Upd w114 w120 b116 (l118.set (o117 + n28.toNat * 1) (.slice A115 (N103 + 1) C115)) e119 →
  nilC p96 fun b121 o121 =>
  ∃ A122 : Option Addr, ∃ N122 : Nat, ∃ C122 : Nat, w120.cell? ⟨b121, o121 + 2, none⟩ = some (.slice A122 N122 C122) ∧
  0 ≤ n28 ∧ n28 < ((N122 : Nat) : Int) ∧ ∃ b123 o124 : Nat, (A122 : Option Addr) = some ⟨b123, o124, none⟩ ∧
  ∃ A125 : Option Addr, ∃ N125 : Nat, ∃ C125 : Nat, w120.cell? ⟨b123, o124 + n28.toNat * 1, none⟩ = some (.slice A125 N125 C125) ∧
  ∃ c126 : Int, IntKind.wrap .i64 (((N125 : Nat) : Int) - (1 : Int)) = c126 ∧
  R (.tuple #[.int .i64 c126, .int .i64 0]) w120)
def V.coll_Coll_Bring_ann : Ann := .s (.no) (.s (.no) (.s (.draw (.r 0 (.r 1 (.r 2 (.r 3 (.r 4 (.r 5 (.r 6 (.e 7 [3, 5, 6] (.done))))))))) [(7, 3), (7, 5), (7, 6)]) (.s (.no) (.s (.jn [] (.s (.draw (.r 0 (.e 1 [0] (.r 2 (.r 3 (.r 4 (.r 5 (.r 6 (.r 7 (.r 8 (.r 9 (.r 10 (.r 11 (.r 12 (.r 13 (.r 14 (.r 15 (.e 16 [0, 14, 15] (.r 17 (.r 18 (.r 19 (.r 20 (.r 21 (.r 22 (.e 23 [0, 14, 15, 21, 22] (.r 24 (.r 25 (.done))))))))))))))))))))))))))) [(1, 0), (3, 0), (7, 0), (10, 0), (16, 0), (16, 14), (16, 15), (20, 0), (20, 14), (20, 15), (23, 0), (23, 14), (23, 15), (23, 21), (23, 22)]) (.no))) (.s (.jn [(10, .one .p)] (.s (.no) (.s (.s (.draw (.r 0 (.r 1 (.r 2 (.r 3 (.r 6 (.r 7 (.r 8 (.e2 4 [3] (.r 5 (.e 9 [7] (.r 10 (.e 11 [1, 3, 7] (.e 12 [1, 3, 7] (.done)))))) 9 [7] (.e 4 [3] (.r 5 (.r 10 (.e 11 [1, 3, 7] (.e 12 [1, 3, 7] (.done)))))))))))))) [(4, 3), (5, 1), (5, 3), (8, 7), (9, 7), (10, 1), (10, 3), (10, 7), (11, 1), (11, 3), (11, 7), (12, 1), (12, 3), (12, 7)]) (.draw (.r 0 (.r 1 (.r 2 (.r 3 (.r 4 (.r 5 (.r 6 (.e 7 [3, 5] (.done))))))))) [(7, 3), (7, 5)])) (.no)))) (.s (.draw (.r 0 (.r 1 (.r 2 (.r 3 (.r 4 (.r 5 (.r 6 (.r 7 (.r 8 (.r 9 (.r 10 (.r 11 (.r 12 (.e 13 [12] (.e 14 [8, 11, 12] (.r 15 (.e 16 [3, 8, 11, 12] (.done)))))))))))))))))) [(10, 8), (11, 8), (13, 12), (14, 8), (14, 11), (14, 12), (16, 3), (16, 8), (16, 11), (16, 12)]) (.no)))))))
theorem V.coll_Coll_Bring_eq (p1 : Option Addr) (s2 : ByteArray) (A3 : Option Addr) (N3 : Nat) (C3 : Nat) (n4 : Int) (n5 : Int) (n6 : Int) (n7 : Int) (n8 : Int) (n9 : Int) (n10 : Int) (w : World) (R : Value → World → Prop) : V.coll_Coll_Bring p1 s2 A3 N3 C3 n4 n5 n6 n7 n8 n9 n10 w R = fnW Tryd.prog [] [.tmp 8, .tmp 9] (bodyOf Tryd.f12) V.coll_Coll_Bring_ann [.pointer p1, .agg #[.string s2, .slice A3 N3 C3], .int .i64 n4, .agg #[.int .u8 n5, .int .i64 n6, .int .u8 n7, .int .i64 n8, .int .i64 n9, .int .i64 n10]] w R := by kernel_rfl
theorem V.coll_Coll_Bring_ok : okC 100 (bodyOf Tryd.f12) V.coll_Coll_Bring_ann = true := by kernel_rfl
theorem V.coll_Coll_Bring_cs : (calleesC (bodyOf Tryd.f12)).all (entersB Tryd.prog) = true := by kernel_rfl
theorem V.coll_Coll_Bring_calls {p1 : Option Addr} {s2 : ByteArray} {A3 : Option Addr} {N3 : Nat} {C3 : Nat} {n4 : Int} {n5 : Int} {n6 : Int} {n7 : Int} {n8 : Int} {n9 : Int} {n10 : Int}  {w : World} {R : Value → World → Prop} (h : V.coll_Coll_Bring p1 s2 A3 N3 C3 n4 n5 n6 n7 n8 n9 n10 w R) : Calls Tryd.prog 12 #[.pointer p1, .agg #[.string s2, .slice A3 N3 C3], .int .i64 n4, .agg #[.int .u8 n5, .int .i64 n6, .int .u8 n7, .int .i64 n8, .int .i64 n9, .int .i64 n10]] w fun e w' => ∃ v, e = .returned v ∧ R v w' :=
  fn_sound (by kernel_rfl) Tryd.func12 (by kernel_rfl) V.coll_Coll_Bring_ok (enters_all V.coll_Coll_Bring_cs) (by kernel_rfl) ((V.coll_Coll_Bring_eq p1 s2 A3 N3 C3 n4 n5 n6 n7 n8 n9 n10 w R).mp h)

def V.coll_Coll_Told (p1 : Option Addr) (s2 : ByteArray) (n3 : Int) (n4 : Int) (w : World) (R : Value → World → Prop) : Prop :=
  ∀ (b5 : Nat) (w6 : World), New w w6 b5 [.int .i64 0, .slice none 0 0, .string emptyS, .slice none 0 0, .bool false] 57 →
  Calls Tryd.prog 47 #[.pointer p1, .string s2, .int .i64 n3] w6 fun e w7 => ∃ p8 : Option Addr, ∃ n9 : Int, ∃ t10 : Bool, e = .returned (.tuple #[.pointer p8, .int .i64 n9, .bool t10]) ∧
  ifb (!t10)
  (∃ (l11 : List Value) (e12 : TypeId), Blk w7 b5 l11 e12 ∧ 0 + 5 ≤ l11.length ∧ ∀ w13 : World, Upd w7 w13 b5 (setSeg l11 0 [.int .i64 0, .slice none 0 0, .string emptyS, .slice none 0 0, .bool false]) e12 →
  ∃ n14 : Int, ∃ A15 : Option Addr, ∃ N15 : Nat, ∃ C15 : Nat, ∃ s16 : ByteArray, ∃ A17 : Option Addr, ∃ N17 : Nat, ∃ C17 : Nat, ∃ t18 : Bool, Cells w13 ⟨b5, 0, none⟩ [.int .i64 n14, .slice A15 N15 C15, .string s16, .slice A17 N17 C17, .bool t18] ∧ R (.tuple #[.agg #[.int .i64 n14, .slice A15 N15 C15, .string s16, .slice A17 N17 C17, .bool t18], .bool false]) w13)
  (Calls Tryd.prog 57 #[.pointer p1, .pointer p8, .int .i64 n9, .int .i64 n4] w7 fun e w19 => ∃ t20 : Bool, e = .returned (.bool t20) ∧
  ifb (!t20)
  (∃ (l21 : List Value) (e22 : TypeId), Blk w19 b5 l21 e22 ∧ 0 + 5 ≤ l21.length ∧ ∀ w23 : World, Upd w19 w23 b5 (setSeg l21 0 [.int .i64 0, .slice none 0 0, .string emptyS, .slice none 0 0, .bool false]) e22 →
  ∃ n24 : Int, ∃ A25 : Option Addr, ∃ N25 : Nat, ∃ C25 : Nat, ∃ s26 : ByteArray, ∃ A27 : Option Addr, ∃ N27 : Nat, ∃ C27 : Nat, ∃ t28 : Bool, Cells w23 ⟨b5, 0, none⟩ [.int .i64 n24, .slice A25 N25 C25, .string s26, .slice A27 N27 C27, .bool t28] ∧ R (.tuple #[.agg #[.int .i64 n24, .slice A25 N25 C25, .string s26, .slice A27 N27 C27, .bool t28], .bool false]) w23)
  (Calls Tryd.prog 58 #[.pointer p8, .int .i64 n9, .int .i64 n4] w19 fun e w29 => ∃ n30 : Int, ∃ n31 : Int, ∃ n32 : Int, ∃ n33 : Int, ∃ n34 : Int, ∃ n35 : Int, ∃ t36 : Bool, e = .returned (.tuple #[.agg #[.int .u8 n30, .int .i64 n31, .int .u8 n32, .int .i64 n33, .int .i64 n34, .int .i64 n35], .bool t36]) ∧
  ∀ (b37 : Nat) (w38 : World), New w29 w38 b37 [.int .u8 0, .int .i64 0, .int .u8 0, .int .i64 0, .int .i64 0, .int .i64 0] 34 →
  ∃ (l39 : List Value) (e40 : TypeId), Blk w38 b37 l39 e40 ∧ 0 + 6 ≤ l39.length ∧ ∀ w41 : World, Upd w38 w41 b37 (setSeg l39 0 [.int .u8 n30, .int .i64 n31, .int .u8 n32, .int .i64 n33, .int .i64 n34, .int .i64 n35]) e40 →
  ∃ n42 : Int, w41.drew.cell? ⟨b37, 0, none⟩ = some (.int .u8 n42) ∧
  ∃ c43 : Int, IntKind.wrap .u8 (n42 - (15 : Int)) = c43 ∧
  ∃ n44 : Int, ∃ n45 : Int, ∃ n46 : Int, ∃ n47 : Int, ∃ n48 : Int, ∃ n49 : Int, Cells w41.drew ⟨b37, 0, none⟩ [.int .u8 n44, .int .i64 n45, .int .u8 n46, .int .i64 n47, .int .i64 n48, .int .i64 n49] ∧
  Calls Tryd.prog 59 #[] w41.drew fun e w50 => ∃ xs51 : List Value, e = .returned (.agg xs51.toArray) ∧
  (Cells w50 ⟨b37, 0, none⟩ [.int .u8 n44, .int .i64 n45, .int .u8 n46, .int .i64 n47, .int .i64 n48, .int .i64 n49]) ∧ (w50.cell? ⟨b37, 0, none⟩ = some (.int .u8 n42)) ∧ 0 ≤ c43 ∧ c43 < ((7 : Nat) : Int) ∧ ∃ v52 : Value, SegAt xs51 (c43.toNat * 1) [v52] ∧
  (Cells w50 ⟨b37, 0, none⟩ [.int .u8 n44, .int .i64 n45, .int .u8 n46, .int .i64 n47, .int .i64 n48, .int .i64 n49]) ∧ (Cells w50 ⟨b37, 0, none⟩ [.int .u8 n44, .int .i64 n45, .int .u8 n46, .int .i64 n47, .int .i64 n48, .int .i64 n49]) ∧ funcC v52 fun g53 cf54 cc55 =>
  Enters Tryd.prog g53 ∧
  Calls Tryd.prog g53 (cf54 ++ (([.agg #[.pointer p8, .int .i64 n9, .int .i64 n4, .int .u8 n44, .int .i64 n45, .int .u8 n46, .int .i64 n47, .int .i64 n48, .int .i64 n49, .int .i64 n3]] : List Value) ++ cc55)).toArray w50 fun e w56 => ∃ n57 : Int, ∃ A58 : Option Addr, ∃ N58 : Nat, ∃ C58 : Nat, ∃ s59 : ByteArray, ∃ A60 : Option Addr, ∃ N60 : Nat, ∃ C60 : Nat, ∃ t61 : Bool, e = .returned (.agg #[.int .i64 n57, .slice A58 N58 C58, .string s59, .slice A60 N60 C60, .bool t61]) ∧
  ∃ (l62 : List Value) (e63 : TypeId), Blk w56 b5 l62 e63 ∧ 0 + 5 ≤ l62.length ∧ ∀ w64 : World, Upd w56 w64 b5 (setSeg l62 0 [.int .i64 n57, .slice A58 N58 C58, .string s59, .slice A60 N60 C60, .bool t61]) e63 →
  ∃ n65 : Int, ∃ A66 : Option Addr, ∃ N66 : Nat, ∃ C66 : Nat, ∃ s67 : ByteArray, ∃ A68 : Option Addr, ∃ N68 : Nat, ∃ C68 : Nat, ∃ t69 : Bool, Cells w64 ⟨b5, 0, none⟩ [.int .i64 n65, .slice A66 N66 C66, .string s67, .slice A68 N68 C68, .bool t69] ∧ R (.tuple #[.agg #[.int .i64 n65, .slice A66 N66 C66, .string s67, .slice A68 N68 C68, .bool t69], .bool true]) w64))
def V.coll_Coll_Told_ann : Ann := .s (.no) (.s (.no) (.s (.no) (.s (.no) (.s (.draw (.r 1 (.r 2 (.r 3 (.r 6 (.r 7 (.r 8 (.r 9 (.r 10 (.r 11 (.e 0 [] (.e 4 [2] (.e 5 [2] (.e 12 [2, 9] (.e 13 [2, 9] (.e 14 [2, 9] (.done)))))))))))))))) [(3, 2), (4, 2), (5, 2), (11, 9), (12, 2), (12, 9), (13, 2), (13, 9), (14, 2), (14, 9)]) (.no)))))
theorem V.coll_Coll_Told_eq (p1 : Option Addr) (s2 : ByteArray) (n3 : Int) (n4 : Int) (w : World) (R : Value → World → Prop) : V.coll_Coll_Told p1 s2 n3 n4 w R = fnW Tryd.prog [] [.cell 8 57, .tmp 9] (bodyOf Tryd.f27) V.coll_Coll_Told_ann [.pointer p1, .string s2, .int .i64 n3, .int .i64 n4] w R := by kernel_rfl
theorem V.coll_Coll_Told_ok : okC 54 (bodyOf Tryd.f27) V.coll_Coll_Told_ann = true := by kernel_rfl
theorem V.coll_Coll_Told_cs : (calleesC (bodyOf Tryd.f27)).all (entersB Tryd.prog) = true := by kernel_rfl
theorem V.coll_Coll_Told_calls {p1 : Option Addr} {s2 : ByteArray} {n3 : Int} {n4 : Int}  {w : World} {R : Value → World → Prop} (h : V.coll_Coll_Told p1 s2 n3 n4 w R) : Calls Tryd.prog 27 #[.pointer p1, .string s2, .int .i64 n3, .int .i64 n4] w fun e w' => ∃ v, e = .returned v ∧ R v w' :=
  fn_sound (by kernel_rfl) Tryd.func27 (by kernel_rfl) V.coll_Coll_Told_ok (enters_all V.coll_Coll_Told_cs) (by kernel_rfl) ((V.coll_Coll_Told_eq p1 s2 n3 n4 w R).mp h)

def V.dispatcherref15_Same (n1 : Int) (A2 : Option Addr) (N2 : Nat) (C2 : Nat) (s3 : ByteArray) (A4 : Option Addr) (N4 : Nat) (C4 : Nat) (t5 : Bool) (n6 : Int) (A7 : Option Addr) (N7 : Nat) (C7 : Nat) (s8 : ByteArray) (A9 : Option Addr) (N9 : Nat) (C9 : Nat) (t10 : Bool) (w : World) (R : Value → World → Prop) : Prop :=
  ∀ (b11 : Nat) (w12 : World), New w w12 b11 [.int .i64 n1, .slice A2 N2 C2, .string s3, .slice A4 N4 C4, .bool t5] 57 →
  ∀ (b13 : Nat) (w14 : World), New w12 w14 b13 [.int .i64 n6, .slice A7 N7 C7, .string s8, .slice A9 N9 C9, .bool t10] 57 →
  ∃ n15 : Int, w14.cell? ⟨b11, 0, none⟩ = some (.int .i64 n15) ∧
  ∃ n16 : Int, w14.cell? ⟨b13, 0, none⟩ = some (.int .i64 n16) ∧
  ifb (n15 != n16)
  (R (.bool false) w14)
  (∃ t17 : Bool, w14.cell? ⟨b11, 4, none⟩ = some (.bool t17) ∧
  ∃ t18 : Bool, w14.cell? ⟨b13, 4, none⟩ = some (.bool t18) ∧
  ifb (!(t17 == t18))
  (R (.bool false) w14)
  (∃ s19 : ByteArray, ∃ A20 : Option Addr, ∃ N20 : Nat, ∃ C20 : Nat, Cells w14 ⟨b11, 2, none⟩ [.string s19, .slice A20 N20 C20] ∧
  ∃ s21 : ByteArray, ∃ A22 : Option Addr, ∃ N22 : Nat, ∃ C22 : Nat, Cells w14 ⟨b13, 2, none⟩ [.string s21, .slice A22 N22 C22] ∧
  Calls Tryd.prog 42 #[.agg #[.string s19, .slice A20 N20 C20], .agg #[.string s21, .slice A22 N22 C22]] w14 fun e w23 => ∃ t24 : Bool, e = .returned (.bool t24) ∧
  ifb (!t24)
  (R (.bool false) w23)
  (∃ A25 : Option Addr, ∃ N25 : Nat, ∃ C25 : Nat, w23.cell? ⟨b11, 1, none⟩ = some (.slice A25 N25 C25) ∧
  ∃ A26 : Option Addr, ∃ N26 : Nat, ∃ C26 : Nat, w23.cell? ⟨b13, 1, none⟩ = some (.slice A26 N26 C26) ∧
  ifb (((N25 : Nat) : Int) != ((N26 : Nat) : Int))
  (R (.bool false) w23)
  (∃ (I27 : Int → World → Prop) (μ28 : Int → World → Nat),
  I27 (0 : Int) w23 ∧
  ∀ n31 : Int, ∀ (jk30 : Env) (w29 : World), I27 n31 w29 →
  ∃ A32 : Option Addr, ∃ N32 : Nat, ∃ C32 : Nat, w29.cell? ⟨b11, 1, none⟩ = some (.slice A32 N32 C32) ∧
  ifb (decide (n31 < ((N32 : Nat) : Int)))
  (∃ A33 : Option Addr, ∃ N33 : Nat, ∃ C33 : Nat, w29.drew.cell? ⟨b11, 1, none⟩ = some (.slice A33 N33 C33) ∧
  0 ≤ n31 ∧ n31 < ((N33 : Nat) : Int) ∧ ∃ b34 o35 : Nat, (A33 : Option Addr) = some ⟨b34, o35, none⟩ ∧
  ∃ n36 : Int, w29.drew.cell? ⟨b34, o35 + n31.toNat * 1, none⟩ = some (.int .i64 n36) ∧
  ∃ A37 : Option Addr, ∃ N37 : Nat, ∃ C37 : Nat, w29.drew.cell? ⟨b13, 1, none⟩ = some (.slice A37 N37 C37) ∧
  0 ≤ n31 ∧ n31 < ((N37 : Nat) : Int) ∧ ∃ b38 o39 : Nat, (A37 : Option Addr) = some ⟨b38, o39, none⟩ ∧
  ∃ n40 : Int, w29.drew.cell? ⟨b38, o39 + n31.toNat * 1, none⟩ = some (.int .i64 n40) ∧
  ifb (n36 != n40)
  (R (.bool false) w29.drew)
  (∃ c41 : Int, IntKind.wrap .i64 (n31 + (1 : Int)) = c41 ∧
  I27 c41 w29.drew ∧ μ28 c41 w29.drew < μ28 n31 w29))
  (R (.bool true) w29)))))
def V.dispatcherref15_Same_ann : Ann := .s (.no) (.s (.no) (.s (.s (.no) (.b (.loop [(5, .one (.i .i64))] (.s (.no) (.s (.b (.s (.draw (.r 0 (.r 1 (.r 2 (.r 3 (.r 4 (.r 5 (.r 6 (.r 7 (.r 8 (.r 9 (.r 10 (.done)))))))))))) []) (.no))) (.no)))))) (.no)))
theorem V.dispatcherref15_Same_eq (n1 : Int) (A2 : Option Addr) (N2 : Nat) (C2 : Nat) (s3 : ByteArray) (A4 : Option Addr) (N4 : Nat) (C4 : Nat) (t5 : Bool) (n6 : Int) (A7 : Option Addr) (N7 : Nat) (C7 : Nat) (s8 : ByteArray) (A9 : Option Addr) (N9 : Nat) (C9 : Nat) (t10 : Bool) (w : World) (R : Value → World → Prop) : V.dispatcherref15_Same n1 A2 N2 C2 s3 A4 N4 C4 t5 n6 A7 N7 C7 s8 A9 N9 C9 t10 w R = fnW Tryd.prog [] [.tmp 4] (bodyOf Tryd.f28) V.dispatcherref15_Same_ann [.agg #[.int .i64 n1, .slice A2 N2 C2, .string s3, .slice A4 N4 C4, .bool t5], .agg #[.int .i64 n6, .slice A7 N7 C7, .string s8, .slice A9 N9 C9, .bool t10]] w R := by kernel_rfl
theorem V.dispatcherref15_Same_ok : okC 53 (bodyOf Tryd.f28) V.dispatcherref15_Same_ann = true := by kernel_rfl
theorem V.dispatcherref15_Same_cs : (calleesC (bodyOf Tryd.f28)).all (entersB Tryd.prog) = true := by kernel_rfl
theorem V.dispatcherref15_Same_calls {n1 : Int} {A2 : Option Addr} {N2 : Nat} {C2 : Nat} {s3 : ByteArray} {A4 : Option Addr} {N4 : Nat} {C4 : Nat} {t5 : Bool} {n6 : Int} {A7 : Option Addr} {N7 : Nat} {C7 : Nat} {s8 : ByteArray} {A9 : Option Addr} {N9 : Nat} {C9 : Nat} {t10 : Bool}  {w : World} {R : Value → World → Prop} (h : V.dispatcherref15_Same n1 A2 N2 C2 s3 A4 N4 C4 t5 n6 A7 N7 C7 s8 A9 N9 C9 t10 w R) : Calls Tryd.prog 28 #[.agg #[.int .i64 n1, .slice A2 N2 C2, .string s3, .slice A4 N4 C4, .bool t5], .agg #[.int .i64 n6, .slice A7 N7 C7, .string s8, .slice A9 N9 C9, .bool t10]] w fun e w' => ∃ v, e = .returned v ∧ R v w' :=
  fn_sound (by kernel_rfl) Tryd.func28 (by kernel_rfl) V.dispatcherref15_Same_ok (enters_all V.dispatcherref15_Same_cs) (by kernel_rfl) ((V.dispatcherref15_Same_eq n1 A2 N2 C2 s3 A4 N4 C4 t5 n6 A7 N7 C7 s8 A9 N9 C9 t10 w R).mp h)

def V.coll_Coll_Over (p1 : Option Addr) (s2 : ByteArray) (n3 : Int) (n4 : Int) (w : World) (R : Value → World → Prop) : Prop :=
  Calls Tryd.prog 47 #[.pointer p1, .string s2, .int .i64 n3] w fun e w5 => ∃ p6 : Option Addr, ∃ n7 : Int, ∃ t8 : Bool, e = .returned (.tuple #[.pointer p6, .int .i64 n7, .bool t8]) ∧
  ifb t8
  (Calls Tryd.prog 57 #[.pointer p1, .pointer p6, .int .i64 n7, .int .i64 n4] w5 fun e w9 => ∃ t10 : Bool, e = .returned (.bool t10) ∧
  R (.bool t10) w9)
  (R (.bool false) w5)
def V.coll_Coll_Over_ann : Ann := .no
theorem V.coll_Coll_Over_eq (p1 : Option Addr) (s2 : ByteArray) (n3 : Int) (n4 : Int) (w : World) (R : Value → World → Prop) : V.coll_Coll_Over p1 s2 n3 n4 w R = fnW Tryd.prog [] [.tmp 8] (bodyOf Tryd.f31) V.coll_Coll_Over_ann [.pointer p1, .string s2, .int .i64 n3, .int .i64 n4] w R := by kernel_rfl
theorem V.coll_Coll_Over_ok : okC 28 (bodyOf Tryd.f31) V.coll_Coll_Over_ann = true := by kernel_rfl
theorem V.coll_Coll_Over_cs : (calleesC (bodyOf Tryd.f31)).all (entersB Tryd.prog) = true := by kernel_rfl
theorem V.coll_Coll_Over_calls {p1 : Option Addr} {s2 : ByteArray} {n3 : Int} {n4 : Int}  {w : World} {R : Value → World → Prop} (h : V.coll_Coll_Over p1 s2 n3 n4 w R) : Calls Tryd.prog 31 #[.pointer p1, .string s2, .int .i64 n3, .int .i64 n4] w fun e w' => ∃ v, e = .returned v ∧ R v w' :=
  fn_sound (by kernel_rfl) Tryd.func31 (by kernel_rfl) V.coll_Coll_Over_ok (enters_all V.coll_Coll_Over_cs) (by kernel_rfl) ((V.coll_Coll_Over_eq p1 s2 n3 n4 w R).mp h)

def V.coll_Coll_Many (p1 : Option Addr) (s2 : ByteArray) (n3 : Int) (w : World) (R : Value → World → Prop) : Prop :=
  Calls Tryd.prog 47 #[.pointer p1, .string s2, .int .i64 n3] w fun e w4 => ∃ p5 : Option Addr, ∃ n6 : Int, ∃ t7 : Bool, e = .returned (.tuple #[.pointer p5, .int .i64 n6, .bool t7]) ∧
  ifb (!t7)
  (R (.int .i64 0) w4)
  (nilC p5 fun b8 o8 =>
  ∃ A9 : Option Addr, ∃ N9 : Nat, ∃ C9 : Nat, w4.cell? ⟨b8, o8 + 2, none⟩ = some (.slice A9 N9 C9) ∧
  0 ≤ n6 ∧ n6 < ((N9 : Nat) : Int) ∧ ∃ b10 o11 : Nat, (A9 : Option Addr) = some ⟨b10, o11, none⟩ ∧
  ∃ A12 : Option Addr, ∃ N12 : Nat, ∃ C12 : Nat, w4.cell? ⟨b10, o11 + n6.toNat * 1, none⟩ = some (.slice A12 N12 C12) ∧
  R (.int .i64 ((N12 : Nat) : Int)) w4)
def V.coll_Coll_Many_ann : Ann := .no
theorem V.coll_Coll_Many_eq (p1 : Option Addr) (s2 : ByteArray) (n3 : Int) (w : World) (R : Value → World → Prop) : V.coll_Coll_Many p1 s2 n3 w R = fnW Tryd.prog [] [.tmp 6] (bodyOf Tryd.f17) V.coll_Coll_Many_ann [.pointer p1, .string s2, .int .i64 n3] w R := by kernel_rfl
theorem V.coll_Coll_Many_ok : okC 28 (bodyOf Tryd.f17) V.coll_Coll_Many_ann = true := by kernel_rfl
theorem V.coll_Coll_Many_cs : (calleesC (bodyOf Tryd.f17)).all (entersB Tryd.prog) = true := by kernel_rfl
theorem V.coll_Coll_Many_calls {p1 : Option Addr} {s2 : ByteArray} {n3 : Int}  {w : World} {R : Value → World → Prop} (h : V.coll_Coll_Many p1 s2 n3 w R) : Calls Tryd.prog 17 #[.pointer p1, .string s2, .int .i64 n3] w fun e w' => ∃ v, e = .returned v ∧ R v w' :=
  fn_sound (by kernel_rfl) Tryd.func17 (by kernel_rfl) V.coll_Coll_Many_ok (enters_all V.coll_Coll_Many_cs) (by kernel_rfl) ((V.coll_Coll_Many_eq p1 s2 n3 w R).mp h)

def V.coll_Coll_Odd (p1 : Option Addr) (w : World) (R : Value → World → Prop) : Prop :=
  Calls Tryd.prog 34 #[.pointer p1] w fun e w2 => ∃ t3 : Bool, e = .returned (.bool t3) ∧
  ifb t3
  (R (.slice none 0 0) w2)
  (nilC p1 fun b4 o4 =>
  ∃ m5 : Option Nat, w2.cell? ⟨b4, o4 + 1, none⟩ = some (.map m5) ∧
  Calls Tryd.prog 51 #[.map m5] w2 fun e w6 => ∃ v7 : Value, e = .returned (v7) ∧
  Calls Tryd.prog 50 #[v7] w6 fun e w8 => ∃ A9 : Option Addr, ∃ N9 : Nat, ∃ C9 : Nat, e = .returned (.slice A9 N9 C9) ∧
  ∃ (I10 : Option Addr → Nat → Nat → Int → World → Prop) (μ11 : Option Addr → Nat → Nat → Int → World → Nat),
  I10 none 0 0 (0 : Int) w8 ∧
  ∀ A14 : Option Addr, ∀ N14 : Nat, ∀ C14 : Nat, ∀ n15 : Int, ∀ (jk13 : Env) (w12 : World), I10 A14 N14 C14 n15 w12 →
  ifb (decide (n15 < ((N9 : Nat) : Int)))
  (0 ≤ n15 ∧ n15 < ((N9 : Nat) : Int) ∧ ∃ b16 o17 : Nat, (A9 : Option Addr) = some ⟨b16, o17, none⟩ ∧
  ∃ s18 : ByteArray, w12.cell? ⟨b16, o17 + n15.toNat * 1, none⟩ = some (.string s18) ∧
  nilC p1 fun b19 o19 =>
  ∃ m20 : Option Nat, w12.cell? ⟨b19, o19 + 1, none⟩ = some (.map m20) ∧
  Go.Maps.Keyed Tryd.prog 9 ∧ (∃ l, keyOf Tryd.prog 9 (.string s18) = some l) ∧
  ∃ es21 : List MapEntry, MapO Tryd.prog 9 w12 m20 es21 ∧ ∃ p24 : Option Addr, ∃ t25 : Bool, LookR es21 (.string s18) (.pointer none) (.pointer p24) t25 ∧
  nilC p24 fun b26 o26 =>
  ∃ A27 : Option Addr, ∃ N27 : Nat, ∃ C27 : Nat, w12.cell? ⟨b26, o26 + 2, none⟩ = some (.slice A27 N27 C27) ∧
  ∃ (I28 : Int → Int → World → Prop) (μ29 : Int → Int → World → Nat),
  I28 (0 : Int) (0 : Int) w12 ∧
  ∀ n32 : Int, ∀ n33 : Int, ∀ (jk31 : Env) (w30 : World), I28 n32 n33 w30 →
  ifb (decide (n33 < ((N27 : Nat) : Int)))
  (0 ≤ n33 ∧ n33 < ((N27 : Nat) : Int) ∧ ∃ b34 o35 : Nat, (A27 : Option Addr) = some ⟨b34, o35, none⟩ ∧
  ∃ A36 : Option Addr, ∃ N36 : Nat, ∃ C36 : Nat, w30.cell? ⟨b34, o35 + n33.toNat * 1, none⟩ = some (.slice A36 N36 C36) ∧
  ∃ c37 : Int, IntKind.wrap .i64 (n33 + (1 : Int)) = c37 ∧
  I28 (mx n32 ((N36 : Nat) : Int)) c37 w30 ∧ μ29 (mx n32 ((N36 : Nat) : Int)) c37 w30 < μ29 n32 n33 w30)
  (∃ (I38 : Option Addr → Nat → Nat → Int → World → Prop) (μ39 : Option Addr → Nat → Nat → Int → World → Nat),
  I38 A14 N14 C14 (0 : Int) w30 ∧
  ∀ A42 : Option Addr, ∀ N42 : Nat, ∀ C42 : Nat, ∀ n43 : Int, ∀ (jk41 : Env) (w40 : World), I38 A42 N42 C42 n43 w40 →
  ifb (decide (n43 < n32))
  (Calls Tryd.prog 52 #[.pointer p24, .int .i64 n43] w40 fun e w44 => ∃ t45 : Bool, e = .returned (.bool t45) ∧
  ifb t45
  ((s18 : ByteArray).size + (⟨#[46]⟩ : ByteArray).size ≤ 9223372036854775807 ∧
  Calls Tryd.prog 53 #[.int .i64 n43] w44 fun e w46 => ∃ s47 : ByteArray, e = .returned (.string s47) ∧
  ((s18 : ByteArray) ++ (⟨#[46]⟩ : ByteArray) : ByteArray).size + (s47 : ByteArray).size ≤ 9223372036854775807 ∧
  ∀ (b48 : Nat) (w49 : World), New w46 w49 b48 [.string (((s18 : ByteArray) ++ (⟨#[46]⟩ : ByteArray) : ByteArray) ++ (s47 : ByteArray))] 9 →
  ∃ xs50 news51 : List Value, w49.ownsRow 0 9 1 (.slice A42 N42 C42) N42 xs50 ∧ Reads w49 (some ⟨b48, 0, none⟩) 1 1 news51 ∧ N42 + 1 ≤ maxLen ∧ (N42 + 1) * 16 ≤ 140737488355328 ∧
  ∀ (A53 : Option Addr) (C53 : Nat) (w52 : World), w52.ownsRow 0 9 1 (.slice A53 (N42 + 1) C53) (N42 + 1) (xs50 ++ news51) → App w49 w52 A42 A53 →
  ∃ c54 : Int, IntKind.wrap .i64 (n43 + (1 : Int)) = c54 ∧
  I38 A53 (N42 + 1) C53 c54 w52 ∧ μ39 A53 (N42 + 1) C53 c54 w52 < μ39 A42 N42 C42 n43 w40)
  (∃ c55 : Int, IntKind.wrap .i64 (n43 + (1 : Int)) = c55 ∧
  I38 A42 N42 C42 c55 w44 ∧ μ39 A42 N42 C42 c55 w44 < μ39 A42 N42 C42 n43 w40))
  (∃ c56 : Int, IntKind.wrap .i64 (n15 + (1 : Int)) = c56 ∧
  I10 A42 N42 C42 c56 w40 ∧ μ11 A42 N42 C42 c56 w40 < μ11 A14 N14 C14 n15 w12)))
  (R (.slice A14 N14 C14) w12))
def V.coll_Coll_Odd_ann : Ann := .s (.no) (.s (.no) (.s (.no) (.s (.s (.no) (.b (.loop [(3, .one .sl), (20, .one (.i .i64))] (.s (.no) (.s (.no) (.s (.b (.s (.no) (.s (.no) (.s (.no) (.s (.s (.no) (.b (.loop [(7, .one (.i .i64)), (35, .one (.i .i64))] (.no)))) (.s (.no) (.b (.loop [(3, .one .sl), (45, .one (.i .i64))] (.no))))))))) (.no))))))) (.no))))
theorem V.coll_Coll_Odd_eq (p1 : Option Addr) (w : World) (R : Value → World → Prop) : V.coll_Coll_Odd p1 w R = fnW Tryd.prog [] [.tmp 2] (bodyOf Tryd.f24) V.coll_Coll_Odd_ann [.pointer p1] w R := by kernel_rfl
theorem V.coll_Coll_Odd_ok : okC 62 (bodyOf Tryd.f24) V.coll_Coll_Odd_ann = true := by kernel_rfl
theorem V.coll_Coll_Odd_cs : (calleesC (bodyOf Tryd.f24)).all (entersB Tryd.prog) = true := by kernel_rfl
theorem V.coll_Coll_Odd_calls {p1 : Option Addr}  {w : World} {R : Value → World → Prop} (h : V.coll_Coll_Odd p1 w R) : Calls Tryd.prog 24 #[.pointer p1] w fun e w' => ∃ v, e = .returned v ∧ R v w' :=
  fn_sound (by kernel_rfl) Tryd.func24 (by kernel_rfl) V.coll_Coll_Odd_ok (enters_all V.coll_Coll_Odd_cs) (by kernel_rfl) ((V.coll_Coll_Odd_eq p1 w R).mp h)

def V.coll_Coll_Copy (p1 : Option Addr) (w : World) (R : Value → World → Prop) : Prop :=
  ifb p1.isNone
  (R (.pointer none) w)
  (Calls Tryd.prog 34 #[.pointer p1] w fun e w2 => ∃ t3 : Bool, e = .returned (.bool t3) ∧
  ifb t3
  (∀ (b4 : Nat) (w5 : World), New w2 w5 b4 [.bool false, .map none] 72 →
  R (.pointer (some ⟨b4, 0, none⟩)) w5)
  (nilC p1 fun b6 o6 =>
  ∃ t7 : Bool, w2.cell? ⟨b6, o6, none⟩ = some (.bool t7) ∧
  Calls Tryd.prog 11 #[.bool t7] w2 fun e w8 => ∃ p9 : Option Addr, e = .returned (.pointer p9) ∧
  nilC p1 fun b10 o10 =>
  ∃ m11 : Option Nat, w8.cell? ⟨b10, o10 + 1, none⟩ = some (.map m11) ∧
  optC m11 False fun r16 =>
  ∃ es12 : List MapEntry, MapAt Tryd.prog 9 w8 r16 es12 ∧ ∀ (b15 : Nat) (w13 : World), NewI Tryd.prog 9 w8 w13 b15 r16 es12 →
  ∃ (I17 : World → Prop) (μ18 : World → Nat),
  I17 w13 ∧
  ∀ (jk20 : Env) (w19 : World), I17 w19 →
  ∃ J21 : Bool → World → Prop,
  (∃ (k24 : TypeId) (r25 : Nat) (es26 left27 : List MapEntry) (cur28 : Option MapEntry), IterAt Tryd.prog k24 w19 b15 r25 es26 left27 cur28 ∧ (left27 = [] →
  J21 false w19) ∧
  ∀ (pre29 : List MapEntry) (x30 : MapEntry) (post31 : List MapEntry) (w32 : World), left27 = pre29 ++ x30 :: post31 → IterAt Tryd.prog k24 w32 b15 r25 es26 (pre29 ++ post31) (some x30) → Wrote w19 w32 b15 →
  J21 true w32) ∧
  ∀ t33 : Bool, ∀ (jk23 : Env) (w22 : World), J21 t33 w22 →
  ifb t33
  (∃ (k34 : TypeId) (r35 : Nat) (es36 left37 : List MapEntry) (x38 : MapEntry), IterAt Tryd.prog k34 w22 b15 r35 es36 left37 (some x38) ∧ ∃ s39 : ByteArray, x38.key = .string s39 ∧ ∃ p40 : Option Addr, x38.val = .pointer p40 ∧
  nilC p40 fun b41 o41 =>
  ∃ s42 : ByteArray, ∃ A43 : Option Addr, ∃ N43 : Nat, ∃ C43 : Nat, Cells w22.drew ⟨b41, o41, none⟩ [.string s42, .slice A43 N43 C43] ∧
  nilC p40 fun b44 o44 =>
  ∃ A45 : Option Addr, ∃ N45 : Nat, ∃ C45 : Nat, w22.drew.cell? ⟨b44, o44 + 2, none⟩ = some (.slice A45 N45 C45) ∧
  0 ≤ ((N45 : Nat) : Int) ∧ ((N45 : Nat) : Int) ≤ ((N45 : Nat) : Int) ∧ ((N45 : Nat) : Int) * ((24 : Nat) : Int) ≤ 140737488355328 ∧ ∀ (b46 : Nat) (w47 : World), New w22.drew w47 b46 (zcells [.slice none 0 0] (((N45 : Nat) : Int).toNat * 1)) 61 →
  (Cells w47 ⟨b41, o41, none⟩ [.string s42, .slice A43 N43 C43]) ∧ ∀ (b48 : Nat) (w49 : World), New w47 w49 b48 [.string s42, .slice A43 N43 C43, .slice (some ⟨b46, 0, none⟩) (((N45 : Nat) : Int).toNat) (((N45 : Nat) : Int).toNat)] 82 →
  nilC p40 fun b50 o50 =>
  ∃ A51 : Option Addr, ∃ N51 : Nat, ∃ C51 : Nat, w49.cell? ⟨b50, o50 + 2, none⟩ = some (.slice A51 N51 C51) ∧
  ∃ (I52 : Int → World → Prop) (μ53 : Int → World → Nat),
  I52 (0 : Int) w49 ∧
  ∀ n56 : Int, ∀ (jk55 : Env) (w54 : World), I52 n56 w54 →
  ifb (decide (n56 < ((N51 : Nat) : Int)))
  (0 ≤ n56 ∧ n56 < ((N51 : Nat) : Int) ∧ ∃ b57 o58 : Nat, (A51 : Option Addr) = some ⟨b57, o58, none⟩ ∧
  ∃ A59 : Option Addr, ∃ N59 : Nat, ∃ C59 : Nat, w54.cell? ⟨b57, o58 + n56.toNat * 1, none⟩ = some (.slice A59 N59 C59) ∧
  ∃ A60 : Option Addr, ∃ N60 : Nat, ∃ C60 : Nat, w54.drew.cell? ⟨b48, 2, none⟩ = some (.slice A60 N60 C60) ∧
  Calls Tryd.prog 46 #[.slice A59 N59 C59] w54.drew fun e w61 => ∃ A62 : Option Addr, ∃ N62 : Nat, ∃ C62 : Nat, e = .returned (.slice A62 N62 C62) ∧
  (w61.cell? ⟨b48, 2, none⟩ = some (.slice A60 N60 C60)) ∧ 0 ≤ n56 ∧ n56 < ((N60 : Nat) : Int) ∧ ∃ b63 o64 : Nat, (A60 : Option Addr) = some ⟨b63, o64, none⟩ ∧
  ∃ (l65 : List Value) (e66 : TypeId), Blk w61 b63 l65 e66 ∧ o64 + n56.toNat * 1 + 1 ≤ l65.length ∧ ∀ w67 : World, Upd w61 w67 b63 (l65.set (o64 + n56.toNat * 1) (.slice A62 N62 C62)) e66 →
  ∃ c68 : Int, IntKind.wrap .i64 (n56 + (1 : Int)) = c68 ∧
  I52 c68 w67 ∧ μ53 c68 w67 < μ53 n56 w54)
  (nilC p9 fun b69 o69 =>
  ∃ m70 : Option Nat, w54.cell? ⟨b69, o69 + 1, none⟩ = some (.map m70) ∧
  Go.Maps.Keyed Tryd.prog 9 ∧ (∃ l, keyOf Tryd.prog 9 (.string s39) = some l) ∧
  optC m70 False fun r74 =>
  ∃ es71 : List MapEntry, MapAt Tryd.prog 9 w54 r74 es71 ∧ ∀ (w72 : World) (es73 : List MapEntry), MPut es71 (.string s39) (.pointer (some ⟨b48, 0, none⟩)) es73 → MapAt Tryd.prog 9 w72 r74 es73 → Wrote w54 w72 r74 →
  I17 w72 ∧ μ18 w72 < μ18 w19))
  (R (.pointer p9) w22)))
def V.coll_Coll_Copy_ann : Ann := .s (.no) (.s (.no) (.s (.no) (.s (.no) (.s (.s (.no) (.b (.loop [] (.s (.jn [(26, .one .b)] (.no)) (.s (.no) (.b (.s (.no) (.s (.draw (.r 0 (.r 1 (.r 2 (.r 3 (.r 4 (.r 5 (.r 6 (.r 7 (.r 8 (.e 9 [7] (.r 10 (.e 11 [3, 7] (.e 12 [3, 7] (.done)))))))))))))) [(8, 7), (9, 7), (10, 3), (10, 7), (11, 3), (11, 7), (12, 3), (12, 7)]) (.s (.s (.no) (.b (.loop [(47, .one (.i .i64))] (.s (.no) (.s (.no) (.s (.b (.s (.no) (.draw (.r 0 (.r 1 (.r 2 (.r 3 (.r 4 (.r 5 (.e 6 [] (.r 7 (.e 8 [3] (.done)))))))))) [(8, 3)]))) (.no))))))) (.no)))))))))) (.no)))))
theorem V.coll_Coll_Copy_eq (p1 : Option Addr) (w : World) (R : Value → World → Prop) : V.coll_Coll_Copy p1 w R = fnW Tryd.prog [(27, .one .s, .one .p)] [.tmp 2] (bodyOf Tryd.f15) V.coll_Coll_Copy_ann [.pointer p1] w R := by kernel_rfl
theorem V.coll_Coll_Copy_ok : okC 68 (bodyOf Tryd.f15) V.coll_Coll_Copy_ann = true := by kernel_rfl
theorem V.coll_Coll_Copy_cs : (calleesC (bodyOf Tryd.f15)).all (entersB Tryd.prog) = true := by kernel_rfl
theorem V.coll_Coll_Copy_calls {p1 : Option Addr}  {w : World} {R : Value → World → Prop} (h : V.coll_Coll_Copy p1 w R) : Calls Tryd.prog 15 #[.pointer p1] w fun e w' => ∃ v, e = .returned v ∧ R v w' :=
  fn_sound (by kernel_rfl) Tryd.func15 (by kernel_rfl) V.coll_Coll_Copy_ok (enters_all V.coll_Coll_Copy_cs) (by kernel_rfl) ((V.coll_Coll_Copy_eq p1 w R).mp h)

def V.coll_Coll_none (p1 : Option Addr) (w : World) (R : Value → World → Prop) : Prop :=
  ifb p1.isNone
  (R (.bool true) w)
  (nilC p1 fun b2 o2 =>
  ∃ m3 : Option Nat, w.cell? ⟨b2, o2 + 1, none⟩ = some (.map m3) ∧
  R (.bool m3.isNone) w)
def V.coll_Coll_none_ann : Ann := .no
theorem V.coll_Coll_none_eq (p1 : Option Addr) (w : World) (R : Value → World → Prop) : V.coll_Coll_none p1 w R = fnW Tryd.prog [] [.tmp 2] (bodyOf Tryd.f34) V.coll_Coll_none_ann [.pointer p1] w R := by kernel_rfl
theorem V.coll_Coll_none_ok : okC 12 (bodyOf Tryd.f34) V.coll_Coll_none_ann = true := by kernel_rfl
theorem V.coll_Coll_none_cs : (calleesC (bodyOf Tryd.f34)).all (entersB Tryd.prog) = true := by kernel_rfl
theorem V.coll_Coll_none_calls {p1 : Option Addr}  {w : World} {R : Value → World → Prop} (h : V.coll_Coll_none p1 w R) : Calls Tryd.prog 34 #[.pointer p1] w fun e w' => ∃ v, e = .returned v ∧ R v w' :=
  fn_sound (by kernel_rfl) Tryd.func34 (by kernel_rfl) V.coll_Coll_none_ok (enters_all V.coll_Coll_none_cs) (by kernel_rfl) ((V.coll_Coll_none_eq p1 w R).mp h)

def V.coll_Coll_of (p1 : Option Addr) (s2 : ByteArray) (n3 : Int) (w : World) (R : Value → World → Prop) : Prop :=
  Calls Tryd.prog 34 #[.pointer p1] w fun e w4 => ∃ t5 : Bool, e = .returned (.bool t5) ∧
  ifb t5
  (R (.tuple #[.pointer none, .int .i64 0, .bool false]) w4)
  (nilC p1 fun b6 o6 =>
  ∃ m7 : Option Nat, w4.cell? ⟨b6, o6 + 1, none⟩ = some (.map m7) ∧
  Go.Maps.Keyed Tryd.prog 9 ∧ (∃ l, keyOf Tryd.prog 9 (.string s2) = some l) ∧
  ∃ es8 : List MapEntry, MapO Tryd.prog 9 w4 m7 es8 ∧ ∃ p11 : Option Addr, ∃ t12 : Bool, LookR es8 (.string s2) (.pointer none) (.pointer p11) t12 ∧
  ifb p11.isNone
  (R (.tuple #[.pointer none, .int .i64 0, .bool false]) w4)
  (nilC p1 fun b13 o13 =>
  ∃ m14 : Option Nat, w4.cell? ⟨b13, o13 + 1, none⟩ = some (.map m14) ∧
  Go.Maps.Keyed Tryd.prog 9 ∧ (∃ l, keyOf Tryd.prog 9 (.string s2) = some l) ∧
  ∃ es15 : List MapEntry, MapO Tryd.prog 9 w4 m14 es15 ∧ ∃ p18 : Option Addr, ∃ t19 : Bool, LookR es15 (.string s2) (.pointer none) (.pointer p18) t19 ∧
  nilC p18 fun b20 o20 =>
  ∃ s21 : ByteArray, ∃ A22 : Option Addr, ∃ N22 : Nat, ∃ C22 : Nat, Cells w4 ⟨b20, o20, none⟩ [.string s21, .slice A22 N22 C22] ∧
  Calls Tryd.prog 35 #[.agg #[.string s21, .slice A22 N22 C22], .int .i64 n3] w4 fun e w23 => ∃ n24 : Int, ∃ t25 : Bool, e = .returned (.tuple #[.int .i64 n24, .bool t25]) ∧
  R (.tuple #[.pointer p18, .int .i64 n24, .bool t25]) w23))
def V.coll_Coll_of_ann : Ann := .no
theorem V.coll_Coll_of_eq (p1 : Option Addr) (s2 : ByteArray) (n3 : Int) (w : World) (R : Value → World → Prop) : V.coll_Coll_of p1 s2 n3 w R = fnW Tryd.prog [] [.tmp 6, .tmp 7, .tmp 8] (bodyOf Tryd.f47) V.coll_Coll_of_ann [.pointer p1, .string s2, .int .i64 n3] w R := by kernel_rfl
theorem V.coll_Coll_of_ok : okC 41 (bodyOf Tryd.f47) V.coll_Coll_of_ann = true := by kernel_rfl
theorem V.coll_Coll_of_cs : (calleesC (bodyOf Tryd.f47)).all (entersB Tryd.prog) = true := by kernel_rfl
theorem V.coll_Coll_of_calls {p1 : Option Addr} {s2 : ByteArray} {n3 : Int}  {w : World} {R : Value → World → Prop} (h : V.coll_Coll_of p1 s2 n3 w R) : Calls Tryd.prog 47 #[.pointer p1, .string s2, .int .i64 n3] w fun e w' => ∃ v, e = .returned v ∧ R v w' :=
  fn_sound (by kernel_rfl) Tryd.func47 (by kernel_rfl) V.coll_Coll_of_ok (enters_all V.coll_Coll_of_cs) (by kernel_rfl) ((V.coll_Coll_of_eq p1 s2 n3 w R).mp h)

def V.dispatcherref11_Same (s1 : ByteArray) (A2 : Option Addr) (N2 : Nat) (C2 : Nat) (s3 : ByteArray) (A4 : Option Addr) (N4 : Nat) (C4 : Nat) (w : World) (R : Value → World → Prop) : Prop :=
  ∀ (b5 : Nat) (w6 : World), New w w6 b5 [.string s1, .slice A2 N2 C2] 32 →
  ∀ (b7 : Nat) (w8 : World), New w6 w8 b7 [.string s3, .slice A4 N4 C4] 32 →
  ∃ s9 : ByteArray, w8.cell? ⟨b5, 0, none⟩ = some (.string s9) ∧
  ∃ s10 : ByteArray, w8.cell? ⟨b7, 0, none⟩ = some (.string s10) ∧
  ifb (s9.toList == s10.toList)
  (∃ A11 : Option Addr, ∃ N11 : Nat, ∃ C11 : Nat, w8.cell? ⟨b5, 1, none⟩ = some (.slice A11 N11 C11) ∧
  ∃ A12 : Option Addr, ∃ N12 : Nat, ∃ C12 : Nat, w8.cell? ⟨b7, 1, none⟩ = some (.slice A12 N12 C12) ∧
  Calls Tryd.prog 63 #[.slice A11 N11 C11, .slice A12 N12 C12] w8 fun e w13 => ∃ t14 : Bool, e = .returned (.bool t14) ∧
  R (.bool t14) w13)
  (R (.bool false) w8)
def V.dispatcherref11_Same_ann : Ann := .no
theorem V.dispatcherref11_Same_eq (s1 : ByteArray) (A2 : Option Addr) (N2 : Nat) (C2 : Nat) (s3 : ByteArray) (A4 : Option Addr) (N4 : Nat) (C4 : Nat) (w : World) (R : Value → World → Prop) : V.dispatcherref11_Same s1 A2 N2 C2 s3 A4 N4 C4 w R = fnW Tryd.prog [] [.tmp 4] (bodyOf Tryd.f42) V.dispatcherref11_Same_ann [.agg #[.string s1, .slice A2 N2 C2], .agg #[.string s3, .slice A4 N4 C4]] w R := by kernel_rfl
theorem V.dispatcherref11_Same_ok : okC 17 (bodyOf Tryd.f42) V.dispatcherref11_Same_ann = true := by kernel_rfl
theorem V.dispatcherref11_Same_cs : (calleesC (bodyOf Tryd.f42)).all (entersB Tryd.prog) = true := by kernel_rfl
theorem V.dispatcherref11_Same_calls {s1 : ByteArray} {A2 : Option Addr} {N2 : Nat} {C2 : Nat} {s3 : ByteArray} {A4 : Option Addr} {N4 : Nat} {C4 : Nat}  {w : World} {R : Value → World → Prop} (h : V.dispatcherref11_Same s1 A2 N2 C2 s3 A4 N4 C4 w R) : Calls Tryd.prog 42 #[.agg #[.string s1, .slice A2 N2 C2], .agg #[.string s3, .slice A4 N4 C4]] w fun e w' => ∃ v, e = .returned v ∧ R v w' :=
  fn_sound (by kernel_rfl) Tryd.func42 (by kernel_rfl) V.dispatcherref11_Same_ok (enters_all V.dispatcherref11_Same_cs) (by kernel_rfl) ((V.dispatcherref11_Same_eq s1 A2 N2 C2 s3 A4 N4 C4 w R).mp h)

def V.dispatcherref11_Ints (A1 : Option Addr) (N1 : Nat) (C1 : Nat) (A2 : Option Addr) (N2 : Nat) (C2 : Nat) (w : World) (R : Value → World → Prop) : Prop :=
  ifb (((N1 : Nat) : Int) != ((N2 : Nat) : Int))
  (R (.bool false) w)
  (∃ (I3 : Int → World → Prop) (μ4 : Int → World → Nat),
  I3 (0 : Int) w ∧
  ∀ n7 : Int, ∀ (jk6 : Env) (w5 : World), I3 n7 w5 →
  ifb (decide (n7 < ((N1 : Nat) : Int)))
  (0 ≤ n7 ∧ n7 < ((N1 : Nat) : Int) ∧ ∃ b8 o9 : Nat, (A1 : Option Addr) = some ⟨b8, o9, none⟩ ∧
  ∃ n10 : Int, w5.drew.cell? ⟨b8, o9 + n7.toNat * 1, none⟩ = some (.int .i64 n10) ∧
  0 ≤ n7 ∧ n7 < ((N2 : Nat) : Int) ∧ ∃ b11 o12 : Nat, (A2 : Option Addr) = some ⟨b11, o12, none⟩ ∧
  ∃ n13 : Int, w5.drew.cell? ⟨b11, o12 + n7.toNat * 1, none⟩ = some (.int .i64 n13) ∧
  ifb (n10 != n13)
  (R (.bool false) w5.drew)
  (∃ c14 : Int, IntKind.wrap .i64 (n7 + (1 : Int)) = c14 ∧
  I3 c14 w5.drew ∧ μ4 c14 w5.drew < μ4 n7 w5))
  (R (.bool true) w5))
def V.dispatcherref11_Ints_ann : Ann := .s (.no) (.s (.no) (.s (.s (.no) (.b (.loop [(5, .one (.i .i64))] (.s (.no) (.s (.b (.s (.draw (.r 0 (.r 1 (.r 2 (.r 3 (.r 4 (.r 5 (.r 6 (.r 7 (.r 8 (.done)))))))))) []) (.no))) (.no)))))) (.no)))
theorem V.dispatcherref11_Ints_eq (A1 : Option Addr) (N1 : Nat) (C1 : Nat) (A2 : Option Addr) (N2 : Nat) (C2 : Nat) (w : World) (R : Value → World → Prop) : V.dispatcherref11_Ints A1 N1 C1 A2 N2 C2 w R = fnW Tryd.prog [] [.tmp 4] (bodyOf Tryd.f63) V.dispatcherref11_Ints_ann [.slice A1 N1 C1, .slice A2 N2 C2] w R := by kernel_rfl
theorem V.dispatcherref11_Ints_ok : okC 26 (bodyOf Tryd.f63) V.dispatcherref11_Ints_ann = true := by kernel_rfl
theorem V.dispatcherref11_Ints_cs : (calleesC (bodyOf Tryd.f63)).all (entersB Tryd.prog) = true := by kernel_rfl
theorem V.dispatcherref11_Ints_calls {A1 : Option Addr} {N1 : Nat} {C1 : Nat} {A2 : Option Addr} {N2 : Nat} {C2 : Nat}  {w : World} {R : Value → World → Prop} (h : V.dispatcherref11_Ints A1 N1 C1 A2 N2 C2 w R) : Calls Tryd.prog 63 #[.slice A1 N1 C1, .slice A2 N2 C2] w fun e w' => ∃ v, e = .returned v ∧ R v w' :=
  fn_sound (by kernel_rfl) Tryd.func63 (by kernel_rfl) V.dispatcherref11_Ints_ok (enters_all V.dispatcherref11_Ints_cs) (by kernel_rfl) ((V.dispatcherref11_Ints_eq A1 N1 C1 A2 N2 C2 w R).mp h)

def V.coll_tellers  (w : World) (R : Value → World → Prop) : Prop :=
  ∀ (b1 : Nat) (w2 : World), New w w2 b1 [.nilFunc, .nilFunc, .nilFunc, .nilFunc, .nilFunc, .nilFunc, .nilFunc] 107 →
  ∃ (l3 : List Value) (e4 : TypeId), Blk w2 b1 l3 e4 ∧ 0 + 7 ≤ l3.length ∧ ∀ w5 : World, Upd w2 w5 b1 (setSeg l3 0 [.func (.func 73) #[] #[], .func (.func 74) #[] #[], .func (.func 75) #[] #[], .func (.func 77) #[] #[], .func (.func 78) #[] #[], .func (.func 80) #[] #[], .func (.func 82) #[] #[]]) e4 →
  ∃ xs6 : List Value, xs6.length = 7 ∧ Cells w5 ⟨b1, 0, none⟩ xs6 ∧ R (.agg xs6.toArray) w5
def V.coll_tellers_ann : Ann := .no
theorem V.coll_tellers_eq  (w : World) (R : Value → World → Prop) : V.coll_tellers  w R = fnW Tryd.prog [] [.cell 0 107] (bodyOf Tryd.f59) V.coll_tellers_ann [] w R := by kernel_rfl
theorem V.coll_tellers_ok : okC 9 (bodyOf Tryd.f59) V.coll_tellers_ann = true := by kernel_rfl
theorem V.coll_tellers_cs : (calleesC (bodyOf Tryd.f59)).all (entersB Tryd.prog) = true := by kernel_rfl
theorem V.coll_tellers_calls  {w : World} {R : Value → World → Prop} (h : V.coll_tellers  w R) : Calls Tryd.prog 59 #[] w fun e w' => ∃ v, e = .returned v ∧ R v w' :=
  fn_sound (by kernel_rfl) Tryd.func59 (by kernel_rfl) V.coll_tellers_ok (enters_all V.coll_tellers_cs) (by kernel_rfl) ((V.coll_tellers_eq  w R).mp h)

end Go.Proofs.YtdaojmkbjkaakaaDoor
