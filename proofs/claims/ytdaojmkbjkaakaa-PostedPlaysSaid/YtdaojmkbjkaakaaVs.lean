/- PRINTED by this session's own vc.py: verification conditions of functions, and that they are enough. Conditions: none. -/
import Derived.Test.YtdaojmkbjkaakaaGc
import Derived.Test.YtdaojmkbjkaakaaProg
set_option linter.unusedVariables false
set_option maxRecDepth 100000
namespace Go.Proofs.Ytdaojmkbjkaakaa
open Go.Vc

def V.slices_SortStableFunc (A1 : Option Addr) (N1 : Nat) (C1 : Nat) (g1 : Nat) (cap1 : List Value) (w : World) (R : Value → World → Prop) : Prop :=
  Calls Try.prog 58 #[.slice A1 N1 C1, .int .i64 ((N1 : Nat) : Int), .func (.func g1) #[] cap1.toArray] w fun e w2 => e = .returned (.tuple #[]) ∧
  R (.tuple #[]) w2
def V.slices_SortStableFunc_ann : Ann := .no
theorem V.slices_SortStableFunc_eq (A1 : Option Addr) (N1 : Nat) (C1 : Nat) (g1 : Nat) (cap1 : List Value) (w : World) (R : Value → World → Prop) : V.slices_SortStableFunc A1 N1 C1 g1 cap1 w R = fnW Try.prog [] [] (bodyOf Try.f35) V.slices_SortStableFunc_ann [.slice A1 N1 C1, .func (.func g1) #[] cap1.toArray] w R := by kernel_rfl
theorem V.slices_SortStableFunc_ok : okC 9 (bodyOf Try.f35) V.slices_SortStableFunc_ann = true := by kernel_rfl
theorem V.slices_SortStableFunc_cs : (calleesC (bodyOf Try.f35)).all (entersB Try.prog) = true := by kernel_rfl
theorem V.slices_SortStableFunc_calls {A1 : Option Addr} {N1 : Nat} {C1 : Nat} {g1 : Nat} {cap1 : List Value}  {w : World} {R : Value → World → Prop} (h : V.slices_SortStableFunc A1 N1 C1 g1 cap1 w R) : Calls Try.prog 35 [.slice A1 N1 C1, .func (.func g1) #[] cap1.toArray].toArray w fun e w' => ∃ v, e = .returned v ∧ R v w' :=
  fn_sound (by kernel_rfl) Try.func35 (by kernel_rfl) V.slices_SortStableFunc_ok (enters_all V.slices_SortStableFunc_cs) (by kernel_rfl) ((V.slices_SortStableFunc_eq A1 N1 C1 g1 cap1 w R).mp h)

def V.slices_stableCmpFunc (A1 : Option Addr) (N1 : Nat) (C1 : Nat) (n2 : Int) (g2 : Nat) (cap2 : List Value) (w : World) (R : Value → World → Prop) : Prop :=
  ∃ (I3 : Int → Int → World → Prop) (μ4 : Int → Int → World → Nat),
  I3 (0 : Int) (20 : Int) w ∧
  ∀ n7 : Int, ∀ n8 : Int, ∀ (jk6 : Env) (w5 : World), I3 n7 n8 w5 →
  ifb (decide (n8 ≤ n2))
  (Calls Try.prog 74 #[.slice A1 N1 C1, .int .i64 n7, .int .i64 n8, .func (.func g2) #[] cap2.toArray] w5 fun e w9 => e = .returned (.tuple #[]) ∧
  ∃ c10 : Int, IntKind.wrap .i64 (n8 + (20 : Int)) = c10 ∧
  I3 n8 c10 w9 ∧ μ4 n8 c10 w9 < μ4 n7 n8 w5)
  (Calls Try.prog 74 #[.slice A1 N1 C1, .int .i64 n7, .int .i64 n2, .func (.func g2) #[] cap2.toArray] w5 fun e w11 => e = .returned (.tuple #[]) ∧
  ∃ (I12 : Int → World → Prop) (μ13 : Int → World → Nat),
  I12 (20 : Int) w11 ∧
  ∀ n16 : Int, ∀ (jk15 : Env) (w14 : World), I12 n16 w14 →
  ifb (decide (n16 < n2))
  (∃ c17 : Int, IntKind.wrap .i64 ((2 : Int) * n16) = c17 ∧
  ∃ (I18 : Int → Int → World → Prop) (μ19 : Int → Int → World → Nat),
  I18 (0 : Int) c17 w14 ∧
  ∀ n22 : Int, ∀ n23 : Int, ∀ (jk21 : Env) (w20 : World), I18 n22 n23 w20 →
  ifb (decide (n23 ≤ n2))
  (∃ c24 : Int, IntKind.wrap .i64 (n22 + n16) = c24 ∧
  Calls Try.prog 75 #[.slice A1 N1 C1, .int .i64 n22, .int .i64 c24, .int .i64 n23, .func (.func g2) #[] cap2.toArray] w20 fun e w25 => e = .returned (.tuple #[]) ∧
  ∃ c26 : Int, IntKind.wrap .i64 ((2 : Int) * n16) = c26 ∧
  ∃ c27 : Int, IntKind.wrap .i64 (n23 + c26) = c27 ∧
  I18 n23 c27 w25 ∧ μ19 n23 c27 w25 < μ19 n22 n23 w20)
  (∃ c28 : Int, IntKind.wrap .i64 (n22 + n16) = c28 ∧
  ifb (decide (c28 < n2))
  (Calls Try.prog 75 #[.slice A1 N1 C1, .int .i64 n22, .int .i64 c28, .int .i64 n2, .func (.func g2) #[] cap2.toArray] w20 fun e w29 => e = .returned (.tuple #[]) ∧
  ∃ c30 : Int, IntKind.wrap .i64 (n16 * (2 : Int)) = c30 ∧
  I12 c30 w29 ∧ μ13 c30 w29 < μ13 n16 w14)
  (∃ c31 : Int, IntKind.wrap .i64 (n16 * (2 : Int)) = c31 ∧
  I12 c31 w20 ∧ μ13 c31 w20 < μ13 n16 w14)))
  (R (.tuple #[]) w14))
def V.slices_stableCmpFunc_ann : Ann := .s (.no) (.s (.no) (.s (.b (.loop [(7, .one (.i .i64)), (8, .one (.i .i64))] (.no))) (.s (.no) (.b (.loop [(6, .one (.i .i64))] (.s (.no) (.b (.s (.no) (.s (.b (.loop [(7, .one (.i .i64)), (8, .one (.i .i64))] (.no))) (.no))))))))))
theorem V.slices_stableCmpFunc_eq (A1 : Option Addr) (N1 : Nat) (C1 : Nat) (n2 : Int) (g2 : Nat) (cap2 : List Value) (w : World) (R : Value → World → Prop) : V.slices_stableCmpFunc A1 N1 C1 n2 g2 cap2 w R = fnW Try.prog [] [] (bodyOf Try.f58) V.slices_stableCmpFunc_ann [.slice A1 N1 C1, .int .i64 n2, .func (.func g2) #[] cap2.toArray] w R := by kernel_rfl
theorem V.slices_stableCmpFunc_ok : okC 63 (bodyOf Try.f58) V.slices_stableCmpFunc_ann = true := by kernel_rfl
theorem V.slices_stableCmpFunc_cs : (calleesC (bodyOf Try.f58)).all (entersB Try.prog) = true := by kernel_rfl
theorem V.slices_stableCmpFunc_calls {A1 : Option Addr} {N1 : Nat} {C1 : Nat} {n2 : Int} {g2 : Nat} {cap2 : List Value}  {w : World} {R : Value → World → Prop} (h : V.slices_stableCmpFunc A1 N1 C1 n2 g2 cap2 w R) : Calls Try.prog 58 [.slice A1 N1 C1, .int .i64 n2, .func (.func g2) #[] cap2.toArray].toArray w fun e w' => ∃ v, e = .returned v ∧ R v w' :=
  fn_sound (by kernel_rfl) Try.func58 (by kernel_rfl) V.slices_stableCmpFunc_ok (enters_all V.slices_stableCmpFunc_cs) (by kernel_rfl) ((V.slices_stableCmpFunc_eq A1 N1 C1 n2 g2 cap2 w R).mp h)

def V.slices_insertionSortCmpFunc (A1 : Option Addr) (N1 : Nat) (C1 : Nat) (n2 : Int) (n3 : Int) (g3 : Nat) (cap3 : List Value) (w : World) (R : Value → World → Prop) : Prop :=
  ∃ c4 : Int, IntKind.wrap .i64 (n2 + (1 : Int)) = c4 ∧
  ∃ (I5 : Int → World → Prop) (μ6 : Int → World → Nat),
  I5 c4 w ∧
  ∀ n9 : Int, ∀ (jk8 : Env) (w7 : World), I5 n9 w7 →
  ifb (decide (n9 < n3))
  (∃ (I10 : Int → World → Prop) (μ11 : Int → World → Nat),
  I10 n9 w7 ∧
  ∀ n14 : Int, ∀ (jk13 : Env) (w12 : World), I10 n14 w12 →
  ifb (decide (n14 > n2))
  (0 ≤ n14 ∧ n14 < ((N1 : Nat) : Int) ∧ ∃ b15 o16 : Nat, (A1 : Option Addr) = some ⟨b15, o16, none⟩ ∧
  ∃ s17 : ByteArray, ∃ n18 : Int, ∃ n19 : Int, ∃ n20 : Int, ∃ n21 : Int, ∃ n22 : Int, ∃ n23 : Int, ∃ t24 : Bool, Cells w12.drew ⟨b15, o16 + n14.toNat * 8, none⟩ [.string s17, .int .i64 n18, .int .i64 n19, .int .i64 n20, .int .i64 n21, .int .i64 n22, .int .i64 n23, .bool t24] ∧
  ∃ c25 : Int, IntKind.wrap .i64 (n14 - (1 : Int)) = c25 ∧
  0 ≤ c25 ∧ c25 < ((N1 : Nat) : Int) ∧ ∃ b26 o27 : Nat, (A1 : Option Addr) = some ⟨b26, o27, none⟩ ∧
  ∃ s28 : ByteArray, ∃ n29 : Int, ∃ n30 : Int, ∃ n31 : Int, ∃ n32 : Int, ∃ n33 : Int, ∃ n34 : Int, ∃ t35 : Bool, Cells w12.drew ⟨b26, o27 + c25.toNat * 8, none⟩ [.string s28, .int .i64 n29, .int .i64 n30, .int .i64 n31, .int .i64 n32, .int .i64 n33, .int .i64 n34, .bool t35] ∧
  Enters Try.prog g3 ∧
  Calls Try.prog g3 ((.agg #[.string s17, .int .i64 n18, .int .i64 n19, .int .i64 n20, .int .i64 n21, .int .i64 n22, .int .i64 n23, .bool t24]) :: (.agg #[.string s28, .int .i64 n29, .int .i64 n30, .int .i64 n31, .int .i64 n32, .int .i64 n33, .int .i64 n34, .bool t35]) :: cap3).toArray w12.drew fun e w36 => ∃ n37 : Int, e = .returned (.int .i64 n37) ∧
  ifb (decide (n37 < (0 : Int)))
  (∃ c38 : Int, IntKind.wrap .i64 (n14 - (1 : Int)) = c38 ∧
  ∃ c39 : Int, IntKind.wrap .i64 (n14 - (1 : Int)) = c39 ∧
  0 ≤ c39 ∧ c39 < ((N1 : Nat) : Int) ∧ ∃ b40 o41 : Nat, (A1 : Option Addr) = some ⟨b40, o41, none⟩ ∧
  ∃ s42 : ByteArray, ∃ n43 : Int, ∃ n44 : Int, ∃ n45 : Int, ∃ n46 : Int, ∃ n47 : Int, ∃ n48 : Int, ∃ t49 : Bool, Cells w36.drew ⟨b40, o41 + c39.toNat * 8, none⟩ [.string s42, .int .i64 n43, .int .i64 n44, .int .i64 n45, .int .i64 n46, .int .i64 n47, .int .i64 n48, .bool t49] ∧
  0 ≤ n14 ∧ n14 < ((N1 : Nat) : Int) ∧ ∃ b50 o51 : Nat, (A1 : Option Addr) = some ⟨b50, o51, none⟩ ∧
  ∃ s52 : ByteArray, ∃ n53 : Int, ∃ n54 : Int, ∃ n55 : Int, ∃ n56 : Int, ∃ n57 : Int, ∃ n58 : Int, ∃ t59 : Bool, Cells w36.drew ⟨b50, o51 + n14.toNat * 8, none⟩ [.string s52, .int .i64 n53, .int .i64 n54, .int .i64 n55, .int .i64 n56, .int .i64 n57, .int .i64 n58, .bool t59] ∧
  0 ≤ n14 ∧ n14 < ((N1 : Nat) : Int) ∧ ∃ b60 o61 : Nat, (A1 : Option Addr) = some ⟨b60, o61, none⟩ ∧
  ∃ (l62 : List Value) (e63 : TypeId), Blk w36.drew b60 l62 e63 ∧ o61 + n14.toNat * 8 + 8 ≤ l62.length ∧ ∀ w64 : World, Upd w36.drew w64 b60 (setSeg l62 (o61 + n14.toNat * 8) [.string s42, .int .i64 n43, .int .i64 n44, .int .i64 n45, .int .i64 n46, .int .i64 n47, .int .i64 n48, .bool t49]) e63 →
  0 ≤ c38 ∧ c38 < ((N1 : Nat) : Int) ∧ ∃ b65 o66 : Nat, (A1 : Option Addr) = some ⟨b65, o66, none⟩ ∧
  ∃ (l67 : List Value) (e68 : TypeId), Blk w64 b65 l67 e68 ∧ o66 + c38.toNat * 8 + 8 ≤ l67.length ∧ ∀ w69 : World, Upd w64 w69 b65 (setSeg l67 (o66 + c38.toNat * 8) [.string s52, .int .i64 n53, .int .i64 n54, .int .i64 n55, .int .i64 n56, .int .i64 n57, .int .i64 n58, .bool t59]) e68 →
  ∃ c70 : Int, IntKind.wrap .i64 (n14 - (1 : Int)) = c70 ∧
  I10 c70 w69 ∧ μ11 c70 w69 < μ11 n14 w12)
  (∃ c71 : Int, IntKind.wrap .i64 (n9 + (1 : Int)) = c71 ∧
  I5 c71 w36 ∧ μ6 c71 w36 < μ6 n9 w7))
  (∃ c72 : Int, IntKind.wrap .i64 (n9 + (1 : Int)) = c72 ∧
  I5 c72 w12.drew ∧ μ6 c72 w12.drew < μ6 n9 w7))
  (R (.tuple #[]) w7)
def V.slices_insertionSortCmpFunc_ann : Ann := .s (.no) (.b (.loop [(8, .one (.i .i64))] (.s (.no) (.s (.b (.s (.no) (.b (.loop [(9, .one (.i .i64))] (.s (.s (.draw (.r 0 (.r 1 (.r 2 (.r 3 (.r 4 (.r 5 (.r 6 (.r 7 (.r 8 (.r 9 (.r 10 (.r 11 (.r 12 (.r 13 (.e 14 [8, 13] (.r 15 (.r 16 (.done)))))))))))))))))) [(14, 8), (14, 13)]) (.no)) (.s (.b (.draw (.r 0 (.r 1 (.r 2 (.r 3 (.r 4 (.r 5 (.r 6 (.r 7 (.r 8 (.r 9 (.r 10 (.r 11 (.r 12 (.r 13 (.r 14 (.e 15 [9, 13] (.r 16 (.e 17 [9, 13] (.done))))))))))))))))))) [(15, 9), (15, 13), (17, 9), (17, 13)])) (.no))))))) (.no)))))
theorem V.slices_insertionSortCmpFunc_eq (A1 : Option Addr) (N1 : Nat) (C1 : Nat) (n2 : Int) (n3 : Int) (g3 : Nat) (cap3 : List Value) (w : World) (R : Value → World → Prop) : V.slices_insertionSortCmpFunc A1 N1 C1 n2 n3 g3 cap3 w R = fnW Try.prog [] [] (bodyOf Try.f74) V.slices_insertionSortCmpFunc_ann [.slice A1 N1 C1, .int .i64 n2, .int .i64 n3, .func (.func g3) #[] cap3.toArray] w R := by kernel_rfl
theorem V.slices_insertionSortCmpFunc_ok : okC 53 (bodyOf Try.f74) V.slices_insertionSortCmpFunc_ann = true := by kernel_rfl
theorem V.slices_insertionSortCmpFunc_cs : (calleesC (bodyOf Try.f74)).all (entersB Try.prog) = true := by kernel_rfl
theorem V.slices_insertionSortCmpFunc_calls {A1 : Option Addr} {N1 : Nat} {C1 : Nat} {n2 : Int} {n3 : Int} {g3 : Nat} {cap3 : List Value}  {w : World} {R : Value → World → Prop} (h : V.slices_insertionSortCmpFunc A1 N1 C1 n2 n3 g3 cap3 w R) : Calls Try.prog 74 [.slice A1 N1 C1, .int .i64 n2, .int .i64 n3, .func (.func g3) #[] cap3.toArray].toArray w fun e w' => ∃ v, e = .returned v ∧ R v w' :=
  fn_sound (by kernel_rfl) Try.func74 (by kernel_rfl) V.slices_insertionSortCmpFunc_ok (enters_all V.slices_insertionSortCmpFunc_cs) (by kernel_rfl) ((V.slices_insertionSortCmpFunc_eq A1 N1 C1 n2 n3 g3 cap3 w R).mp h)

def V.slices_symMergeCmpFunc (A1 : Option Addr) (N1 : Nat) (C1 : Nat) (n2 : Int) (n3 : Int) (n4 : Int) (g4 : Nat) (cap4 : List Value) (w : World) (R : Value → World → Prop) : Prop :=
  ∃ c5 : Int, IntKind.wrap .i64 (n3 - n2) = c5 ∧
  ifb (c5 == (1 : Int))
  (∃ (I6 : Int → Int → World → Prop) (μ7 : Int → Int → World → Nat),
  I6 n3 n4 w ∧
  ∀ n10 : Int, ∀ n11 : Int, ∀ (jk9 : Env) (w8 : World), I6 n10 n11 w8 →
  ifb (decide (n10 < n11))
  (∃ c12 : Int, IntKind.wrap .i64 (n10 + n11) = c12 ∧
  ∃ c13 : Int, IntKind.wrap .u64 c12 = c13 ∧
  ∃ c14 : Int, IntKind.wrap .i64 (Int.fdiv c13 (2 ^ 1)) = c14 ∧
  0 ≤ c14 ∧ c14 < ((N1 : Nat) : Int) ∧ ∃ b15 o16 : Nat, (A1 : Option Addr) = some ⟨b15, o16, none⟩ ∧
  ∃ s17 : ByteArray, ∃ n18 : Int, ∃ n19 : Int, ∃ n20 : Int, ∃ n21 : Int, ∃ n22 : Int, ∃ n23 : Int, ∃ t24 : Bool, Cells w8.drew ⟨b15, o16 + c14.toNat * 8, none⟩ [.string s17, .int .i64 n18, .int .i64 n19, .int .i64 n20, .int .i64 n21, .int .i64 n22, .int .i64 n23, .bool t24] ∧
  0 ≤ n2 ∧ n2 < ((N1 : Nat) : Int) ∧ ∃ b25 o26 : Nat, (A1 : Option Addr) = some ⟨b25, o26, none⟩ ∧
  ∃ s27 : ByteArray, ∃ n28 : Int, ∃ n29 : Int, ∃ n30 : Int, ∃ n31 : Int, ∃ n32 : Int, ∃ n33 : Int, ∃ t34 : Bool, Cells w8.drew ⟨b25, o26 + n2.toNat * 8, none⟩ [.string s27, .int .i64 n28, .int .i64 n29, .int .i64 n30, .int .i64 n31, .int .i64 n32, .int .i64 n33, .bool t34] ∧
  Enters Try.prog g4 ∧
  Calls Try.prog g4 ((.agg #[.string s17, .int .i64 n18, .int .i64 n19, .int .i64 n20, .int .i64 n21, .int .i64 n22, .int .i64 n23, .bool t24]) :: (.agg #[.string s27, .int .i64 n28, .int .i64 n29, .int .i64 n30, .int .i64 n31, .int .i64 n32, .int .i64 n33, .bool t34]) :: cap4).toArray w8.drew fun e w35 => ∃ n36 : Int, e = .returned (.int .i64 n36) ∧
  ifb (decide (n36 < (0 : Int)))
  (∃ c37 : Int, IntKind.wrap .i64 (c14 + (1 : Int)) = c37 ∧
  I6 c37 n11 w35 ∧ μ7 c37 n11 w35 < μ7 n10 n11 w8)
  (I6 n10 c14 w35 ∧ μ7 n10 c14 w35 < μ7 n10 n11 w8))
  (∃ (I38 : Int → World → Prop) (μ39 : Int → World → Nat),
  I38 n2 w8 ∧
  ∀ n42 : Int, ∀ (jk41 : Env) (w40 : World), I38 n42 w40 →
  ∃ c43 : Int, IntKind.wrap .i64 (n10 - (1 : Int)) = c43 ∧
  ifb (decide (n42 < c43))
  (∃ c44 : Int, IntKind.wrap .i64 (n42 + (1 : Int)) = c44 ∧
  ∃ c45 : Int, IntKind.wrap .i64 (n42 + (1 : Int)) = c45 ∧
  0 ≤ c45 ∧ c45 < ((N1 : Nat) : Int) ∧ ∃ b46 o47 : Nat, (A1 : Option Addr) = some ⟨b46, o47, none⟩ ∧
  ∃ s48 : ByteArray, ∃ n49 : Int, ∃ n50 : Int, ∃ n51 : Int, ∃ n52 : Int, ∃ n53 : Int, ∃ n54 : Int, ∃ t55 : Bool, Cells w40.drew ⟨b46, o47 + c45.toNat * 8, none⟩ [.string s48, .int .i64 n49, .int .i64 n50, .int .i64 n51, .int .i64 n52, .int .i64 n53, .int .i64 n54, .bool t55] ∧
  0 ≤ n42 ∧ n42 < ((N1 : Nat) : Int) ∧ ∃ b56 o57 : Nat, (A1 : Option Addr) = some ⟨b56, o57, none⟩ ∧
  ∃ s58 : ByteArray, ∃ n59 : Int, ∃ n60 : Int, ∃ n61 : Int, ∃ n62 : Int, ∃ n63 : Int, ∃ n64 : Int, ∃ t65 : Bool, Cells w40.drew ⟨b56, o57 + n42.toNat * 8, none⟩ [.string s58, .int .i64 n59, .int .i64 n60, .int .i64 n61, .int .i64 n62, .int .i64 n63, .int .i64 n64, .bool t65] ∧
  0 ≤ n42 ∧ n42 < ((N1 : Nat) : Int) ∧ ∃ b66 o67 : Nat, (A1 : Option Addr) = some ⟨b66, o67, none⟩ ∧
  ∃ (l68 : List Value) (e69 : TypeId), Blk w40.drew b66 l68 e69 ∧ o67 + n42.toNat * 8 + 8 ≤ l68.length ∧ ∀ w70 : World, Upd w40.drew w70 b66 (setSeg l68 (o67 + n42.toNat * 8) [.string s48, .int .i64 n49, .int .i64 n50, .int .i64 n51, .int .i64 n52, .int .i64 n53, .int .i64 n54, .bool t55]) e69 →
  0 ≤ c44 ∧ c44 < ((N1 : Nat) : Int) ∧ ∃ b71 o72 : Nat, (A1 : Option Addr) = some ⟨b71, o72, none⟩ ∧
  ∃ (l73 : List Value) (e74 : TypeId), Blk w70 b71 l73 e74 ∧ o72 + c44.toNat * 8 + 8 ≤ l73.length ∧ ∀ w75 : World, Upd w70 w75 b71 (setSeg l73 (o72 + c44.toNat * 8) [.string s58, .int .i64 n59, .int .i64 n60, .int .i64 n61, .int .i64 n62, .int .i64 n63, .int .i64 n64, .bool t65]) e74 →
  ∃ c76 : Int, IntKind.wrap .i64 (n42 + (1 : Int)) = c76 ∧
  I38 c76 w75 ∧ μ39 c76 w75 < μ39 n42 w40)
  (R (.tuple #[]) w40)))
  (∃ c77 : Int, IntKind.wrap .i64 (n4 - n3) = c77 ∧
  ifb (c77 == (1 : Int))
  (∃ (I78 : Int → Int → World → Prop) (μ79 : Int → Int → World → Nat),
  I78 n2 n3 w ∧
  ∀ n82 : Int, ∀ n83 : Int, ∀ (jk81 : Env) (w80 : World), I78 n82 n83 w80 →
  ifb (decide (n82 < n83))
  (∃ c84 : Int, IntKind.wrap .i64 (n82 + n83) = c84 ∧
  ∃ c85 : Int, IntKind.wrap .u64 c84 = c85 ∧
  ∃ c86 : Int, IntKind.wrap .i64 (Int.fdiv c85 (2 ^ 1)) = c86 ∧
  0 ≤ n3 ∧ n3 < ((N1 : Nat) : Int) ∧ ∃ b87 o88 : Nat, (A1 : Option Addr) = some ⟨b87, o88, none⟩ ∧
  ∃ s89 : ByteArray, ∃ n90 : Int, ∃ n91 : Int, ∃ n92 : Int, ∃ n93 : Int, ∃ n94 : Int, ∃ n95 : Int, ∃ t96 : Bool, Cells w80.drew ⟨b87, o88 + n3.toNat * 8, none⟩ [.string s89, .int .i64 n90, .int .i64 n91, .int .i64 n92, .int .i64 n93, .int .i64 n94, .int .i64 n95, .bool t96] ∧
  0 ≤ c86 ∧ c86 < ((N1 : Nat) : Int) ∧ ∃ b97 o98 : Nat, (A1 : Option Addr) = some ⟨b97, o98, none⟩ ∧
  ∃ s99 : ByteArray, ∃ n100 : Int, ∃ n101 : Int, ∃ n102 : Int, ∃ n103 : Int, ∃ n104 : Int, ∃ n105 : Int, ∃ t106 : Bool, Cells w80.drew ⟨b97, o98 + c86.toNat * 8, none⟩ [.string s99, .int .i64 n100, .int .i64 n101, .int .i64 n102, .int .i64 n103, .int .i64 n104, .int .i64 n105, .bool t106] ∧
  Enters Try.prog g4 ∧
  Calls Try.prog g4 ((.agg #[.string s89, .int .i64 n90, .int .i64 n91, .int .i64 n92, .int .i64 n93, .int .i64 n94, .int .i64 n95, .bool t96]) :: (.agg #[.string s99, .int .i64 n100, .int .i64 n101, .int .i64 n102, .int .i64 n103, .int .i64 n104, .int .i64 n105, .bool t106]) :: cap4).toArray w80.drew fun e w107 => ∃ n108 : Int, e = .returned (.int .i64 n108) ∧
  ifb (!(decide (n108 < (0 : Int))))
  (∃ c109 : Int, IntKind.wrap .i64 (c86 + (1 : Int)) = c109 ∧
  I78 c109 n83 w107 ∧ μ79 c109 n83 w107 < μ79 n82 n83 w80)
  (I78 n82 c86 w107 ∧ μ79 n82 c86 w107 < μ79 n82 n83 w80))
  (∃ (I110 : Int → World → Prop) (μ111 : Int → World → Nat),
  I110 n3 w80 ∧
  ∀ n114 : Int, ∀ (jk113 : Env) (w112 : World), I110 n114 w112 →
  ifb (decide (n114 > n82))
  (∃ c115 : Int, IntKind.wrap .i64 (n114 - (1 : Int)) = c115 ∧
  ∃ c116 : Int, IntKind.wrap .i64 (n114 - (1 : Int)) = c116 ∧
  0 ≤ c116 ∧ c116 < ((N1 : Nat) : Int) ∧ ∃ b117 o118 : Nat, (A1 : Option Addr) = some ⟨b117, o118, none⟩ ∧
  ∃ s119 : ByteArray, ∃ n120 : Int, ∃ n121 : Int, ∃ n122 : Int, ∃ n123 : Int, ∃ n124 : Int, ∃ n125 : Int, ∃ t126 : Bool, Cells w112.drew ⟨b117, o118 + c116.toNat * 8, none⟩ [.string s119, .int .i64 n120, .int .i64 n121, .int .i64 n122, .int .i64 n123, .int .i64 n124, .int .i64 n125, .bool t126] ∧
  0 ≤ n114 ∧ n114 < ((N1 : Nat) : Int) ∧ ∃ b127 o128 : Nat, (A1 : Option Addr) = some ⟨b127, o128, none⟩ ∧
  ∃ s129 : ByteArray, ∃ n130 : Int, ∃ n131 : Int, ∃ n132 : Int, ∃ n133 : Int, ∃ n134 : Int, ∃ n135 : Int, ∃ t136 : Bool, Cells w112.drew ⟨b127, o128 + n114.toNat * 8, none⟩ [.string s129, .int .i64 n130, .int .i64 n131, .int .i64 n132, .int .i64 n133, .int .i64 n134, .int .i64 n135, .bool t136] ∧
  0 ≤ n114 ∧ n114 < ((N1 : Nat) : Int) ∧ ∃ b137 o138 : Nat, (A1 : Option Addr) = some ⟨b137, o138, none⟩ ∧
  ∃ (l139 : List Value) (e140 : TypeId), Blk w112.drew b137 l139 e140 ∧ o138 + n114.toNat * 8 + 8 ≤ l139.length ∧ ∀ w141 : World, Upd w112.drew w141 b137 (setSeg l139 (o138 + n114.toNat * 8) [.string s119, .int .i64 n120, .int .i64 n121, .int .i64 n122, .int .i64 n123, .int .i64 n124, .int .i64 n125, .bool t126]) e140 →
  0 ≤ c115 ∧ c115 < ((N1 : Nat) : Int) ∧ ∃ b142 o143 : Nat, (A1 : Option Addr) = some ⟨b142, o143, none⟩ ∧
  ∃ (l144 : List Value) (e145 : TypeId), Blk w141 b142 l144 e145 ∧ o143 + c115.toNat * 8 + 8 ≤ l144.length ∧ ∀ w146 : World, Upd w141 w146 b142 (setSeg l144 (o143 + c115.toNat * 8) [.string s129, .int .i64 n130, .int .i64 n131, .int .i64 n132, .int .i64 n133, .int .i64 n134, .int .i64 n135, .bool t136]) e145 →
  ∃ c147 : Int, IntKind.wrap .i64 (n114 - (1 : Int)) = c147 ∧
  I110 c147 w146 ∧ μ111 c147 w146 < μ111 n114 w112)
  (R (.tuple #[]) w112)))
  (∃ c148 : Int, IntKind.wrap .i64 (n2 + n4) = c148 ∧
  ∃ c149 : Int, IntKind.wrap .u64 c148 = c149 ∧
  ∃ c150 : Int, IntKind.wrap .i64 (Int.fdiv c149 (2 ^ 1)) = c150 ∧
  ∃ c151 : Int, IntKind.wrap .i64 (c150 + n3) = c151 ∧
  ∃ J152 : Int → Int → World → Prop,
  (ifb (decide (n3 > c150))
  (∃ c155 : Int, IntKind.wrap .i64 (c151 - n4) = c155 ∧
  J152 c155 c150 w)
  (J152 n2 n3 w)) ∧
  ∀ n156 : Int, ∀ n157 : Int, ∀ (jk154 : Env) (w153 : World), J152 n156 n157 w153 →
  ∃ c158 : Int, IntKind.wrap .i64 (c151 - (1 : Int)) = c158 ∧
  ∃ (I159 : Int → Int → World → Prop) (μ160 : Int → Int → World → Nat),
  I159 n156 n157 w153 ∧
  ∀ n163 : Int, ∀ n164 : Int, ∀ (jk162 : Env) (w161 : World), I159 n163 n164 w161 →
  ifb (decide (n163 < n164))
  (∃ c165 : Int, IntKind.wrap .i64 (n163 + n164) = c165 ∧
  ∃ c166 : Int, IntKind.wrap .u64 c165 = c166 ∧
  ∃ c167 : Int, IntKind.wrap .i64 (Int.fdiv c166 (2 ^ 1)) = c167 ∧
  ∃ c168 : Int, IntKind.wrap .i64 (c158 - c167) = c168 ∧
  0 ≤ c168 ∧ c168 < ((N1 : Nat) : Int) ∧ ∃ b169 o170 : Nat, (A1 : Option Addr) = some ⟨b169, o170, none⟩ ∧
  ∃ s171 : ByteArray, ∃ n172 : Int, ∃ n173 : Int, ∃ n174 : Int, ∃ n175 : Int, ∃ n176 : Int, ∃ n177 : Int, ∃ t178 : Bool, Cells w161.drew ⟨b169, o170 + c168.toNat * 8, none⟩ [.string s171, .int .i64 n172, .int .i64 n173, .int .i64 n174, .int .i64 n175, .int .i64 n176, .int .i64 n177, .bool t178] ∧
  0 ≤ c167 ∧ c167 < ((N1 : Nat) : Int) ∧ ∃ b179 o180 : Nat, (A1 : Option Addr) = some ⟨b179, o180, none⟩ ∧
  ∃ s181 : ByteArray, ∃ n182 : Int, ∃ n183 : Int, ∃ n184 : Int, ∃ n185 : Int, ∃ n186 : Int, ∃ n187 : Int, ∃ t188 : Bool, Cells w161.drew ⟨b179, o180 + c167.toNat * 8, none⟩ [.string s181, .int .i64 n182, .int .i64 n183, .int .i64 n184, .int .i64 n185, .int .i64 n186, .int .i64 n187, .bool t188] ∧
  Enters Try.prog g4 ∧
  Calls Try.prog g4 ((.agg #[.string s171, .int .i64 n172, .int .i64 n173, .int .i64 n174, .int .i64 n175, .int .i64 n176, .int .i64 n177, .bool t178]) :: (.agg #[.string s181, .int .i64 n182, .int .i64 n183, .int .i64 n184, .int .i64 n185, .int .i64 n186, .int .i64 n187, .bool t188]) :: cap4).toArray w161.drew fun e w189 => ∃ n190 : Int, e = .returned (.int .i64 n190) ∧
  ifb (!(decide (n190 < (0 : Int))))
  (∃ c191 : Int, IntKind.wrap .i64 (c167 + (1 : Int)) = c191 ∧
  I159 c191 n164 w189 ∧ μ160 c191 n164 w189 < μ160 n163 n164 w161)
  (I159 n163 c167 w189 ∧ μ160 n163 c167 w189 < μ160 n163 n164 w161))
  (∃ c192 : Int, IntKind.wrap .i64 (c151 - n163) = c192 ∧
  ∃ J193 : World → Prop,
  (ifb (decide (n163 < n3))
  (ifb (decide (n3 < c192))
  (Calls Try.prog 91 #[.slice A1 N1 C1, .int .i64 n163, .int .i64 n3, .int .i64 c192, .func (.func g4) #[] cap4.toArray] w161 fun e w196 => e = .returned (.tuple #[]) ∧
  J193 w196)
  (J193 w161))
  (J193 w161)) ∧
  ∀ (jk195 : Env) (w194 : World), J193 w194 →
  ∃ J197 : World → Prop,
  (ifb (decide (n2 < n163))
  (ifb (decide (n163 < c150))
  (Calls Try.prog 75 #[.slice A1 N1 C1, .int .i64 n2, .int .i64 n163, .int .i64 c150, .func (.func g4) #[] cap4.toArray] w194 fun e w200 => e = .returned (.tuple #[]) ∧
  J197 w200)
  (J197 w194))
  (J197 w194)) ∧
  ∀ (jk199 : Env) (w198 : World), J197 w198 →
  ifb (decide (c150 < c192))
  (ifb (decide (c192 < n4))
  (Calls Try.prog 75 #[.slice A1 N1 C1, .int .i64 c150, .int .i64 c192, .int .i64 n4, .func (.func g4) #[] cap4.toArray] w198 fun e w201 => e = .returned (.tuple #[]) ∧
  R (.tuple #[]) w201)
  (R (.tuple #[]) w198))
  (R (.tuple #[]) w198))))
def V.slices_symMergeCmpFunc_ann : Ann := .s (.s (.no) (.s (.s (.no) (.s (.no) (.s (.b (.loop [(10, .one (.i .i64)), (11, .one (.i .i64))] (.s (.no) (.b (.s (.no) (.s (.draw (.r 0 (.r 1 (.r 2 (.r 3 (.r 4 (.r 5 (.r 6 (.r 7 (.r 8 (.e 9 [4, 8] (.r 10 (.done)))))))))))) [(9, 4), (9, 8)]) (.no))))))) (.s (.s (.no) (.b (.loop [(13, .one (.i .i64))] (.s (.no) (.s (.b (.draw (.r 0 (.r 1 (.r 2 (.r 3 (.r 4 (.r 5 (.r 6 (.r 7 (.r 8 (.r 9 (.r 10 (.r 11 (.r 12 (.r 13 (.r 14 (.e 15 [9, 13] (.r 16 (.e 17 [9, 13] (.done))))))))))))))))))) [(15, 9), (15, 13), (17, 9), (17, 13)])) (.no)))))) (.no))))) (.no))) (.s (.s (.no) (.s (.s (.no) (.s (.no) (.s (.b (.loop [(14, .one (.i .i64)), (15, .one (.i .i64))] (.s (.no) (.b (.s (.no) (.s (.draw (.r 0 (.r 1 (.r 2 (.r 3 (.r 4 (.r 5 (.r 6 (.r 7 (.r 8 (.e 9 [4, 8] (.r 10 (.r 11 (.done))))))))))))) [(9, 4), (9, 8)]) (.no))))))) (.s (.s (.no) (.b (.loop [(17, .one (.i .i64))] (.s (.no) (.s (.b (.draw (.r 0 (.r 1 (.r 2 (.r 3 (.r 4 (.r 5 (.r 6 (.r 7 (.r 8 (.r 9 (.r 10 (.r 11 (.r 12 (.r 13 (.r 14 (.e 15 [9, 13] (.r 16 (.e 17 [9, 13] (.done))))))))))))))))))) [(15, 9), (15, 13), (17, 9), (17, 13)])) (.no)))))) (.no))))) (.no))) (.s (.no) (.s (.no) (.s (.no) (.s (.jn [(20, .one (.i .i64)), (21, .one (.i .i64))] (.no)) (.s (.no) (.s (.b (.loop [(20, .one (.i .i64)), (21, .one (.i .i64))] (.s (.no) (.b (.s (.no) (.s (.draw (.r 0 (.r 1 (.r 2 (.r 3 (.r 4 (.r 5 (.r 6 (.r 7 (.r 8 (.r 9 (.r 10 (.e 11 [6, 10] (.r 12 (.r 13 (.done))))))))))))))) [(11, 6), (11, 10)]) (.no))))))) (.s (.no) (.s (.jn [] (.no)) (.s (.jn [] (.no)) (.no)))))))))))
theorem V.slices_symMergeCmpFunc_eq (A1 : Option Addr) (N1 : Nat) (C1 : Nat) (n2 : Int) (n3 : Int) (n4 : Int) (g4 : Nat) (cap4 : List Value) (w : World) (R : Value → World → Prop) : V.slices_symMergeCmpFunc A1 N1 C1 n2 n3 n4 g4 cap4 w R = fnW Try.prog [] [] (bodyOf Try.f75) V.slices_symMergeCmpFunc_ann [.slice A1 N1 C1, .int .i64 n2, .int .i64 n3, .int .i64 n4, .func (.func g4) #[] cap4.toArray] w R := by kernel_rfl
theorem V.slices_symMergeCmpFunc_ok : okC 220 (bodyOf Try.f75) V.slices_symMergeCmpFunc_ann = true := by kernel_rfl
theorem V.slices_symMergeCmpFunc_cs : (calleesC (bodyOf Try.f75)).all (entersB Try.prog) = true := by kernel_rfl
theorem V.slices_symMergeCmpFunc_calls {A1 : Option Addr} {N1 : Nat} {C1 : Nat} {n2 : Int} {n3 : Int} {n4 : Int} {g4 : Nat} {cap4 : List Value}  {w : World} {R : Value → World → Prop} (h : V.slices_symMergeCmpFunc A1 N1 C1 n2 n3 n4 g4 cap4 w R) : Calls Try.prog 75 [.slice A1 N1 C1, .int .i64 n2, .int .i64 n3, .int .i64 n4, .func (.func g4) #[] cap4.toArray].toArray w fun e w' => ∃ v, e = .returned v ∧ R v w' :=
  fn_sound (by kernel_rfl) Try.func75 (by kernel_rfl) V.slices_symMergeCmpFunc_ok (enters_all V.slices_symMergeCmpFunc_cs) (by kernel_rfl) ((V.slices_symMergeCmpFunc_eq A1 N1 C1 n2 n3 n4 g4 cap4 w R).mp h)

def V.slices_rotateCmpFunc (A1 : Option Addr) (N1 : Nat) (C1 : Nat) (n2 : Int) (n3 : Int) (n4 : Int) (g4 : Nat) (cap4 : List Value) (w : World) (R : Value → World → Prop) : Prop :=
  ∃ c5 : Int, IntKind.wrap .i64 (n3 - n2) = c5 ∧
  ∃ c6 : Int, IntKind.wrap .i64 (n4 - n3) = c6 ∧
  ∃ (I7 : Int → Int → World → Prop) (μ8 : Int → Int → World → Nat),
  I7 c5 c6 w ∧
  ∀ n11 : Int, ∀ n12 : Int, ∀ (jk10 : Env) (w9 : World), I7 n11 n12 w9 →
  ifb (n11 != n12)
  (ifb (decide (n11 > n12))
  (∃ c13 : Int, IntKind.wrap .i64 (n3 - n11) = c13 ∧
  Calls Try.prog 100 #[.slice A1 N1 C1, .int .i64 c13, .int .i64 n3, .int .i64 n12, .func (.func g4) #[] cap4.toArray] w9 fun e w14 => e = .returned (.tuple #[]) ∧
  ∃ c15 : Int, IntKind.wrap .i64 (n11 - n12) = c15 ∧
  I7 c15 n12 w14 ∧ μ8 c15 n12 w14 < μ8 n11 n12 w9)
  (∃ c16 : Int, IntKind.wrap .i64 (n3 - n11) = c16 ∧
  ∃ c17 : Int, IntKind.wrap .i64 (n3 + n12) = c17 ∧
  ∃ c18 : Int, IntKind.wrap .i64 (c17 - n11) = c18 ∧
  Calls Try.prog 100 #[.slice A1 N1 C1, .int .i64 c16, .int .i64 c18, .int .i64 n11, .func (.func g4) #[] cap4.toArray] w9 fun e w19 => e = .returned (.tuple #[]) ∧
  ∃ c20 : Int, IntKind.wrap .i64 (n12 - n11) = c20 ∧
  I7 n11 c20 w19 ∧ μ8 n11 c20 w19 < μ8 n11 n12 w9))
  (∃ c21 : Int, IntKind.wrap .i64 (n3 - n11) = c21 ∧
  Calls Try.prog 100 #[.slice A1 N1 C1, .int .i64 c21, .int .i64 n3, .int .i64 n11, .func (.func g4) #[] cap4.toArray] w9 fun e w22 => e = .returned (.tuple #[]) ∧
  R (.tuple #[]) w22)
def V.slices_rotateCmpFunc_ann : Ann := .s (.no) (.s (.no) (.s (.b (.loop [(10, .one (.i .i64)), (11, .one (.i .i64))] (.no))) (.no)))
theorem V.slices_rotateCmpFunc_eq (A1 : Option Addr) (N1 : Nat) (C1 : Nat) (n2 : Int) (n3 : Int) (n4 : Int) (g4 : Nat) (cap4 : List Value) (w : World) (R : Value → World → Prop) : V.slices_rotateCmpFunc A1 N1 C1 n2 n3 n4 g4 cap4 w R = fnW Try.prog [] [] (bodyOf Try.f91) V.slices_rotateCmpFunc_ann [.slice A1 N1 C1, .int .i64 n2, .int .i64 n3, .int .i64 n4, .func (.func g4) #[] cap4.toArray] w R := by kernel_rfl
theorem V.slices_rotateCmpFunc_ok : okC 58 (bodyOf Try.f91) V.slices_rotateCmpFunc_ann = true := by kernel_rfl
theorem V.slices_rotateCmpFunc_cs : (calleesC (bodyOf Try.f91)).all (entersB Try.prog) = true := by kernel_rfl
theorem V.slices_rotateCmpFunc_calls {A1 : Option Addr} {N1 : Nat} {C1 : Nat} {n2 : Int} {n3 : Int} {n4 : Int} {g4 : Nat} {cap4 : List Value}  {w : World} {R : Value → World → Prop} (h : V.slices_rotateCmpFunc A1 N1 C1 n2 n3 n4 g4 cap4 w R) : Calls Try.prog 91 [.slice A1 N1 C1, .int .i64 n2, .int .i64 n3, .int .i64 n4, .func (.func g4) #[] cap4.toArray].toArray w fun e w' => ∃ v, e = .returned v ∧ R v w' :=
  fn_sound (by kernel_rfl) Try.func91 (by kernel_rfl) V.slices_rotateCmpFunc_ok (enters_all V.slices_rotateCmpFunc_cs) (by kernel_rfl) ((V.slices_rotateCmpFunc_eq A1 N1 C1 n2 n3 n4 g4 cap4 w R).mp h)

def V.slices_swapRangeCmpFunc (A1 : Option Addr) (N1 : Nat) (C1 : Nat) (n2 : Int) (n3 : Int) (n4 : Int) (g4 : Nat) (cap4 : List Value) (w : World) (R : Value → World → Prop) : Prop :=
  ∃ (I5 : Int → World → Prop) (μ6 : Int → World → Nat),
  I5 (0 : Int) w ∧
  ∀ n9 : Int, ∀ (jk8 : Env) (w7 : World), I5 n9 w7 →
  ifb (decide (n9 < n4))
  (∃ c10 : Int, IntKind.wrap .i64 (n2 + n9) = c10 ∧
  ∃ c11 : Int, IntKind.wrap .i64 (n3 + n9) = c11 ∧
  ∃ c12 : Int, IntKind.wrap .i64 (n3 + n9) = c12 ∧
  0 ≤ c12 ∧ c12 < ((N1 : Nat) : Int) ∧ ∃ b13 o14 : Nat, (A1 : Option Addr) = some ⟨b13, o14, none⟩ ∧
  ∃ s15 : ByteArray, ∃ n16 : Int, ∃ n17 : Int, ∃ n18 : Int, ∃ n19 : Int, ∃ n20 : Int, ∃ n21 : Int, ∃ t22 : Bool, Cells w7.drew ⟨b13, o14 + c12.toNat * 8, none⟩ [.string s15, .int .i64 n16, .int .i64 n17, .int .i64 n18, .int .i64 n19, .int .i64 n20, .int .i64 n21, .bool t22] ∧
  ∃ c23 : Int, IntKind.wrap .i64 (n2 + n9) = c23 ∧
  0 ≤ c23 ∧ c23 < ((N1 : Nat) : Int) ∧ ∃ b24 o25 : Nat, (A1 : Option Addr) = some ⟨b24, o25, none⟩ ∧
  ∃ s26 : ByteArray, ∃ n27 : Int, ∃ n28 : Int, ∃ n29 : Int, ∃ n30 : Int, ∃ n31 : Int, ∃ n32 : Int, ∃ t33 : Bool, Cells w7.drew ⟨b24, o25 + c23.toNat * 8, none⟩ [.string s26, .int .i64 n27, .int .i64 n28, .int .i64 n29, .int .i64 n30, .int .i64 n31, .int .i64 n32, .bool t33] ∧
  0 ≤ c10 ∧ c10 < ((N1 : Nat) : Int) ∧ ∃ b34 o35 : Nat, (A1 : Option Addr) = some ⟨b34, o35, none⟩ ∧
  ∃ (l36 : List Value) (e37 : TypeId), Blk w7.drew b34 l36 e37 ∧ o35 + c10.toNat * 8 + 8 ≤ l36.length ∧ ∀ w38 : World, Upd w7.drew w38 b34 (setSeg l36 (o35 + c10.toNat * 8) [.string s15, .int .i64 n16, .int .i64 n17, .int .i64 n18, .int .i64 n19, .int .i64 n20, .int .i64 n21, .bool t22]) e37 →
  0 ≤ c11 ∧ c11 < ((N1 : Nat) : Int) ∧ ∃ b39 o40 : Nat, (A1 : Option Addr) = some ⟨b39, o40, none⟩ ∧
  ∃ (l41 : List Value) (e42 : TypeId), Blk w38 b39 l41 e42 ∧ o40 + c11.toNat * 8 + 8 ≤ l41.length ∧ ∀ w43 : World, Upd w38 w43 b39 (setSeg l41 (o40 + c11.toNat * 8) [.string s26, .int .i64 n27, .int .i64 n28, .int .i64 n29, .int .i64 n30, .int .i64 n31, .int .i64 n32, .bool t33]) e42 →
  ∃ c44 : Int, IntKind.wrap .i64 (n9 + (1 : Int)) = c44 ∧
  I5 c44 w43 ∧ μ6 c44 w43 < μ6 n9 w7)
  (R (.tuple #[]) w7)
def V.slices_swapRangeCmpFunc_ann : Ann := .s (.no) (.b (.loop [(10, .one (.i .i64))] (.s (.no) (.s (.b (.draw (.r 0 (.r 1 (.r 2 (.r 3 (.r 4 (.r 5 (.r 6 (.r 7 (.r 8 (.r 9 (.r 10 (.r 11 (.r 12 (.r 13 (.r 14 (.r 15 (.r 16 (.r 17 (.r 18 (.r 19 (.r 20 (.e 21 [13, 19] (.r 22 (.e 23 [13, 19] (.done))))))))))))))))))))))))) [(21, 13), (21, 19), (23, 13), (23, 19)])) (.no)))))
theorem V.slices_swapRangeCmpFunc_eq (A1 : Option Addr) (N1 : Nat) (C1 : Nat) (n2 : Int) (n3 : Int) (n4 : Int) (g4 : Nat) (cap4 : List Value) (w : World) (R : Value → World → Prop) : V.slices_swapRangeCmpFunc A1 N1 C1 n2 n3 n4 g4 cap4 w R = fnW Try.prog [] [] (bodyOf Try.f100) V.slices_swapRangeCmpFunc_ann [.slice A1 N1 C1, .int .i64 n2, .int .i64 n3, .int .i64 n4, .func (.func g4) #[] cap4.toArray] w R := by kernel_rfl
theorem V.slices_swapRangeCmpFunc_ok : okC 38 (bodyOf Try.f100) V.slices_swapRangeCmpFunc_ann = true := by kernel_rfl
theorem V.slices_swapRangeCmpFunc_cs : (calleesC (bodyOf Try.f100)).all (entersB Try.prog) = true := by kernel_rfl
theorem V.slices_swapRangeCmpFunc_calls {A1 : Option Addr} {N1 : Nat} {C1 : Nat} {n2 : Int} {n3 : Int} {n4 : Int} {g4 : Nat} {cap4 : List Value}  {w : World} {R : Value → World → Prop} (h : V.slices_swapRangeCmpFunc A1 N1 C1 n2 n3 n4 g4 cap4 w R) : Calls Try.prog 100 [.slice A1 N1 C1, .int .i64 n2, .int .i64 n3, .int .i64 n4, .func (.func g4) #[] cap4.toArray].toArray w fun e w' => ∃ v, e = .returned v ∧ R v w' :=
  fn_sound (by kernel_rfl) Try.func100 (by kernel_rfl) V.slices_swapRangeCmpFunc_ok (enters_all V.slices_swapRangeCmpFunc_cs) (by kernel_rfl) ((V.slices_swapRangeCmpFunc_eq A1 N1 C1 n2 n3 n4 g4 cap4 w R).mp h)

def V.cmp_Or (A1 : Option Addr) (N1 : Nat) (C1 : Nat) (w : World) (R : Value → World → Prop) : Prop :=
  ∃ (I2 : Int → World → Prop) (μ3 : Int → World → Nat),
  I2 (0 : Int) w ∧
  ∀ n6 : Int, ∀ (jk5 : Env) (w4 : World), I2 n6 w4 →
  ifb (decide (n6 < ((N1 : Nat) : Int)))
  (0 ≤ n6 ∧ n6 < ((N1 : Nat) : Int) ∧ ∃ b7 o8 : Nat, (A1 : Option Addr) = some ⟨b7, o8, none⟩ ∧
  ∃ n9 : Int, w4.cell? ⟨b7, o8 + n6.toNat * 1, none⟩ = some (.int .i64 n9) ∧
  ifb (n9 != (0 : Int))
  (R (.int .i64 n9) w4)
  (∃ c10 : Int, IntKind.wrap .i64 (n6 + (1 : Int)) = c10 ∧
  I2 c10 w4 ∧ μ3 c10 w4 < μ3 n6 w4))
  (R (.int .i64 0) w4)
def V.cmp_Or_ann : Ann := .s (.no) (.s (.no) (.s (.s (.no) (.b (.loop [(8, .one (.i .i64))] (.no)))) (.no)))
theorem V.cmp_Or_eq (A1 : Option Addr) (N1 : Nat) (C1 : Nat) (w : World) (R : Value → World → Prop) : V.cmp_Or A1 N1 C1 w R = fnW Try.prog [] [.tmp 2] (bodyOf Try.f59) V.cmp_Or_ann [.slice A1 N1 C1] w R := by kernel_rfl
theorem V.cmp_Or_ok : okC 18 (bodyOf Try.f59) V.cmp_Or_ann = true := by kernel_rfl
theorem V.cmp_Or_cs : (calleesC (bodyOf Try.f59)).all (entersB Try.prog) = true := by kernel_rfl
theorem V.cmp_Or_calls {A1 : Option Addr} {N1 : Nat} {C1 : Nat}  {w : World} {R : Value → World → Prop} (h : V.cmp_Or A1 N1 C1 w R) : Calls Try.prog 59 #[.slice A1 N1 C1] w fun e w' => ∃ v, e = .returned v ∧ R v w' :=
  fn_sound (by kernel_rfl) Try.func59 (by kernel_rfl) V.cmp_Or_ok (enters_all V.cmp_Or_cs) (by kernel_rfl) ((V.cmp_Or_eq A1 N1 C1 w R).mp h)

def V.cmp_Compare_string (s1 : ByteArray) (s2 : ByteArray) (w : World) (R : Value → World → Prop) : Prop :=
  Calls Try.prog 76 #[.string s1] w fun e w3 => ∃ t4 : Bool, e = .returned (.bool t4) ∧
  Calls Try.prog 76 #[.string s2] w3 fun e w5 => ∃ t6 : Bool, e = .returned (.bool t6) ∧
  ifb t4
  (ifb t6
  (R (.int .i64 0) w5)
  (R (.int .i64 (-1)) w5))
  (ifb t6
  (R (.int .i64 1) w5)
  (ifb (Op.bytesLess s1.toList s2.toList)
  (R (.int .i64 (-1)) w5)
  (ifb (!(Op.bytesLess s1.toList s2.toList || s1.toList == s2.toList))
  (R (.int .i64 1) w5)
  (R (.int .i64 0) w5))))
def V.cmp_Compare_string_ann : Ann := .no
theorem V.cmp_Compare_string_eq (s1 : ByteArray) (s2 : ByteArray) (w : World) (R : Value → World → Prop) : V.cmp_Compare_string s1 s2 w R = fnW Try.prog [] [.tmp 4] (bodyOf Try.f60) V.cmp_Compare_string_ann [.string s1, .string s2] w R := by kernel_rfl
theorem V.cmp_Compare_string_ok : okC 20 (bodyOf Try.f60) V.cmp_Compare_string_ann = true := by kernel_rfl
theorem V.cmp_Compare_string_cs : (calleesC (bodyOf Try.f60)).all (entersB Try.prog) = true := by kernel_rfl
theorem V.cmp_Compare_string_calls {s1 : ByteArray} {s2 : ByteArray}  {w : World} {R : Value → World → Prop} (h : V.cmp_Compare_string s1 s2 w R) : Calls Try.prog 60 #[.string s1, .string s2] w fun e w' => ∃ v, e = .returned v ∧ R v w' :=
  fn_sound (by kernel_rfl) Try.func60 (by kernel_rfl) V.cmp_Compare_string_ok (enters_all V.cmp_Compare_string_cs) (by kernel_rfl) ((V.cmp_Compare_string_eq s1 s2 w R).mp h)

def V.cmp_Compare_int (n1 : Int) (n2 : Int) (w : World) (R : Value → World → Prop) : Prop :=
  Calls Try.prog 77 #[.int .i64 n1] w fun e w3 => ∃ t4 : Bool, e = .returned (.bool t4) ∧
  Calls Try.prog 77 #[.int .i64 n2] w3 fun e w5 => ∃ t6 : Bool, e = .returned (.bool t6) ∧
  ifb t4
  (ifb t6
  (R (.int .i64 0) w5)
  (R (.int .i64 (-1)) w5))
  (ifb t6
  (R (.int .i64 1) w5)
  (ifb (decide (n1 < n2))
  (R (.int .i64 (-1)) w5)
  (ifb (decide (n1 > n2))
  (R (.int .i64 1) w5)
  (R (.int .i64 0) w5))))
def V.cmp_Compare_int_ann : Ann := .no
theorem V.cmp_Compare_int_eq (n1 : Int) (n2 : Int) (w : World) (R : Value → World → Prop) : V.cmp_Compare_int n1 n2 w R = fnW Try.prog [] [.tmp 4] (bodyOf Try.f61) V.cmp_Compare_int_ann [.int .i64 n1, .int .i64 n2] w R := by kernel_rfl
theorem V.cmp_Compare_int_ok : okC 20 (bodyOf Try.f61) V.cmp_Compare_int_ann = true := by kernel_rfl
theorem V.cmp_Compare_int_cs : (calleesC (bodyOf Try.f61)).all (entersB Try.prog) = true := by kernel_rfl
theorem V.cmp_Compare_int_calls {n1 : Int} {n2 : Int}  {w : World} {R : Value → World → Prop} (h : V.cmp_Compare_int n1 n2 w R) : Calls Try.prog 61 #[.int .i64 n1, .int .i64 n2] w fun e w' => ∃ v, e = .returned v ∧ R v w' :=
  fn_sound (by kernel_rfl) Try.func61 (by kernel_rfl) V.cmp_Compare_int_ok (enters_all V.cmp_Compare_int_cs) (by kernel_rfl) ((V.cmp_Compare_int_eq n1 n2 w R).mp h)

def V.cmp_isNaN_string (s1 : ByteArray) (w : World) (R : Value → World → Prop) : Prop :=
  R (.bool (!(s1.toList == s1.toList))) w
def V.cmp_isNaN_string_ann : Ann := .no
theorem V.cmp_isNaN_string_eq (s1 : ByteArray) (w : World) (R : Value → World → Prop) : V.cmp_isNaN_string s1 w R = fnW Try.prog [] [.tmp 2] (bodyOf Try.f76) V.cmp_isNaN_string_ann [.string s1] w R := by kernel_rfl
theorem V.cmp_isNaN_string_ok : okC 6 (bodyOf Try.f76) V.cmp_isNaN_string_ann = true := by kernel_rfl
theorem V.cmp_isNaN_string_cs : (calleesC (bodyOf Try.f76)).all (entersB Try.prog) = true := by kernel_rfl
theorem V.cmp_isNaN_string_calls {s1 : ByteArray}  {w : World} {R : Value → World → Prop} (h : V.cmp_isNaN_string s1 w R) : Calls Try.prog 76 #[.string s1] w fun e w' => ∃ v, e = .returned v ∧ R v w' :=
  fn_sound (by kernel_rfl) Try.func76 (by kernel_rfl) V.cmp_isNaN_string_ok (enters_all V.cmp_isNaN_string_cs) (by kernel_rfl) ((V.cmp_isNaN_string_eq s1 w R).mp h)

def V.cmp_isNaN_int (n1 : Int) (w : World) (R : Value → World → Prop) : Prop :=
  R (.bool (n1 != n1)) w
def V.cmp_isNaN_int_ann : Ann := .no
theorem V.cmp_isNaN_int_eq (n1 : Int) (w : World) (R : Value → World → Prop) : V.cmp_isNaN_int n1 w R = fnW Try.prog [] [.tmp 2] (bodyOf Try.f77) V.cmp_isNaN_int_ann [.int .i64 n1] w R := by kernel_rfl
theorem V.cmp_isNaN_int_ok : okC 6 (bodyOf Try.f77) V.cmp_isNaN_int_ann = true := by kernel_rfl
theorem V.cmp_isNaN_int_cs : (calleesC (bodyOf Try.f77)).all (entersB Try.prog) = true := by kernel_rfl
theorem V.cmp_isNaN_int_calls {n1 : Int}  {w : World} {R : Value → World → Prop} (h : V.cmp_isNaN_int n1 w R) : Calls Try.prog 77 #[.int .i64 n1] w fun e w' => ∃ v, e = .returned v ∧ R v w' :=
  fn_sound (by kernel_rfl) Try.func77 (by kernel_rfl) V.cmp_isNaN_int_ok (enters_all V.cmp_isNaN_int_cs) (by kernel_rfl) ((V.cmp_isNaN_int_eq n1 w R).mp h)

end Go.Proofs.Ytdaojmkbjkaakaa
