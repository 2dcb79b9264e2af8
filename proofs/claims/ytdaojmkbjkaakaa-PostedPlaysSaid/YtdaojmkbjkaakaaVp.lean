/- PRINTED by this session's own vc.py: verification conditions of functions, and that they are enough. Conditions: none. -/
import Derived.Test.YtdaojmkbjkaakaaGc
import Derived.Test.YtdaojmkbjkaakaaProg
set_option linter.unusedVariables false
set_option maxRecDepth 100000
namespace Go.Proofs.Ytdaojmkbjkaakaa
open Go.Vc

def V.dispatcherlaw14_PostedPlays (A1 : Option Addr) (N1 : Nat) (C1 : Nat) (w : World) (R : Value → World → Prop) : Prop :=
  Calls Try.prog 19 #[.slice A1 N1 C1] w fun e w2 => ∃ t3 : Bool, e = .returned (.bool t3) ∧
  ifb t3
  (R (.bool true) w2)
  (Calls Try.prog 20 #[] w2 fun e w4 => ∃ p5 : Option Addr, e = .returned (.pointer p5) ∧
  nilC p5 fun b6 o6 =>
  ∃ p7 : Option Addr, w4.cell? ⟨b6, o6, none⟩ = some (.pointer p7) ∧
  ifb p7.isNone
  (R (.bool false) w4)
  (nilC p5 fun b8 o8 =>
  ∃ p9 : Option Addr, w4.cell? ⟨b8, o8 + 1, none⟩ = some (.pointer p9) ∧
  ifb p9.isNone
  (R (.bool false) w4)
  (∃ (I10 : Int → World → Prop) (μ11 : Int → World → Nat),
  I10 (0 : Int) w4 ∧
  ∀ n14 : Int, ∀ (jk13 : Env) (w12 : World), I10 n14 w12 →
  ifb (decide (n14 < ((N1 : Nat) : Int)))
  (0 ≤ n14 ∧ n14 < ((N1 : Nat) : Int) ∧ ∃ b15 o16 : Nat, (A1 : Option Addr) = some ⟨b15, o16, none⟩ ∧
  ∃ s17 : ByteArray, ∃ n18 : Int, ∃ n19 : Int, ∃ n20 : Int, ∃ n21 : Int, ∃ n22 : Int, ∃ t23 : Bool, ∃ n24 : Int, ∃ n25 : Int, Cells w12 ⟨b15, o16 + n14.toNat * 18 + 9, none⟩ [.string s17, .int .i64 n18, .int .i64 n19, .int .i64 n20, .int .i64 n21, .int .i64 n22, .bool t23, .int .i64 n24, .int .i64 n25] ∧
  ∀ (b26 : Nat) (w27 : World), New w12 w27 b26 [.string emptyS, .int .i64 0, .int .i64 0, .int .i64 0, .int .i64 0, .int .i64 0, .bool false, .int .i64 0, .int .i64 0] 57 →
  ∃ (l28 : List Value) (e29 : TypeId), Blk w27 b26 l28 e29 ∧ 0 + 9 ≤ l28.length ∧ ∀ w30 : World, Upd w27 w30 b26 (setSeg l28 0 [.string s17, .int .i64 n18, .int .i64 n19, .int .i64 n20, .int .i64 n21, .int .i64 n22, .bool t23, .int .i64 n24, .int .i64 n25]) e29 →
  0 ≤ n14 ∧ n14 < ((N1 : Nat) : Int) ∧ ∃ b31 o32 : Nat, (A1 : Option Addr) = some ⟨b31, o32, none⟩ ∧
  ∃ n33 : Int, ∃ s34 : ByteArray, ∃ n35 : Int, ∃ n36 : Int, ∃ n37 : Int, ∃ n38 : Int, ∃ n39 : Int, ∃ n40 : Int, ∃ t41 : Bool, ∃ s42 : ByteArray, ∃ n43 : Int, ∃ n44 : Int, ∃ n45 : Int, ∃ n46 : Int, ∃ n47 : Int, ∃ t48 : Bool, ∃ n49 : Int, ∃ n50 : Int, Cells w30 ⟨b31, o32 + n14.toNat * 18, none⟩ [.int .u8 n33, .string s34, .int .i64 n35, .int .i64 n36, .int .i64 n37, .int .i64 n38, .int .i64 n39, .int .i64 n40, .bool t41, .string s42, .int .i64 n43, .int .i64 n44, .int .i64 n45, .int .i64 n46, .int .i64 n47, .bool t48, .int .i64 n49, .int .i64 n50] ∧
  Calls Try.prog 21 #[.pointer p5, .agg #[.int .u8 n33, .string s34, .int .i64 n35, .int .i64 n36, .int .i64 n37, .int .i64 n38, .int .i64 n39, .int .i64 n40, .bool t41, .string s42, .int .i64 n43, .int .i64 n44, .int .i64 n45, .int .i64 n46, .int .i64 n47, .bool t48, .int .i64 n49, .int .i64 n50]] w30 fun e w51 => ∃ t52 : Bool, e = .returned (.bool t52) ∧
  ifb (!t52)
  (R (.bool false) w51)
  (∃ J53 : Nat → Bool → World → Prop,
  (nilC p5 fun b56 o56 =>
  ∃ p57 : Option Addr, w51.drew.cell? ⟨b56, o56 + 1, none⟩ = some (.pointer p57) ∧
  ∃ n58 : Int, w51.drew.cell? ⟨b26, 1, none⟩ = some (.int .i64 n58) ∧
  ∃ n59 : Int, w51.drew.cell? ⟨b26, 2, none⟩ = some (.int .i64 n59) ∧
  (Calls Try.prog 22 #[.pointer p57, .int .i64 n58, .int .i64 n59] w51.drew fun e w60 => ∃ s61 : ByteArray, ∃ n62 : Int, ∃ n63 : Int, ∃ n64 : Int, ∃ n65 : Int, ∃ n66 : Int, ∃ t67 : Bool, ∃ n68 : Int, ∃ n69 : Int, ∃ t70 : Bool, e = .returned (.tuple #[.agg #[.string s61, .int .i64 n62, .int .i64 n63, .int .i64 n64, .int .i64 n65, .int .i64 n66, .bool t67, .int .i64 n68, .int .i64 n69], .bool t70]) ∧
  ∀ (b71 : Nat) (w72 : World), New w60 w72 b71 [.string emptyS, .int .i64 0, .int .i64 0, .int .i64 0, .int .i64 0, .int .i64 0, .bool false, .int .i64 0, .int .i64 0] 57 →
  ∃ (l73 : List Value) (e74 : TypeId), Blk w72 b71 l73 e74 ∧ 0 + 9 ≤ l73.length ∧ ∀ w75 : World, Upd w72 w75 b71 (setSeg l73 0 [.string s61, .int .i64 n62, .int .i64 n63, .int .i64 n64, .int .i64 n65, .int .i64 n66, .bool t67, .int .i64 n68, .int .i64 n69]) e74 →
  J53 b71 t70 w75) ∧
  ∀ (b76 : Nat) (w77 : World), New w51.drew w77 b76 [.string emptyS, .int .i64 0, .int .i64 0, .int .i64 0, .int .i64 0, .int .i64 0, .bool false, .int .i64 0, .int .i64 0] 57 →
  (w77.cell? ⟨b26, 2, none⟩ = some (.int .i64 n59)) ∧ (w77.cell? ⟨b26, 1, none⟩ = some (.int .i64 n58)) ∧ (w77.cell? ⟨b56, o56 + 1, none⟩ = some (.pointer p57)) ∧ Calls Try.prog 22 #[.pointer p57, .int .i64 n58, .int .i64 n59] w77 fun e w78 => ∃ s79 : ByteArray, ∃ n80 : Int, ∃ n81 : Int, ∃ n82 : Int, ∃ n83 : Int, ∃ n84 : Int, ∃ t85 : Bool, ∃ n86 : Int, ∃ n87 : Int, ∃ t88 : Bool, e = .returned (.tuple #[.agg #[.string s79, .int .i64 n80, .int .i64 n81, .int .i64 n82, .int .i64 n83, .int .i64 n84, .bool t85, .int .i64 n86, .int .i64 n87], .bool t88]) ∧
  ∃ (l89 : List Value) (e90 : TypeId), Blk w78 b76 l89 e90 ∧ 0 + 9 ≤ l89.length ∧ ∀ w91 : World, Upd w78 w91 b76 (setSeg l89 0 [.string s79, .int .i64 n80, .int .i64 n81, .int .i64 n82, .int .i64 n83, .int .i64 n84, .bool t85, .int .i64 n86, .int .i64 n87]) e90 →
  J53 b76 t88 w91) ∧
  ∀ b92 : Nat, ∀ t93 : Bool, ∀ (jk55 : Env) (w54 : World), J53 b92 t93 w54 →
  ∃ J94 : Nat → Bool → World → Prop,
  (nilC p5 fun b97 o97 =>
  ∃ p98 : Option Addr, w54.drew.cell? ⟨b97, o97 + 3, none⟩ = some (.pointer p98) ∧
  ∃ n99 : Int, w54.drew.cell? ⟨b26, 1, none⟩ = some (.int .i64 n99) ∧
  ∃ n100 : Int, w54.drew.cell? ⟨b26, 2, none⟩ = some (.int .i64 n100) ∧
  (Calls Try.prog 23 #[.pointer p98, .int .i64 n99, .int .i64 n100] w54.drew fun e w101 => ∃ s102 : ByteArray, ∃ n103 : Int, ∃ n104 : Int, ∃ n105 : Int, ∃ n106 : Int, ∃ n107 : Int, ∃ t108 : Bool, ∃ n109 : Int, ∃ n110 : Int, ∃ t111 : Bool, e = .returned (.tuple #[.agg #[.string s102, .int .i64 n103, .int .i64 n104, .int .i64 n105, .int .i64 n106, .int .i64 n107, .bool t108, .int .i64 n109, .int .i64 n110], .bool t111]) ∧
  ∀ (b112 : Nat) (w113 : World), New w101 w113 b112 [.string emptyS, .int .i64 0, .int .i64 0, .int .i64 0, .int .i64 0, .int .i64 0, .bool false, .int .i64 0, .int .i64 0] 57 →
  ∃ (l114 : List Value) (e115 : TypeId), Blk w113 b112 l114 e115 ∧ 0 + 9 ≤ l114.length ∧ ∀ w116 : World, Upd w113 w116 b112 (setSeg l114 0 [.string s102, .int .i64 n103, .int .i64 n104, .int .i64 n105, .int .i64 n106, .int .i64 n107, .bool t108, .int .i64 n109, .int .i64 n110]) e115 →
  J94 b112 t111 w116) ∧
  ∀ (b117 : Nat) (w118 : World), New w54.drew w118 b117 [.string emptyS, .int .i64 0, .int .i64 0, .int .i64 0, .int .i64 0, .int .i64 0, .bool false, .int .i64 0, .int .i64 0] 57 →
  (w118.cell? ⟨b26, 2, none⟩ = some (.int .i64 n100)) ∧ (w118.cell? ⟨b26, 1, none⟩ = some (.int .i64 n99)) ∧ (w118.cell? ⟨b97, o97 + 3, none⟩ = some (.pointer p98)) ∧ Calls Try.prog 23 #[.pointer p98, .int .i64 n99, .int .i64 n100] w118 fun e w119 => ∃ s120 : ByteArray, ∃ n121 : Int, ∃ n122 : Int, ∃ n123 : Int, ∃ n124 : Int, ∃ n125 : Int, ∃ t126 : Bool, ∃ n127 : Int, ∃ n128 : Int, ∃ t129 : Bool, e = .returned (.tuple #[.agg #[.string s120, .int .i64 n121, .int .i64 n122, .int .i64 n123, .int .i64 n124, .int .i64 n125, .bool t126, .int .i64 n127, .int .i64 n128], .bool t129]) ∧
  ∃ (l130 : List Value) (e131 : TypeId), Blk w119 b117 l130 e131 ∧ 0 + 9 ≤ l130.length ∧ ∀ w132 : World, Upd w119 w132 b117 (setSeg l130 0 [.string s120, .int .i64 n121, .int .i64 n122, .int .i64 n123, .int .i64 n124, .int .i64 n125, .bool t126, .int .i64 n127, .int .i64 n128]) e131 →
  J94 b117 t129 w132) ∧
  ∀ b133 : Nat, ∀ t134 : Bool, ∀ (jk96 : Env) (w95 : World), J94 b133 t134 w95 →
  ∃ s135 : ByteArray, ∃ n136 : Int, ∃ n137 : Int, ∃ n138 : Int, ∃ n139 : Int, ∃ n140 : Int, ∃ t141 : Bool, ∃ n142 : Int, ∃ n143 : Int, Cells w95.drew ⟨b92, 0, none⟩ [.string s135, .int .i64 n136, .int .i64 n137, .int .i64 n138, .int .i64 n139, .int .i64 n140, .bool t141, .int .i64 n142, .int .i64 n143] ∧
  ∃ s144 : ByteArray, ∃ n145 : Int, ∃ n146 : Int, ∃ n147 : Int, ∃ n148 : Int, ∃ n149 : Int, ∃ t150 : Bool, ∃ n151 : Int, ∃ n152 : Int, Cells w95.drew ⟨b133, 0, none⟩ [.string s144, .int .i64 n145, .int .i64 n146, .int .i64 n147, .int .i64 n148, .int .i64 n149, .bool t150, .int .i64 n151, .int .i64 n152] ∧
  ifb (!((s135 == s144) && ((n136 == n145) && ((n137 == n146) && ((n138 == n147) && ((n139 == n148) && ((n140 == n149) && ((t141 == t150) && ((n142 == n151) && ((n143 == n152) && (true)))))))))))
  (R (.bool false) w95.drew)
  (ifb (!(t93 == t134))
  (R (.bool false) w95.drew)
  (nilC p5 fun b153 o153 =>
  ∃ p154 : Option Addr, w95.drew.cell? ⟨b153, o153 + 1, none⟩ = some (.pointer p154) ∧
  ∃ n155 : Int, w95.drew.cell? ⟨b26, 1, none⟩ = some (.int .i64 n155) ∧
  nilC p5 fun b156 o156 =>
  ∃ p157 : Option Addr, w95.drew.cell? ⟨b156, o156 + 3, none⟩ = some (.pointer p157) ∧
  ∃ n158 : Int, w95.drew.cell? ⟨b26, 1, none⟩ = some (.int .i64 n158) ∧
  Calls Try.prog 25 #[.pointer p154, .int .i64 n155] w95.drew fun e w159 => ∃ A160 : Option Addr, ∃ N160 : Nat, ∃ C160 : Nat, e = .returned (.slice A160 N160 C160) ∧
  (w159.cell? ⟨b26, 1, none⟩ = some (.int .i64 n158)) ∧ (w159.cell? ⟨b156, o156 + 3, none⟩ = some (.pointer p157)) ∧ Calls Try.prog 26 #[.pointer p157, .int .i64 n158] w159 fun e w161 => ∃ A162 : Option Addr, ∃ N162 : Nat, ∃ C162 : Nat, e = .returned (.slice A162 N162 C162) ∧
  Calls Try.prog 24 #[.slice A160 N160 C160, .slice A162 N162 C162] w161 fun e w163 => ∃ t164 : Bool, e = .returned (.bool t164) ∧
  ifb (!t164)
  (R (.bool false) w163)
  (nilC p5 fun b165 o165 =>
  ∃ p166 : Option Addr, w163.cell? ⟨b165, o165, none⟩ = some (.pointer p166) ∧
  nilC p5 fun b167 o167 =>
  ∃ p168 : Option Addr, w163.cell? ⟨b167, o167 + 2, none⟩ = some (.pointer p168) ∧
  Calls Try.prog 14 #[.pointer p166] w163 fun e w169 => ∃ A170 : Option Addr, ∃ N170 : Nat, ∃ C170 : Nat, e = .returned (.slice A170 N170 C170) ∧
  (w169.cell? ⟨b167, o167 + 2, none⟩ = some (.pointer p168)) ∧ Calls Try.prog 27 #[.pointer p168] w169 fun e w171 => ∃ A172 : Option Addr, ∃ N172 : Nat, ∃ C172 : Nat, e = .returned (.slice A172 N172 C172) ∧
  Calls Try.prog 16 #[.slice A170 N170 C170, .slice A172 N172 C172] w171 fun e w173 => ∃ t174 : Bool, e = .returned (.bool t174) ∧
  ifb (!t174)
  (R (.bool false) w173)
  (∃ s175 : ByteArray, ∃ n176 : Int, ∃ n177 : Int, ∃ n178 : Int, ∃ n179 : Int, ∃ n180 : Int, ∃ t181 : Bool, ∃ n182 : Int, ∃ n183 : Int, Cells w173 ⟨b26, 0, none⟩ [.string s175, .int .i64 n176, .int .i64 n177, .int .i64 n178, .int .i64 n179, .int .i64 n180, .bool t181, .int .i64 n182, .int .i64 n183] ∧
  0 ≤ n14 ∧ n14 < ((N1 : Nat) : Int) ∧ ∃ b184 o185 : Nat, (A1 : Option Addr) = some ⟨b184, o185, none⟩ ∧
  ∃ s186 : ByteArray, ∃ n187 : Int, ∃ n188 : Int, ∃ n189 : Int, ∃ n190 : Int, ∃ n191 : Int, ∃ n192 : Int, ∃ t193 : Bool, Cells w173 ⟨b184, o185 + n14.toNat * 18 + 1, none⟩ [.string s186, .int .i64 n187, .int .i64 n188, .int .i64 n189, .int .i64 n190, .int .i64 n191, .int .i64 n192, .bool t193] ∧
  ∃ s194 : ByteArray, ∃ n195 : Int, ∃ n196 : Int, ∃ n197 : Int, ∃ n198 : Int, ∃ n199 : Int, ∃ t200 : Bool, ∃ n201 : Int, ∃ n202 : Int, Cells w173 ⟨b26, 0, none⟩ [.string s194, .int .i64 n195, .int .i64 n196, .int .i64 n197, .int .i64 n198, .int .i64 n199, .bool t200, .int .i64 n201, .int .i64 n202] ∧
  0 ≤ n14 ∧ n14 < ((N1 : Nat) : Int) ∧ ∃ b203 o204 : Nat, (A1 : Option Addr) = some ⟨b203, o204, none⟩ ∧
  ∃ s205 : ByteArray, ∃ n206 : Int, ∃ n207 : Int, ∃ n208 : Int, ∃ n209 : Int, ∃ n210 : Int, ∃ n211 : Int, ∃ t212 : Bool, Cells w173 ⟨b203, o204 + n14.toNat * 18 + 1, none⟩ [.string s205, .int .i64 n206, .int .i64 n207, .int .i64 n208, .int .i64 n209, .int .i64 n210, .int .i64 n211, .bool t212] ∧
  Calls Try.prog 28 #[.agg #[.string s175, .int .i64 n176, .int .i64 n177, .int .i64 n178, .int .i64 n179, .int .i64 n180, .bool t181, .int .i64 n182, .int .i64 n183], .agg #[.string s186, .int .i64 n187, .int .i64 n188, .int .i64 n189, .int .i64 n190, .int .i64 n191, .int .i64 n192, .bool t193]] w173 fun e w213 => ∃ t214 : Bool, e = .returned (.bool t214) ∧
  (Cells w213 ⟨b203, o204 + n14.toNat * 18 + 1, none⟩ [.string s205, .int .i64 n206, .int .i64 n207, .int .i64 n208, .int .i64 n209, .int .i64 n210, .int .i64 n211, .bool t212]) ∧ (Cells w213 ⟨b26, 0, none⟩ [.string s194, .int .i64 n195, .int .i64 n196, .int .i64 n197, .int .i64 n198, .int .i64 n199, .bool t200, .int .i64 n201, .int .i64 n202]) ∧ Calls Try.prog 29 #[.agg #[.string s194, .int .i64 n195, .int .i64 n196, .int .i64 n197, .int .i64 n198, .int .i64 n199, .bool t200, .int .i64 n201, .int .i64 n202], .agg #[.string s205, .int .i64 n206, .int .i64 n207, .int .i64 n208, .int .i64 n209, .int .i64 n210, .int .i64 n211, .bool t212]] w213 fun e w215 => ∃ t216 : Bool, e = .returned (.bool t216) ∧
  ifb (!(t214 == t216))
  (R (.bool false) w215)
  (∃ c217 : Int, IntKind.wrap .i64 (n14 + (1 : Int)) = c217 ∧
  I10 c217 w215 ∧ μ11 c217 w215 < μ11 n14 w12)))))))
  (R (.bool true) w12))))
def V.dispatcherlaw14_PostedPlays_ann : Ann := .s (.no) (.s (.no) (.s (.no) (.s (.no) (.s (.s (.no) (.b (.loop [(4, .one (.i .i64))] (.s (.no) (.s (.b (.s (.no) (.s (.no) (.s (.jn [(6, .one .q), (7, .one .b)] (.draw (.r 0 (.r 1 (.r 2 (.r 3 (.r 4 (.r 5 (.r 6 (.r 7 (.e2 8 [3, 5, 7] (.r 9 (.r 10 (.r 11 (.e 12 [] (.e 13 [3, 5, 7] (.e 14 [3, 5, 7] (.done))))))) 12 [] (.e 8 [3, 5, 7] (.r 9 (.r 10 (.r 11 (.e 13 [3, 5, 7] (.e 14 [3, 5, 7] (.done)))))))))))))))) [(8, 3), (8, 5), (8, 7), (13, 3), (13, 5), (13, 7), (14, 3), (14, 5), (14, 7)])) (.s (.jn [(8, .one .q), (9, .one .b)] (.draw (.r 0 (.r 1 (.r 2 (.r 3 (.r 4 (.r 5 (.r 6 (.r 7 (.e2 8 [3, 5, 7] (.r 9 (.r 10 (.r 11 (.e 12 [] (.e 13 [3, 5, 7] (.e 14 [3, 5, 7] (.done))))))) 12 [] (.e 8 [3, 5, 7] (.r 9 (.r 10 (.r 11 (.e 13 [3, 5, 7] (.e 14 [3, 5, 7] (.done)))))))))))))))) [(8, 3), (8, 5), (8, 7), (13, 3), (13, 5), (13, 7), (14, 3), (14, 5), (14, 7)])) (.s (.draw (.r 0 (.r 1 (.r 2 (.r 3 (.r 4 (.r 5 (.r 6 (.r 7 (.r 8 (.r 9 (.r 10 (.r 11 (.r 12 (.r 13 (.r 14 (.r 16 (.r 17 (.r 18 (.r 19 (.r 20 (.r 21 (.e 15 [0, 1, 12, 14] (.e 22 [0, 1, 12, 14, 19, 21] (.e 23 [0, 1, 12, 14, 19, 21] (.r 24 (.r 25 (.r 26 (.r 27 (.r 28 (.r 29 (.r 30 (.r 32 (.r 33 (.r 34 (.r 35 (.e 31 [0, 1, 12, 14, 19, 21, 30] (.e 36 [0, 1, 12, 14, 19, 21, 30, 35] (.e 37 [0, 1, 12, 14, 19, 21, 30, 35] (.r 38 (.r 39 (.r 40 (.r 41 (.r 42 (.r 43 (.r 44 (.r 45 (.r 46 (.r 48 (.r 49 (.r 50 (.r 51 (.r 52 (.r 53 (.e 47 [0, 1, 12, 14, 19, 21, 30, 35, 41, 46] (.e 54 [0, 1, 12, 14, 19, 21, 30, 35, 41, 46, 48, 53] (.r 55 (.r 56 (.done)))))))))))))))))))))))))))))))))))))))))))))))))))))))))) [(2, 0), (2, 1), (3, 0), (3, 1), (8, 0), (8, 1), (15, 0), (15, 1), (15, 12), (15, 14), (22, 0), (22, 1), (22, 12), (22, 14), (22, 19), (22, 21), (23, 0), (23, 1), (23, 12), (23, 14), (23, 19), (23, 21), (26, 0), (26, 1), (26, 12), (26, 14), (26, 19), (26, 21), (31, 0), (31, 1), (31, 12), (31, 14), (31, 19), (31, 21), (31, 30), (36, 0), (36, 1), (36, 12), (36, 14), (36, 19), (36, 21), (36, 30), (36, 35), (37, 0), (37, 1), (37, 12), (37, 14), (37, 19), (37, 21), (37, 30), (37, 35), (40, 0), (40, 1), (40, 12), (40, 14), (40, 19), (40, 21), (40, 30), (40, 35), (47, 0), (47, 1), (47, 12), (47, 14), (47, 19), (47, 21), (47, 30), (47, 35), (47, 41), (47, 46), (54, 0), (54, 1), (54, 12), (54, 14), (54, 19), (54, 21), (54, 30), (54, 35), (54, 41), (54, 46), (54, 48), (54, 53)]) (.no))))))) (.no)))))) (.no)))))
theorem V.dispatcherlaw14_PostedPlays_eq (A1 : Option Addr) (N1 : Nat) (C1 : Nat) (w : World) (R : Value → World → Prop) : V.dispatcherlaw14_PostedPlays A1 N1 C1 w R = fnW Try.prog [] [.tmp 2] (bodyOf Try.f6) V.dispatcherlaw14_PostedPlays_ann [.slice A1 N1 C1] w R := by kernel_rfl
theorem V.dispatcherlaw14_PostedPlays_ok : okC 124 (bodyOf Try.f6) V.dispatcherlaw14_PostedPlays_ann = true := by kernel_rfl
theorem V.dispatcherlaw14_PostedPlays_cs : (calleesC (bodyOf Try.f6)).all (entersB Try.prog) = true := by kernel_rfl
theorem V.dispatcherlaw14_PostedPlays_calls {A1 : Option Addr} {N1 : Nat} {C1 : Nat}  {w : World} {R : Value → World → Prop} (h : V.dispatcherlaw14_PostedPlays A1 N1 C1 w R) : Calls Try.prog 6 #[.slice A1 N1 C1] w fun e w' => ∃ v, e = .returned v ∧ R v w' :=
  fn_sound (by kernel_rfl) Try.func6 (by kernel_rfl) V.dispatcherlaw14_PostedPlays_ok (enters_all V.dispatcherlaw14_PostedPlays_cs) (by kernel_rfl) ((V.dispatcherlaw14_PostedPlays_eq A1 N1 C1 w R).mp h)

def V.dispatcherlaw14_Great (A1 : Option Addr) (N1 : Nat) (C1 : Nat) (w : World) (R : Value → World → Prop) : Prop :=
  ifb (decide (((N1 : Nat) : Int) > (120 : Int)))
  (R (.bool true) w)
  (∃ (I2 : Int → World → Prop) (μ3 : Int → World → Nat),
  I2 (0 : Int) w ∧
  ∀ n6 : Int, ∀ (jk5 : Env) (w4 : World), I2 n6 w4 →
  ifb (decide (n6 < ((N1 : Nat) : Int)))
  (0 ≤ n6 ∧ n6 < ((N1 : Nat) : Int) ∧ ∃ b7 o8 : Nat, (A1 : Option Addr) = some ⟨b7, o8, none⟩ ∧
  ∃ s9 : ByteArray, w4.cell? ⟨b7, o8 + n6.toNat * 18 + 1, none⟩ = some (.string s9) ∧
  ifb (decide (((s9.size : Nat) : Int) > (100 : Int)))
  (R (.bool true) w4)
  (0 ≤ n6 ∧ n6 < ((N1 : Nat) : Int) ∧ ∃ b10 o11 : Nat, (A1 : Option Addr) = some ⟨b10, o11, none⟩ ∧
  ∃ s12 : ByteArray, w4.cell? ⟨b10, o11 + n6.toNat * 18 + 9, none⟩ = some (.string s12) ∧
  ifb (decide (((s12.size : Nat) : Int) > (100 : Int)))
  (R (.bool true) w4)
  (∃ c13 : Int, IntKind.wrap .i64 (n6 + (1 : Int)) = c13 ∧
  I2 c13 w4 ∧ μ3 c13 w4 < μ3 n6 w4)))
  (R (.bool false) w4))
def V.dispatcherlaw14_Great_ann : Ann := .s (.no) (.s (.no) (.s (.s (.no) (.b (.loop [(3, .one (.i .i64))] (.no)))) (.no)))
theorem V.dispatcherlaw14_Great_eq (A1 : Option Addr) (N1 : Nat) (C1 : Nat) (w : World) (R : Value → World → Prop) : V.dispatcherlaw14_Great A1 N1 C1 w R = fnW Try.prog [] [.tmp 2] (bodyOf Try.f19) V.dispatcherlaw14_Great_ann [.slice A1 N1 C1] w R := by kernel_rfl
theorem V.dispatcherlaw14_Great_ok : okC 31 (bodyOf Try.f19) V.dispatcherlaw14_Great_ann = true := by kernel_rfl
theorem V.dispatcherlaw14_Great_cs : (calleesC (bodyOf Try.f19)).all (entersB Try.prog) = true := by kernel_rfl
theorem V.dispatcherlaw14_Great_calls {A1 : Option Addr} {N1 : Nat} {C1 : Nat}  {w : World} {R : Value → World → Prop} (h : V.dispatcherlaw14_Great A1 N1 C1 w R) : Calls Try.prog 19 #[.slice A1 N1 C1] w fun e w' => ∃ v, e = .returned v ∧ R v w' :=
  fn_sound (by kernel_rfl) Try.func19 (by kernel_rfl) V.dispatcherlaw14_Great_ok (enters_all V.dispatcherlaw14_Great_cs) (by kernel_rfl) ((V.dispatcherlaw14_Great_eq A1 N1 C1 w R).mp h)

def V.dispatcherlaw14_begin  (w : World) (R : Value → World → Prop) : Prop :=
  Calls Try.prog 8 #[] w fun e w1 => ∃ p2 : Option Addr, e = .returned (.pointer p2) ∧
  Calls Try.prog 40 #[] w1 fun e w3 => ∃ p4 : Option Addr, e = .returned (.pointer p4) ∧
  ∀ (b5 : Nat) (w6 : World), New w3 w6 b5 [.slice none 0 0] 88 →
  ∀ (b7 : Nat) (w8 : World), New w6 w8 b7 [.slice none 0 0] 90 →
  ∀ (b9 : Nat) (w10 : World), New w8 w10 b9 [.pointer p2, .pointer p4, .pointer (some ⟨b5, 0, none⟩), .pointer (some ⟨b7, 0, none⟩)] 55 →
  R (.pointer (some ⟨b9, 0, none⟩)) w10
def V.dispatcherlaw14_begin_ann : Ann := .no
theorem V.dispatcherlaw14_begin_eq  (w : World) (R : Value → World → Prop) : V.dispatcherlaw14_begin  w R = fnW Try.prog [] [.tmp 0] (bodyOf Try.f20) V.dispatcherlaw14_begin_ann [] w R := by kernel_rfl
theorem V.dispatcherlaw14_begin_ok : okC 9 (bodyOf Try.f20) V.dispatcherlaw14_begin_ann = true := by kernel_rfl
theorem V.dispatcherlaw14_begin_cs : (calleesC (bodyOf Try.f20)).all (entersB Try.prog) = true := by kernel_rfl
theorem V.dispatcherlaw14_begin_calls  {w : World} {R : Value → World → Prop} (h : V.dispatcherlaw14_begin  w R) : Calls Try.prog 20 #[] w fun e w' => ∃ v, e = .returned v ∧ R v w' :=
  fn_sound (by kernel_rfl) Try.func20 (by kernel_rfl) V.dispatcherlaw14_begin_ok (enters_all V.dispatcherlaw14_begin_cs) (by kernel_rfl) ((V.dispatcherlaw14_begin_eq  w R).mp h)

def V.dispatcherlaw14_play_does (p1 : Option Addr) (n2 : Int) (s3 : ByteArray) (n4 : Int) (n5 : Int) (n6 : Int) (n7 : Int) (n8 : Int) (n9 : Int) (t10 : Bool) (s11 : ByteArray) (n12 : Int) (n13 : Int) (n14 : Int) (n15 : Int) (n16 : Int) (t17 : Bool) (n18 : Int) (n19 : Int) (w : World) (R : Value → World → Prop) : Prop :=
  ∀ (b20 : Nat) (w21 : World), New w w21 b20 [.int .u8 n2, .string s3, .int .i64 n4, .int .i64 n5, .int .i64 n6, .int .i64 n7, .int .i64 n8, .int .i64 n9, .bool t10, .string s11, .int .i64 n12, .int .i64 n13, .int .i64 n14, .int .i64 n15, .int .i64 n16, .bool t17, .int .i64 n18, .int .i64 n19] 59 →
  ∃ n22 : Int, w21.cell? ⟨b20, 0, none⟩ = some (.int .u8 n22) ∧
  ∃ J23 : Bool → World → Prop,
  (ifb (Int.tmod n22 (5 : Int) == (0 : Int))
  (J23 (Int.tmod n22 (5 : Int) == (0 : Int)) w21)
  (J23 (Int.tmod n22 (5 : Int) == (1 : Int)) w21)) ∧
  ∀ t26 : Bool, ∀ (jk25 : Env) (w24 : World), J23 t26 w24 →
  ifb t26
  (nilC p1 fun b27 o27 =>
  ∃ p28 : Option Addr, w24.drew.cell? ⟨b27, o27, none⟩ = some (.pointer p28) ∧
  ∃ s29 : ByteArray, ∃ n30 : Int, ∃ n31 : Int, ∃ n32 : Int, ∃ n33 : Int, ∃ n34 : Int, ∃ n35 : Int, ∃ t36 : Bool, Cells w24.drew ⟨b20, 1, none⟩ [.string s29, .int .i64 n30, .int .i64 n31, .int .i64 n32, .int .i64 n33, .int .i64 n34, .int .i64 n35, .bool t36] ∧
  nilC p1 fun b37 o37 =>
  ∃ p38 : Option Addr, w24.drew.cell? ⟨b37, o37 + 2, none⟩ = some (.pointer p38) ∧
  ∃ s39 : ByteArray, ∃ n40 : Int, ∃ n41 : Int, ∃ n42 : Int, ∃ n43 : Int, ∃ n44 : Int, ∃ n45 : Int, ∃ t46 : Bool, Cells w24.drew ⟨b20, 1, none⟩ [.string s39, .int .i64 n40, .int .i64 n41, .int .i64 n42, .int .i64 n43, .int .i64 n44, .int .i64 n45, .bool t46] ∧
  Calls Try.prog 9 #[.pointer p28, .agg #[.string s29, .int .i64 n30, .int .i64 n31, .int .i64 n32, .int .i64 n33, .int .i64 n34, .int .i64 n35, .bool t36]] w24.drew fun e w47 => ∃ n48 : Int, e = .returned (.int .i64 n48) ∧
  (Cells w47 ⟨b20, 1, none⟩ [.string s39, .int .i64 n40, .int .i64 n41, .int .i64 n42, .int .i64 n43, .int .i64 n44, .int .i64 n45, .bool t46]) ∧ (w47.cell? ⟨b37, o37 + 2, none⟩ = some (.pointer p38)) ∧ Calls Try.prog 41 #[.pointer p38, .agg #[.string s39, .int .i64 n40, .int .i64 n41, .int .i64 n42, .int .i64 n43, .int .i64 n44, .int .i64 n45, .bool t46]] w47 fun e w49 => ∃ n50 : Int, e = .returned (.int .i64 n50) ∧
  R (.bool (n48 == n50)) w49)
  (ifb (Int.tmod n22 (5 : Int) == (2 : Int))
  (nilC p1 fun b51 o51 =>
  ∃ p52 : Option Addr, w24.drew.cell? ⟨b51, o51 + 1, none⟩ = some (.pointer p52) ∧
  ∃ s53 : ByteArray, ∃ n54 : Int, ∃ n55 : Int, ∃ n56 : Int, ∃ n57 : Int, ∃ n58 : Int, ∃ t59 : Bool, ∃ n60 : Int, ∃ n61 : Int, Cells w24.drew ⟨b20, 9, none⟩ [.string s53, .int .i64 n54, .int .i64 n55, .int .i64 n56, .int .i64 n57, .int .i64 n58, .bool t59, .int .i64 n60, .int .i64 n61] ∧
  nilC p1 fun b62 o62 =>
  ∃ p63 : Option Addr, w24.drew.cell? ⟨b62, o62 + 3, none⟩ = some (.pointer p63) ∧
  ∃ s64 : ByteArray, ∃ n65 : Int, ∃ n66 : Int, ∃ n67 : Int, ∃ n68 : Int, ∃ n69 : Int, ∃ t70 : Bool, ∃ n71 : Int, ∃ n72 : Int, Cells w24.drew ⟨b20, 9, none⟩ [.string s64, .int .i64 n65, .int .i64 n66, .int .i64 n67, .int .i64 n68, .int .i64 n69, .bool t70, .int .i64 n71, .int .i64 n72] ∧
  Calls Try.prog 42 #[.pointer p52, .agg #[.string s53, .int .i64 n54, .int .i64 n55, .int .i64 n56, .int .i64 n57, .int .i64 n58, .bool t59, .int .i64 n60, .int .i64 n61]] w24.drew fun e w73 => ∃ n74 : Int, e = .returned (.int .i64 n74) ∧
  (Cells w73 ⟨b20, 9, none⟩ [.string s64, .int .i64 n65, .int .i64 n66, .int .i64 n67, .int .i64 n68, .int .i64 n69, .bool t70, .int .i64 n71, .int .i64 n72]) ∧ (w73.cell? ⟨b62, o62 + 3, none⟩ = some (.pointer p63)) ∧ Calls Try.prog 43 #[.pointer p63, .agg #[.string s64, .int .i64 n65, .int .i64 n66, .int .i64 n67, .int .i64 n68, .int .i64 n69, .bool t70, .int .i64 n71, .int .i64 n72]] w73 fun e w75 => ∃ n76 : Int, e = .returned (.int .i64 n76) ∧
  R (.bool (n74 == n76)) w75)
  (ifb (Int.tmod n22 (5 : Int) == (3 : Int))
  (nilC p1 fun b77 o77 =>
  ∃ p78 : Option Addr, w24.drew.cell? ⟨b77, o77 + 1, none⟩ = some (.pointer p78) ∧
  nilC p1 fun b79 o79 =>
  ∃ p80 : Option Addr, w24.drew.cell? ⟨b79, o79, none⟩ = some (.pointer p80) ∧
  ∃ n81 : Int, w24.drew.cell? ⟨b20, 10, none⟩ = some (.int .i64 n81) ∧
  ∃ n82 : Int, w24.drew.cell? ⟨b20, 11, none⟩ = some (.int .i64 n82) ∧
  ∃ n83 : Int, w24.drew.cell? ⟨b20, 2, none⟩ = some (.int .i64 n83) ∧
  ∃ n84 : Int, w24.drew.cell? ⟨b20, 4, none⟩ = some (.int .i64 n84) ∧
  nilC p1 fun b85 o85 =>
  ∃ p86 : Option Addr, w24.drew.cell? ⟨b85, o85 + 3, none⟩ = some (.pointer p86) ∧
  nilC p1 fun b87 o87 =>
  ∃ p88 : Option Addr, w24.drew.cell? ⟨b87, o87 + 2, none⟩ = some (.pointer p88) ∧
  ∃ n89 : Int, w24.drew.cell? ⟨b20, 10, none⟩ = some (.int .i64 n89) ∧
  ∃ n90 : Int, w24.drew.cell? ⟨b20, 11, none⟩ = some (.int .i64 n90) ∧
  ∃ n91 : Int, w24.drew.cell? ⟨b20, 2, none⟩ = some (.int .i64 n91) ∧
  ∃ n92 : Int, w24.drew.cell? ⟨b20, 4, none⟩ = some (.int .i64 n92) ∧
  Calls Try.prog 44 #[.pointer p78, .pointer p80, .int .i64 n81, .int .i64 n82, .int .i64 n83, .int .i64 n84] w24.drew fun e w93 => ∃ n94 : Int, e = .returned (.int .i64 n94) ∧
  (w93.cell? ⟨b20, 4, none⟩ = some (.int .i64 n92)) ∧ (w93.cell? ⟨b20, 2, none⟩ = some (.int .i64 n91)) ∧ (w93.cell? ⟨b20, 11, none⟩ = some (.int .i64 n90)) ∧ (w93.cell? ⟨b20, 10, none⟩ = some (.int .i64 n89)) ∧ (w93.cell? ⟨b87, o87 + 2, none⟩ = some (.pointer p88)) ∧ (w93.cell? ⟨b85, o85 + 3, none⟩ = some (.pointer p86)) ∧ Calls Try.prog 45 #[.pointer p86, .pointer p88, .int .i64 n89, .int .i64 n90, .int .i64 n91, .int .i64 n92] w93 fun e w95 => ∃ n96 : Int, e = .returned (.int .i64 n96) ∧
  R (.bool (n94 == n96)) w95)
  (nilC p1 fun b97 o97 =>
  ∃ p98 : Option Addr, w24.drew.cell? ⟨b97, o97, none⟩ = some (.pointer p98) ∧
  nilC p1 fun b99 o99 =>
  ∃ p100 : Option Addr, w24.drew.cell? ⟨b99, o99 + 1, none⟩ = some (.pointer p100) ∧
  (w24.drew.cell? ⟨b99, o99 + 1, none⟩ = some (.pointer p100)) ∧ Calls Try.prog 46 #[.pointer p98] w24.drew fun e w101 => ∃ p102 : Option Addr, e = .returned (.pointer p102) ∧
  Calls Try.prog 47 #[.pointer p100] w101 fun e w103 => ∃ p104 : Option Addr, e = .returned (.pointer p104) ∧
  nilC p1 fun b105 o105 =>
  ∃ (l106 : List Value) (e107 : TypeId), Blk w103 b105 l106 e107 ∧ o105 + 1 ≤ l106.length ∧ ∀ w108 : World, Upd w103 w108 b105 (l106.set o105 (.pointer p102)) e107 →
  nilC p1 fun b109 o109 =>
  ∃ (l110 : List Value) (e111 : TypeId), Blk w108 b109 l110 e111 ∧ o109 + 1 + 1 ≤ l110.length ∧ ∀ w112 : World, Upd w108 w112 b109 (l110.set (o109 + 1) (.pointer p104)) e111 →
  nilC p1 fun b113 o113 =>
  ∃ p114 : Option Addr, w112.drew.cell? ⟨b113, o113 + 2, none⟩ = some (.pointer p114) ∧
  nilC p1 fun b115 o115 =>
  ∃ p116 : Option Addr, w112.drew.cell? ⟨b115, o115 + 3, none⟩ = some (.pointer p116) ∧
  Calls Try.prog 48 #[.pointer p114] w112.drew fun e w117 => ∃ p118 : Option Addr, e = .returned (.pointer p118) ∧
  (w117.cell? ⟨b115, o115 + 3, none⟩ = some (.pointer p116)) ∧ Calls Try.prog 49 #[.pointer p116] w117 fun e w119 => ∃ p120 : Option Addr, e = .returned (.pointer p120) ∧
  nilC p1 fun b121 o121 =>
  ∃ (l122 : List Value) (e123 : TypeId), Blk w119 b121 l122 e123 ∧ o121 + 2 + 1 ≤ l122.length ∧ ∀ w124 : World, Upd w119 w124 b121 (l122.set (o121 + 2) (.pointer p118)) e123 →
  nilC p1 fun b125 o125 =>
  ∃ (l126 : List Value) (e127 : TypeId), Blk w124 b125 l126 e127 ∧ o125 + 3 + 1 ≤ l126.length ∧ ∀ w128 : World, Upd w124 w128 b125 (l126.set (o125 + 3) (.pointer p120)) e127 →
  ∃ n129 : Int, w128.cell? ⟨b20, 2, none⟩ = some (.int .i64 n129) ∧
  ∃ n130 : Int, w128.cell? ⟨b20, 4, none⟩ = some (.int .i64 n130) ∧
  Calls Try.prog 11 #[.pointer p98, .int .i64 n129, .int .i64 n130] w128 fun e w131 => ∃ n132 : Int, e = .returned (.int .i64 n132) ∧
  ∃ n133 : Int, w131.cell? ⟨b20, 10, none⟩ = some (.int .i64 n133) ∧
  Calls Try.prog 42 #[.pointer p100, .agg #[.string emptyS, .int .i64 n133, .int .i64 1099511627776, .int .i64 (-1), .int .i64 (-1), .int .i64 0, .bool false, .int .i64 0, .int .i64 0]] w131 fun e w134 => ∃ n135 : Int, e = .returned (.int .i64 n135) ∧
  nilC p1 fun b136 o136 =>
  ∃ p137 : Option Addr, w134.cell? ⟨b136, o136, none⟩ = some (.pointer p137) ∧
  ifb (!p137.isNone)
  (nilC p1 fun b138 o138 =>
  ∃ p139 : Option Addr, w134.cell? ⟨b138, o138 + 1, none⟩ = some (.pointer p139) ∧
  R (.bool (!p139.isNone)) w134)
  (R (.bool false) w134))))
def V.dispatcherlaw14_play_does_ann : Ann := .s (.no) (.s (.s (.no) (.b (.s (.jn [(10, .one .b)] (.no)) (.s (.s (.draw (.r 0 (.r 1 (.r 2 (.r 3 (.r 4 (.r 5 (.r 7 (.r 8 (.r 9 (.r 10 (.r 11 (.r 12 (.e 6 [3, 5] (.e 13 [3, 5, 10, 12] (.r 14 (.e 15 [3, 5, 10, 12] (.done))))))))))))))))) [(6, 3), (6, 5), (13, 3), (13, 5), (13, 10), (13, 12), (15, 3), (15, 5), (15, 10), (15, 12)]) (.no)) (.s (.no) (.s (.s (.draw (.r 0 (.r 1 (.r 2 (.r 3 (.r 4 (.r 5 (.r 7 (.r 8 (.r 9 (.r 10 (.r 11 (.r 12 (.e 6 [3, 5] (.e 13 [3, 5, 10, 12] (.r 14 (.e 15 [3, 5, 10, 12] (.done))))))))))))))))) [(6, 3), (6, 5), (13, 3), (13, 5), (13, 10), (13, 12), (15, 3), (15, 5), (15, 10), (15, 12)]) (.no)) (.s (.no) (.s (.s (.draw (.r 0 (.r 1 (.r 2 (.r 3 (.r 4 (.r 5 (.r 6 (.r 7 (.r 8 (.r 9 (.r 10 (.r 11 (.r 12 (.r 13 (.r 14 (.r 15 (.r 16 (.r 17 (.r 18 (.r 19 (.r 21 (.r 22 (.r 23 (.r 24 (.r 25 (.r 26 (.r 27 (.r 28 (.r 29 (.r 30 (.r 31 (.r 32 (.r 33 (.r 34 (.r 35 (.r 36 (.r 37 (.r 38 (.r 39 (.r 40 (.e 20 [3, 7, 10, 13, 16, 19] (.e 41 [3, 7, 10, 13, 16, 19, 24, 28, 31, 34, 37, 40] (.r 42 (.e 43 [3, 7, 10, 13, 16, 19, 24, 28, 31, 34, 37, 40] (.done))))))))))))))))))))))))))))))))))))))))))))) [(20, 3), (20, 7), (20, 10), (20, 13), (20, 16), (20, 19), (41, 3), (41, 7), (41, 10), (41, 13), (41, 16), (41, 19), (41, 24), (41, 28), (41, 31), (41, 34), (41, 37), (41, 40), (43, 3), (43, 7), (43, 10), (43, 13), (43, 16), (43, 19), (43, 24), (43, 28), (43, 31), (43, 34), (43, 37), (43, 40)]) (.no)) (.no))))))))) (.s (.draw (.r 0 (.r 1 (.r 2 (.r 3 (.r 4 (.r 5 (.r 6 (.r 7 (.e 8 [3] (.e 9 [3, 7] (.done))))))))))) [(8, 3), (9, 3), (9, 7)]) (.s (.no) (.s (.draw (.r 0 (.r 1 (.r 2 (.r 3 (.r 4 (.r 5 (.r 7 (.r 8 (.r 9 (.r 10 (.e 6 [5] (.e 11 [5, 10] (.r 12 (.r 13 (.e 14 [5, 10] (.r 15 (.r 16 (.e 17 [5, 10] (.done))))))))))))))))))) [(6, 5), (11, 5), (11, 10), (14, 5), (14, 10), (17, 5), (17, 10)]) (.no)))))
theorem V.dispatcherlaw14_play_does_eq (p1 : Option Addr) (n2 : Int) (s3 : ByteArray) (n4 : Int) (n5 : Int) (n6 : Int) (n7 : Int) (n8 : Int) (n9 : Int) (t10 : Bool) (s11 : ByteArray) (n12 : Int) (n13 : Int) (n14 : Int) (n15 : Int) (n16 : Int) (t17 : Bool) (n18 : Int) (n19 : Int) (w : World) (R : Value → World → Prop) : V.dispatcherlaw14_play_does p1 n2 s3 n4 n5 n6 n7 n8 n9 t10 s11 n12 n13 n14 n15 n16 t17 n18 n19 w R = fnW Try.prog [] [.tmp 4] (bodyOf Try.f21) V.dispatcherlaw14_play_does_ann [.pointer p1, .agg #[.int .u8 n2, .string s3, .int .i64 n4, .int .i64 n5, .int .i64 n6, .int .i64 n7, .int .i64 n8, .int .i64 n9, .bool t10, .string s11, .int .i64 n12, .int .i64 n13, .int .i64 n14, .int .i64 n15, .int .i64 n16, .bool t17, .int .i64 n18, .int .i64 n19]] w R := by kernel_rfl
theorem V.dispatcherlaw14_play_does_ok : okC 150 (bodyOf Try.f21) V.dispatcherlaw14_play_does_ann = true := by kernel_rfl
theorem V.dispatcherlaw14_play_does_cs : (calleesC (bodyOf Try.f21)).all (entersB Try.prog) = true := by kernel_rfl
theorem V.dispatcherlaw14_play_does_calls {p1 : Option Addr} {n2 : Int} {s3 : ByteArray} {n4 : Int} {n5 : Int} {n6 : Int} {n7 : Int} {n8 : Int} {n9 : Int} {t10 : Bool} {s11 : ByteArray} {n12 : Int} {n13 : Int} {n14 : Int} {n15 : Int} {n16 : Int} {t17 : Bool} {n18 : Int} {n19 : Int}  {w : World} {R : Value → World → Prop} (h : V.dispatcherlaw14_play_does p1 n2 s3 n4 n5 n6 n7 n8 n9 t10 s11 n12 n13 n14 n15 n16 t17 n18 n19 w R) : Calls Try.prog 21 #[.pointer p1, .agg #[.int .u8 n2, .string s3, .int .i64 n4, .int .i64 n5, .int .i64 n6, .int .i64 n7, .int .i64 n8, .int .i64 n9, .bool t10, .string s11, .int .i64 n12, .int .i64 n13, .int .i64 n14, .int .i64 n15, .int .i64 n16, .bool t17, .int .i64 n18, .int .i64 n19]] w fun e w' => ∃ v, e = .returned v ∧ R v w' :=
  fn_sound (by kernel_rfl) Try.func21 (by kernel_rfl) V.dispatcherlaw14_play_does_ok (enters_all V.dispatcherlaw14_play_does_cs) (by kernel_rfl) ((V.dispatcherlaw14_play_does_eq p1 n2 s3 n4 n5 n6 n7 n8 n9 t10 s11 n12 n13 n14 n15 n16 t17 n18 n19 w R).mp h)

def V.posted_Posted_At (p1 : Option Addr) (n2 : Int) (n3 : Int) (w : World) (R : Value → World → Prop) : Prop :=
  ∀ (b4 : Nat) (w5 : World), New w w5 b4 [.string emptyS, .int .i64 0, .int .i64 0, .int .i64 0, .int .i64 0, .int .i64 0, .bool false, .int .i64 0, .int .i64 0] 57 →
  Calls Try.prog 50 #[.pointer p1, .int .i64 n2, .int .i64 n3] w5 fun e w6 => ∃ n7 : Int, e = .returned (.int .i64 n7) ∧
  ifb (decide (n7 < (0 : Int)))
  (∃ (l8 : List Value) (e9 : TypeId), Blk w6 b4 l8 e9 ∧ 0 + 9 ≤ l8.length ∧ ∀ w10 : World, Upd w6 w10 b4 (setSeg l8 0 [.string emptyS, .int .i64 0, .int .i64 0, .int .i64 0, .int .i64 0, .int .i64 0, .bool false, .int .i64 0, .int .i64 0]) e9 →
  ∃ s11 : ByteArray, ∃ n12 : Int, ∃ n13 : Int, ∃ n14 : Int, ∃ n15 : Int, ∃ n16 : Int, ∃ t17 : Bool, ∃ n18 : Int, ∃ n19 : Int, Cells w10 ⟨b4, 0, none⟩ [.string s11, .int .i64 n12, .int .i64 n13, .int .i64 n14, .int .i64 n15, .int .i64 n16, .bool t17, .int .i64 n18, .int .i64 n19] ∧ R (.tuple #[.agg #[.string s11, .int .i64 n12, .int .i64 n13, .int .i64 n14, .int .i64 n15, .int .i64 n16, .bool t17, .int .i64 n18, .int .i64 n19], .bool false]) w10)
  (Calls Try.prog 51 #[.pointer p1, .int .i64 n2] w6 fun e w20 => ∃ A21 : Option Addr, ∃ N21 : Nat, ∃ C21 : Nat, e = .returned (.slice A21 N21 C21) ∧
  0 ≤ n7 ∧ n7 < ((N21 : Nat) : Int) ∧ ∃ b22 o23 : Nat, (A21 : Option Addr) = some ⟨b22, o23, none⟩ ∧
  ∃ s24 : ByteArray, ∃ n25 : Int, ∃ n26 : Int, ∃ n27 : Int, ∃ n28 : Int, ∃ n29 : Int, ∃ t30 : Bool, ∃ n31 : Int, ∃ n32 : Int, Cells w20 ⟨b22, o23 + n7.toNat * 9, none⟩ [.string s24, .int .i64 n25, .int .i64 n26, .int .i64 n27, .int .i64 n28, .int .i64 n29, .bool t30, .int .i64 n31, .int .i64 n32] ∧
  ∃ (l33 : List Value) (e34 : TypeId), Blk w20 b4 l33 e34 ∧ 0 + 9 ≤ l33.length ∧ ∀ w35 : World, Upd w20 w35 b4 (setSeg l33 0 [.string s24, .int .i64 n25, .int .i64 n26, .int .i64 n27, .int .i64 n28, .int .i64 n29, .bool t30, .int .i64 n31, .int .i64 n32]) e34 →
  ∃ s36 : ByteArray, ∃ n37 : Int, ∃ n38 : Int, ∃ n39 : Int, ∃ n40 : Int, ∃ n41 : Int, ∃ t42 : Bool, ∃ n43 : Int, ∃ n44 : Int, Cells w35 ⟨b4, 0, none⟩ [.string s36, .int .i64 n37, .int .i64 n38, .int .i64 n39, .int .i64 n40, .int .i64 n41, .bool t42, .int .i64 n43, .int .i64 n44] ∧ R (.tuple #[.agg #[.string s36, .int .i64 n37, .int .i64 n38, .int .i64 n39, .int .i64 n40, .int .i64 n41, .bool t42, .int .i64 n43, .int .i64 n44], .bool true]) w35)
def V.posted_Posted_At_ann : Ann := .no
theorem V.posted_Posted_At_eq (p1 : Option Addr) (n2 : Int) (n3 : Int) (w : World) (R : Value → World → Prop) : V.posted_Posted_At p1 n2 n3 w R = fnW Try.prog [] [.cell 6 57, .tmp 7] (bodyOf Try.f22) V.posted_Posted_At_ann [.pointer p1, .int .i64 n2, .int .i64 n3] w R := by kernel_rfl
theorem V.posted_Posted_At_ok : okC 22 (bodyOf Try.f22) V.posted_Posted_At_ann = true := by kernel_rfl
theorem V.posted_Posted_At_cs : (calleesC (bodyOf Try.f22)).all (entersB Try.prog) = true := by kernel_rfl
theorem V.posted_Posted_At_calls {p1 : Option Addr} {n2 : Int} {n3 : Int}  {w : World} {R : Value → World → Prop} (h : V.posted_Posted_At p1 n2 n3 w R) : Calls Try.prog 22 #[.pointer p1, .int .i64 n2, .int .i64 n3] w fun e w' => ∃ v, e = .returned v ∧ R v w' :=
  fn_sound (by kernel_rfl) Try.func22 (by kernel_rfl) V.posted_Posted_At_ok (enters_all V.posted_Posted_At_cs) (by kernel_rfl) ((V.posted_Posted_At_eq p1 n2 n3 w R).mp h)

def V.dispatcherref14_Posted_At (p1 : Option Addr) (n2 : Int) (n3 : Int) (w : World) (R : Value → World → Prop) : Prop :=
  ∀ (b4 : Nat) (w5 : World), New w w5 b4 [.string emptyS, .int .i64 0, .int .i64 0, .int .i64 0, .int .i64 0, .int .i64 0, .bool false, .int .i64 0, .int .i64 0] 57 →
  ∃ (I6 : Int → World → Prop) (μ7 : Int → World → Nat),
  I6 (0 : Int) w5 ∧
  ∀ n10 : Int, ∀ (jk9 : Env) (w8 : World), I6 n10 w8 →
  nilC p1 fun b11 o11 =>
  ∃ A12 : Option Addr, ∃ N12 : Nat, ∃ C12 : Nat, w8.cell? ⟨b11, o11, none⟩ = some (.slice A12 N12 C12) ∧
  ifb (decide (n10 < ((N12 : Nat) : Int)))
  (nilC p1 fun b13 o13 =>
  ∃ A14 : Option Addr, ∃ N14 : Nat, ∃ C14 : Nat, w8.cell? ⟨b13, o13, none⟩ = some (.slice A14 N14 C14) ∧
  0 ≤ n10 ∧ n10 < ((N14 : Nat) : Int) ∧ ∃ b15 o16 : Nat, (A14 : Option Addr) = some ⟨b15, o16, none⟩ ∧
  ∃ n17 : Int, w8.cell? ⟨b15, o16 + n10.toNat * 9 + 1, none⟩ = some (.int .i64 n17) ∧
  ifb (n17 == n2)
  (nilC p1 fun b18 o18 =>
  ∃ A19 : Option Addr, ∃ N19 : Nat, ∃ C19 : Nat, w8.cell? ⟨b18, o18, none⟩ = some (.slice A19 N19 C19) ∧
  0 ≤ n10 ∧ n10 < ((N19 : Nat) : Int) ∧ ∃ b20 o21 : Nat, (A19 : Option Addr) = some ⟨b20, o21, none⟩ ∧
  ∃ n22 : Int, w8.cell? ⟨b20, o21 + n10.toNat * 9 + 2, none⟩ = some (.int .i64 n22) ∧
  ifb (n22 == n3)
  (nilC p1 fun b23 o23 =>
  ∃ A24 : Option Addr, ∃ N24 : Nat, ∃ C24 : Nat, w8.cell? ⟨b23, o23, none⟩ = some (.slice A24 N24 C24) ∧
  0 ≤ n10 ∧ n10 < ((N24 : Nat) : Int) ∧ ∃ b25 o26 : Nat, (A24 : Option Addr) = some ⟨b25, o26, none⟩ ∧
  ∃ s27 : ByteArray, ∃ n28 : Int, ∃ n29 : Int, ∃ n30 : Int, ∃ n31 : Int, ∃ n32 : Int, ∃ t33 : Bool, ∃ n34 : Int, ∃ n35 : Int, Cells w8 ⟨b25, o26 + n10.toNat * 9, none⟩ [.string s27, .int .i64 n28, .int .i64 n29, .int .i64 n30, .int .i64 n31, .int .i64 n32, .bool t33, .int .i64 n34, .int .i64 n35] ∧
  ∃ (l36 : List Value) (e37 : TypeId), Blk w8 b4 l36 e37 ∧ 0 + 9 ≤ l36.length ∧ ∀ w38 : World, Upd w8 w38 b4 (setSeg l36 0 [.string s27, .int .i64 n28, .int .i64 n29, .int .i64 n30, .int .i64 n31, .int .i64 n32, .bool t33, .int .i64 n34, .int .i64 n35]) e37 →
  ∃ s39 : ByteArray, ∃ n40 : Int, ∃ n41 : Int, ∃ n42 : Int, ∃ n43 : Int, ∃ n44 : Int, ∃ t45 : Bool, ∃ n46 : Int, ∃ n47 : Int, Cells w38 ⟨b4, 0, none⟩ [.string s39, .int .i64 n40, .int .i64 n41, .int .i64 n42, .int .i64 n43, .int .i64 n44, .bool t45, .int .i64 n46, .int .i64 n47] ∧ R (.tuple #[.agg #[.string s39, .int .i64 n40, .int .i64 n41, .int .i64 n42, .int .i64 n43, .int .i64 n44, .bool t45, .int .i64 n46, .int .i64 n47], .bool true]) w38)
  (∃ c48 : Int, IntKind.wrap .i64 (n10 + (1 : Int)) = c48 ∧
  I6 c48 w8 ∧ μ7 c48 w8 < μ7 n10 w8))
  (∃ c49 : Int, IntKind.wrap .i64 (n10 + (1 : Int)) = c49 ∧
  I6 c49 w8 ∧ μ7 c49 w8 < μ7 n10 w8))
  (∃ (l50 : List Value) (e51 : TypeId), Blk w8 b4 l50 e51 ∧ 0 + 9 ≤ l50.length ∧ ∀ w52 : World, Upd w8 w52 b4 (setSeg l50 0 [.string emptyS, .int .i64 0, .int .i64 0, .int .i64 0, .int .i64 0, .int .i64 0, .bool false, .int .i64 0, .int .i64 0]) e51 →
  ∃ s53 : ByteArray, ∃ n54 : Int, ∃ n55 : Int, ∃ n56 : Int, ∃ n57 : Int, ∃ n58 : Int, ∃ t59 : Bool, ∃ n60 : Int, ∃ n61 : Int, Cells w52 ⟨b4, 0, none⟩ [.string s53, .int .i64 n54, .int .i64 n55, .int .i64 n56, .int .i64 n57, .int .i64 n58, .bool t59, .int .i64 n60, .int .i64 n61] ∧ R (.tuple #[.agg #[.string s53, .int .i64 n54, .int .i64 n55, .int .i64 n56, .int .i64 n57, .int .i64 n58, .bool t59, .int .i64 n60, .int .i64 n61], .bool false]) w52)
def V.dispatcherref14_Posted_At_ann : Ann := .s (.no) (.s (.s (.no) (.b (.loop [(8, .one (.i .i64))] (.no)))) (.no))
theorem V.dispatcherref14_Posted_At_eq (p1 : Option Addr) (n2 : Int) (n3 : Int) (w : World) (R : Value → World → Prop) : V.dispatcherref14_Posted_At p1 n2 n3 w R = fnW Try.prog [] [.cell 6 57, .tmp 7] (bodyOf Try.f23) V.dispatcherref14_Posted_At_ann [.pointer p1, .int .i64 n2, .int .i64 n3] w R := by kernel_rfl
theorem V.dispatcherref14_Posted_At_ok : okC 48 (bodyOf Try.f23) V.dispatcherref14_Posted_At_ann = true := by kernel_rfl
theorem V.dispatcherref14_Posted_At_cs : (calleesC (bodyOf Try.f23)).all (entersB Try.prog) = true := by kernel_rfl
theorem V.dispatcherref14_Posted_At_calls {p1 : Option Addr} {n2 : Int} {n3 : Int}  {w : World} {R : Value → World → Prop} (h : V.dispatcherref14_Posted_At p1 n2 n3 w R) : Calls Try.prog 23 #[.pointer p1, .int .i64 n2, .int .i64 n3] w fun e w' => ∃ v, e = .returned v ∧ R v w' :=
  fn_sound (by kernel_rfl) Try.func23 (by kernel_rfl) V.dispatcherref14_Posted_At_ok (enters_all V.dispatcherref14_Posted_At_cs) (by kernel_rfl) ((V.dispatcherref14_Posted_At_eq p1 n2 n3 w R).mp h)

def V.dispatcherref14_Same (A1 : Option Addr) (N1 : Nat) (C1 : Nat) (A2 : Option Addr) (N2 : Nat) (C2 : Nat) (w : World) (R : Value → World → Prop) : Prop :=
  ifb (((N1 : Nat) : Int) != ((N2 : Nat) : Int))
  (R (.bool false) w)
  (∃ (I3 : Int → World → Prop) (μ4 : Int → World → Nat),
  I3 (0 : Int) w ∧
  ∀ n7 : Int, ∀ (jk6 : Env) (w5 : World), I3 n7 w5 →
  ifb (decide (n7 < ((N1 : Nat) : Int)))
  (0 ≤ n7 ∧ n7 < ((N1 : Nat) : Int) ∧ ∃ b8 o9 : Nat, (A1 : Option Addr) = some ⟨b8, o9, none⟩ ∧
  ∃ s10 : ByteArray, ∃ n11 : Int, ∃ n12 : Int, ∃ n13 : Int, ∃ n14 : Int, ∃ n15 : Int, ∃ t16 : Bool, ∃ n17 : Int, ∃ n18 : Int, Cells w5.drew ⟨b8, o9 + n7.toNat * 9, none⟩ [.string s10, .int .i64 n11, .int .i64 n12, .int .i64 n13, .int .i64 n14, .int .i64 n15, .bool t16, .int .i64 n17, .int .i64 n18] ∧
  0 ≤ n7 ∧ n7 < ((N2 : Nat) : Int) ∧ ∃ b19 o20 : Nat, (A2 : Option Addr) = some ⟨b19, o20, none⟩ ∧
  ∃ s21 : ByteArray, ∃ n22 : Int, ∃ n23 : Int, ∃ n24 : Int, ∃ n25 : Int, ∃ n26 : Int, ∃ t27 : Bool, ∃ n28 : Int, ∃ n29 : Int, Cells w5.drew ⟨b19, o20 + n7.toNat * 9, none⟩ [.string s21, .int .i64 n22, .int .i64 n23, .int .i64 n24, .int .i64 n25, .int .i64 n26, .bool t27, .int .i64 n28, .int .i64 n29] ∧
  ifb (!((s10 == s21) && ((n11 == n22) && ((n12 == n23) && ((n13 == n24) && ((n14 == n25) && ((n15 == n26) && ((t16 == t27) && ((n17 == n28) && ((n18 == n29) && (true)))))))))))
  (R (.bool false) w5.drew)
  (∃ c30 : Int, IntKind.wrap .i64 (n7 + (1 : Int)) = c30 ∧
  I3 c30 w5.drew ∧ μ4 c30 w5.drew < μ4 n7 w5))
  (R (.bool true) w5))
def V.dispatcherref14_Same_ann : Ann := .s (.no) (.s (.no) (.s (.s (.no) (.b (.loop [(5, .one (.i .i64))] (.s (.no) (.s (.b (.s (.draw (.r 0 (.r 1 (.r 2 (.r 3 (.r 4 (.r 5 (.r 6 (.r 7 (.r 8 (.done)))))))))) []) (.no))) (.no)))))) (.no)))
theorem V.dispatcherref14_Same_eq (A1 : Option Addr) (N1 : Nat) (C1 : Nat) (A2 : Option Addr) (N2 : Nat) (C2 : Nat) (w : World) (R : Value → World → Prop) : V.dispatcherref14_Same A1 N1 C1 A2 N2 C2 w R = fnW Try.prog [] [.tmp 4] (bodyOf Try.f24) V.dispatcherref14_Same_ann [.slice A1 N1 C1, .slice A2 N2 C2] w R := by kernel_rfl
theorem V.dispatcherref14_Same_ok : okC 26 (bodyOf Try.f24) V.dispatcherref14_Same_ann = true := by kernel_rfl
theorem V.dispatcherref14_Same_cs : (calleesC (bodyOf Try.f24)).all (entersB Try.prog) = true := by kernel_rfl
theorem V.dispatcherref14_Same_calls {A1 : Option Addr} {N1 : Nat} {C1 : Nat} {A2 : Option Addr} {N2 : Nat} {C2 : Nat}  {w : World} {R : Value → World → Prop} (h : V.dispatcherref14_Same A1 N1 C1 A2 N2 C2 w R) : Calls Try.prog 24 #[.slice A1 N1 C1, .slice A2 N2 C2] w fun e w' => ∃ v, e = .returned v ∧ R v w' :=
  fn_sound (by kernel_rfl) Try.func24 (by kernel_rfl) V.dispatcherref14_Same_ok (enters_all V.dispatcherref14_Same_cs) (by kernel_rfl) ((V.dispatcherref14_Same_eq A1 N1 C1 A2 N2 C2 w R).mp h)

def V.posted_Posted_Waiting (p1 : Option Addr) (n2 : Int) (w : World) (R : Value → World → Prop) : Prop :=
  Calls Try.prog 51 #[.pointer p1, .int .i64 n2] w fun e w3 => ∃ A4 : Option Addr, ∃ N4 : Nat, ∃ C4 : Nat, e = .returned (.slice A4 N4 C4) ∧
  Calls Try.prog 52 #[.slice A4 N4 C4, .func (.func 53) #[] #[]] w3 fun e w5 => ∃ A6 : Option Addr, ∃ N6 : Nat, ∃ C6 : Nat, e = .returned (.slice A6 N6 C6) ∧
  R (.slice A6 N6 C6) w5
def V.posted_Posted_Waiting_ann : Ann := .no
theorem V.posted_Posted_Waiting_eq (p1 : Option Addr) (n2 : Int) (w : World) (R : Value → World → Prop) : V.posted_Posted_Waiting p1 n2 w R = fnW Try.prog [] [.tmp 4] (bodyOf Try.f25) V.posted_Posted_Waiting_ann [.pointer p1, .int .i64 n2] w R := by kernel_rfl
theorem V.posted_Posted_Waiting_ok : okC 9 (bodyOf Try.f25) V.posted_Posted_Waiting_ann = true := by kernel_rfl
theorem V.posted_Posted_Waiting_cs : (calleesC (bodyOf Try.f25)).all (entersB Try.prog) = true := by kernel_rfl
theorem V.posted_Posted_Waiting_calls {p1 : Option Addr} {n2 : Int}  {w : World} {R : Value → World → Prop} (h : V.posted_Posted_Waiting p1 n2 w R) : Calls Try.prog 25 #[.pointer p1, .int .i64 n2] w fun e w' => ∃ v, e = .returned v ∧ R v w' :=
  fn_sound (by kernel_rfl) Try.func25 (by kernel_rfl) V.posted_Posted_Waiting_ok (enters_all V.posted_Posted_Waiting_cs) (by kernel_rfl) ((V.posted_Posted_Waiting_eq p1 n2 w R).mp h)

def V.dispatcherref14_Posted_Waiting (p1 : Option Addr) (n2 : Int) (w : World) (R : Value → World → Prop) : Prop :=
  ∃ (I3 : Option Addr → Nat → Nat → Int → World → Prop) (μ4 : Option Addr → Nat → Nat → Int → World → Nat),
  I3 none 0 0 (0 : Int) w ∧
  ∀ A7 : Option Addr, ∀ N7 : Nat, ∀ C7 : Nat, ∀ n8 : Int, ∀ (jk6 : Env) (w5 : World), I3 A7 N7 C7 n8 w5 →
  nilC p1 fun b9 o9 =>
  ∃ A10 : Option Addr, ∃ N10 : Nat, ∃ C10 : Nat, w5.cell? ⟨b9, o9, none⟩ = some (.slice A10 N10 C10) ∧
  ifb (decide (n8 < ((N10 : Nat) : Int)))
  (nilC p1 fun b11 o11 =>
  ∃ A12 : Option Addr, ∃ N12 : Nat, ∃ C12 : Nat, w5.cell? ⟨b11, o11, none⟩ = some (.slice A12 N12 C12) ∧
  0 ≤ n8 ∧ n8 < ((N12 : Nat) : Int) ∧ ∃ b13 o14 : Nat, (A12 : Option Addr) = some ⟨b13, o14, none⟩ ∧
  ∃ n15 : Int, w5.cell? ⟨b13, o14 + n8.toNat * 9 + 1, none⟩ = some (.int .i64 n15) ∧
  ifb (n15 == n2)
  (nilC p1 fun b16 o16 =>
  ∃ A17 : Option Addr, ∃ N17 : Nat, ∃ C17 : Nat, w5.cell? ⟨b16, o16, none⟩ = some (.slice A17 N17 C17) ∧
  0 ≤ n8 ∧ n8 < ((N17 : Nat) : Int) ∧ ∃ b18 o19 : Nat, (A17 : Option Addr) = some ⟨b18, o19, none⟩ ∧
  ∃ t20 : Bool, w5.cell? ⟨b18, o19 + n8.toNat * 9 + 6, none⟩ = some (.bool t20) ∧
  ifb (!t20)
  (nilC p1 fun b21 o21 =>
  ∃ A22 : Option Addr, ∃ N22 : Nat, ∃ C22 : Nat, w5.cell? ⟨b21, o21, none⟩ = some (.slice A22 N22 C22) ∧
  0 ≤ n8 ∧ n8 < ((N22 : Nat) : Int) ∧ ∃ b23 o24 : Nat, (A22 : Option Addr) = some ⟨b23, o24, none⟩ ∧
  ∃ s25 : ByteArray, ∃ n26 : Int, ∃ n27 : Int, ∃ n28 : Int, ∃ n29 : Int, ∃ n30 : Int, ∃ t31 : Bool, ∃ n32 : Int, ∃ n33 : Int, Cells w5 ⟨b23, o24 + n8.toNat * 9, none⟩ [.string s25, .int .i64 n26, .int .i64 n27, .int .i64 n28, .int .i64 n29, .int .i64 n30, .bool t31, .int .i64 n32, .int .i64 n33] ∧
  ∀ (b34 : Nat) (w35 : World), New w5 w35 b34 [.string s25, .int .i64 n26, .int .i64 n27, .int .i64 n28, .int .i64 n29, .int .i64 n30, .bool t31, .int .i64 n32, .int .i64 n33] 57 →
  ∃ xs36 news37 : List Value, w35.ownsRow 0 57 9 (.slice A7 N7 C7) N7 xs36 ∧ Reads w35 (some ⟨b34, 0, none⟩) 1 9 news37 ∧ N7 + 1 ≤ maxLen ∧ (N7 + 1) * 80 ≤ 140737488355328 ∧
  ∀ (A39 : Option Addr) (C39 : Nat) (w38 : World), w38.ownsRow 0 57 9 (.slice A39 (N7 + 1) C39) (N7 + 1) (xs36 ++ news37) → App w35 w38 A7 A39 →
  ∃ c40 : Int, IntKind.wrap .i64 (n8 + (1 : Int)) = c40 ∧
  I3 A39 (N7 + 1) C39 c40 w38 ∧ μ4 A39 (N7 + 1) C39 c40 w38 < μ4 A7 N7 C7 n8 w5)
  (∃ c41 : Int, IntKind.wrap .i64 (n8 + (1 : Int)) = c41 ∧
  I3 A7 N7 C7 c41 w5 ∧ μ4 A7 N7 C7 c41 w5 < μ4 A7 N7 C7 n8 w5))
  (∃ c42 : Int, IntKind.wrap .i64 (n8 + (1 : Int)) = c42 ∧
  I3 A7 N7 C7 c42 w5 ∧ μ4 A7 N7 C7 c42 w5 < μ4 A7 N7 C7 n8 w5))
  (R (.slice A7 N7 C7) w5)
def V.dispatcherref14_Posted_Waiting_ann : Ann := .s (.no) (.s (.no) (.s (.s (.no) (.b (.loop [(5, .one .sl), (6, .one (.i .i64))] (.no)))) (.no)))
theorem V.dispatcherref14_Posted_Waiting_eq (p1 : Option Addr) (n2 : Int) (w : World) (R : Value → World → Prop) : V.dispatcherref14_Posted_Waiting p1 n2 w R = fnW Try.prog [] [.tmp 4] (bodyOf Try.f26) V.dispatcherref14_Posted_Waiting_ann [.pointer p1, .int .i64 n2] w R := by kernel_rfl
theorem V.dispatcherref14_Posted_Waiting_ok : okC 48 (bodyOf Try.f26) V.dispatcherref14_Posted_Waiting_ann = true := by kernel_rfl
theorem V.dispatcherref14_Posted_Waiting_cs : (calleesC (bodyOf Try.f26)).all (entersB Try.prog) = true := by kernel_rfl
theorem V.dispatcherref14_Posted_Waiting_calls {p1 : Option Addr} {n2 : Int}  {w : World} {R : Value → World → Prop} (h : V.dispatcherref14_Posted_Waiting p1 n2 w R) : Calls Try.prog 26 #[.pointer p1, .int .i64 n2] w fun e w' => ∃ v, e = .returned v ∧ R v w' :=
  fn_sound (by kernel_rfl) Try.func26 (by kernel_rfl) V.dispatcherref14_Posted_Waiting_ok (enters_all V.dispatcherref14_Posted_Waiting_cs) (by kernel_rfl) ((V.dispatcherref14_Posted_Waiting_eq p1 n2 w R).mp h)

def V.dispatcherref13_Queue_Left (p1 : Option Addr) (w : World) (R : Value → World → Prop) : Prop :=
  ∃ (I2 : Option Addr → Nat → Nat → Int → World → Prop) (μ3 : Option Addr → Nat → Nat → Int → World → Nat),
  I2 none 0 0 (0 : Int) w ∧
  ∀ A6 : Option Addr, ∀ N6 : Nat, ∀ C6 : Nat, ∀ n7 : Int, ∀ (jk5 : Env) (w4 : World), I2 A6 N6 C6 n7 w4 →
  nilC p1 fun b8 o8 =>
  ∃ A9 : Option Addr, ∃ N9 : Nat, ∃ C9 : Nat, w4.cell? ⟨b8, o8, none⟩ = some (.slice A9 N9 C9) ∧
  ifb (decide (n7 < ((N9 : Nat) : Int)))
  (nilC p1 fun b10 o10 =>
  ∃ A11 : Option Addr, ∃ N11 : Nat, ∃ C11 : Nat, w4.cell? ⟨b10, o10, none⟩ = some (.slice A11 N11 C11) ∧
  0 ≤ n7 ∧ n7 < ((N11 : Nat) : Int) ∧ ∃ b12 o13 : Nat, (A11 : Option Addr) = some ⟨b12, o13, none⟩ ∧
  ∃ t14 : Bool, w4.cell? ⟨b12, o13 + n7.toNat * 8 + 7, none⟩ = some (.bool t14) ∧
  ifb t14
  (∃ c15 : Int, IntKind.wrap .i64 (n7 + (1 : Int)) = c15 ∧
  I2 A6 N6 C6 c15 w4 ∧ μ3 A6 N6 C6 c15 w4 < μ3 A6 N6 C6 n7 w4)
  (∃ (I16 : Int → World → Prop) (μ17 : Int → World → Nat),
  I16 ((N6 : Nat) : Int) w4 ∧
  ∀ n20 : Int, ∀ (jk19 : Env) (w18 : World), I16 n20 w18 →
  ifb (decide (n20 > (0 : Int)))
  (nilC p1 fun b21 o21 =>
  ∃ A22 : Option Addr, ∃ N22 : Nat, ∃ C22 : Nat, w18.drew.cell? ⟨b21, o21, none⟩ = some (.slice A22 N22 C22) ∧
  0 ≤ n7 ∧ n7 < ((N22 : Nat) : Int) ∧ ∃ b23 o24 : Nat, (A22 : Option Addr) = some ⟨b23, o24, none⟩ ∧
  ∃ s25 : ByteArray, ∃ n26 : Int, ∃ n27 : Int, ∃ n28 : Int, ∃ n29 : Int, ∃ n30 : Int, ∃ n31 : Int, ∃ t32 : Bool, Cells w18.drew ⟨b23, o24 + n7.toNat * 8, none⟩ [.string s25, .int .i64 n26, .int .i64 n27, .int .i64 n28, .int .i64 n29, .int .i64 n30, .int .i64 n31, .bool t32] ∧
  ∃ c33 : Int, IntKind.wrap .i64 (n20 - (1 : Int)) = c33 ∧
  0 ≤ c33 ∧ c33 < ((N6 : Nat) : Int) ∧ ∃ b34 o35 : Nat, (A6 : Option Addr) = some ⟨b34, o35, none⟩ ∧
  ∃ s36 : ByteArray, ∃ n37 : Int, ∃ n38 : Int, ∃ n39 : Int, ∃ n40 : Int, ∃ n41 : Int, ∃ n42 : Int, ∃ t43 : Bool, Cells w18.drew ⟨b34, o35 + c33.toNat * 8, none⟩ [.string s36, .int .i64 n37, .int .i64 n38, .int .i64 n39, .int .i64 n40, .int .i64 n41, .int .i64 n42, .bool t43] ∧
  Calls Try.prog 54 #[.agg #[.string s25, .int .i64 n26, .int .i64 n27, .int .i64 n28, .int .i64 n29, .int .i64 n30, .int .i64 n31, .bool t32], .agg #[.string s36, .int .i64 n37, .int .i64 n38, .int .i64 n39, .int .i64 n40, .int .i64 n41, .int .i64 n42, .bool t43]] w18.drew fun e w44 => ∃ t45 : Bool, e = .returned (.bool t45) ∧
  ifb t45
  (∃ c46 : Int, IntKind.wrap .i64 (n20 - (1 : Int)) = c46 ∧
  I16 c46 w44 ∧ μ17 c46 w44 < μ17 n20 w18)
  (∀ (b47 : Nat) (w48 : World), New w44 w48 b47 [] 28 →
  SlcF A6 N6 C6 n20 ((N6 : Nat) : Int) 8 fun A49 N49 C49 =>
  ∃ xs50 news51 : List Value, w48.ownsRow 0 28 8 (.slice (some ⟨b47, 0, none⟩) 0 0) 0 xs50 ∧ Reads w48 A49 N49 8 news51 ∧ 0 + N49 ≤ maxLen ∧ (0 + N49) * 72 ≤ 140737488355328 ∧
  ∀ (A53 : Option Addr) (C53 : Nat) (w52 : World), w52.ownsRow 0 28 8 (.slice A53 (0 + N49) C53) (0 + N49) (xs50 ++ news51) → App w48 w52 (some ⟨b47, 0, none⟩) A53 →
  0 ≤ n20 ∧ n20 ≤ ((C6 : Nat) : Int) ∧
  nilC p1 fun b54 o54 =>
  ∃ A55 : Option Addr, ∃ N55 : Nat, ∃ C55 : Nat, w52.drew.cell? ⟨b54, o54, none⟩ = some (.slice A55 N55 C55) ∧
  0 ≤ n7 ∧ n7 < ((N55 : Nat) : Int) ∧ ∃ b56 o57 : Nat, (A55 : Option Addr) = some ⟨b56, o57, none⟩ ∧
  ∃ s58 : ByteArray, ∃ n59 : Int, ∃ n60 : Int, ∃ n61 : Int, ∃ n62 : Int, ∃ n63 : Int, ∃ n64 : Int, ∃ t65 : Bool, Cells w52.drew ⟨b56, o57 + n7.toNat * 8, none⟩ [.string s58, .int .i64 n59, .int .i64 n60, .int .i64 n61, .int .i64 n62, .int .i64 n63, .int .i64 n64, .bool t65] ∧
  ∀ (b66 : Nat) (w67 : World), New w52.drew w67 b66 [.string s58, .int .i64 n59, .int .i64 n60, .int .i64 n61, .int .i64 n62, .int .i64 n63, .int .i64 n64, .bool t65] 28 →
  ∃ xs68 news69 : List Value, w67.ownsRow 0 28 8 (.slice A6 n20.toNat C6) n20.toNat xs68 ∧ Reads w67 (some ⟨b66, 0, none⟩) 1 8 news69 ∧ n20.toNat + 1 ≤ maxLen ∧ (n20.toNat + 1) * 72 ≤ 140737488355328 ∧
  ∀ (A71 : Option Addr) (C71 : Nat) (w70 : World), w70.ownsRow 0 28 8 (.slice A71 (n20.toNat + 1) C71) (n20.toNat + 1) (xs68 ++ news69) → App w67 w70 A6 A71 →
  ∃ xs72 news73 : List Value, w70.ownsRow 0 28 8 (.slice A71 (n20.toNat + 1) C71) (n20.toNat + 1) xs72 ∧ Reads w70 A53 (0 + N49) 8 news73 ∧ (n20.toNat + 1) + (0 + N49) ≤ maxLen ∧ ((n20.toNat + 1) + (0 + N49)) * 72 ≤ 140737488355328 ∧
  ∀ (A75 : Option Addr) (C75 : Nat) (w74 : World), w74.ownsRow 0 28 8 (.slice A75 ((n20.toNat + 1) + (0 + N49)) C75) ((n20.toNat + 1) + (0 + N49)) (xs72 ++ news73) → App w70 w74 A71 A75 →
  ∃ c76 : Int, IntKind.wrap .i64 (n7 + (1 : Int)) = c76 ∧
  I2 A75 ((n20.toNat + 1) + (0 + N49)) C75 c76 w74 ∧ μ3 A75 ((n20.toNat + 1) + (0 + N49)) C75 c76 w74 < μ3 A6 N6 C6 n7 w4))
  (∀ (b77 : Nat) (w78 : World), New w18.drew w78 b77 [] 28 →
  SlcF A6 N6 C6 n20 ((N6 : Nat) : Int) 8 fun A79 N79 C79 =>
  ∃ xs80 news81 : List Value, w78.ownsRow 0 28 8 (.slice (some ⟨b77, 0, none⟩) 0 0) 0 xs80 ∧ Reads w78 A79 N79 8 news81 ∧ 0 + N79 ≤ maxLen ∧ (0 + N79) * 72 ≤ 140737488355328 ∧
  ∀ (A83 : Option Addr) (C83 : Nat) (w82 : World), w82.ownsRow 0 28 8 (.slice A83 (0 + N79) C83) (0 + N79) (xs80 ++ news81) → App w78 w82 (some ⟨b77, 0, none⟩) A83 →
  0 ≤ n20 ∧ n20 ≤ ((C6 : Nat) : Int) ∧
  nilC p1 fun b84 o84 =>
  ∃ A85 : Option Addr, ∃ N85 : Nat, ∃ C85 : Nat, w82.drew.cell? ⟨b84, o84, none⟩ = some (.slice A85 N85 C85) ∧
  0 ≤ n7 ∧ n7 < ((N85 : Nat) : Int) ∧ ∃ b86 o87 : Nat, (A85 : Option Addr) = some ⟨b86, o87, none⟩ ∧
  ∃ s88 : ByteArray, ∃ n89 : Int, ∃ n90 : Int, ∃ n91 : Int, ∃ n92 : Int, ∃ n93 : Int, ∃ n94 : Int, ∃ t95 : Bool, Cells w82.drew ⟨b86, o87 + n7.toNat * 8, none⟩ [.string s88, .int .i64 n89, .int .i64 n90, .int .i64 n91, .int .i64 n92, .int .i64 n93, .int .i64 n94, .bool t95] ∧
  ∀ (b96 : Nat) (w97 : World), New w82.drew w97 b96 [.string s88, .int .i64 n89, .int .i64 n90, .int .i64 n91, .int .i64 n92, .int .i64 n93, .int .i64 n94, .bool t95] 28 →
  ∃ xs98 news99 : List Value, w97.ownsRow 0 28 8 (.slice A6 n20.toNat C6) n20.toNat xs98 ∧ Reads w97 (some ⟨b96, 0, none⟩) 1 8 news99 ∧ n20.toNat + 1 ≤ maxLen ∧ (n20.toNat + 1) * 72 ≤ 140737488355328 ∧
  ∀ (A101 : Option Addr) (C101 : Nat) (w100 : World), w100.ownsRow 0 28 8 (.slice A101 (n20.toNat + 1) C101) (n20.toNat + 1) (xs98 ++ news99) → App w97 w100 A6 A101 →
  ∃ xs102 news103 : List Value, w100.ownsRow 0 28 8 (.slice A101 (n20.toNat + 1) C101) (n20.toNat + 1) xs102 ∧ Reads w100 A83 (0 + N79) 8 news103 ∧ (n20.toNat + 1) + (0 + N79) ≤ maxLen ∧ ((n20.toNat + 1) + (0 + N79)) * 72 ≤ 140737488355328 ∧
  ∀ (A105 : Option Addr) (C105 : Nat) (w104 : World), w104.ownsRow 0 28 8 (.slice A105 ((n20.toNat + 1) + (0 + N79)) C105) ((n20.toNat + 1) + (0 + N79)) (xs102 ++ news103) → App w100 w104 A101 A105 →
  ∃ c106 : Int, IntKind.wrap .i64 (n7 + (1 : Int)) = c106 ∧
  I2 A105 ((n20.toNat + 1) + (0 + N79)) C105 c106 w104 ∧ μ3 A105 ((n20.toNat + 1) + (0 + N79)) C105 c106 w104 < μ3 A6 N6 C6 n7 w4)))
  (R (.slice A6 N6 C6) w4)
def V.dispatcherref13_Queue_Left_ann : Ann := .s (.no) (.s (.no) (.s (.s (.no) (.b (.loop [(3, .one .sl), (4, .one (.i .i64))] (.s (.no) (.s (.b (.s (.no) (.s (.no) (.s (.b (.loop [(5, .one (.i .i64))] (.s (.s (.draw (.r 0 (.r 1 (.r 2 (.r 3 (.r 4 (.r 5 (.r 6 (.r 7 (.r 8 (.r 9 (.r 10 (.r 11 (.r 12 (.r 13 (.r 14 (.e 15 [6, 9, 14] (.r 16 (.done)))))))))))))))))) [(8, 6), (9, 6), (15, 6), (15, 9), (15, 14)]) (.no)) (.no)))) (.s (.no) (.draw (.r 0 (.r 1 (.r 2 (.r 3 (.r 4 (.r 5 (.r 6 (.r 7 (.r 8 (.r 9 (.r 12 (.e 10 [6, 9] (.e 11 [6, 9] (.e 13 [6, 9] (.e 14 [6, 9] (.done)))))))))))))))) [(8, 6), (9, 6), (10, 6), (10, 9), (11, 6), (11, 9), (13, 6), (13, 9), (14, 6), (14, 9)])))))) (.no)))))) (.no)))
theorem V.dispatcherref13_Queue_Left_eq (p1 : Option Addr) (w : World) (R : Value → World → Prop) : V.dispatcherref13_Queue_Left p1 w R = fnW Try.prog [] [.tmp 2] (bodyOf Try.f27) V.dispatcherref13_Queue_Left_ann [.pointer p1] w R := by kernel_rfl
theorem V.dispatcherref13_Queue_Left_ok : okC 65 (bodyOf Try.f27) V.dispatcherref13_Queue_Left_ann = true := by kernel_rfl
theorem V.dispatcherref13_Queue_Left_cs : (calleesC (bodyOf Try.f27)).all (entersB Try.prog) = true := by kernel_rfl
theorem V.dispatcherref13_Queue_Left_calls {p1 : Option Addr}  {w : World} {R : Value → World → Prop} (h : V.dispatcherref13_Queue_Left p1 w R) : Calls Try.prog 27 #[.pointer p1] w fun e w' => ∃ v, e = .returned v ∧ R v w' :=
  fn_sound (by kernel_rfl) Try.func27 (by kernel_rfl) V.dispatcherref13_Queue_Left_ok (enters_all V.dispatcherref13_Queue_Left_cs) (by kernel_rfl) ((V.dispatcherref13_Queue_Left_eq p1 w R).mp h)

def V.posted_Fits (s1 : ByteArray) (n2 : Int) (n3 : Int) (n4 : Int) (n5 : Int) (n6 : Int) (t7 : Bool) (n8 : Int) (n9 : Int) (s10 : ByteArray) (n11 : Int) (n12 : Int) (n13 : Int) (n14 : Int) (n15 : Int) (n16 : Int) (t17 : Bool) (w : World) (R : Value → World → Prop) : Prop :=
  ∀ (b18 : Nat) (w19 : World), New w w19 b18 [.string s1, .int .i64 n2, .int .i64 n3, .int .i64 n4, .int .i64 n5, .int .i64 n6, .bool t7, .int .i64 n8, .int .i64 n9] 57 →
  ∀ (b20 : Nat) (w21 : World), New w19 w21 b20 [.string s10, .int .i64 n11, .int .i64 n12, .int .i64 n13, .int .i64 n14, .int .i64 n15, .int .i64 n16, .bool t17] 28 →
  ∃ s22 : ByteArray, ∃ n23 : Int, ∃ n24 : Int, ∃ n25 : Int, ∃ n26 : Int, ∃ n27 : Int, ∃ t28 : Bool, ∃ n29 : Int, ∃ n30 : Int, Cells w21 ⟨b18, 0, none⟩ [.string s22, .int .i64 n23, .int .i64 n24, .int .i64 n25, .int .i64 n26, .int .i64 n27, .bool t28, .int .i64 n29, .int .i64 n30] ∧
  ∃ s31 : ByteArray, ∃ n32 : Int, ∃ n33 : Int, ∃ n34 : Int, ∃ n35 : Int, ∃ n36 : Int, ∃ n37 : Int, ∃ t38 : Bool, Cells w21 ⟨b20, 0, none⟩ [.string s31, .int .i64 n32, .int .i64 n33, .int .i64 n34, .int .i64 n35, .int .i64 n36, .int .i64 n37, .bool t38] ∧
  Calls Try.prog 55 #[.agg #[.string s22, .int .i64 n23, .int .i64 n24, .int .i64 n25, .int .i64 n26, .int .i64 n27, .bool t28, .int .i64 n29, .int .i64 n30], .agg #[.string s31, .int .i64 n32, .int .i64 n33, .int .i64 n34, .int .i64 n35, .int .i64 n36, .int .i64 n37, .bool t38]] w21 fun e w39 => ∃ t40 : Bool, e = .returned (.bool t40) ∧
  R (.bool t40) w39
def V.posted_Fits_ann : Ann := .no
theorem V.posted_Fits_eq (s1 : ByteArray) (n2 : Int) (n3 : Int) (n4 : Int) (n5 : Int) (n6 : Int) (t7 : Bool) (n8 : Int) (n9 : Int) (s10 : ByteArray) (n11 : Int) (n12 : Int) (n13 : Int) (n14 : Int) (n15 : Int) (n16 : Int) (t17 : Bool) (w : World) (R : Value → World → Prop) : V.posted_Fits s1 n2 n3 n4 n5 n6 t7 n8 n9 s10 n11 n12 n13 n14 n15 n16 t17 w R = fnW Try.prog [] [.tmp 4] (bodyOf Try.f28) V.posted_Fits_ann [.agg #[.string s1, .int .i64 n2, .int .i64 n3, .int .i64 n4, .int .i64 n5, .int .i64 n6, .bool t7, .int .i64 n8, .int .i64 n9], .agg #[.string s10, .int .i64 n11, .int .i64 n12, .int .i64 n13, .int .i64 n14, .int .i64 n15, .int .i64 n16, .bool t17]] w R := by kernel_rfl
theorem V.posted_Fits_ok : okC 8 (bodyOf Try.f28) V.posted_Fits_ann = true := by kernel_rfl
theorem V.posted_Fits_cs : (calleesC (bodyOf Try.f28)).all (entersB Try.prog) = true := by kernel_rfl
theorem V.posted_Fits_calls {s1 : ByteArray} {n2 : Int} {n3 : Int} {n4 : Int} {n5 : Int} {n6 : Int} {t7 : Bool} {n8 : Int} {n9 : Int} {s10 : ByteArray} {n11 : Int} {n12 : Int} {n13 : Int} {n14 : Int} {n15 : Int} {n16 : Int} {t17 : Bool}  {w : World} {R : Value → World → Prop} (h : V.posted_Fits s1 n2 n3 n4 n5 n6 t7 n8 n9 s10 n11 n12 n13 n14 n15 n16 t17 w R) : Calls Try.prog 28 #[.agg #[.string s1, .int .i64 n2, .int .i64 n3, .int .i64 n4, .int .i64 n5, .int .i64 n6, .bool t7, .int .i64 n8, .int .i64 n9], .agg #[.string s10, .int .i64 n11, .int .i64 n12, .int .i64 n13, .int .i64 n14, .int .i64 n15, .int .i64 n16, .bool t17]] w fun e w' => ∃ v, e = .returned v ∧ R v w' :=
  fn_sound (by kernel_rfl) Try.func28 (by kernel_rfl) V.posted_Fits_ok (enters_all V.posted_Fits_cs) (by kernel_rfl) ((V.posted_Fits_eq s1 n2 n3 n4 n5 n6 t7 n8 n9 s10 n11 n12 n13 n14 n15 n16 t17 w R).mp h)

def V.dispatcherref14_Fits (s1 : ByteArray) (n2 : Int) (n3 : Int) (n4 : Int) (n5 : Int) (n6 : Int) (t7 : Bool) (n8 : Int) (n9 : Int) (s10 : ByteArray) (n11 : Int) (n12 : Int) (n13 : Int) (n14 : Int) (n15 : Int) (n16 : Int) (t17 : Bool) (w : World) (R : Value → World → Prop) : Prop :=
  ∀ (b18 : Nat) (w19 : World), New w w19 b18 [.string s1, .int .i64 n2, .int .i64 n3, .int .i64 n4, .int .i64 n5, .int .i64 n6, .bool t7, .int .i64 n8, .int .i64 n9] 57 →
  ∀ (b20 : Nat) (w21 : World), New w19 w21 b20 [.string s10, .int .i64 n11, .int .i64 n12, .int .i64 n13, .int .i64 n14, .int .i64 n15, .int .i64 n16, .bool t17] 28 →
  ∃ s22 : ByteArray, w21.cell? ⟨b18, 0, none⟩ = some (.string s22) ∧
  ∃ s23 : ByteArray, w21.cell? ⟨b20, 0, none⟩ = some (.string s23) ∧
  ifb (!(s22.toList == s23.toList))
  (R (.bool false) w21)
  (∃ n24 : Int, w21.cell? ⟨b18, 1, none⟩ = some (.int .i64 n24) ∧
  ∃ n25 : Int, w21.cell? ⟨b20, 2, none⟩ = some (.int .i64 n25) ∧
  ifb (n24 != n25)
  (R (.bool false) w21)
  (∃ n26 : Int, w21.cell? ⟨b18, 3, none⟩ = some (.int .i64 n26) ∧
  ifb (n26 == (-1 : Int))
  (∃ n27 : Int, w21.cell? ⟨b18, 4, none⟩ = some (.int .i64 n27) ∧
  ifb (n27 == (-1 : Int))
  (R (.bool true) w21)
  (∃ n28 : Int, w21.cell? ⟨b18, 4, none⟩ = some (.int .i64 n28) ∧
  ∃ n29 : Int, w21.cell? ⟨b20, 4, none⟩ = some (.int .i64 n29) ∧
  R (.bool (n28 == n29)) w21))
  (∃ n30 : Int, w21.cell? ⟨b18, 3, none⟩ = some (.int .i64 n30) ∧
  ∃ n31 : Int, w21.cell? ⟨b20, 1, none⟩ = some (.int .i64 n31) ∧
  ifb (n30 == n31)
  (∃ n32 : Int, w21.cell? ⟨b18, 4, none⟩ = some (.int .i64 n32) ∧
  ifb (n32 == (-1 : Int))
  (R (.bool true) w21)
  (∃ n33 : Int, w21.cell? ⟨b18, 4, none⟩ = some (.int .i64 n33) ∧
  ∃ n34 : Int, w21.cell? ⟨b20, 4, none⟩ = some (.int .i64 n34) ∧
  R (.bool (n33 == n34)) w21))
  (R (.bool false) w21))))
def V.dispatcherref14_Fits_ann : Ann := .no
theorem V.dispatcherref14_Fits_eq (s1 : ByteArray) (n2 : Int) (n3 : Int) (n4 : Int) (n5 : Int) (n6 : Int) (t7 : Bool) (n8 : Int) (n9 : Int) (s10 : ByteArray) (n11 : Int) (n12 : Int) (n13 : Int) (n14 : Int) (n15 : Int) (n16 : Int) (t17 : Bool) (w : World) (R : Value → World → Prop) : V.dispatcherref14_Fits s1 n2 n3 n4 n5 n6 t7 n8 n9 s10 n11 n12 n13 n14 n15 n16 t17 w R = fnW Try.prog [] [.tmp 4] (bodyOf Try.f29) V.dispatcherref14_Fits_ann [.agg #[.string s1, .int .i64 n2, .int .i64 n3, .int .i64 n4, .int .i64 n5, .int .i64 n6, .bool t7, .int .i64 n8, .int .i64 n9], .agg #[.string s10, .int .i64 n11, .int .i64 n12, .int .i64 n13, .int .i64 n14, .int .i64 n15, .int .i64 n16, .bool t17]] w R := by kernel_rfl
theorem V.dispatcherref14_Fits_ok : okC 39 (bodyOf Try.f29) V.dispatcherref14_Fits_ann = true := by kernel_rfl
theorem V.dispatcherref14_Fits_cs : (calleesC (bodyOf Try.f29)).all (entersB Try.prog) = true := by kernel_rfl
theorem V.dispatcherref14_Fits_calls {s1 : ByteArray} {n2 : Int} {n3 : Int} {n4 : Int} {n5 : Int} {n6 : Int} {t7 : Bool} {n8 : Int} {n9 : Int} {s10 : ByteArray} {n11 : Int} {n12 : Int} {n13 : Int} {n14 : Int} {n15 : Int} {n16 : Int} {t17 : Bool}  {w : World} {R : Value → World → Prop} (h : V.dispatcherref14_Fits s1 n2 n3 n4 n5 n6 t7 n8 n9 s10 n11 n12 n13 n14 n15 n16 t17 w R) : Calls Try.prog 29 #[.agg #[.string s1, .int .i64 n2, .int .i64 n3, .int .i64 n4, .int .i64 n5, .int .i64 n6, .bool t7, .int .i64 n8, .int .i64 n9], .agg #[.string s10, .int .i64 n11, .int .i64 n12, .int .i64 n13, .int .i64 n14, .int .i64 n15, .int .i64 n16, .bool t17]] w fun e w' => ∃ v, e = .returned v ∧ R v w' :=
  fn_sound (by kernel_rfl) Try.func29 (by kernel_rfl) V.dispatcherref14_Fits_ok (enters_all V.dispatcherref14_Fits_cs) (by kernel_rfl) ((V.dispatcherref14_Fits_eq s1 n2 n3 n4 n5 n6 t7 n8 n9 s10 n11 n12 n13 n14 n15 n16 t17 w R).mp h)

def V.posted_New  (w : World) (R : Value → World → Prop) : Prop :=
  ∀ (b1 : Nat) (w2 : World), New w w2 b1 [.bool true, .slice none 0 0, .slice none 0 0, .slice none 0 0, .slice none 0 0, .slice none 0 0, .slice none 0 0, .slice none 0 0, .slice none 0 0, .slice none 0 0, .slice none 0 0, .slice none 0 0, .slice none 0 0, .slice none 0 0, .slice none 0 0, .slice none 0 0, .slice none 0 0, .slice none 0 0, .slice none 0 0, .slice none 0 0, .slice none 0 0, .slice none 0 0, .slice none 0 0, .slice none 0 0, .slice none 0 0, .slice none 0 0, .slice none 0 0, .slice none 0 0, .slice none 0 0, .slice none 0 0, .slice none 0 0, .slice none 0 0, .slice none 0 0, .slice none 0 0, .slice none 0 0, .slice none 0 0, .slice none 0 0, .slice none 0 0, .slice none 0 0, .slice none 0 0, .slice none 0 0, .slice none 0 0, .slice none 0 0, .slice none 0 0, .slice none 0 0, .slice none 0 0, .slice none 0 0, .slice none 0 0, .slice none 0 0, .slice none 0 0, .slice none 0 0, .slice none 0 0, .slice none 0 0, .slice none 0 0, .slice none 0 0, .slice none 0 0, .slice none 0 0, .slice none 0 0, .slice none 0 0, .slice none 0 0, .slice none 0 0, .slice none 0 0, .slice none 0 0, .slice none 0 0, .slice none 0 0] 111 →
  R (.pointer (some ⟨b1, 0, none⟩)) w2
def V.posted_New_ann : Ann := .no
theorem V.posted_New_eq  (w : World) (R : Value → World → Prop) : V.posted_New  w R = fnW Try.prog [] [.tmp 0] (bodyOf Try.f40) V.posted_New_ann [] w R := by kernel_rfl
theorem V.posted_New_ok : okC 3 (bodyOf Try.f40) V.posted_New_ann = true := by kernel_rfl
theorem V.posted_New_cs : (calleesC (bodyOf Try.f40)).all (entersB Try.prog) = true := by kernel_rfl
theorem V.posted_New_calls  {w : World} {R : Value → World → Prop} (h : V.posted_New  w R) : Calls Try.prog 40 #[] w fun e w' => ∃ v, e = .returned v ∧ R v w' :=
  fn_sound (by kernel_rfl) Try.func40 (by kernel_rfl) V.posted_New_ok (enters_all V.posted_New_cs) (by kernel_rfl) ((V.posted_New_eq  w R).mp h)

def V.dispatcherref13_Queue_Send (p1 : Option Addr) (s2 : ByteArray) (n3 : Int) (n4 : Int) (n5 : Int) (n6 : Int) (n7 : Int) (n8 : Int) (t9 : Bool) (w : World) (R : Value → World → Prop) : Prop :=
  ∀ (b10 : Nat) (w11 : World), New w w11 b10 [.string s2, .int .i64 n3, .int .i64 n4, .int .i64 n5, .int .i64 n6, .int .i64 n7, .int .i64 n8, .bool t9] 28 →
  ∃ n12 : Int, w11.cell? ⟨b10, 1, none⟩ = some (.int .i64 n12) ∧
  ifb (decide (n12 < (0 : Int)))
  (R (.int .i64 2) w11)
  (∃ n13 : Int, w11.cell? ⟨b10, 1, none⟩ = some (.int .i64 n13) ∧
  ifb (decide (n13 > (63 : Int)))
  (R (.int .i64 2) w11)
  (∃ n14 : Int, w11.cell? ⟨b10, 2, none⟩ = some (.int .i64 n14) ∧
  ifb (decide (n14 < (0 : Int)))
  (R (.int .i64 2) w11)
  (∃ n15 : Int, w11.cell? ⟨b10, 2, none⟩ = some (.int .i64 n15) ∧
  ifb (decide (n15 > (63 : Int)))
  (R (.int .i64 2) w11)
  (∃ n16 : Int, w11.cell? ⟨b10, 3, none⟩ = some (.int .i64 n16) ∧
  ifb (decide (n16 < (0 : Int)))
  (R (.int .i64 2) w11)
  (∃ n17 : Int, w11.cell? ⟨b10, 4, none⟩ = some (.int .i64 n17) ∧
  ifb (decide (n17 < (0 : Int)))
  (R (.int .i64 2) w11)
  (∃ n18 : Int, w11.cell? ⟨b10, 4, none⟩ = some (.int .i64 n18) ∧
  ifb (decide (n18 > (32767 : Int)))
  (R (.int .i64 2) w11)
  (∃ n19 : Int, w11.cell? ⟨b10, 6, none⟩ = some (.int .i64 n19) ∧
  ifb (decide (n19 < (1 : Int)))
  (R (.int .i64 2) w11)
  (∃ n20 : Int, w11.cell? ⟨b10, 6, none⟩ = some (.int .i64 n20) ∧
  ifb (decide (n20 > (64 : Int)))
  (R (.int .i64 2) w11)
  (∃ t21 : Bool, w11.cell? ⟨b10, 7, none⟩ = some (.bool t21) ∧
  ifb t21
  (R (.int .i64 2) w11)
  (∃ n22 : Int, w11.cell? ⟨b10, 1, none⟩ = some (.int .i64 n22) ∧
  ∃ n23 : Int, w11.cell? ⟨b10, 3, none⟩ = some (.int .i64 n23) ∧
  Calls Try.prog 64 #[.pointer p1, .int .i64 n22, .int .i64 n23] w11 fun e w24 => ∃ n25 : Int, e = .returned (.int .i64 n25) ∧
  ifb (decide (n25 ≥ (0 : Int)))
  (R (.int .i64 2) w24)
  (nilC p1 fun b26 o26 =>
  ∃ A27 : Option Addr, ∃ N27 : Nat, ∃ C27 : Nat, w24.drew.cell? ⟨b26, o26, none⟩ = some (.slice A27 N27 C27) ∧
  ∃ s28 : ByteArray, ∃ n29 : Int, ∃ n30 : Int, ∃ n31 : Int, ∃ n32 : Int, ∃ n33 : Int, ∃ n34 : Int, ∃ t35 : Bool, Cells w24.drew ⟨b10, 0, none⟩ [.string s28, .int .i64 n29, .int .i64 n30, .int .i64 n31, .int .i64 n32, .int .i64 n33, .int .i64 n34, .bool t35] ∧
  ∀ (b36 : Nat) (w37 : World), New w24.drew w37 b36 [.string s28, .int .i64 n29, .int .i64 n30, .int .i64 n31, .int .i64 n32, .int .i64 n33, .int .i64 n34, .bool t35] 28 →
  (w37.cell? ⟨b26, o26, none⟩ = some (.slice A27 N27 C27)) ∧ ∃ xs38 news39 : List Value, w37.ownsRow 0 28 8 (.slice A27 N27 C27) N27 xs38 ∧ Reads w37 (some ⟨b36, 0, none⟩) 1 8 news39 ∧ N27 + 1 ≤ maxLen ∧ (N27 + 1) * 72 ≤ 140737488355328 ∧
  ∀ (A41 : Option Addr) (C41 : Nat) (w40 : World), w40.ownsRow 0 28 8 (.slice A41 (N27 + 1) C41) (N27 + 1) (xs38 ++ news39) → App w37 w40 A27 A41 →
  nilC p1 fun b42 o42 =>
  ∃ (l43 : List Value) (e44 : TypeId), Blk w40 b42 l43 e44 ∧ o42 + 1 ≤ l43.length ∧ ∀ w45 : World, Upd w40 w45 b42 (l43.set o42 (.slice A41 (N27 + 1) C41)) e44 →
  R (.int .i64 0) w45)))))))))))
def V.dispatcherref13_Queue_Send_ann : Ann := .s (.no) (.s (.no) (.s (.draw (.r 0 (.r 1 (.r 2 (.r 3 (.r 4 (.r 5 (.e 6 [5] (.e 7 [4, 5] (.r 8 (.r 9 (.e 10 [4, 5] (.done)))))))))))) [(6, 5), (7, 4), (7, 5), (10, 4), (10, 5)]) (.no)))
theorem V.dispatcherref13_Queue_Send_eq (p1 : Option Addr) (s2 : ByteArray) (n3 : Int) (n4 : Int) (n5 : Int) (n6 : Int) (n7 : Int) (n8 : Int) (t9 : Bool) (w : World) (R : Value → World → Prop) : V.dispatcherref13_Queue_Send p1 s2 n3 n4 n5 n6 n7 n8 t9 w R = fnW Try.prog [] [.tmp 4] (bodyOf Try.f41) V.dispatcherref13_Queue_Send_ann [.pointer p1, .agg #[.string s2, .int .i64 n3, .int .i64 n4, .int .i64 n5, .int .i64 n6, .int .i64 n7, .int .i64 n8, .bool t9]] w R := by kernel_rfl
theorem V.dispatcherref13_Queue_Send_ok : okC 71 (bodyOf Try.f41) V.dispatcherref13_Queue_Send_ann = true := by kernel_rfl
theorem V.dispatcherref13_Queue_Send_cs : (calleesC (bodyOf Try.f41)).all (entersB Try.prog) = true := by kernel_rfl
theorem V.dispatcherref13_Queue_Send_calls {p1 : Option Addr} {s2 : ByteArray} {n3 : Int} {n4 : Int} {n5 : Int} {n6 : Int} {n7 : Int} {n8 : Int} {t9 : Bool}  {w : World} {R : Value → World → Prop} (h : V.dispatcherref13_Queue_Send p1 s2 n3 n4 n5 n6 n7 n8 t9 w R) : Calls Try.prog 41 #[.pointer p1, .agg #[.string s2, .int .i64 n3, .int .i64 n4, .int .i64 n5, .int .i64 n6, .int .i64 n7, .int .i64 n8, .bool t9]] w fun e w' => ∃ v, e = .returned v ∧ R v w' :=
  fn_sound (by kernel_rfl) Try.func41 (by kernel_rfl) V.dispatcherref13_Queue_Send_ok (enters_all V.dispatcherref13_Queue_Send_cs) (by kernel_rfl) ((V.dispatcherref13_Queue_Send_eq p1 s2 n3 n4 n5 n6 n7 n8 t9 w R).mp h)

def V.posted_Posted_Post (p1 : Option Addr) (s2 : ByteArray) (n3 : Int) (n4 : Int) (n5 : Int) (n6 : Int) (n7 : Int) (t8 : Bool) (n9 : Int) (n10 : Int) (w : World) (R : Value → World → Prop) : Prop :=
  ∀ (b11 : Nat) (w12 : World), New w w12 b11 [.string s2, .int .i64 n3, .int .i64 n4, .int .i64 n5, .int .i64 n6, .int .i64 n7, .bool t8, .int .i64 n9, .int .i64 n10] 57 →
  ifb p1.isNone
  (R (.int .i64 1) w12)
  (nilC p1 fun b13 o13 =>
  ∃ t14 : Bool, w12.cell? ⟨b13, o13, none⟩ = some (.bool t14) ∧
  ifb (!t14)
  (R (.int .i64 1) w12)
  (∃ n15 : Int, w12.cell? ⟨b11, 1, none⟩ = some (.int .i64 n15) ∧
  Calls Try.prog 51 #[.pointer p1, .int .i64 n15] w12 fun e w16 => ∃ A17 : Option Addr, ∃ N17 : Nat, ∃ C17 : Nat, e = .returned (.slice A17 N17 C17) ∧
  ∃ n18 : Int, w16.drew.cell? ⟨b11, 1, none⟩ = some (.int .i64 n18) ∧
  Calls Try.prog 65 #[.int .i64 n18, .int .i64 0, .int .i64 63] w16.drew fun e w19 => ∃ t20 : Bool, e = .returned (.bool t20) ∧
  ifb (!t20)
  (R (.int .i64 2) w19)
  (∃ n21 : Int, w19.cell? ⟨b11, 3, none⟩ = some (.int .i64 n21) ∧
  Calls Try.prog 65 #[.int .i64 n21, .int .i64 (-1), .int .i64 63] w19 fun e w22 => ∃ t23 : Bool, e = .returned (.bool t23) ∧
  ifb (!t23)
  (R (.int .i64 2) w22)
  (∃ n24 : Int, w22.cell? ⟨b11, 4, none⟩ = some (.int .i64 n24) ∧
  Calls Try.prog 65 #[.int .i64 n24, .int .i64 (-1), .int .i64 32767] w22 fun e w25 => ∃ t26 : Bool, e = .returned (.bool t26) ∧
  ifb (!t26)
  (R (.int .i64 2) w25)
  (∃ n27 : Int, w25.cell? ⟨b11, 5, none⟩ = some (.int .i64 n27) ∧
  ifb (decide (n27 < (-1 : Int)))
  (R (.int .i64 2) w25)
  (∃ n28 : Int, w25.cell? ⟨b11, 2, none⟩ = some (.int .i64 n28) ∧
  ifb (decide (n28 < (0 : Int)))
  (R (.int .i64 2) w25)
  (ifb (decide (((N17 : Nat) : Int) > (0 : Int)))
  (∃ n29 : Int, w25.cell? ⟨b11, 2, none⟩ = some (.int .i64 n29) ∧
  ∃ c30 : Int, IntKind.wrap .i64 (((N17 : Nat) : Int) - (1 : Int)) = c30 ∧
  0 ≤ c30 ∧ c30 < ((N17 : Nat) : Int) ∧ ∃ b31 o32 : Nat, (A17 : Option Addr) = some ⟨b31, o32, none⟩ ∧
  ∃ n33 : Int, w25.cell? ⟨b31, o32 + c30.toNat * 9 + 2, none⟩ = some (.int .i64 n33) ∧
  ifb (decide (n29 ≤ n33))
  (R (.int .i64 2) w25)
  (∃ (l34 : List Value) (e35 : TypeId), Blk w25 b11 l34 e35 ∧ 6 + 1 ≤ l34.length ∧ ∀ w36 : World, Upd w25 w36 b11 (l34.set 6 (.bool false)) e35 →
  ∃ (l37 : List Value) (e38 : TypeId), Blk w36 b11 l37 e38 ∧ 7 + 1 ≤ l37.length ∧ ∀ w39 : World, Upd w36 w39 b11 (l37.set 7 (.int .i64 0)) e38 →
  ∃ (l40 : List Value) (e41 : TypeId), Blk w39 b11 l40 e41 ∧ 8 + 1 ≤ l40.length ∧ ∀ w42 : World, Upd w39 w42 b11 (l40.set 8 (.int .i64 0)) e41 →
  ∃ n43 : Int, w42.drew.cell? ⟨b11, 1, none⟩ = some (.int .i64 n43) ∧
  ∃ s44 : ByteArray, ∃ n45 : Int, ∃ n46 : Int, ∃ n47 : Int, ∃ n48 : Int, ∃ n49 : Int, ∃ t50 : Bool, ∃ n51 : Int, ∃ n52 : Int, Cells w42.drew ⟨b11, 0, none⟩ [.string s44, .int .i64 n45, .int .i64 n46, .int .i64 n47, .int .i64 n48, .int .i64 n49, .bool t50, .int .i64 n51, .int .i64 n52] ∧
  nilC p1 fun b53 o53 =>
  ∀ (b54 : Nat) (w55 : World), New w42.drew w55 b54 [.string s44, .int .i64 n45, .int .i64 n46, .int .i64 n47, .int .i64 n48, .int .i64 n49, .bool t50, .int .i64 n51, .int .i64 n52] 57 →
  (w55.cell? ⟨b11, 1, none⟩ = some (.int .i64 n43)) ∧ ∃ xs56 news57 : List Value, w55.ownsRow 0 57 9 (.slice A17 N17 C17) N17 xs56 ∧ Reads w55 (some ⟨b54, 0, none⟩) 1 9 news57 ∧ N17 + 1 ≤ maxLen ∧ (N17 + 1) * 80 ≤ 140737488355328 ∧
  ∀ (A59 : Option Addr) (C59 : Nat) (w58 : World), w58.ownsRow 0 57 9 (.slice A59 (N17 + 1) C59) (N17 + 1) (xs56 ++ news57) → App w55 w58 A17 A59 →
  (w58.cell? ⟨b11, 1, none⟩ = some (.int .i64 n43)) ∧ 0 ≤ n43 ∧ n43 < ((64 : Nat) : Int) ∧ ∃ b60 o61 : Nat, (some ⟨b53, o53 + 1, none⟩ : Option Addr) = some ⟨b60, o61, none⟩ ∧
  ∃ (l62 : List Value) (e63 : TypeId), Blk w58 b60 l62 e63 ∧ o61 + n43.toNat * 1 + 1 ≤ l62.length ∧ ∀ w64 : World, Upd w58 w64 b60 (l62.set (o61 + n43.toNat * 1) (.slice A59 (N17 + 1) C59)) e63 →
  R (.int .i64 0) w64))
  (∃ (l65 : List Value) (e66 : TypeId), Blk w25 b11 l65 e66 ∧ 6 + 1 ≤ l65.length ∧ ∀ w67 : World, Upd w25 w67 b11 (l65.set 6 (.bool false)) e66 →
  ∃ (l68 : List Value) (e69 : TypeId), Blk w67 b11 l68 e69 ∧ 7 + 1 ≤ l68.length ∧ ∀ w70 : World, Upd w67 w70 b11 (l68.set 7 (.int .i64 0)) e69 →
  ∃ (l71 : List Value) (e72 : TypeId), Blk w70 b11 l71 e72 ∧ 8 + 1 ≤ l71.length ∧ ∀ w73 : World, Upd w70 w73 b11 (l71.set 8 (.int .i64 0)) e72 →
  ∃ n74 : Int, w73.drew.cell? ⟨b11, 1, none⟩ = some (.int .i64 n74) ∧
  ∃ s75 : ByteArray, ∃ n76 : Int, ∃ n77 : Int, ∃ n78 : Int, ∃ n79 : Int, ∃ n80 : Int, ∃ t81 : Bool, ∃ n82 : Int, ∃ n83 : Int, Cells w73.drew ⟨b11, 0, none⟩ [.string s75, .int .i64 n76, .int .i64 n77, .int .i64 n78, .int .i64 n79, .int .i64 n80, .bool t81, .int .i64 n82, .int .i64 n83] ∧
  nilC p1 fun b84 o84 =>
  ∀ (b85 : Nat) (w86 : World), New w73.drew w86 b85 [.string s75, .int .i64 n76, .int .i64 n77, .int .i64 n78, .int .i64 n79, .int .i64 n80, .bool t81, .int .i64 n82, .int .i64 n83] 57 →
  (w86.cell? ⟨b11, 1, none⟩ = some (.int .i64 n74)) ∧ ∃ xs87 news88 : List Value, w86.ownsRow 0 57 9 (.slice A17 N17 C17) N17 xs87 ∧ Reads w86 (some ⟨b85, 0, none⟩) 1 9 news88 ∧ N17 + 1 ≤ maxLen ∧ (N17 + 1) * 80 ≤ 140737488355328 ∧
  ∀ (A90 : Option Addr) (C90 : Nat) (w89 : World), w89.ownsRow 0 57 9 (.slice A90 (N17 + 1) C90) (N17 + 1) (xs87 ++ news88) → App w86 w89 A17 A90 →
  (w89.cell? ⟨b11, 1, none⟩ = some (.int .i64 n74)) ∧ 0 ≤ n74 ∧ n74 < ((64 : Nat) : Int) ∧ ∃ b91 o92 : Nat, (some ⟨b84, o84 + 1, none⟩ : Option Addr) = some ⟨b91, o92, none⟩ ∧
  ∃ (l93 : List Value) (e94 : TypeId), Blk w89 b91 l93 e94 ∧ o92 + n74.toNat * 1 + 1 ≤ l93.length ∧ ∀ w95 : World, Upd w89 w95 b91 (l93.set (o92 + n74.toNat * 1) (.slice A90 (N17 + 1) C90)) e94 →
  R (.int .i64 0) w95))))))))
def V.posted_Posted_Post_ann : Ann := .s (.no) (.s (.no) (.s (.no) (.s (.s (.draw (.r 0 (.r 1 (.e 2 [1] (.r 3 (.r 4 (.r 5 (.r 6 (.e 7 [1, 6] (.r 8 (.r 9 (.r 10 (.r 11 (.r 12 (.e 13 [1, 6, 12] (.r 14 (.r 15 (.r 16 (.r 17 (.r 18 (.r 19 (.r 20 (.r 21 (.r 22 (.r 23 (.r 24 (.r 25 (.r 26 (.r 27 (.r 28 (.r 29 (.r 30 (.r 31 (.r 32 (.r 33 (.r 34 (.r 35 (.r 36 (.r 37 (.r 38 (.r 39 (.r 40 (.r 41 (.r 42 (.done)))))))))))))))))))))))))))))))))))))))))))) [(2, 1), (4, 1), (7, 1), (7, 6), (10, 1), (10, 6), (13, 1), (13, 6), (13, 12)]) (.no)) (.s (.no) (.s (.draw (.r 0 (.r 1 (.r 2 (.r 3 (.r 4 (.r 7 (.r 8 (.e 5 [4] (.e 6 [4] (.r 9 (.e 10 [2, 4] (.done)))))))))))) [(5, 4), (6, 4), (10, 2), (10, 4)]) (.no))))))
theorem V.posted_Posted_Post_eq (p1 : Option Addr) (s2 : ByteArray) (n3 : Int) (n4 : Int) (n5 : Int) (n6 : Int) (n7 : Int) (t8 : Bool) (n9 : Int) (n10 : Int) (w : World) (R : Value → World → Prop) : V.posted_Posted_Post p1 s2 n3 n4 n5 n6 n7 t8 n9 n10 w R = fnW Try.prog [] [.tmp 4] (bodyOf Try.f42) V.posted_Posted_Post_ann [.pointer p1, .agg #[.string s2, .int .i64 n3, .int .i64 n4, .int .i64 n5, .int .i64 n6, .int .i64 n7, .bool t8, .int .i64 n9, .int .i64 n10]] w R := by kernel_rfl
theorem V.posted_Posted_Post_ok : okC 75 (bodyOf Try.f42) V.posted_Posted_Post_ann = true := by kernel_rfl
theorem V.posted_Posted_Post_cs : (calleesC (bodyOf Try.f42)).all (entersB Try.prog) = true := by kernel_rfl
theorem V.posted_Posted_Post_calls {p1 : Option Addr} {s2 : ByteArray} {n3 : Int} {n4 : Int} {n5 : Int} {n6 : Int} {n7 : Int} {t8 : Bool} {n9 : Int} {n10 : Int}  {w : World} {R : Value → World → Prop} (h : V.posted_Posted_Post p1 s2 n3 n4 n5 n6 n7 t8 n9 n10 w R) : Calls Try.prog 42 #[.pointer p1, .agg #[.string s2, .int .i64 n3, .int .i64 n4, .int .i64 n5, .int .i64 n6, .int .i64 n7, .bool t8, .int .i64 n9, .int .i64 n10]] w fun e w' => ∃ v, e = .returned v ∧ R v w' :=
  fn_sound (by kernel_rfl) Try.func42 (by kernel_rfl) V.posted_Posted_Post_ok (enters_all V.posted_Posted_Post_cs) (by kernel_rfl) ((V.posted_Posted_Post_eq p1 s2 n3 n4 n5 n6 n7 t8 n9 n10 w R).mp h)

def V.dispatcherref14_Posted_Post (p1 : Option Addr) (s2 : ByteArray) (n3 : Int) (n4 : Int) (n5 : Int) (n6 : Int) (n7 : Int) (t8 : Bool) (n9 : Int) (n10 : Int) (w : World) (R : Value → World → Prop) : Prop :=
  ∀ (b11 : Nat) (w12 : World), New w w12 b11 [.string s2, .int .i64 n3, .int .i64 n4, .int .i64 n5, .int .i64 n6, .int .i64 n7, .bool t8, .int .i64 n9, .int .i64 n10] 57 →
  ∃ n13 : Int, w12.cell? ⟨b11, 1, none⟩ = some (.int .i64 n13) ∧
  ifb (decide (n13 < (0 : Int)))
  (R (.int .i64 2) w12)
  (∃ n14 : Int, w12.cell? ⟨b11, 1, none⟩ = some (.int .i64 n14) ∧
  ifb (decide (n14 > (63 : Int)))
  (R (.int .i64 2) w12)
  (∃ n15 : Int, w12.cell? ⟨b11, 3, none⟩ = some (.int .i64 n15) ∧
  ifb (decide (n15 < (-1 : Int)))
  (R (.int .i64 2) w12)
  (∃ n16 : Int, w12.cell? ⟨b11, 3, none⟩ = some (.int .i64 n16) ∧
  ifb (decide (n16 > (63 : Int)))
  (R (.int .i64 2) w12)
  (∃ n17 : Int, w12.cell? ⟨b11, 4, none⟩ = some (.int .i64 n17) ∧
  ifb (decide (n17 < (-1 : Int)))
  (R (.int .i64 2) w12)
  (∃ n18 : Int, w12.cell? ⟨b11, 4, none⟩ = some (.int .i64 n18) ∧
  ifb (decide (n18 > (32767 : Int)))
  (R (.int .i64 2) w12)
  (∃ n19 : Int, w12.cell? ⟨b11, 5, none⟩ = some (.int .i64 n19) ∧
  ifb (decide (n19 < (-1 : Int)))
  (R (.int .i64 2) w12)
  (∃ n20 : Int, w12.cell? ⟨b11, 2, none⟩ = some (.int .i64 n20) ∧
  ifb (decide (n20 < (0 : Int)))
  (R (.int .i64 2) w12)
  (∃ (I21 : Int → World → Prop) (μ22 : Int → World → Nat),
  I21 (0 : Int) w12 ∧
  ∀ n25 : Int, ∀ (jk24 : Env) (w23 : World), I21 n25 w23 →
  nilC p1 fun b26 o26 =>
  ∃ A27 : Option Addr, ∃ N27 : Nat, ∃ C27 : Nat, w23.cell? ⟨b26, o26, none⟩ = some (.slice A27 N27 C27) ∧
  ifb (decide (n25 < ((N27 : Nat) : Int)))
  (nilC p1 fun b28 o28 =>
  ∃ A29 : Option Addr, ∃ N29 : Nat, ∃ C29 : Nat, w23.drew.cell? ⟨b28, o28, none⟩ = some (.slice A29 N29 C29) ∧
  0 ≤ n25 ∧ n25 < ((N29 : Nat) : Int) ∧ ∃ b30 o31 : Nat, (A29 : Option Addr) = some ⟨b30, o31, none⟩ ∧
  ∃ n32 : Int, w23.drew.cell? ⟨b30, o31 + n25.toNat * 9 + 1, none⟩ = some (.int .i64 n32) ∧
  ∃ n33 : Int, w23.drew.cell? ⟨b11, 1, none⟩ = some (.int .i64 n33) ∧
  ifb (n32 == n33)
  (nilC p1 fun b34 o34 =>
  ∃ A35 : Option Addr, ∃ N35 : Nat, ∃ C35 : Nat, w23.drew.cell? ⟨b34, o34, none⟩ = some (.slice A35 N35 C35) ∧
  0 ≤ n25 ∧ n25 < ((N35 : Nat) : Int) ∧ ∃ b36 o37 : Nat, (A35 : Option Addr) = some ⟨b36, o37, none⟩ ∧
  ∃ n38 : Int, w23.drew.cell? ⟨b36, o37 + n25.toNat * 9 + 2, none⟩ = some (.int .i64 n38) ∧
  ∃ n39 : Int, w23.drew.cell? ⟨b11, 2, none⟩ = some (.int .i64 n39) ∧
  ifb (decide (n38 ≥ n39))
  (R (.int .i64 2) w23.drew)
  (∃ c40 : Int, IntKind.wrap .i64 (n25 + (1 : Int)) = c40 ∧
  I21 c40 w23.drew ∧ μ22 c40 w23.drew < μ22 n25 w23))
  (∃ c41 : Int, IntKind.wrap .i64 (n25 + (1 : Int)) = c41 ∧
  I21 c41 w23.drew ∧ μ22 c41 w23.drew < μ22 n25 w23))
  (nilC p1 fun b42 o42 =>
  ∃ A43 : Option Addr, ∃ N43 : Nat, ∃ C43 : Nat, w23.drew.cell? ⟨b42, o42, none⟩ = some (.slice A43 N43 C43) ∧
  ∃ s44 : ByteArray, w23.drew.cell? ⟨b11, 0, none⟩ = some (.string s44) ∧
  ∃ n45 : Int, w23.drew.cell? ⟨b11, 1, none⟩ = some (.int .i64 n45) ∧
  ∃ n46 : Int, w23.drew.cell? ⟨b11, 2, none⟩ = some (.int .i64 n46) ∧
  ∃ n47 : Int, w23.drew.cell? ⟨b11, 3, none⟩ = some (.int .i64 n47) ∧
  ∃ n48 : Int, w23.drew.cell? ⟨b11, 4, none⟩ = some (.int .i64 n48) ∧
  ∃ n49 : Int, w23.drew.cell? ⟨b11, 5, none⟩ = some (.int .i64 n49) ∧
  ∀ (b50 : Nat) (w51 : World), New w23.drew w51 b50 [.string s44, .int .i64 n45, .int .i64 n46, .int .i64 n47, .int .i64 n48, .int .i64 n49, .bool false, .int .i64 0, .int .i64 0] 57 →
  (w51.cell? ⟨b42, o42, none⟩ = some (.slice A43 N43 C43)) ∧ ∃ xs52 news53 : List Value, w51.ownsRow 0 57 9 (.slice A43 N43 C43) N43 xs52 ∧ Reads w51 (some ⟨b50, 0, none⟩) 1 9 news53 ∧ N43 + 1 ≤ maxLen ∧ (N43 + 1) * 80 ≤ 140737488355328 ∧
  ∀ (A55 : Option Addr) (C55 : Nat) (w54 : World), w54.ownsRow 0 57 9 (.slice A55 (N43 + 1) C55) (N43 + 1) (xs52 ++ news53) → App w51 w54 A43 A55 →
  nilC p1 fun b56 o56 =>
  ∃ (l57 : List Value) (e58 : TypeId), Blk w54 b56 l57 e58 ∧ o56 + 1 ≤ l57.length ∧ ∀ w59 : World, Upd w54 w59 b56 (l57.set o56 (.slice A55 (N43 + 1) C55)) e58 →
  R (.int .i64 0) w59)))))))))
def V.dispatcherref14_Posted_Post_ann : Ann := .s (.no) (.s (.no) (.s (.s (.no) (.b (.loop [(5, .one (.i .i64))] (.s (.no) (.s (.b (.s (.draw (.r 0 (.r 1 (.r 2 (.r 3 (.r 4 (.r 5 (.r 6 (.r 7 (.r 8 (.r 9 (.r 10 (.r 11 (.r 12 (.r 13 (.r 14 (.r 15 (.r 16 (.r 17 (.r 18 (.r 19 (.r 20 (.r 21 (.r 22 (.r 23 (.done))))))))))))))))))))))))) []) (.no))) (.no)))))) (.s (.draw (.r 0 (.r 1 (.r 2 (.r 3 (.r 4 (.r 5 (.r 6 (.r 7 (.r 8 (.r 9 (.r 10 (.r 11 (.r 12 (.r 13 (.r 14 (.r 15 (.r 16 (.r 17 (.e 18 [6, 8, 10, 12, 14, 16] (.e 19 [4, 6, 8, 10, 12, 14, 16] (.r 20 (.r 21 (.e 22 [4, 6, 8, 10, 12, 14, 16] (.done)))))))))))))))))))))))) [(17, 6), (17, 8), (17, 10), (17, 12), (17, 14), (17, 16), (18, 6), (18, 8), (18, 10), (18, 12), (18, 14), (18, 16), (19, 4), (19, 6), (19, 8), (19, 10), (19, 12), (19, 14), (19, 16), (22, 4), (22, 6), (22, 8), (22, 10), (22, 12), (22, 14), (22, 16)]) (.no))))
theorem V.dispatcherref14_Posted_Post_eq (p1 : Option Addr) (s2 : ByteArray) (n3 : Int) (n4 : Int) (n5 : Int) (n6 : Int) (n7 : Int) (t8 : Bool) (n9 : Int) (n10 : Int) (w : World) (R : Value → World → Prop) : V.dispatcherref14_Posted_Post p1 s2 n3 n4 n5 n6 n7 t8 n9 n10 w R = fnW Try.prog [] [.tmp 4] (bodyOf Try.f43) V.dispatcherref14_Posted_Post_ann [.pointer p1, .agg #[.string s2, .int .i64 n3, .int .i64 n4, .int .i64 n5, .int .i64 n6, .int .i64 n7, .bool t8, .int .i64 n9, .int .i64 n10]] w R := by kernel_rfl
theorem V.dispatcherref14_Posted_Post_ok : okC 99 (bodyOf Try.f43) V.dispatcherref14_Posted_Post_ann = true := by kernel_rfl
theorem V.dispatcherref14_Posted_Post_cs : (calleesC (bodyOf Try.f43)).all (entersB Try.prog) = true := by kernel_rfl
theorem V.dispatcherref14_Posted_Post_calls {p1 : Option Addr} {s2 : ByteArray} {n3 : Int} {n4 : Int} {n5 : Int} {n6 : Int} {n7 : Int} {t8 : Bool} {n9 : Int} {n10 : Int}  {w : World} {R : Value → World → Prop} (h : V.dispatcherref14_Posted_Post p1 s2 n3 n4 n5 n6 n7 t8 n9 n10 w R) : Calls Try.prog 43 #[.pointer p1, .agg #[.string s2, .int .i64 n3, .int .i64 n4, .int .i64 n5, .int .i64 n6, .int .i64 n7, .bool t8, .int .i64 n9, .int .i64 n10]] w fun e w' => ∃ v, e = .returned v ∧ R v w' :=
  fn_sound (by kernel_rfl) Try.func43 (by kernel_rfl) V.dispatcherref14_Posted_Post_ok (enters_all V.dispatcherref14_Posted_Post_cs) (by kernel_rfl) ((V.dispatcherref14_Posted_Post_eq p1 s2 n3 n4 n5 n6 n7 t8 n9 n10 w R).mp h)

def V.posted_Posted_Match (p1 : Option Addr) (p2 : Option Addr) (n3 : Int) (n4 : Int) (n5 : Int) (n6 : Int) (w : World) (R : Value → World → Prop) : Prop :=
  ∀ (b7 : Nat) (w8 : World), New w w8 b7 [.int .i64 n5] 3 →
  ∀ (b9 : Nat) (w10 : World), New w8 w10 b9 [.int .i64 n6] 3 →
  ifb p1.isNone
  (R (.int .i64 1) w10)
  (nilC p1 fun b11 o11 =>
  ∃ t12 : Bool, w10.cell? ⟨b11, o11, none⟩ = some (.bool t12) ∧
  ifb (!t12)
  (R (.int .i64 1) w10)
  (Calls Try.prog 67 #[.pointer p1, .pointer p2, .int .i64 n3, .int .i64 n4] w10 fun e w13 => ∃ A14 : Option Addr, ∃ N14 : Nat, ∃ C14 : Nat, e = .returned (.slice A14 N14 C14) ∧
  Calls Try.prog 37 #[.slice A14 N14 C14, .func (.func 66) #[] #[.pointer (some ⟨b7, 0, none⟩), .pointer (some ⟨b9, 0, none⟩)]] w13 fun e w15 => ∃ t16 : Bool, e = .returned (.bool t16) ∧
  ifb (!t16)
  (R (.int .i64 2) w15)
  (∃ n17 : Int, w15.cell? ⟨b7, 0, none⟩ = some (.int .i64 n17) ∧
  ∃ n18 : Int, w15.cell? ⟨b9, 0, none⟩ = some (.int .i64 n18) ∧
  Calls Try.prog 11 #[.pointer p2, .int .i64 n17, .int .i64 n18] w15 fun e w19 => ∃ n20 : Int, e = .returned (.int .i64 n20) ∧
  ifb (n20 != (0 : Int))
  (R (.int .i64 2) w19)
  (nilC p1 fun b21 o21 =>
  0 ≤ n3 ∧ n3 < ((64 : Nat) : Int) ∧ ∃ b22 o23 : Nat, (some ⟨b21, o21 + 1, none⟩ : Option Addr) = some ⟨b22, o23, none⟩ ∧
  ∃ A24 : Option Addr, ∃ N24 : Nat, ∃ C24 : Nat, w19.drew.cell? ⟨b22, o23 + n3.toNat * 1, none⟩ = some (.slice A24 N24 C24) ∧
  Calls Try.prog 50 #[.pointer p1, .int .i64 n3, .int .i64 n4] w19.drew fun e w25 => ∃ n26 : Int, e = .returned (.int .i64 n26) ∧
  (w25.cell? ⟨b22, o23 + n3.toNat * 1, none⟩ = some (.slice A24 N24 C24)) ∧ 0 ≤ n26 ∧ n26 < ((N24 : Nat) : Int) ∧ ∃ b27 o28 : Nat, (A24 : Option Addr) = some ⟨b27, o28, none⟩ ∧
  ∃ n29 : Int, w25.drew.cell? ⟨b7, 0, none⟩ = some (.int .i64 n29) ∧
  ∃ n30 : Int, w25.drew.cell? ⟨b9, 0, none⟩ = some (.int .i64 n30) ∧
  ∃ (l31 : List Value) (e32 : TypeId), Blk w25.drew b27 l31 e32 ∧ o28 + n26.toNat * 9 + 6 + 1 ≤ l31.length ∧ ∀ w33 : World, Upd w25.drew w33 b27 (l31.set (o28 + n26.toNat * 9 + 6) (.bool true)) e32 →
  (w33.cell? ⟨b9, 0, none⟩ = some (.int .i64 n30)) ∧ (w33.cell? ⟨b7, 0, none⟩ = some (.int .i64 n29)) ∧ ∃ (l34 : List Value) (e35 : TypeId), Blk w33 b27 l34 e35 ∧ o28 + n26.toNat * 9 + 7 + 1 ≤ l34.length ∧ ∀ w36 : World, Upd w33 w36 b27 (l34.set (o28 + n26.toNat * 9 + 7) (.int .i64 n29)) e35 →
  (w36.cell? ⟨b9, 0, none⟩ = some (.int .i64 n30)) ∧ ∃ (l37 : List Value) (e38 : TypeId), Blk w36 b27 l37 e38 ∧ o28 + n26.toNat * 9 + 8 + 1 ≤ l37.length ∧ ∀ w39 : World, Upd w36 w39 b27 (l37.set (o28 + n26.toNat * 9 + 8) (.int .i64 n30)) e38 →
  R (.int .i64 0) w39))))
def V.posted_Posted_Match_ann : Ann := .s (.no) (.s (.no) (.s (.no) (.s (.no) (.s (.draw (.r 0 (.r 1 (.r 2 (.r 3 (.r 4 (.r 5 (.r 6 (.r 7 (.r 8 (.e 9 [] (.r 10 (.e 11 [5] (.done))))))))))))) [(11, 5)]) (.s (.draw (.r 0 (.r 1 (.r 2 (.r 3 (.r 4 (.r 5 (.r 6 (.e 7 [] (.r 8 (.r 9 (.e 10 [3] (.r 11 (.r 12 (.e 13 [3, 4] (.done))))))))))))))) [(10, 3), (13, 3), (13, 4)]) (.no))))))
theorem V.posted_Posted_Match_eq (p1 : Option Addr) (p2 : Option Addr) (n3 : Int) (n4 : Int) (n5 : Int) (n6 : Int) (w : World) (R : Value → World → Prop) : V.posted_Posted_Match p1 p2 n3 n4 n5 n6 w R = fnW Try.prog [] [.tmp 12] (bodyOf Try.f44) V.posted_Posted_Match_ann [.pointer p1, .pointer p2, .int .i64 n3, .int .i64 n4, .int .i64 n5, .int .i64 n6] w R := by kernel_rfl
theorem V.posted_Posted_Match_ok : okC 62 (bodyOf Try.f44) V.posted_Posted_Match_ann = true := by kernel_rfl
theorem V.posted_Posted_Match_cs : (calleesC (bodyOf Try.f44)).all (entersB Try.prog) = true := by kernel_rfl
theorem V.posted_Posted_Match_calls {p1 : Option Addr} {p2 : Option Addr} {n3 : Int} {n4 : Int} {n5 : Int} {n6 : Int}  {w : World} {R : Value → World → Prop} (h : V.posted_Posted_Match p1 p2 n3 n4 n5 n6 w R) : Calls Try.prog 44 #[.pointer p1, .pointer p2, .int .i64 n3, .int .i64 n4, .int .i64 n5, .int .i64 n6] w fun e w' => ∃ v, e = .returned v ∧ R v w' :=
  fn_sound (by kernel_rfl) Try.func44 (by kernel_rfl) V.posted_Posted_Match_ok (enters_all V.posted_Posted_Match_cs) (by kernel_rfl) ((V.posted_Posted_Match_eq p1 p2 n3 n4 n5 n6 w R).mp h)

def V.dispatcherref14_Posted_Match (p1 : Option Addr) (p2 : Option Addr) (n3 : Int) (n4 : Int) (n5 : Int) (n6 : Int) (w : World) (R : Value → World → Prop) : Prop :=
  Calls Try.prog 68 #[.pointer p1, .pointer p2, .int .i64 n3, .int .i64 n4] w fun e w7 => ∃ A8 : Option Addr, ∃ N8 : Nat, ∃ C8 : Nat, e = .returned (.slice A8 N8 C8) ∧
  ∃ (I9 : Int → World → Prop) (μ10 : Int → World → Nat),
  I9 (0 : Int) w7 ∧
  ∀ n13 : Int, ∀ (jk12 : Env) (w11 : World), I9 n13 w11 →
  ifb (decide (n13 < ((N8 : Nat) : Int)))
  (0 ≤ n13 ∧ n13 < ((N8 : Nat) : Int) ∧ ∃ b14 o15 : Nat, (A8 : Option Addr) = some ⟨b14, o15, none⟩ ∧
  ∃ n16 : Int, w11.cell? ⟨b14, o15 + n13.toNat * 8 + 1, none⟩ = some (.int .i64 n16) ∧
  ifb (n16 != n5)
  (∃ c17 : Int, IntKind.wrap .i64 (n13 + (1 : Int)) = c17 ∧
  I9 c17 w11 ∧ μ10 c17 w11 < μ10 n13 w11)
  (0 ≤ n13 ∧ n13 < ((N8 : Nat) : Int) ∧ ∃ b18 o19 : Nat, (A8 : Option Addr) = some ⟨b18, o19, none⟩ ∧
  ∃ n20 : Int, w11.cell? ⟨b18, o19 + n13.toNat * 8 + 3, none⟩ = some (.int .i64 n20) ∧
  ifb (n20 != n6)
  (∃ c21 : Int, IntKind.wrap .i64 (n13 + (1 : Int)) = c21 ∧
  I9 c21 w11 ∧ μ10 c21 w11 < μ10 n13 w11)
  (Calls Try.prog 69 #[.pointer p2, .int .i64 n5, .int .i64 n6] w11 fun e w22 => ∃ n23 : Int, e = .returned (.int .i64 n23) ∧
  ∃ (I24 : Int → World → Prop) (μ25 : Int → World → Nat),
  I24 (0 : Int) w22 ∧
  ∀ n28 : Int, ∀ (jk27 : Env) (w26 : World), I24 n28 w26 →
  nilC p1 fun b29 o29 =>
  ∃ A30 : Option Addr, ∃ N30 : Nat, ∃ C30 : Nat, w26.cell? ⟨b29, o29, none⟩ = some (.slice A30 N30 C30) ∧
  ifb (decide (n28 < ((N30 : Nat) : Int)))
  (∃ J31 : Bool → World → Prop,
  (nilC p1 fun b34 o34 =>
  ∃ A35 : Option Addr, ∃ N35 : Nat, ∃ C35 : Nat, w26.cell? ⟨b34, o34, none⟩ = some (.slice A35 N35 C35) ∧
  0 ≤ n28 ∧ n28 < ((N35 : Nat) : Int) ∧ ∃ b36 o37 : Nat, (A35 : Option Addr) = some ⟨b36, o37, none⟩ ∧
  ∃ n38 : Int, w26.cell? ⟨b36, o37 + n28.toNat * 9 + 1, none⟩ = some (.int .i64 n38) ∧
  ifb (n38 == n3)
  (nilC p1 fun b39 o39 =>
  ∃ A40 : Option Addr, ∃ N40 : Nat, ∃ C40 : Nat, w26.cell? ⟨b39, o39, none⟩ = some (.slice A40 N40 C40) ∧
  0 ≤ n28 ∧ n28 < ((N40 : Nat) : Int) ∧ ∃ b41 o42 : Nat, (A40 : Option Addr) = some ⟨b41, o42, none⟩ ∧
  ∃ n43 : Int, w26.cell? ⟨b41, o42 + n28.toNat * 9 + 2, none⟩ = some (.int .i64 n43) ∧
  J31 (n43 == n4) w26)
  (J31 false w26)) ∧
  ∀ t44 : Bool, ∀ (jk33 : Env) (w32 : World), J31 t44 w32 →
  ifb t44
  (nilC p1 fun b45 o45 =>
  ∃ A46 : Option Addr, ∃ N46 : Nat, ∃ C46 : Nat, w32.cell? ⟨b45, o45, none⟩ = some (.slice A46 N46 C46) ∧
  0 ≤ n28 ∧ n28 < ((N46 : Nat) : Int) ∧ ∃ b47 o48 : Nat, (A46 : Option Addr) = some ⟨b47, o48, none⟩ ∧
  ∃ (l49 : List Value) (e50 : TypeId), Blk w32 b47 l49 e50 ∧ o48 + n28.toNat * 9 + 6 + 1 ≤ l49.length ∧ ∀ w51 : World, Upd w32 w51 b47 (l49.set (o48 + n28.toNat * 9 + 6) (.bool true)) e50 →
  nilC p1 fun b52 o52 =>
  ∃ A53 : Option Addr, ∃ N53 : Nat, ∃ C53 : Nat, w51.drew.cell? ⟨b52, o52, none⟩ = some (.slice A53 N53 C53) ∧
  nilC p1 fun b54 o54 =>
  ∃ A55 : Option Addr, ∃ N55 : Nat, ∃ C55 : Nat, w51.drew.cell? ⟨b54, o54, none⟩ = some (.slice A55 N55 C55) ∧
  0 ≤ n28 ∧ n28 < ((N53 : Nat) : Int) ∧ ∃ b56 o57 : Nat, (A53 : Option Addr) = some ⟨b56, o57, none⟩ ∧
  ∃ (l58 : List Value) (e59 : TypeId), Blk w51.drew b56 l58 e59 ∧ o57 + n28.toNat * 9 + 7 + 1 ≤ l58.length ∧ ∀ w60 : World, Upd w51.drew w60 b56 (l58.set (o57 + n28.toNat * 9 + 7) (.int .i64 n5)) e59 →
  0 ≤ n28 ∧ n28 < ((N55 : Nat) : Int) ∧ ∃ b61 o62 : Nat, (A55 : Option Addr) = some ⟨b61, o62, none⟩ ∧
  ∃ (l63 : List Value) (e64 : TypeId), Blk w60 b61 l63 e64 ∧ o62 + n28.toNat * 9 + 8 + 1 ≤ l63.length ∧ ∀ w65 : World, Upd w60 w65 b61 (l63.set (o62 + n28.toNat * 9 + 8) (.int .i64 n6)) e64 →
  ∃ c66 : Int, IntKind.wrap .i64 (n28 + (1 : Int)) = c66 ∧
  I24 c66 w65 ∧ μ25 c66 w65 < μ25 n28 w26)
  (∃ c67 : Int, IntKind.wrap .i64 (n28 + (1 : Int)) = c67 ∧
  I24 c67 w32 ∧ μ25 c67 w32 < μ25 n28 w26))
  (R (.int .i64 0) w26))))
  (R (.int .i64 2) w11)
def V.dispatcherref14_Posted_Match_ann : Ann := .s (.no) (.s (.no) (.s (.s (.no) (.b (.loop [(14, .one (.i .i64))] (.s (.no) (.s (.b (.s (.no) (.s (.no) (.s (.s (.no) (.b (.loop [(15, .one (.i .i64))] (.s (.no) (.s (.b (.s (.jn [(77, .one .b)] (.no)) (.s (.s (.no) (.draw (.r 0 (.r 1 (.r 2 (.r 3 (.r 4 (.r 5 (.r 6 (.r 7 (.r 8 (.r 9 (.r 10 (.r 11 (.r 12 (.r 13 (.e 14 [3, 8] (.r 15 (.r 16 (.e 17 [3, 8] (.done))))))))))))))))))) [(14, 3), (14, 8), (17, 3), (17, 8)])) (.no)))) (.no)))))) (.no))))) (.no)))))) (.no)))
theorem V.dispatcherref14_Posted_Match_eq (p1 : Option Addr) (p2 : Option Addr) (n3 : Int) (n4 : Int) (n5 : Int) (n6 : Int) (w : World) (R : Value → World → Prop) : V.dispatcherref14_Posted_Match p1 p2 n3 n4 n5 n6 w R = fnW Try.prog [] [.tmp 12] (bodyOf Try.f45) V.dispatcherref14_Posted_Match_ann [.pointer p1, .pointer p2, .int .i64 n3, .int .i64 n4, .int .i64 n5, .int .i64 n6] w R := by kernel_rfl
theorem V.dispatcherref14_Posted_Match_ok : okC 101 (bodyOf Try.f45) V.dispatcherref14_Posted_Match_ann = true := by kernel_rfl
theorem V.dispatcherref14_Posted_Match_cs : (calleesC (bodyOf Try.f45)).all (entersB Try.prog) = true := by kernel_rfl
theorem V.dispatcherref14_Posted_Match_calls {p1 : Option Addr} {p2 : Option Addr} {n3 : Int} {n4 : Int} {n5 : Int} {n6 : Int}  {w : World} {R : Value → World → Prop} (h : V.dispatcherref14_Posted_Match p1 p2 n3 n4 n5 n6 w R) : Calls Try.prog 45 #[.pointer p1, .pointer p2, .int .i64 n3, .int .i64 n4, .int .i64 n5, .int .i64 n6] w fun e w' => ∃ v, e = .returned v ∧ R v w' :=
  fn_sound (by kernel_rfl) Try.func45 (by kernel_rfl) V.dispatcherref14_Posted_Match_ok (enters_all V.dispatcherref14_Posted_Match_cs) (by kernel_rfl) ((V.dispatcherref14_Posted_Match_eq p1 p2 n3 n4 n5 n6 w R).mp h)

def V.posted_Posted_Copy (p1 : Option Addr) (w : World) (R : Value → World → Prop) : Prop :=
  ifb p1.isNone
  (R (.pointer none) w)
  (nilC p1 fun b2 o2 =>
  ∃ xs3 : List Value, xs3.length = 65 ∧ Cells w ⟨b2, o2, none⟩ xs3 ∧
  ∀ (b4 : Nat) (w5 : World), New w w5 b4 [.bool false, .slice none 0 0, .slice none 0 0, .slice none 0 0, .slice none 0 0, .slice none 0 0, .slice none 0 0, .slice none 0 0, .slice none 0 0, .slice none 0 0, .slice none 0 0, .slice none 0 0, .slice none 0 0, .slice none 0 0, .slice none 0 0, .slice none 0 0, .slice none 0 0, .slice none 0 0, .slice none 0 0, .slice none 0 0, .slice none 0 0, .slice none 0 0, .slice none 0 0, .slice none 0 0, .slice none 0 0, .slice none 0 0, .slice none 0 0, .slice none 0 0, .slice none 0 0, .slice none 0 0, .slice none 0 0, .slice none 0 0, .slice none 0 0, .slice none 0 0, .slice none 0 0, .slice none 0 0, .slice none 0 0, .slice none 0 0, .slice none 0 0, .slice none 0 0, .slice none 0 0, .slice none 0 0, .slice none 0 0, .slice none 0 0, .slice none 0 0, .slice none 0 0, .slice none 0 0, .slice none 0 0, .slice none 0 0, .slice none 0 0, .slice none 0 0, .slice none 0 0, .slice none 0 0, .slice none 0 0, .slice none 0 0, .slice none 0 0, .slice none 0 0, .slice none 0 0, .slice none 0 0, .slice none 0 0, .slice none 0 0, .slice none 0 0, .slice none 0 0, .slice none 0 0, .slice none 0 0] 111 →
  cellsOk xs3 65 (∃ (l6 : List Value) (e7 : TypeId), Blk w5 b4 l6 e7 ∧ 0 + xs3.length ≤ l6.length ∧ ∀ w8 : World, Upd w5 w8 b4 (setSeg l6 0 xs3) e7 →
  ∃ xs9 : List Value, xs9.length = 64 ∧ Cells w8 ⟨b4, 1, none⟩ xs9 ∧
  ∃ (I10 : Int → World → Prop) (μ11 : Int → World → Nat),
  I10 (0 : Int) w8 ∧
  ∀ n14 : Int, ∀ (jk13 : Env) (w12 : World), I10 n14 w12 →
  ifb (decide (n14 < (64 : Int)))
  (0 ≤ n14 ∧ n14 < ((64 : Nat) : Int) ∧ ∃ A15 : Option Addr, ∃ N15 : Nat, ∃ C15 : Nat, xs9[n14.toNat]? = some (.slice A15 N15 C15) ∧
  Calls Try.prog 71 #[.slice A15 N15 C15] w12 fun e w16 => ∃ A17 : Option Addr, ∃ N17 : Nat, ∃ C17 : Nat, e = .returned (.slice A17 N17 C17) ∧
  0 ≤ n14 ∧ n14 < ((64 : Nat) : Int) ∧ ∃ b18 o19 : Nat, (some ⟨b4, 1, none⟩ : Option Addr) = some ⟨b18, o19, none⟩ ∧
  ∃ (l20 : List Value) (e21 : TypeId), Blk w16 b18 l20 e21 ∧ o19 + n14.toNat * 1 + 1 ≤ l20.length ∧ ∀ w22 : World, Upd w16 w22 b18 (l20.set (o19 + n14.toNat * 1) (.slice A17 N17 C17)) e21 →
  ∃ c23 : Int, IntKind.wrap .i64 (n14 + (1 : Int)) = c23 ∧
  I10 c23 w22 ∧ μ11 c23 w22 < μ11 n14 w12)
  (R (.pointer (some ⟨b4, 0, none⟩)) w12)))
def V.posted_Posted_Copy_ann : Ann := .s (.no) (.s (.no) (.s (.no) (.s (.s (.no) (.b (.loop [(13, .one (.i .i64))] (.no)))) (.no))))
theorem V.posted_Posted_Copy_eq (p1 : Option Addr) (w : World) (R : Value → World → Prop) : V.posted_Posted_Copy p1 w R = fnW Try.prog [] [.tmp 2] (bodyOf Try.f47) V.posted_Posted_Copy_ann [.pointer p1] w R := by kernel_rfl
theorem V.posted_Posted_Copy_ok : okC 23 (bodyOf Try.f47) V.posted_Posted_Copy_ann = true := by kernel_rfl
theorem V.posted_Posted_Copy_cs : (calleesC (bodyOf Try.f47)).all (entersB Try.prog) = true := by kernel_rfl
theorem V.posted_Posted_Copy_calls {p1 : Option Addr}  {w : World} {R : Value → World → Prop} (h : V.posted_Posted_Copy p1 w R) : Calls Try.prog 47 #[.pointer p1] w fun e w' => ∃ v, e = .returned v ∧ R v w' :=
  fn_sound (by kernel_rfl) Try.func47 (by kernel_rfl) V.posted_Posted_Copy_ok (enters_all V.posted_Posted_Copy_cs) (by kernel_rfl) ((V.posted_Posted_Copy_eq p1 w R).mp h)

def V.dispatcherref13_Queue_Copy (p1 : Option Addr) (w : World) (R : Value → World → Prop) : Prop :=
  ∀ (b2 : Nat) (w3 : World), New w w3 b2 [] 28 →
  nilC p1 fun b4 o4 =>
  ∃ A5 : Option Addr, ∃ N5 : Nat, ∃ C5 : Nat, w3.cell? ⟨b4, o4, none⟩ = some (.slice A5 N5 C5) ∧
  ∃ xs6 news7 : List Value, w3.ownsRow 0 28 8 (.slice (some ⟨b2, 0, none⟩) 0 0) 0 xs6 ∧ Reads w3 A5 N5 8 news7 ∧ 0 + N5 ≤ maxLen ∧ (0 + N5) * 72 ≤ 140737488355328 ∧
  ∀ (A9 : Option Addr) (C9 : Nat) (w8 : World), w8.ownsRow 0 28 8 (.slice A9 (0 + N5) C9) (0 + N5) (xs6 ++ news7) → App w3 w8 (some ⟨b2, 0, none⟩) A9 →
  ∀ (b10 : Nat) (w11 : World), New w8 w11 b10 [.slice A9 (0 + N5) C9] 88 →
  R (.pointer (some ⟨b10, 0, none⟩)) w11
def V.dispatcherref13_Queue_Copy_ann : Ann := .no
theorem V.dispatcherref13_Queue_Copy_eq (p1 : Option Addr) (w : World) (R : Value → World → Prop) : V.dispatcherref13_Queue_Copy p1 w R = fnW Try.prog [] [.tmp 2] (bodyOf Try.f48) V.dispatcherref13_Queue_Copy_ann [.pointer p1] w R := by kernel_rfl
theorem V.dispatcherref13_Queue_Copy_ok : okC 11 (bodyOf Try.f48) V.dispatcherref13_Queue_Copy_ann = true := by kernel_rfl
theorem V.dispatcherref13_Queue_Copy_cs : (calleesC (bodyOf Try.f48)).all (entersB Try.prog) = true := by kernel_rfl
theorem V.dispatcherref13_Queue_Copy_calls {p1 : Option Addr}  {w : World} {R : Value → World → Prop} (h : V.dispatcherref13_Queue_Copy p1 w R) : Calls Try.prog 48 #[.pointer p1] w fun e w' => ∃ v, e = .returned v ∧ R v w' :=
  fn_sound (by kernel_rfl) Try.func48 (by kernel_rfl) V.dispatcherref13_Queue_Copy_ok (enters_all V.dispatcherref13_Queue_Copy_cs) (by kernel_rfl) ((V.dispatcherref13_Queue_Copy_eq p1 w R).mp h)

def V.dispatcherref14_Posted_Copy (p1 : Option Addr) (w : World) (R : Value → World → Prop) : Prop :=
  ∀ (b2 : Nat) (w3 : World), New w w3 b2 [] 57 →
  nilC p1 fun b4 o4 =>
  ∃ A5 : Option Addr, ∃ N5 : Nat, ∃ C5 : Nat, w3.cell? ⟨b4, o4, none⟩ = some (.slice A5 N5 C5) ∧
  ∃ xs6 news7 : List Value, w3.ownsRow 0 57 9 (.slice (some ⟨b2, 0, none⟩) 0 0) 0 xs6 ∧ Reads w3 A5 N5 9 news7 ∧ 0 + N5 ≤ maxLen ∧ (0 + N5) * 80 ≤ 140737488355328 ∧
  ∀ (A9 : Option Addr) (C9 : Nat) (w8 : World), w8.ownsRow 0 57 9 (.slice A9 (0 + N5) C9) (0 + N5) (xs6 ++ news7) → App w3 w8 (some ⟨b2, 0, none⟩) A9 →
  ∀ (b10 : Nat) (w11 : World), New w8 w11 b10 [.slice A9 (0 + N5) C9] 90 →
  R (.pointer (some ⟨b10, 0, none⟩)) w11
def V.dispatcherref14_Posted_Copy_ann : Ann := .no
theorem V.dispatcherref14_Posted_Copy_eq (p1 : Option Addr) (w : World) (R : Value → World → Prop) : V.dispatcherref14_Posted_Copy p1 w R = fnW Try.prog [] [.tmp 2] (bodyOf Try.f49) V.dispatcherref14_Posted_Copy_ann [.pointer p1] w R := by kernel_rfl
theorem V.dispatcherref14_Posted_Copy_ok : okC 11 (bodyOf Try.f49) V.dispatcherref14_Posted_Copy_ann = true := by kernel_rfl
theorem V.dispatcherref14_Posted_Copy_cs : (calleesC (bodyOf Try.f49)).all (entersB Try.prog) = true := by kernel_rfl
theorem V.dispatcherref14_Posted_Copy_calls {p1 : Option Addr}  {w : World} {R : Value → World → Prop} (h : V.dispatcherref14_Posted_Copy p1 w R) : Calls Try.prog 49 #[.pointer p1] w fun e w' => ∃ v, e = .returned v ∧ R v w' :=
  fn_sound (by kernel_rfl) Try.func49 (by kernel_rfl) V.dispatcherref14_Posted_Copy_ok (enters_all V.dispatcherref14_Posted_Copy_cs) (by kernel_rfl) ((V.dispatcherref14_Posted_Copy_eq p1 w R).mp h)

def V.posted_Posted_place (p1 : Option Addr) (n2 : Int) (n3 : Int) (w : World) (R : Value → World → Prop) : Prop :=
  ∀ (b4 : Nat) (w5 : World), New w w5 b4 [.int .i64 n3] 3 →
  Calls Try.prog 51 #[.pointer p1, .int .i64 n2] w5 fun e w6 => ∃ A7 : Option Addr, ∃ N7 : Nat, ∃ C7 : Nat, e = .returned (.slice A7 N7 C7) ∧
  Calls Try.prog 72 #[.slice A7 N7 C7, .func (.func 73) #[] #[.pointer (some ⟨b4, 0, none⟩)]] w6 fun e w8 => ∃ n9 : Int, e = .returned (.int .i64 n9) ∧
  R (.int .i64 n9) w8
def V.posted_Posted_place_ann : Ann := .no
theorem V.posted_Posted_place_eq (p1 : Option Addr) (n2 : Int) (n3 : Int) (w : World) (R : Value → World → Prop) : V.posted_Posted_place p1 n2 n3 w R = fnW Try.prog [] [.tmp 6] (bodyOf Try.f50) V.posted_Posted_place_ann [.pointer p1, .int .i64 n2, .int .i64 n3] w R := by kernel_rfl
theorem V.posted_Posted_place_ok : okC 12 (bodyOf Try.f50) V.posted_Posted_place_ann = true := by kernel_rfl
theorem V.posted_Posted_place_cs : (calleesC (bodyOf Try.f50)).all (entersB Try.prog) = true := by kernel_rfl
theorem V.posted_Posted_place_calls {p1 : Option Addr} {n2 : Int} {n3 : Int}  {w : World} {R : Value → World → Prop} (h : V.posted_Posted_place p1 n2 n3 w R) : Calls Try.prog 50 #[.pointer p1, .int .i64 n2, .int .i64 n3] w fun e w' => ∃ v, e = .returned v ∧ R v w' :=
  fn_sound (by kernel_rfl) Try.func50 (by kernel_rfl) V.posted_Posted_place_ok (enters_all V.posted_Posted_place_cs) (by kernel_rfl) ((V.posted_Posted_place_eq p1 n2 n3 w R).mp h)

def V.posted_Posted_of (p1 : Option Addr) (n2 : Int) (w : World) (R : Value → World → Prop) : Prop :=
  ifb p1.isNone
  (R (.slice none 0 0) w)
  (nilC p1 fun b3 o3 =>
  ∃ t4 : Bool, w.cell? ⟨b3, o3, none⟩ = some (.bool t4) ∧
  ifb (!t4)
  (R (.slice none 0 0) w)
  (Calls Try.prog 65 #[.int .i64 n2, .int .i64 0, .int .i64 63] w fun e w5 => ∃ t6 : Bool, e = .returned (.bool t6) ∧
  ifb (!t6)
  (R (.slice none 0 0) w5)
  (nilC p1 fun b7 o7 =>
  0 ≤ n2 ∧ n2 < ((64 : Nat) : Int) ∧ ∃ b8 o9 : Nat, (some ⟨b7, o7 + 1, none⟩ : Option Addr) = some ⟨b8, o9, none⟩ ∧
  ∃ A10 : Option Addr, ∃ N10 : Nat, ∃ C10 : Nat, w5.cell? ⟨b8, o9 + n2.toNat * 1, none⟩ = some (.slice A10 N10 C10) ∧
  R (.slice A10 N10 C10) w5)))
def V.posted_Posted_of_ann : Ann := .no
theorem V.posted_Posted_of_eq (p1 : Option Addr) (n2 : Int) (w : World) (R : Value → World → Prop) : V.posted_Posted_of p1 n2 w R = fnW Try.prog [] [.tmp 4] (bodyOf Try.f51) V.posted_Posted_of_ann [.pointer p1, .int .i64 n2] w R := by kernel_rfl
theorem V.posted_Posted_of_ok : okC 25 (bodyOf Try.f51) V.posted_Posted_of_ann = true := by kernel_rfl
theorem V.posted_Posted_of_cs : (calleesC (bodyOf Try.f51)).all (entersB Try.prog) = true := by kernel_rfl
theorem V.posted_Posted_of_calls {p1 : Option Addr} {n2 : Int}  {w : World} {R : Value → World → Prop} (h : V.posted_Posted_of p1 n2 w R) : Calls Try.prog 51 #[.pointer p1, .int .i64 n2] w fun e w' => ∃ v, e = .returned v ∧ R v w' :=
  fn_sound (by kernel_rfl) Try.func51 (by kernel_rfl) V.posted_Posted_of_ok (enters_all V.posted_Posted_of_cs) (by kernel_rfl) ((V.posted_Posted_of_eq p1 n2 w R).mp h)

def V.posted_kept (A1 : Option Addr) (N1 : Nat) (C1 : Nat) (g1 : Nat) (cap1 : List Value) (w : World) (R : Value → World → Prop) : Prop :=
  ∃ (I2 : Option Addr → Nat → Nat → Int → World → Prop) (μ3 : Option Addr → Nat → Nat → Int → World → Nat),
  I2 none 0 0 (0 : Int) w ∧
  ∀ A6 : Option Addr, ∀ N6 : Nat, ∀ C6 : Nat, ∀ n7 : Int, ∀ (jk5 : Env) (w4 : World), I2 A6 N6 C6 n7 w4 →
  ifb (decide (n7 < ((N1 : Nat) : Int)))
  (0 ≤ n7 ∧ n7 < ((N1 : Nat) : Int) ∧ ∃ b8 o9 : Nat, (A1 : Option Addr) = some ⟨b8, o9, none⟩ ∧
  ∃ s10 : ByteArray, ∃ n11 : Int, ∃ n12 : Int, ∃ n13 : Int, ∃ n14 : Int, ∃ n15 : Int, ∃ t16 : Bool, ∃ n17 : Int, ∃ n18 : Int, Cells w4 ⟨b8, o9 + n7.toNat * 9, none⟩ [.string s10, .int .i64 n11, .int .i64 n12, .int .i64 n13, .int .i64 n14, .int .i64 n15, .bool t16, .int .i64 n17, .int .i64 n18] ∧
  ∀ (b19 : Nat) (w20 : World), New w4 w20 b19 [.string emptyS, .int .i64 0, .int .i64 0, .int .i64 0, .int .i64 0, .int .i64 0, .bool false, .int .i64 0, .int .i64 0] 57 →
  ∃ (l21 : List Value) (e22 : TypeId), Blk w20 b19 l21 e22 ∧ 0 + 9 ≤ l21.length ∧ ∀ w23 : World, Upd w20 w23 b19 (setSeg l21 0 [.string s10, .int .i64 n11, .int .i64 n12, .int .i64 n13, .int .i64 n14, .int .i64 n15, .bool t16, .int .i64 n17, .int .i64 n18]) e22 →
  ∃ s24 : ByteArray, ∃ n25 : Int, ∃ n26 : Int, ∃ n27 : Int, ∃ n28 : Int, ∃ n29 : Int, ∃ t30 : Bool, ∃ n31 : Int, ∃ n32 : Int, Cells w23 ⟨b19, 0, none⟩ [.string s24, .int .i64 n25, .int .i64 n26, .int .i64 n27, .int .i64 n28, .int .i64 n29, .bool t30, .int .i64 n31, .int .i64 n32] ∧
  Enters Try.prog g1 ∧
  Calls Try.prog g1 ((.agg #[.string s24, .int .i64 n25, .int .i64 n26, .int .i64 n27, .int .i64 n28, .int .i64 n29, .bool t30, .int .i64 n31, .int .i64 n32]) :: cap1).toArray w23 fun e w33 => ∃ t34 : Bool, e = .returned (.bool t34) ∧
  ifb t34
  (∃ s35 : ByteArray, ∃ n36 : Int, ∃ n37 : Int, ∃ n38 : Int, ∃ n39 : Int, ∃ n40 : Int, ∃ t41 : Bool, ∃ n42 : Int, ∃ n43 : Int, Cells w33 ⟨b19, 0, none⟩ [.string s35, .int .i64 n36, .int .i64 n37, .int .i64 n38, .int .i64 n39, .int .i64 n40, .bool t41, .int .i64 n42, .int .i64 n43] ∧
  ∀ (b44 : Nat) (w45 : World), New w33 w45 b44 [.string s35, .int .i64 n36, .int .i64 n37, .int .i64 n38, .int .i64 n39, .int .i64 n40, .bool t41, .int .i64 n42, .int .i64 n43] 57 →
  ∃ xs46 news47 : List Value, w45.ownsRow 0 57 9 (.slice A6 N6 C6) N6 xs46 ∧ Reads w45 (some ⟨b44, 0, none⟩) 1 9 news47 ∧ N6 + 1 ≤ maxLen ∧ (N6 + 1) * 80 ≤ 140737488355328 ∧
  ∀ (A49 : Option Addr) (C49 : Nat) (w48 : World), w48.ownsRow 0 57 9 (.slice A49 (N6 + 1) C49) (N6 + 1) (xs46 ++ news47) → App w45 w48 A6 A49 →
  ∃ c50 : Int, IntKind.wrap .i64 (n7 + (1 : Int)) = c50 ∧
  I2 A49 (N6 + 1) C49 c50 w48 ∧ μ3 A49 (N6 + 1) C49 c50 w48 < μ3 A6 N6 C6 n7 w4)
  (∃ c51 : Int, IntKind.wrap .i64 (n7 + (1 : Int)) = c51 ∧
  I2 A6 N6 C6 c51 w33 ∧ μ3 A6 N6 C6 c51 w33 < μ3 A6 N6 C6 n7 w4))
  (R (.slice A6 N6 C6) w4)
def V.posted_kept_ann : Ann := .s (.no) (.s (.no) (.s (.s (.no) (.b (.loop [(5, .one .sl), (10, .one (.i .i64))] (.no)))) (.no)))
theorem V.posted_kept_eq (A1 : Option Addr) (N1 : Nat) (C1 : Nat) (g1 : Nat) (cap1 : List Value) (w : World) (R : Value → World → Prop) : V.posted_kept A1 N1 C1 g1 cap1 w R = fnW Try.prog [] [.tmp 4] (bodyOf Try.f52) V.posted_kept_ann [.slice A1 N1 C1, .func (.func g1) #[] cap1.toArray] w R := by kernel_rfl
theorem V.posted_kept_ok : okC 23 (bodyOf Try.f52) V.posted_kept_ann = true := by kernel_rfl
theorem V.posted_kept_cs : (calleesC (bodyOf Try.f52)).all (entersB Try.prog) = true := by kernel_rfl
theorem V.posted_kept_calls {A1 : Option Addr} {N1 : Nat} {C1 : Nat} {g1 : Nat} {cap1 : List Value}  {w : World} {R : Value → World → Prop} (h : V.posted_kept A1 N1 C1 g1 cap1 w R) : Calls Try.prog 52 [.slice A1 N1 C1, .func (.func g1) #[] cap1.toArray].toArray w fun e w' => ∃ v, e = .returned v ∧ R v w' :=
  fn_sound (by kernel_rfl) Try.func52 (by kernel_rfl) V.posted_kept_ok (enters_all V.posted_kept_cs) (by kernel_rfl) ((V.posted_kept_eq A1 N1 C1 g1 cap1 w R).mp h)

def V.posted_Receive_waits (s1 : ByteArray) (n2 : Int) (n3 : Int) (n4 : Int) (n5 : Int) (n6 : Int) (t7 : Bool) (n8 : Int) (n9 : Int) (w : World) (R : Value → World → Prop) : Prop :=
  ∀ (b10 : Nat) (w11 : World), New w w11 b10 [.string s1, .int .i64 n2, .int .i64 n3, .int .i64 n4, .int .i64 n5, .int .i64 n6, .bool t7, .int .i64 n8, .int .i64 n9] 57 →
  ∃ t12 : Bool, w11.cell? ⟨b10, 6, none⟩ = some (.bool t12) ∧
  R (.bool (!t12)) w11
def V.posted_Receive_waits_ann : Ann := .no
theorem V.posted_Receive_waits_eq (s1 : ByteArray) (n2 : Int) (n3 : Int) (n4 : Int) (n5 : Int) (n6 : Int) (t7 : Bool) (n8 : Int) (n9 : Int) (w : World) (R : Value → World → Prop) : V.posted_Receive_waits s1 n2 n3 n4 n5 n6 t7 n8 n9 w R = fnW Try.prog [] [.tmp 2] (bodyOf Try.f53) V.posted_Receive_waits_ann [.agg #[.string s1, .int .i64 n2, .int .i64 n3, .int .i64 n4, .int .i64 n5, .int .i64 n6, .bool t7, .int .i64 n8, .int .i64 n9]] w R := by kernel_rfl
theorem V.posted_Receive_waits_ok : okC 6 (bodyOf Try.f53) V.posted_Receive_waits_ann = true := by kernel_rfl
theorem V.posted_Receive_waits_cs : (calleesC (bodyOf Try.f53)).all (entersB Try.prog) = true := by kernel_rfl
theorem V.posted_Receive_waits_calls {s1 : ByteArray} {n2 : Int} {n3 : Int} {n4 : Int} {n5 : Int} {n6 : Int} {t7 : Bool} {n8 : Int} {n9 : Int}  {w : World} {R : Value → World → Prop} (h : V.posted_Receive_waits s1 n2 n3 n4 n5 n6 t7 n8 n9 w R) : Calls Try.prog 53 #[.agg #[.string s1, .int .i64 n2, .int .i64 n3, .int .i64 n4, .int .i64 n5, .int .i64 n6, .bool t7, .int .i64 n8, .int .i64 n9]] w fun e w' => ∃ v, e = .returned v ∧ R v w' :=
  fn_sound (by kernel_rfl) Try.func53 (by kernel_rfl) V.posted_Receive_waits_ok (enters_all V.posted_Receive_waits_cs) (by kernel_rfl) ((V.posted_Receive_waits_eq s1 n2 n3 n4 n5 n6 t7 n8 n9 w R).mp h)

def V.dispatcherref13_ahead (s1 : ByteArray) (n2 : Int) (n3 : Int) (n4 : Int) (n5 : Int) (n6 : Int) (n7 : Int) (t8 : Bool) (s9 : ByteArray) (n10 : Int) (n11 : Int) (n12 : Int) (n13 : Int) (n14 : Int) (n15 : Int) (t16 : Bool) (w : World) (R : Value → World → Prop) : Prop :=
  ∀ (b17 : Nat) (w18 : World), New w w18 b17 [.string s1, .int .i64 n2, .int .i64 n3, .int .i64 n4, .int .i64 n5, .int .i64 n6, .int .i64 n7, .bool t8] 28 →
  ∀ (b19 : Nat) (w20 : World), New w18 w20 b19 [.string s9, .int .i64 n10, .int .i64 n11, .int .i64 n12, .int .i64 n13, .int .i64 n14, .int .i64 n15, .bool t16] 28 →
  ∃ s21 : ByteArray, w20.cell? ⟨b17, 0, none⟩ = some (.string s21) ∧
  ∃ s22 : ByteArray, w20.cell? ⟨b19, 0, none⟩ = some (.string s22) ∧
  ifb (!(s21.toList == s22.toList))
  (∃ s23 : ByteArray, w20.cell? ⟨b17, 0, none⟩ = some (.string s23) ∧
  ∃ s24 : ByteArray, w20.cell? ⟨b19, 0, none⟩ = some (.string s24) ∧
  R (.bool (Op.bytesLess s23.toList s24.toList)) w20)
  (∃ n25 : Int, w20.cell? ⟨b17, 1, none⟩ = some (.int .i64 n25) ∧
  ∃ n26 : Int, w20.cell? ⟨b19, 1, none⟩ = some (.int .i64 n26) ∧
  ifb (n25 != n26)
  (∃ n27 : Int, w20.cell? ⟨b17, 1, none⟩ = some (.int .i64 n27) ∧
  ∃ n28 : Int, w20.cell? ⟨b19, 1, none⟩ = some (.int .i64 n28) ∧
  R (.bool (decide (n27 < n28))) w20)
  (∃ n29 : Int, w20.cell? ⟨b17, 2, none⟩ = some (.int .i64 n29) ∧
  ∃ n30 : Int, w20.cell? ⟨b19, 2, none⟩ = some (.int .i64 n30) ∧
  R (.bool (decide (n29 < n30))) w20))
def V.dispatcherref13_ahead_ann : Ann := .no
theorem V.dispatcherref13_ahead_eq (s1 : ByteArray) (n2 : Int) (n3 : Int) (n4 : Int) (n5 : Int) (n6 : Int) (n7 : Int) (t8 : Bool) (s9 : ByteArray) (n10 : Int) (n11 : Int) (n12 : Int) (n13 : Int) (n14 : Int) (n15 : Int) (t16 : Bool) (w : World) (R : Value → World → Prop) : V.dispatcherref13_ahead s1 n2 n3 n4 n5 n6 n7 t8 s9 n10 n11 n12 n13 n14 n15 t16 w R = fnW Try.prog [] [.tmp 4] (bodyOf Try.f54) V.dispatcherref13_ahead_ann [.agg #[.string s1, .int .i64 n2, .int .i64 n3, .int .i64 n4, .int .i64 n5, .int .i64 n6, .int .i64 n7, .bool t8], .agg #[.string s9, .int .i64 n10, .int .i64 n11, .int .i64 n12, .int .i64 n13, .int .i64 n14, .int .i64 n15, .bool t16]] w R := by kernel_rfl
theorem V.dispatcherref13_ahead_ok : okC 30 (bodyOf Try.f54) V.dispatcherref13_ahead_ann = true := by kernel_rfl
theorem V.dispatcherref13_ahead_cs : (calleesC (bodyOf Try.f54)).all (entersB Try.prog) = true := by kernel_rfl
theorem V.dispatcherref13_ahead_calls {s1 : ByteArray} {n2 : Int} {n3 : Int} {n4 : Int} {n5 : Int} {n6 : Int} {n7 : Int} {t8 : Bool} {s9 : ByteArray} {n10 : Int} {n11 : Int} {n12 : Int} {n13 : Int} {n14 : Int} {n15 : Int} {t16 : Bool}  {w : World} {R : Value → World → Prop} (h : V.dispatcherref13_ahead s1 n2 n3 n4 n5 n6 n7 t8 s9 n10 n11 n12 n13 n14 n15 t16 w R) : Calls Try.prog 54 #[.agg #[.string s1, .int .i64 n2, .int .i64 n3, .int .i64 n4, .int .i64 n5, .int .i64 n6, .int .i64 n7, .bool t8], .agg #[.string s9, .int .i64 n10, .int .i64 n11, .int .i64 n12, .int .i64 n13, .int .i64 n14, .int .i64 n15, .bool t16]] w fun e w' => ∃ v, e = .returned v ∧ R v w' :=
  fn_sound (by kernel_rfl) Try.func54 (by kernel_rfl) V.dispatcherref13_ahead_ok (enters_all V.dispatcherref13_ahead_cs) (by kernel_rfl) ((V.dispatcherref13_ahead_eq s1 n2 n3 n4 n5 n6 n7 t8 s9 n10 n11 n12 n13 n14 n15 t16 w R).mp h)

def V.posted_Receive_fits (s1 : ByteArray) (n2 : Int) (n3 : Int) (n4 : Int) (n5 : Int) (n6 : Int) (t7 : Bool) (n8 : Int) (n9 : Int) (s10 : ByteArray) (n11 : Int) (n12 : Int) (n13 : Int) (n14 : Int) (n15 : Int) (n16 : Int) (t17 : Bool) (w : World) (R : Value → World → Prop) : Prop :=
  ∀ (b18 : Nat) (w19 : World), New w w19 b18 [.string s1, .int .i64 n2, .int .i64 n3, .int .i64 n4, .int .i64 n5, .int .i64 n6, .bool t7, .int .i64 n8, .int .i64 n9] 57 →
  ∀ (b20 : Nat) (w21 : World), New w19 w21 b20 [.string s10, .int .i64 n11, .int .i64 n12, .int .i64 n13, .int .i64 n14, .int .i64 n15, .int .i64 n16, .bool t17] 28 →
  ∃ s22 : ByteArray, w21.cell? ⟨b18, 0, none⟩ = some (.string s22) ∧
  ∃ s23 : ByteArray, w21.cell? ⟨b20, 0, none⟩ = some (.string s23) ∧
  ifb (s22.toList == s23.toList)
  (∃ n24 : Int, w21.cell? ⟨b18, 1, none⟩ = some (.int .i64 n24) ∧
  ∃ n25 : Int, w21.cell? ⟨b20, 2, none⟩ = some (.int .i64 n25) ∧
  ifb (n24 == n25)
  (∃ n26 : Int, w21.cell? ⟨b18, 3, none⟩ = some (.int .i64 n26) ∧
  ifb (n26 == (-1 : Int))
  (∃ n27 : Int, w21.cell? ⟨b18, 4, none⟩ = some (.int .i64 n27) ∧
  ifb (n27 == (-1 : Int))
  (R (.bool true) w21)
  (∃ n28 : Int, w21.cell? ⟨b18, 4, none⟩ = some (.int .i64 n28) ∧
  ∃ n29 : Int, w21.cell? ⟨b20, 4, none⟩ = some (.int .i64 n29) ∧
  R (.bool (n28 == n29)) w21))
  (∃ n30 : Int, w21.cell? ⟨b18, 3, none⟩ = some (.int .i64 n30) ∧
  ∃ n31 : Int, w21.cell? ⟨b20, 1, none⟩ = some (.int .i64 n31) ∧
  ifb (n30 == n31)
  (∃ n32 : Int, w21.cell? ⟨b18, 4, none⟩ = some (.int .i64 n32) ∧
  ifb (n32 == (-1 : Int))
  (R (.bool true) w21)
  (∃ n33 : Int, w21.cell? ⟨b18, 4, none⟩ = some (.int .i64 n33) ∧
  ∃ n34 : Int, w21.cell? ⟨b20, 4, none⟩ = some (.int .i64 n34) ∧
  R (.bool (n33 == n34)) w21))
  (R (.bool false) w21)))
  (R (.bool false) w21))
  (R (.bool false) w21)
def V.posted_Receive_fits_ann : Ann := .no
theorem V.posted_Receive_fits_eq (s1 : ByteArray) (n2 : Int) (n3 : Int) (n4 : Int) (n5 : Int) (n6 : Int) (t7 : Bool) (n8 : Int) (n9 : Int) (s10 : ByteArray) (n11 : Int) (n12 : Int) (n13 : Int) (n14 : Int) (n15 : Int) (n16 : Int) (t17 : Bool) (w : World) (R : Value → World → Prop) : V.posted_Receive_fits s1 n2 n3 n4 n5 n6 t7 n8 n9 s10 n11 n12 n13 n14 n15 n16 t17 w R = fnW Try.prog [] [.tmp 4] (bodyOf Try.f55) V.posted_Receive_fits_ann [.agg #[.string s1, .int .i64 n2, .int .i64 n3, .int .i64 n4, .int .i64 n5, .int .i64 n6, .bool t7, .int .i64 n8, .int .i64 n9], .agg #[.string s10, .int .i64 n11, .int .i64 n12, .int .i64 n13, .int .i64 n14, .int .i64 n15, .int .i64 n16, .bool t17]] w R := by kernel_rfl
theorem V.posted_Receive_fits_ok : okC 41 (bodyOf Try.f55) V.posted_Receive_fits_ann = true := by kernel_rfl
theorem V.posted_Receive_fits_cs : (calleesC (bodyOf Try.f55)).all (entersB Try.prog) = true := by kernel_rfl
theorem V.posted_Receive_fits_calls {s1 : ByteArray} {n2 : Int} {n3 : Int} {n4 : Int} {n5 : Int} {n6 : Int} {t7 : Bool} {n8 : Int} {n9 : Int} {s10 : ByteArray} {n11 : Int} {n12 : Int} {n13 : Int} {n14 : Int} {n15 : Int} {n16 : Int} {t17 : Bool}  {w : World} {R : Value → World → Prop} (h : V.posted_Receive_fits s1 n2 n3 n4 n5 n6 t7 n8 n9 s10 n11 n12 n13 n14 n15 n16 t17 w R) : Calls Try.prog 55 #[.agg #[.string s1, .int .i64 n2, .int .i64 n3, .int .i64 n4, .int .i64 n5, .int .i64 n6, .bool t7, .int .i64 n8, .int .i64 n9], .agg #[.string s10, .int .i64 n11, .int .i64 n12, .int .i64 n13, .int .i64 n14, .int .i64 n15, .int .i64 n16, .bool t17]] w fun e w' => ∃ v, e = .returned v ∧ R v w' :=
  fn_sound (by kernel_rfl) Try.func55 (by kernel_rfl) V.posted_Receive_fits_ok (enters_all V.posted_Receive_fits_cs) (by kernel_rfl) ((V.posted_Receive_fits_eq s1 n2 n3 n4 n5 n6 t7 n8 n9 s10 n11 n12 n13 n14 n15 n16 t17 w R).mp h)

def V.dispatcherref13_Queue_place (p1 : Option Addr) (n2 : Int) (n3 : Int) (w : World) (R : Value → World → Prop) : Prop :=
  ∃ (I4 : Int → World → Prop) (μ5 : Int → World → Nat),
  I4 (0 : Int) w ∧
  ∀ n8 : Int, ∀ (jk7 : Env) (w6 : World), I4 n8 w6 →
  nilC p1 fun b9 o9 =>
  ∃ A10 : Option Addr, ∃ N10 : Nat, ∃ C10 : Nat, w6.cell? ⟨b9, o9, none⟩ = some (.slice A10 N10 C10) ∧
  ifb (decide (n8 < ((N10 : Nat) : Int)))
  (nilC p1 fun b11 o11 =>
  ∃ A12 : Option Addr, ∃ N12 : Nat, ∃ C12 : Nat, w6.cell? ⟨b11, o11, none⟩ = some (.slice A12 N12 C12) ∧
  0 ≤ n8 ∧ n8 < ((N12 : Nat) : Int) ∧ ∃ b13 o14 : Nat, (A12 : Option Addr) = some ⟨b13, o14, none⟩ ∧
  ∃ n15 : Int, w6.cell? ⟨b13, o14 + n8.toNat * 8 + 1, none⟩ = some (.int .i64 n15) ∧
  ifb (n15 == n2)
  (nilC p1 fun b16 o16 =>
  ∃ A17 : Option Addr, ∃ N17 : Nat, ∃ C17 : Nat, w6.cell? ⟨b16, o16, none⟩ = some (.slice A17 N17 C17) ∧
  0 ≤ n8 ∧ n8 < ((N17 : Nat) : Int) ∧ ∃ b18 o19 : Nat, (A17 : Option Addr) = some ⟨b18, o19, none⟩ ∧
  ∃ n20 : Int, w6.cell? ⟨b18, o19 + n8.toNat * 8 + 3, none⟩ = some (.int .i64 n20) ∧
  ifb (n20 == n3)
  (R (.int .i64 n8) w6)
  (∃ c21 : Int, IntKind.wrap .i64 (n8 + (1 : Int)) = c21 ∧
  I4 c21 w6 ∧ μ5 c21 w6 < μ5 n8 w6))
  (∃ c22 : Int, IntKind.wrap .i64 (n8 + (1 : Int)) = c22 ∧
  I4 c22 w6 ∧ μ5 c22 w6 < μ5 n8 w6))
  (R (.int .i64 (-1)) w6)
def V.dispatcherref13_Queue_place_ann : Ann := .s (.no) (.s (.s (.no) (.b (.loop [(7, .one (.i .i64))] (.no)))) (.no))
theorem V.dispatcherref13_Queue_place_eq (p1 : Option Addr) (n2 : Int) (n3 : Int) (w : World) (R : Value → World → Prop) : V.dispatcherref13_Queue_place p1 n2 n3 w R = fnW Try.prog [] [.tmp 6] (bodyOf Try.f64) V.dispatcherref13_Queue_place_ann [.pointer p1, .int .i64 n2, .int .i64 n3] w R := by kernel_rfl
theorem V.dispatcherref13_Queue_place_ok : okC 40 (bodyOf Try.f64) V.dispatcherref13_Queue_place_ann = true := by kernel_rfl
theorem V.dispatcherref13_Queue_place_cs : (calleesC (bodyOf Try.f64)).all (entersB Try.prog) = true := by kernel_rfl
theorem V.dispatcherref13_Queue_place_calls {p1 : Option Addr} {n2 : Int} {n3 : Int}  {w : World} {R : Value → World → Prop} (h : V.dispatcherref13_Queue_place p1 n2 n3 w R) : Calls Try.prog 64 #[.pointer p1, .int .i64 n2, .int .i64 n3] w fun e w' => ∃ v, e = .returned v ∧ R v w' :=
  fn_sound (by kernel_rfl) Try.func64 (by kernel_rfl) V.dispatcherref13_Queue_place_ok (enters_all V.dispatcherref13_Queue_place_cs) (by kernel_rfl) ((V.dispatcherref13_Queue_place_eq p1 n2 n3 w R).mp h)

def V.posted_in (n1 : Int) (n2 : Int) (n3 : Int) (w : World) (R : Value → World → Prop) : Prop :=
  ifb (decide (n1 ≥ n2))
  (R (.bool (decide (n1 ≤ n3))) w)
  (R (.bool false) w)
def V.posted_in_ann : Ann := .no
theorem V.posted_in_eq (n1 : Int) (n2 : Int) (n3 : Int) (w : World) (R : Value → World → Prop) : V.posted_in n1 n2 n3 w R = fnW Try.prog [] [.tmp 6] (bodyOf Try.f65) V.posted_in_ann [.int .i64 n1, .int .i64 n2, .int .i64 n3] w R := by kernel_rfl
theorem V.posted_in_ok : okC 15 (bodyOf Try.f65) V.posted_in_ann = true := by kernel_rfl
theorem V.posted_in_cs : (calleesC (bodyOf Try.f65)).all (entersB Try.prog) = true := by kernel_rfl
theorem V.posted_in_calls {n1 : Int} {n2 : Int} {n3 : Int}  {w : World} {R : Value → World → Prop} (h : V.posted_in n1 n2 n3 w R) : Calls Try.prog 65 #[.int .i64 n1, .int .i64 n2, .int .i64 n3] w fun e w' => ∃ v, e = .returned v ∧ R v w' :=
  fn_sound (by kernel_rfl) Try.func65 (by kernel_rfl) V.posted_in_ok (enters_all V.posted_in_cs) (by kernel_rfl) ((V.posted_in_eq n1 n2 n3 w R).mp h)

def V.posted_Posted_Match_1 (s1 : ByteArray) (n2 : Int) (n3 : Int) (n4 : Int) (n5 : Int) (n6 : Int) (n7 : Int) (t8 : Bool) (f9 : Nat) (f10 : Nat) (w : World) (R : Value → World → Prop) : Prop :=
  ∀ (b11 : Nat) (w12 : World), New w w12 b11 [.string s1, .int .i64 n2, .int .i64 n3, .int .i64 n4, .int .i64 n5, .int .i64 n6, .int .i64 n7, .bool t8] 28 →
  ∃ n13 : Int, w12.cell? ⟨b11, 1, none⟩ = some (.int .i64 n13) ∧
  ∃ n14 : Int, w12.cell? ⟨f9, 0, none⟩ = some (.int .i64 n14) ∧
  ifb (n13 == n14)
  (∃ n15 : Int, w12.cell? ⟨b11, 3, none⟩ = some (.int .i64 n15) ∧
  ∃ n16 : Int, w12.cell? ⟨f10, 0, none⟩ = some (.int .i64 n16) ∧
  R (.bool (n15 == n16)) w12)
  (R (.bool false) w12)
def V.posted_Posted_Match_1_ann : Ann := .no
theorem V.posted_Posted_Match_1_eq (s1 : ByteArray) (n2 : Int) (n3 : Int) (n4 : Int) (n5 : Int) (n6 : Int) (n7 : Int) (t8 : Bool) (f9 : Nat) (f10 : Nat) (w : World) (R : Value → World → Prop) : V.posted_Posted_Match_1 s1 n2 n3 n4 n5 n6 n7 t8 f9 f10 w R = fnW Try.prog [] [.tmp 4] (bodyOf Try.f66) V.posted_Posted_Match_1_ann [.agg #[.string s1, .int .i64 n2, .int .i64 n3, .int .i64 n4, .int .i64 n5, .int .i64 n6, .int .i64 n7, .bool t8], .pointer (some ⟨f9, 0, none⟩), .pointer (some ⟨f10, 0, none⟩)] w R := by kernel_rfl
theorem V.posted_Posted_Match_1_ok : okC 15 (bodyOf Try.f66) V.posted_Posted_Match_1_ann = true := by kernel_rfl
theorem V.posted_Posted_Match_1_cs : (calleesC (bodyOf Try.f66)).all (entersB Try.prog) = true := by kernel_rfl
theorem V.posted_Posted_Match_1_calls {s1 : ByteArray} {n2 : Int} {n3 : Int} {n4 : Int} {n5 : Int} {n6 : Int} {n7 : Int} {t8 : Bool} {f9 : Nat} {f10 : Nat}  {w : World} {R : Value → World → Prop} (h : V.posted_Posted_Match_1 s1 n2 n3 n4 n5 n6 n7 t8 f9 f10 w R) : Calls Try.prog 66 #[.agg #[.string s1, .int .i64 n2, .int .i64 n3, .int .i64 n4, .int .i64 n5, .int .i64 n6, .int .i64 n7, .bool t8], .pointer (some ⟨f9, 0, none⟩), .pointer (some ⟨f10, 0, none⟩)] w fun e w' => ∃ v, e = .returned v ∧ R v w' :=
  fn_sound (by kernel_rfl) Try.func66 (by kernel_rfl) V.posted_Posted_Match_1_ok (enters_all V.posted_Posted_Match_1_cs) (by kernel_rfl) ((V.posted_Posted_Match_1_eq s1 n2 n3 n4 n5 n6 n7 t8 f9 f10 w R).mp h)

def V.posted_Posted_May (p1 : Option Addr) (p2 : Option Addr) (n3 : Int) (n4 : Int) (w : World) (R : Value → World → Prop) : Prop :=
  Calls Try.prog 50 #[.pointer p1, .int .i64 n3, .int .i64 n4] w fun e w5 => ∃ n6 : Int, e = .returned (.int .i64 n6) ∧
  ifb (decide (n6 < (0 : Int)))
  (R (.slice none 0 0) w5)
  (Calls Try.prog 51 #[.pointer p1, .int .i64 n3] w5 fun e w7 => ∃ A8 : Option Addr, ∃ N8 : Nat, ∃ C8 : Nat, e = .returned (.slice A8 N8 C8) ∧
  0 ≤ n6 ∧ n6 < ((N8 : Nat) : Int) ∧ ∃ b9 o10 : Nat, (A8 : Option Addr) = some ⟨b9, o10, none⟩ ∧
  ∃ t11 : Bool, w7.cell? ⟨b9, o10 + n6.toNat * 9 + 6, none⟩ = some (.bool t11) ∧
  ifb t11
  (R (.slice none 0 0) w7)
  (0 ≤ n6 ∧ n6 < ((N8 : Nat) : Int) ∧ ∃ b12 o13 : Nat, (A8 : Option Addr) = some ⟨b12, o13, none⟩ ∧
  ∃ s14 : ByteArray, ∃ n15 : Int, ∃ n16 : Int, ∃ n17 : Int, ∃ n18 : Int, ∃ n19 : Int, ∃ t20 : Bool, ∃ n21 : Int, ∃ n22 : Int, Cells w7.drew ⟨b12, o13 + n6.toNat * 9, none⟩ [.string s14, .int .i64 n15, .int .i64 n16, .int .i64 n17, .int .i64 n18, .int .i64 n19, .bool t20, .int .i64 n21, .int .i64 n22] ∧
  0 ≤ n6 ∧ n6 ≤ ((C8 : Nat) : Int) ∧
  Calls Try.prog 89 #[.pointer p2, .agg #[.string s14, .int .i64 n15, .int .i64 n16, .int .i64 n17, .int .i64 n18, .int .i64 n19, .bool t20, .int .i64 n21, .int .i64 n22], .slice A8 n6.toNat C8] w7.drew fun e w23 => ∃ A24 : Option Addr, ∃ N24 : Nat, ∃ C24 : Nat, e = .returned (.slice A24 N24 C24) ∧
  R (.slice A24 N24 C24) w23))
def V.posted_Posted_May_ann : Ann := .s (.no) (.s (.no) (.s (.no) (.s (.no) (.s (.no) (.s (.draw (.r 0 (.r 1 (.r 2 (.r 3 (.r 4 (.r 5 (.r 6 (.r 7 (.e 8 [4] (.e 9 [4] (.done))))))))))) [(8, 4), (9, 4)]) (.no))))))
theorem V.posted_Posted_May_eq (p1 : Option Addr) (p2 : Option Addr) (n3 : Int) (n4 : Int) (w : World) (R : Value → World → Prop) : V.posted_Posted_May p1 p2 n3 n4 w R = fnW Try.prog [] [.tmp 8] (bodyOf Try.f67) V.posted_Posted_May_ann [.pointer p1, .pointer p2, .int .i64 n3, .int .i64 n4] w R := by kernel_rfl
theorem V.posted_Posted_May_ok : okC 34 (bodyOf Try.f67) V.posted_Posted_May_ann = true := by kernel_rfl
theorem V.posted_Posted_May_cs : (calleesC (bodyOf Try.f67)).all (entersB Try.prog) = true := by kernel_rfl
theorem V.posted_Posted_May_calls {p1 : Option Addr} {p2 : Option Addr} {n3 : Int} {n4 : Int}  {w : World} {R : Value → World → Prop} (h : V.posted_Posted_May p1 p2 n3 n4 w R) : Calls Try.prog 67 #[.pointer p1, .pointer p2, .int .i64 n3, .int .i64 n4] w fun e w' => ∃ v, e = .returned v ∧ R v w' :=
  fn_sound (by kernel_rfl) Try.func67 (by kernel_rfl) V.posted_Posted_May_ok (enters_all V.posted_Posted_May_cs) (by kernel_rfl) ((V.posted_Posted_May_eq p1 p2 n3 n4 w R).mp h)

def V.dispatcherref14_Posted_May (p1 : Option Addr) (p2 : Option Addr) (n3 : Int) (n4 : Int) (w : World) (R : Value → World → Prop) : Prop :=
  Calls Try.prog 23 #[.pointer p1, .int .i64 n3, .int .i64 n4] w fun e w5 => ∃ s6 : ByteArray, ∃ n7 : Int, ∃ n8 : Int, ∃ n9 : Int, ∃ n10 : Int, ∃ n11 : Int, ∃ t12 : Bool, ∃ n13 : Int, ∃ n14 : Int, ∃ t15 : Bool, e = .returned (.tuple #[.agg #[.string s6, .int .i64 n7, .int .i64 n8, .int .i64 n9, .int .i64 n10, .int .i64 n11, .bool t12, .int .i64 n13, .int .i64 n14], .bool t15]) ∧
  ∀ (b16 : Nat) (w17 : World), New w5 w17 b16 [.string emptyS, .int .i64 0, .int .i64 0, .int .i64 0, .int .i64 0, .int .i64 0, .bool false, .int .i64 0, .int .i64 0] 57 →
  ∃ (l18 : List Value) (e19 : TypeId), Blk w17 b16 l18 e19 ∧ 0 + 9 ≤ l18.length ∧ ∀ w20 : World, Upd w17 w20 b16 (setSeg l18 0 [.string s6, .int .i64 n7, .int .i64 n8, .int .i64 n9, .int .i64 n10, .int .i64 n11, .bool t12, .int .i64 n13, .int .i64 n14]) e19 →
  ifb (!t15)
  (R (.slice none 0 0) w20)
  (∃ t21 : Bool, w20.cell? ⟨b16, 6, none⟩ = some (.bool t21) ∧
  ifb t21
  (R (.slice none 0 0) w20)
  (∃ s22 : ByteArray, ∃ n23 : Int, ∃ n24 : Int, ∃ n25 : Int, ∃ n26 : Int, ∃ n27 : Int, ∃ t28 : Bool, ∃ n29 : Int, ∃ n30 : Int, Cells w20 ⟨b16, 0, none⟩ [.string s22, .int .i64 n23, .int .i64 n24, .int .i64 n25, .int .i64 n26, .int .i64 n27, .bool t28, .int .i64 n29, .int .i64 n30] ∧
  Calls Try.prog 90 #[.pointer p1, .pointer p2, .agg #[.string s22, .int .i64 n23, .int .i64 n24, .int .i64 n25, .int .i64 n26, .int .i64 n27, .bool t28, .int .i64 n29, .int .i64 n30], .bool false] w20 fun e w31 => ∃ A32 : Option Addr, ∃ N32 : Nat, ∃ C32 : Nat, e = .returned (.slice A32 N32 C32) ∧
  R (.slice A32 N32 C32) w31))
def V.dispatcherref14_Posted_May_ann : Ann := .no
theorem V.dispatcherref14_Posted_May_eq (p1 : Option Addr) (p2 : Option Addr) (n3 : Int) (n4 : Int) (w : World) (R : Value → World → Prop) : V.dispatcherref14_Posted_May p1 p2 n3 n4 w R = fnW Try.prog [] [.tmp 8] (bodyOf Try.f68) V.dispatcherref14_Posted_May_ann [.pointer p1, .pointer p2, .int .i64 n3, .int .i64 n4] w R := by kernel_rfl
theorem V.dispatcherref14_Posted_May_ok : okC 28 (bodyOf Try.f68) V.dispatcherref14_Posted_May_ann = true := by kernel_rfl
theorem V.dispatcherref14_Posted_May_cs : (calleesC (bodyOf Try.f68)).all (entersB Try.prog) = true := by kernel_rfl
theorem V.dispatcherref14_Posted_May_calls {p1 : Option Addr} {p2 : Option Addr} {n3 : Int} {n4 : Int}  {w : World} {R : Value → World → Prop} (h : V.dispatcherref14_Posted_May p1 p2 n3 n4 w R) : Calls Try.prog 68 #[.pointer p1, .pointer p2, .int .i64 n3, .int .i64 n4] w fun e w' => ∃ v, e = .returned v ∧ R v w' :=
  fn_sound (by kernel_rfl) Try.func68 (by kernel_rfl) V.dispatcherref14_Posted_May_ok (enters_all V.dispatcherref14_Posted_May_cs) (by kernel_rfl) ((V.dispatcherref14_Posted_May_eq p1 p2 n3 n4 w R).mp h)

def V.dispatcherref13_Queue_Take (p1 : Option Addr) (n2 : Int) (n3 : Int) (w : World) (R : Value → World → Prop) : Prop :=
  Calls Try.prog 64 #[.pointer p1, .int .i64 n2, .int .i64 n3] w fun e w4 => ∃ n5 : Int, e = .returned (.int .i64 n5) ∧
  ifb (decide (n5 < (0 : Int)))
  (R (.int .i64 2) w4)
  (nilC p1 fun b6 o6 =>
  ∃ A7 : Option Addr, ∃ N7 : Nat, ∃ C7 : Nat, w4.cell? ⟨b6, o6, none⟩ = some (.slice A7 N7 C7) ∧
  0 ≤ n5 ∧ n5 < ((N7 : Nat) : Int) ∧ ∃ b8 o9 : Nat, (A7 : Option Addr) = some ⟨b8, o9, none⟩ ∧
  ∃ t10 : Bool, w4.cell? ⟨b8, o9 + n5.toNat * 8 + 7, none⟩ = some (.bool t10) ∧
  ifb t10
  (R (.int .i64 2) w4)
  (nilC p1 fun b11 o11 =>
  ∃ A12 : Option Addr, ∃ N12 : Nat, ∃ C12 : Nat, w4.cell? ⟨b11, o11, none⟩ = some (.slice A12 N12 C12) ∧
  0 ≤ n5 ∧ n5 < ((N12 : Nat) : Int) ∧ ∃ b13 o14 : Nat, (A12 : Option Addr) = some ⟨b13, o14, none⟩ ∧
  ∃ (l15 : List Value) (e16 : TypeId), Blk w4 b13 l15 e16 ∧ o14 + n5.toNat * 8 + 7 + 1 ≤ l15.length ∧ ∀ w17 : World, Upd w4 w17 b13 (l15.set (o14 + n5.toNat * 8 + 7) (.bool true)) e16 →
  R (.int .i64 0) w17))
def V.dispatcherref13_Queue_Take_ann : Ann := .no
theorem V.dispatcherref13_Queue_Take_eq (p1 : Option Addr) (n2 : Int) (n3 : Int) (w : World) (R : Value → World → Prop) : V.dispatcherref13_Queue_Take p1 n2 n3 w R = fnW Try.prog [] [.tmp 6] (bodyOf Try.f69) V.dispatcherref13_Queue_Take_ann [.pointer p1, .int .i64 n2, .int .i64 n3] w R := by kernel_rfl
theorem V.dispatcherref13_Queue_Take_ok : okC 31 (bodyOf Try.f69) V.dispatcherref13_Queue_Take_ann = true := by kernel_rfl
theorem V.dispatcherref13_Queue_Take_cs : (calleesC (bodyOf Try.f69)).all (entersB Try.prog) = true := by kernel_rfl
theorem V.dispatcherref13_Queue_Take_calls {p1 : Option Addr} {n2 : Int} {n3 : Int}  {w : World} {R : Value → World → Prop} (h : V.dispatcherref13_Queue_Take p1 n2 n3 w R) : Calls Try.prog 69 #[.pointer p1, .int .i64 n2, .int .i64 n3] w fun e w' => ∃ v, e = .returned v ∧ R v w' :=
  fn_sound (by kernel_rfl) Try.func69 (by kernel_rfl) V.dispatcherref13_Queue_Take_ok (enters_all V.dispatcherref13_Queue_Take_cs) (by kernel_rfl) ((V.dispatcherref13_Queue_Take_eq p1 n2 n3 w R).mp h)

def V.slices_Clone_queue_Message_queue_Message (A1 : Option Addr) (N1 : Nat) (C1 : Nat) (w : World) (R : Value → World → Prop) : Prop :=
  ifb A1.isNone
  (R (.slice none 0 0) w)
  (∀ (b2 : Nat) (w3 : World), New w w3 b2 [] 28 →
  ∃ xs4 news5 : List Value, w3.ownsRow 0 28 8 (.slice (some ⟨b2, 0, none⟩) 0 0) 0 xs4 ∧ Reads w3 A1 N1 8 news5 ∧ 0 + N1 ≤ maxLen ∧ (0 + N1) * 72 ≤ 140737488355328 ∧
  ∀ (A7 : Option Addr) (C7 : Nat) (w6 : World), w6.ownsRow 0 28 8 (.slice A7 (0 + N1) C7) (0 + N1) (xs4 ++ news5) → App w3 w6 (some ⟨b2, 0, none⟩) A7 →
  R (.slice A7 (0 + N1) C7) w6)
def V.slices_Clone_queue_Message_queue_Message_ann : Ann := .no
theorem V.slices_Clone_queue_Message_queue_Message_eq (A1 : Option Addr) (N1 : Nat) (C1 : Nat) (w : World) (R : Value → World → Prop) : V.slices_Clone_queue_Message_queue_Message A1 N1 C1 w R = fnW Try.prog [] [.tmp 2] (bodyOf Try.f70) V.slices_Clone_queue_Message_queue_Message_ann [.slice A1 N1 C1] w R := by kernel_rfl
theorem V.slices_Clone_queue_Message_queue_Message_ok : okC 8 (bodyOf Try.f70) V.slices_Clone_queue_Message_queue_Message_ann = true := by kernel_rfl
theorem V.slices_Clone_queue_Message_queue_Message_cs : (calleesC (bodyOf Try.f70)).all (entersB Try.prog) = true := by kernel_rfl
theorem V.slices_Clone_queue_Message_queue_Message_calls {A1 : Option Addr} {N1 : Nat} {C1 : Nat}  {w : World} {R : Value → World → Prop} (h : V.slices_Clone_queue_Message_queue_Message A1 N1 C1 w R) : Calls Try.prog 70 #[.slice A1 N1 C1] w fun e w' => ∃ v, e = .returned v ∧ R v w' :=
  fn_sound (by kernel_rfl) Try.func70 (by kernel_rfl) V.slices_Clone_queue_Message_queue_Message_ok (enters_all V.slices_Clone_queue_Message_queue_Message_cs) (by kernel_rfl) ((V.slices_Clone_queue_Message_queue_Message_eq A1 N1 C1 w R).mp h)

def V.slices_Clone_posted_Receive_posted_Receive (A1 : Option Addr) (N1 : Nat) (C1 : Nat) (w : World) (R : Value → World → Prop) : Prop :=
  ifb A1.isNone
  (R (.slice none 0 0) w)
  (∀ (b2 : Nat) (w3 : World), New w w3 b2 [] 57 →
  ∃ xs4 news5 : List Value, w3.ownsRow 0 57 9 (.slice (some ⟨b2, 0, none⟩) 0 0) 0 xs4 ∧ Reads w3 A1 N1 9 news5 ∧ 0 + N1 ≤ maxLen ∧ (0 + N1) * 80 ≤ 140737488355328 ∧
  ∀ (A7 : Option Addr) (C7 : Nat) (w6 : World), w6.ownsRow 0 57 9 (.slice A7 (0 + N1) C7) (0 + N1) (xs4 ++ news5) → App w3 w6 (some ⟨b2, 0, none⟩) A7 →
  R (.slice A7 (0 + N1) C7) w6)
def V.slices_Clone_posted_Receive_posted_Receive_ann : Ann := .no
theorem V.slices_Clone_posted_Receive_posted_Receive_eq (A1 : Option Addr) (N1 : Nat) (C1 : Nat) (w : World) (R : Value → World → Prop) : V.slices_Clone_posted_Receive_posted_Receive A1 N1 C1 w R = fnW Try.prog [] [.tmp 2] (bodyOf Try.f71) V.slices_Clone_posted_Receive_posted_Receive_ann [.slice A1 N1 C1] w R := by kernel_rfl
theorem V.slices_Clone_posted_Receive_posted_Receive_ok : okC 8 (bodyOf Try.f71) V.slices_Clone_posted_Receive_posted_Receive_ann = true := by kernel_rfl
theorem V.slices_Clone_posted_Receive_posted_Receive_cs : (calleesC (bodyOf Try.f71)).all (entersB Try.prog) = true := by kernel_rfl
theorem V.slices_Clone_posted_Receive_posted_Receive_calls {A1 : Option Addr} {N1 : Nat} {C1 : Nat}  {w : World} {R : Value → World → Prop} (h : V.slices_Clone_posted_Receive_posted_Receive A1 N1 C1 w R) : Calls Try.prog 71 #[.slice A1 N1 C1] w fun e w' => ∃ v, e = .returned v ∧ R v w' :=
  fn_sound (by kernel_rfl) Try.func71 (by kernel_rfl) V.slices_Clone_posted_Receive_posted_Receive_ok (enters_all V.slices_Clone_posted_Receive_posted_Receive_cs) (by kernel_rfl) ((V.slices_Clone_posted_Receive_posted_Receive_eq A1 N1 C1 w R).mp h)

def V.slices_IndexFunc_posted_Receive_posted_Receive (A1 : Option Addr) (N1 : Nat) (C1 : Nat) (g1 : Nat) (cap1 : List Value) (w : World) (R : Value → World → Prop) : Prop :=
  ∃ (I2 : Int → World → Prop) (μ3 : Int → World → Nat),
  I2 (0 : Int) w ∧
  ∀ n6 : Int, ∀ (jk5 : Env) (w4 : World), I2 n6 w4 →
  ifb (decide (n6 < ((N1 : Nat) : Int)))
  (0 ≤ n6 ∧ n6 < ((N1 : Nat) : Int) ∧ ∃ b7 o8 : Nat, (A1 : Option Addr) = some ⟨b7, o8, none⟩ ∧
  ∃ s9 : ByteArray, ∃ n10 : Int, ∃ n11 : Int, ∃ n12 : Int, ∃ n13 : Int, ∃ n14 : Int, ∃ t15 : Bool, ∃ n16 : Int, ∃ n17 : Int, Cells w4 ⟨b7, o8 + n6.toNat * 9, none⟩ [.string s9, .int .i64 n10, .int .i64 n11, .int .i64 n12, .int .i64 n13, .int .i64 n14, .bool t15, .int .i64 n16, .int .i64 n17] ∧
  Enters Try.prog g1 ∧
  Calls Try.prog g1 ((.agg #[.string s9, .int .i64 n10, .int .i64 n11, .int .i64 n12, .int .i64 n13, .int .i64 n14, .bool t15, .int .i64 n16, .int .i64 n17]) :: cap1).toArray w4 fun e w18 => ∃ t19 : Bool, e = .returned (.bool t19) ∧
  ifb t19
  (R (.int .i64 n6) w18)
  (∃ c20 : Int, IntKind.wrap .i64 (n6 + (1 : Int)) = c20 ∧
  I2 c20 w18 ∧ μ3 c20 w18 < μ3 n6 w4))
  (R (.int .i64 (-1)) w4)
def V.slices_IndexFunc_posted_Receive_posted_Receive_ann : Ann := .s (.no) (.s (.s (.no) (.b (.loop [(8, .one (.i .i64))] (.no)))) (.no))
theorem V.slices_IndexFunc_posted_Receive_posted_Receive_eq (A1 : Option Addr) (N1 : Nat) (C1 : Nat) (g1 : Nat) (cap1 : List Value) (w : World) (R : Value → World → Prop) : V.slices_IndexFunc_posted_Receive_posted_Receive A1 N1 C1 g1 cap1 w R = fnW Try.prog [] [.tmp 4] (bodyOf Try.f72) V.slices_IndexFunc_posted_Receive_posted_Receive_ann [.slice A1 N1 C1, .func (.func g1) #[] cap1.toArray] w R := by kernel_rfl
theorem V.slices_IndexFunc_posted_Receive_posted_Receive_ok : okC 19 (bodyOf Try.f72) V.slices_IndexFunc_posted_Receive_posted_Receive_ann = true := by kernel_rfl
theorem V.slices_IndexFunc_posted_Receive_posted_Receive_cs : (calleesC (bodyOf Try.f72)).all (entersB Try.prog) = true := by kernel_rfl
theorem V.slices_IndexFunc_posted_Receive_posted_Receive_calls {A1 : Option Addr} {N1 : Nat} {C1 : Nat} {g1 : Nat} {cap1 : List Value}  {w : World} {R : Value → World → Prop} (h : V.slices_IndexFunc_posted_Receive_posted_Receive A1 N1 C1 g1 cap1 w R) : Calls Try.prog 72 [.slice A1 N1 C1, .func (.func g1) #[] cap1.toArray].toArray w fun e w' => ∃ v, e = .returned v ∧ R v w' :=
  fn_sound (by kernel_rfl) Try.func72 (by kernel_rfl) V.slices_IndexFunc_posted_Receive_posted_Receive_ok (enters_all V.slices_IndexFunc_posted_Receive_posted_Receive_cs) (by kernel_rfl) ((V.slices_IndexFunc_posted_Receive_posted_Receive_eq A1 N1 C1 g1 cap1 w R).mp h)

def V.posted_Posted_place_1 (s1 : ByteArray) (n2 : Int) (n3 : Int) (n4 : Int) (n5 : Int) (n6 : Int) (t7 : Bool) (n8 : Int) (n9 : Int) (f10 : Nat) (w : World) (R : Value → World → Prop) : Prop :=
  ∀ (b11 : Nat) (w12 : World), New w w12 b11 [.string s1, .int .i64 n2, .int .i64 n3, .int .i64 n4, .int .i64 n5, .int .i64 n6, .bool t7, .int .i64 n8, .int .i64 n9] 57 →
  ∃ n13 : Int, w12.cell? ⟨b11, 2, none⟩ = some (.int .i64 n13) ∧
  ∃ n14 : Int, w12.cell? ⟨f10, 0, none⟩ = some (.int .i64 n14) ∧
  R (.bool (n13 == n14)) w12
def V.posted_Posted_place_1_ann : Ann := .no
theorem V.posted_Posted_place_1_eq (s1 : ByteArray) (n2 : Int) (n3 : Int) (n4 : Int) (n5 : Int) (n6 : Int) (t7 : Bool) (n8 : Int) (n9 : Int) (f10 : Nat) (w : World) (R : Value → World → Prop) : V.posted_Posted_place_1 s1 n2 n3 n4 n5 n6 t7 n8 n9 f10 w R = fnW Try.prog [] [.tmp 3] (bodyOf Try.f73) V.posted_Posted_place_1_ann [.agg #[.string s1, .int .i64 n2, .int .i64 n3, .int .i64 n4, .int .i64 n5, .int .i64 n6, .bool t7, .int .i64 n8, .int .i64 n9], .pointer (some ⟨f10, 0, none⟩)] w R := by kernel_rfl
theorem V.posted_Posted_place_1_ok : okC 8 (bodyOf Try.f73) V.posted_Posted_place_1_ann = true := by kernel_rfl
theorem V.posted_Posted_place_1_cs : (calleesC (bodyOf Try.f73)).all (entersB Try.prog) = true := by kernel_rfl
theorem V.posted_Posted_place_1_calls {s1 : ByteArray} {n2 : Int} {n3 : Int} {n4 : Int} {n5 : Int} {n6 : Int} {t7 : Bool} {n8 : Int} {n9 : Int} {f10 : Nat}  {w : World} {R : Value → World → Prop} (h : V.posted_Posted_place_1 s1 n2 n3 n4 n5 n6 t7 n8 n9 f10 w R) : Calls Try.prog 73 #[.agg #[.string s1, .int .i64 n2, .int .i64 n3, .int .i64 n4, .int .i64 n5, .int .i64 n6, .bool t7, .int .i64 n8, .int .i64 n9], .pointer (some ⟨f10, 0, none⟩)] w fun e w' => ∃ v, e = .returned v ∧ R v w' :=
  fn_sound (by kernel_rfl) Try.func73 (by kernel_rfl) V.posted_Posted_place_1_ok (enters_all V.posted_Posted_place_1_cs) (by kernel_rfl) ((V.posted_Posted_place_1_eq s1 n2 n3 n4 n5 n6 t7 n8 n9 f10 w R).mp h)

def V.posted_free (p1 : Option Addr) (s2 : ByteArray) (n3 : Int) (n4 : Int) (n5 : Int) (n6 : Int) (n7 : Int) (t8 : Bool) (n9 : Int) (n10 : Int) (A11 : Option Addr) (N11 : Nat) (C11 : Nat) (w : World) (R : Value → World → Prop) : Prop :=
  ∀ (b12 : Nat) (w13 : World), New w w13 b12 [.string s2, .int .i64 n3, .int .i64 n4, .int .i64 n5, .int .i64 n6, .int .i64 n7, .bool t8, .int .i64 n9, .int .i64 n10] 57 →
  Calls Try.prog 52 #[.slice A11 N11 C11, .func (.func 53) #[] #[]] w13 fun e w14 => ∃ A15 : Option Addr, ∃ N15 : Nat, ∃ C15 : Nat, e = .returned (.slice A15 N15 C15) ∧
  ∃ s16 : ByteArray, w14.cell? ⟨b12, 0, none⟩ = some (.string s16) ∧
  ∃ n17 : Int, w14.cell? ⟨b12, 1, none⟩ = some (.int .i64 n17) ∧
  Calls Try.prog 17 #[.pointer p1, .string s16, .int .i64 n17] w14 fun e w18 => ∃ A19 : Option Addr, ∃ N19 : Nat, ∃ C19 : Nat, e = .returned (.slice A19 N19 C19) ∧
  ∃ (I20 : Option Addr → Nat → Nat → Int → World → Prop) (μ21 : Option Addr → Nat → Nat → Int → World → Nat),
  I20 none 0 0 (0 : Int) w18 ∧
  ∀ A24 : Option Addr, ∀ N24 : Nat, ∀ C24 : Nat, ∀ n25 : Int, ∀ (jk23 : Env) (w22 : World), I20 A24 N24 C24 n25 w22 →
  ifb (decide (n25 < ((N19 : Nat) : Int)))
  (0 ≤ n25 ∧ n25 < ((N19 : Nat) : Int) ∧ ∃ b26 o27 : Nat, (A19 : Option Addr) = some ⟨b26, o27, none⟩ ∧
  ∃ n28 : Int, w22.cell? ⟨b26, o27 + n25.toNat * 1, none⟩ = some (.int .i64 n28) ∧
  ∃ J29 : World → Prop,
  (∃ n32 : Int, w22.cell? ⟨b12, 3, none⟩ = some (.int .i64 n32) ∧
  ifb (n32 != (-1 : Int))
  (∃ n33 : Int, w22.cell? ⟨b12, 3, none⟩ = some (.int .i64 n33) ∧
  ifb (n33 != n28)
  (∃ c34 : Int, IntKind.wrap .i64 (n25 + (1 : Int)) = c34 ∧
  I20 A24 N24 C24 c34 w22 ∧ μ21 A24 N24 C24 c34 w22 < μ21 A24 N24 C24 n25 w22)
  (J29 w22))
  (J29 w22)) ∧
  ∀ (jk31 : Env) (w30 : World), J29 w30 →
  ∃ s35 : ByteArray, w30.cell? ⟨b12, 0, none⟩ = some (.string s35) ∧
  ∃ n36 : Int, w30.cell? ⟨b12, 1, none⟩ = some (.int .i64 n36) ∧
  ∃ n37 : Int, w30.cell? ⟨b12, 4, none⟩ = some (.int .i64 n37) ∧
  Calls Try.prog 10 #[.pointer p1, .string s35, .int .i64 n28, .int .i64 n36, .int .i64 n37] w30 fun e w38 => ∃ s39 : ByteArray, ∃ n40 : Int, ∃ n41 : Int, ∃ n42 : Int, ∃ n43 : Int, ∃ n44 : Int, ∃ n45 : Int, ∃ t46 : Bool, ∃ t47 : Bool, e = .returned (.tuple #[.agg #[.string s39, .int .i64 n40, .int .i64 n41, .int .i64 n42, .int .i64 n43, .int .i64 n44, .int .i64 n45, .bool t46], .bool t47]) ∧
  ∀ (b48 : Nat) (w49 : World), New w38 w49 b48 [.string emptyS, .int .i64 0, .int .i64 0, .int .i64 0, .int .i64 0, .int .i64 0, .int .i64 0, .bool false] 28 →
  ∃ (l50 : List Value) (e51 : TypeId), Blk w49 b48 l50 e51 ∧ 0 + 8 ≤ l50.length ∧ ∀ w52 : World, Upd w49 w52 b48 (setSeg l50 0 [.string s39, .int .i64 n40, .int .i64 n41, .int .i64 n42, .int .i64 n43, .int .i64 n44, .int .i64 n45, .bool t46]) e51 →
  Calls Try.prog 97 #[.slice A15 N15 C15, .func (.func 98) #[] #[.pointer (some ⟨b48, 0, none⟩)]] w52 fun e w53 => ∃ t54 : Bool, e = .returned (.bool t54) ∧
  ifb t47
  (ifb (!t54)
  (∃ s55 : ByteArray, ∃ n56 : Int, ∃ n57 : Int, ∃ n58 : Int, ∃ n59 : Int, ∃ n60 : Int, ∃ n61 : Int, ∃ t62 : Bool, Cells w53 ⟨b48, 0, none⟩ [.string s55, .int .i64 n56, .int .i64 n57, .int .i64 n58, .int .i64 n59, .int .i64 n60, .int .i64 n61, .bool t62] ∧
  ∀ (b63 : Nat) (w64 : World), New w53 w64 b63 [.string s55, .int .i64 n56, .int .i64 n57, .int .i64 n58, .int .i64 n59, .int .i64 n60, .int .i64 n61, .bool t62] 28 →
  ∃ xs65 news66 : List Value, w64.ownsRow 0 28 8 (.slice A24 N24 C24) N24 xs65 ∧ Reads w64 (some ⟨b63, 0, none⟩) 1 8 news66 ∧ N24 + 1 ≤ maxLen ∧ (N24 + 1) * 72 ≤ 140737488355328 ∧
  ∀ (A68 : Option Addr) (C68 : Nat) (w67 : World), w67.ownsRow 0 28 8 (.slice A68 (N24 + 1) C68) (N24 + 1) (xs65 ++ news66) → App w64 w67 A24 A68 →
  ∃ c69 : Int, IntKind.wrap .i64 (n25 + (1 : Int)) = c69 ∧
  I20 A68 (N24 + 1) C68 c69 w67 ∧ μ21 A68 (N24 + 1) C68 c69 w67 < μ21 A24 N24 C24 n25 w22)
  (∃ c70 : Int, IntKind.wrap .i64 (n25 + (1 : Int)) = c70 ∧
  I20 A24 N24 C24 c70 w53 ∧ μ21 A24 N24 C24 c70 w53 < μ21 A24 N24 C24 n25 w22))
  (∃ c71 : Int, IntKind.wrap .i64 (n25 + (1 : Int)) = c71 ∧
  I20 A24 N24 C24 c71 w53 ∧ μ21 A24 N24 C24 c71 w53 < μ21 A24 N24 C24 n25 w22))
  (R (.slice A24 N24 C24) w22)
def V.posted_free_ann : Ann := .s (.no) (.s (.no) (.s (.no) (.s (.s (.no) (.b (.loop [(7, .one .sl), (23, .one (.i .i64))] (.s (.no) (.s (.no) (.s (.b (.s (.no) (.s (.jn [] (.no)) (.no)))) (.no))))))) (.no))))
theorem V.posted_free_eq (p1 : Option Addr) (s2 : ByteArray) (n3 : Int) (n4 : Int) (n5 : Int) (n6 : Int) (n7 : Int) (t8 : Bool) (n9 : Int) (n10 : Int) (A11 : Option Addr) (N11 : Nat) (C11 : Nat) (w : World) (R : Value → World → Prop) : V.posted_free p1 s2 n3 n4 n5 n6 n7 t8 n9 n10 A11 N11 C11 w R = fnW Try.prog [] [.tmp 6] (bodyOf Try.f89) V.posted_free_ann [.pointer p1, .agg #[.string s2, .int .i64 n3, .int .i64 n4, .int .i64 n5, .int .i64 n6, .int .i64 n7, .bool t8, .int .i64 n9, .int .i64 n10], .slice A11 N11 C11] w R := by kernel_rfl
theorem V.posted_free_ok : okC 62 (bodyOf Try.f89) V.posted_free_ann = true := by kernel_rfl
theorem V.posted_free_cs : (calleesC (bodyOf Try.f89)).all (entersB Try.prog) = true := by kernel_rfl
theorem V.posted_free_calls {p1 : Option Addr} {s2 : ByteArray} {n3 : Int} {n4 : Int} {n5 : Int} {n6 : Int} {n7 : Int} {t8 : Bool} {n9 : Int} {n10 : Int} {A11 : Option Addr} {N11 : Nat} {C11 : Nat}  {w : World} {R : Value → World → Prop} (h : V.posted_free p1 s2 n3 n4 n5 n6 n7 t8 n9 n10 A11 N11 C11 w R) : Calls Try.prog 89 #[.pointer p1, .agg #[.string s2, .int .i64 n3, .int .i64 n4, .int .i64 n5, .int .i64 n6, .int .i64 n7, .bool t8, .int .i64 n9, .int .i64 n10], .slice A11 N11 C11] w fun e w' => ∃ v, e = .returned v ∧ R v w' :=
  fn_sound (by kernel_rfl) Try.func89 (by kernel_rfl) V.posted_free_ok (enters_all V.posted_free_cs) (by kernel_rfl) ((V.posted_free_eq p1 s2 n3 n4 n5 n6 n7 t8 n9 n10 A11 N11 C11 w R).mp h)

def V.dispatcherref14_Posted_all (p1 : Option Addr) (p2 : Option Addr) (s3 : ByteArray) (n4 : Int) (n5 : Int) (n6 : Int) (n7 : Int) (n8 : Int) (t9 : Bool) (n10 : Int) (n11 : Int) (t12 : Bool) (w : World) (R : Value → World → Prop) : Prop :=
  ∀ (b13 : Nat) (w14 : World), New w w14 b13 [.string s3, .int .i64 n4, .int .i64 n5, .int .i64 n6, .int .i64 n7, .int .i64 n8, .bool t9, .int .i64 n10, .int .i64 n11] 57 →
  Calls Try.prog 27 #[.pointer p2] w14 fun e w15 => ∃ A16 : Option Addr, ∃ N16 : Nat, ∃ C16 : Nat, e = .returned (.slice A16 N16 C16) ∧
  ∃ (I17 : Option Addr → Nat → Nat → Int → World → Prop) (μ18 : Option Addr → Nat → Nat → Int → World → Nat),
  I17 none 0 0 (0 : Int) w15 ∧
  ∀ A21 : Option Addr, ∀ N21 : Nat, ∀ C21 : Nat, ∀ n22 : Int, ∀ (jk20 : Env) (w19 : World), I17 A21 N21 C21 n22 w19 →
  ifb (decide (n22 < (64 : Int)))
  (∃ (I23 : Option Addr → Nat → Nat → Int → World → Prop) (μ24 : Option Addr → Nat → Nat → Int → World → Nat),
  I23 A21 N21 C21 (0 : Int) w19 ∧
  ∀ A27 : Option Addr, ∀ N27 : Nat, ∀ C27 : Nat, ∀ n28 : Int, ∀ (jk26 : Env) (w25 : World), I23 A27 N27 C27 n28 w25 →
  ifb (decide (n28 < ((N16 : Nat) : Int)))
  (0 ≤ n28 ∧ n28 < ((N16 : Nat) : Int) ∧ ∃ b29 o30 : Nat, (A16 : Option Addr) = some ⟨b29, o30, none⟩ ∧
  ∃ n31 : Int, w25.drew.cell? ⟨b29, o30 + n28.toNat * 8 + 1, none⟩ = some (.int .i64 n31) ∧
  ifb (n31 == n22)
  (∃ s32 : ByteArray, ∃ n33 : Int, ∃ n34 : Int, ∃ n35 : Int, ∃ n36 : Int, ∃ n37 : Int, ∃ t38 : Bool, ∃ n39 : Int, ∃ n40 : Int, Cells w25.drew ⟨b13, 0, none⟩ [.string s32, .int .i64 n33, .int .i64 n34, .int .i64 n35, .int .i64 n36, .int .i64 n37, .bool t38, .int .i64 n39, .int .i64 n40] ∧
  0 ≤ n28 ∧ n28 < ((N16 : Nat) : Int) ∧ ∃ b41 o42 : Nat, (A16 : Option Addr) = some ⟨b41, o42, none⟩ ∧
  ∃ s43 : ByteArray, ∃ n44 : Int, ∃ n45 : Int, ∃ n46 : Int, ∃ n47 : Int, ∃ n48 : Int, ∃ n49 : Int, ∃ t50 : Bool, Cells w25.drew ⟨b41, o42 + n28.toNat * 8, none⟩ [.string s43, .int .i64 n44, .int .i64 n45, .int .i64 n46, .int .i64 n47, .int .i64 n48, .int .i64 n49, .bool t50] ∧
  Calls Try.prog 99 #[.pointer p1, .pointer p2, .agg #[.string s32, .int .i64 n33, .int .i64 n34, .int .i64 n35, .int .i64 n36, .int .i64 n37, .bool t38, .int .i64 n39, .int .i64 n40], .agg #[.string s43, .int .i64 n44, .int .i64 n45, .int .i64 n46, .int .i64 n47, .int .i64 n48, .int .i64 n49, .bool t50], .bool t12] w25.drew fun e w51 => ∃ t52 : Bool, e = .returned (.bool t52) ∧
  ifb t52
  (0 ≤ n28 ∧ n28 < ((N16 : Nat) : Int) ∧ ∃ b53 o54 : Nat, (A16 : Option Addr) = some ⟨b53, o54, none⟩ ∧
  ∃ s55 : ByteArray, ∃ n56 : Int, ∃ n57 : Int, ∃ n58 : Int, ∃ n59 : Int, ∃ n60 : Int, ∃ n61 : Int, ∃ t62 : Bool, Cells w51 ⟨b53, o54 + n28.toNat * 8, none⟩ [.string s55, .int .i64 n56, .int .i64 n57, .int .i64 n58, .int .i64 n59, .int .i64 n60, .int .i64 n61, .bool t62] ∧
  ∀ (b63 : Nat) (w64 : World), New w51 w64 b63 [.string s55, .int .i64 n56, .int .i64 n57, .int .i64 n58, .int .i64 n59, .int .i64 n60, .int .i64 n61, .bool t62] 28 →
  ∃ xs65 news66 : List Value, w64.ownsRow 0 28 8 (.slice A27 N27 C27) N27 xs65 ∧ Reads w64 (some ⟨b63, 0, none⟩) 1 8 news66 ∧ N27 + 1 ≤ maxLen ∧ (N27 + 1) * 72 ≤ 140737488355328 ∧
  ∀ (A68 : Option Addr) (C68 : Nat) (w67 : World), w67.ownsRow 0 28 8 (.slice A68 (N27 + 1) C68) (N27 + 1) (xs65 ++ news66) → App w64 w67 A27 A68 →
  ∃ c69 : Int, IntKind.wrap .i64 (n28 + (1 : Int)) = c69 ∧
  I23 A68 (N27 + 1) C68 c69 w67 ∧ μ24 A68 (N27 + 1) C68 c69 w67 < μ24 A27 N27 C27 n28 w25)
  (∃ c70 : Int, IntKind.wrap .i64 (n28 + (1 : Int)) = c70 ∧
  I23 A27 N27 C27 c70 w51 ∧ μ24 A27 N27 C27 c70 w51 < μ24 A27 N27 C27 n28 w25))
  (∃ c71 : Int, IntKind.wrap .i64 (n28 + (1 : Int)) = c71 ∧
  I23 A27 N27 C27 c71 w25.drew ∧ μ24 A27 N27 C27 c71 w25.drew < μ24 A27 N27 C27 n28 w25))
  (∃ c72 : Int, IntKind.wrap .i64 (n22 + (1 : Int)) = c72 ∧
  I17 A27 N27 C27 c72 w25 ∧ μ18 A27 N27 C27 c72 w25 < μ18 A21 N21 C21 n22 w19))
  (R (.slice A21 N21 C21) w19)
def V.dispatcherref14_Posted_all_ann : Ann := .s (.no) (.s (.no) (.s (.no) (.s (.s (.no) (.b (.loop [(9, .one .sl), (11, .one (.i .i64))] (.s (.no) (.s (.b (.s (.no) (.b (.loop [(9, .one .sl), (12, .one (.i .i64))] (.s (.no) (.s (.b (.s (.draw (.r 0 (.r 1 (.r 2 (.r 3 (.r 4 (.r 5 (.r 6 (.r 7 (.r 8 (.r 9 (.r 10 (.r 11 (.r 12 (.r 13 (.r 14 (.r 15 (.e 16 [4, 10, 14] (.r 17 (.done))))))))))))))))))) [(6, 4), (7, 4), (16, 4), (16, 10), (16, 14)]) (.no))) (.no))))))) (.no)))))) (.no))))
theorem V.dispatcherref14_Posted_all_eq (p1 : Option Addr) (p2 : Option Addr) (s3 : ByteArray) (n4 : Int) (n5 : Int) (n6 : Int) (n7 : Int) (n8 : Int) (t9 : Bool) (n10 : Int) (n11 : Int) (t12 : Bool) (w : World) (R : Value → World → Prop) : V.dispatcherref14_Posted_all p1 p2 s3 n4 n5 n6 n7 n8 t9 n10 n11 t12 w R = fnW Try.prog [] [.tmp 8] (bodyOf Try.f90) V.dispatcherref14_Posted_all_ann [.pointer p1, .pointer p2, .agg #[.string s3, .int .i64 n4, .int .i64 n5, .int .i64 n6, .int .i64 n7, .int .i64 n8, .bool t9, .int .i64 n10, .int .i64 n11], .bool t12] w R := by kernel_rfl
theorem V.dispatcherref14_Posted_all_ok : okC 51 (bodyOf Try.f90) V.dispatcherref14_Posted_all_ann = true := by kernel_rfl
theorem V.dispatcherref14_Posted_all_cs : (calleesC (bodyOf Try.f90)).all (entersB Try.prog) = true := by kernel_rfl
theorem V.dispatcherref14_Posted_all_calls {p1 : Option Addr} {p2 : Option Addr} {s3 : ByteArray} {n4 : Int} {n5 : Int} {n6 : Int} {n7 : Int} {n8 : Int} {t9 : Bool} {n10 : Int} {n11 : Int} {t12 : Bool}  {w : World} {R : Value → World → Prop} (h : V.dispatcherref14_Posted_all p1 p2 s3 n4 n5 n6 n7 n8 t9 n10 n11 t12 w R) : Calls Try.prog 90 #[.pointer p1, .pointer p2, .agg #[.string s3, .int .i64 n4, .int .i64 n5, .int .i64 n6, .int .i64 n7, .int .i64 n8, .bool t9, .int .i64 n10, .int .i64 n11], .bool t12] w fun e w' => ∃ v, e = .returned v ∧ R v w' :=
  fn_sound (by kernel_rfl) Try.func90 (by kernel_rfl) V.dispatcherref14_Posted_all_ok (enters_all V.dispatcherref14_Posted_all_cs) (by kernel_rfl) ((V.dispatcherref14_Posted_all_eq p1 p2 s3 n4 n5 n6 n7 n8 t9 n10 n11 t12 w R).mp h)

def V.slices_ContainsFunc_posted_Receive_posted_Receive (A1 : Option Addr) (N1 : Nat) (C1 : Nat) (g1 : Nat) (cap1 : List Value) (w : World) (R : Value → World → Prop) : Prop :=
  Calls Try.prog 72 #[.slice A1 N1 C1, .func (.func g1) #[] cap1.toArray] w fun e w2 => ∃ n3 : Int, e = .returned (.int .i64 n3) ∧
  R (.bool (decide (n3 ≥ (0 : Int)))) w2
def V.slices_ContainsFunc_posted_Receive_posted_Receive_ann : Ann := .no
theorem V.slices_ContainsFunc_posted_Receive_posted_Receive_eq (A1 : Option Addr) (N1 : Nat) (C1 : Nat) (g1 : Nat) (cap1 : List Value) (w : World) (R : Value → World → Prop) : V.slices_ContainsFunc_posted_Receive_posted_Receive A1 N1 C1 g1 cap1 w R = fnW Try.prog [] [.tmp 4] (bodyOf Try.f97) V.slices_ContainsFunc_posted_Receive_posted_Receive_ann [.slice A1 N1 C1, .func (.func g1) #[] cap1.toArray] w R := by kernel_rfl
theorem V.slices_ContainsFunc_posted_Receive_posted_Receive_ok : okC 9 (bodyOf Try.f97) V.slices_ContainsFunc_posted_Receive_posted_Receive_ann = true := by kernel_rfl
theorem V.slices_ContainsFunc_posted_Receive_posted_Receive_cs : (calleesC (bodyOf Try.f97)).all (entersB Try.prog) = true := by kernel_rfl
theorem V.slices_ContainsFunc_posted_Receive_posted_Receive_calls {A1 : Option Addr} {N1 : Nat} {C1 : Nat} {g1 : Nat} {cap1 : List Value}  {w : World} {R : Value → World → Prop} (h : V.slices_ContainsFunc_posted_Receive_posted_Receive A1 N1 C1 g1 cap1 w R) : Calls Try.prog 97 [.slice A1 N1 C1, .func (.func g1) #[] cap1.toArray].toArray w fun e w' => ∃ v, e = .returned v ∧ R v w' :=
  fn_sound (by kernel_rfl) Try.func97 (by kernel_rfl) V.slices_ContainsFunc_posted_Receive_posted_Receive_ok (enters_all V.slices_ContainsFunc_posted_Receive_posted_Receive_cs) (by kernel_rfl) ((V.slices_ContainsFunc_posted_Receive_posted_Receive_eq A1 N1 C1 g1 cap1 w R).mp h)

def V.posted_free_1 (s1 : ByteArray) (n2 : Int) (n3 : Int) (n4 : Int) (n5 : Int) (n6 : Int) (t7 : Bool) (n8 : Int) (n9 : Int) (f10 : Nat) (w : World) (R : Value → World → Prop) : Prop :=
  ∀ (b11 : Nat) (w12 : World), New w w12 b11 [.string s1, .int .i64 n2, .int .i64 n3, .int .i64 n4, .int .i64 n5, .int .i64 n6, .bool t7, .int .i64 n8, .int .i64 n9] 57 →
  ∃ s13 : ByteArray, ∃ n14 : Int, ∃ n15 : Int, ∃ n16 : Int, ∃ n17 : Int, ∃ n18 : Int, ∃ t19 : Bool, ∃ n20 : Int, ∃ n21 : Int, Cells w12 ⟨b11, 0, none⟩ [.string s13, .int .i64 n14, .int .i64 n15, .int .i64 n16, .int .i64 n17, .int .i64 n18, .bool t19, .int .i64 n20, .int .i64 n21] ∧
  ∃ s22 : ByteArray, ∃ n23 : Int, ∃ n24 : Int, ∃ n25 : Int, ∃ n26 : Int, ∃ n27 : Int, ∃ n28 : Int, ∃ t29 : Bool, Cells w12 ⟨f10, 0, none⟩ [.string s22, .int .i64 n23, .int .i64 n24, .int .i64 n25, .int .i64 n26, .int .i64 n27, .int .i64 n28, .bool t29] ∧
  Calls Try.prog 55 #[.agg #[.string s13, .int .i64 n14, .int .i64 n15, .int .i64 n16, .int .i64 n17, .int .i64 n18, .bool t19, .int .i64 n20, .int .i64 n21], .agg #[.string s22, .int .i64 n23, .int .i64 n24, .int .i64 n25, .int .i64 n26, .int .i64 n27, .int .i64 n28, .bool t29]] w12 fun e w30 => ∃ t31 : Bool, e = .returned (.bool t31) ∧
  R (.bool t31) w30
def V.posted_free_1_ann : Ann := .no
theorem V.posted_free_1_eq (s1 : ByteArray) (n2 : Int) (n3 : Int) (n4 : Int) (n5 : Int) (n6 : Int) (t7 : Bool) (n8 : Int) (n9 : Int) (f10 : Nat) (w : World) (R : Value → World → Prop) : V.posted_free_1 s1 n2 n3 n4 n5 n6 t7 n8 n9 f10 w R = fnW Try.prog [] [.tmp 3] (bodyOf Try.f98) V.posted_free_1_ann [.agg #[.string s1, .int .i64 n2, .int .i64 n3, .int .i64 n4, .int .i64 n5, .int .i64 n6, .bool t7, .int .i64 n8, .int .i64 n9], .pointer (some ⟨f10, 0, none⟩)] w R := by kernel_rfl
theorem V.posted_free_1_ok : okC 7 (bodyOf Try.f98) V.posted_free_1_ann = true := by kernel_rfl
theorem V.posted_free_1_cs : (calleesC (bodyOf Try.f98)).all (entersB Try.prog) = true := by kernel_rfl
theorem V.posted_free_1_calls {s1 : ByteArray} {n2 : Int} {n3 : Int} {n4 : Int} {n5 : Int} {n6 : Int} {t7 : Bool} {n8 : Int} {n9 : Int} {f10 : Nat}  {w : World} {R : Value → World → Prop} (h : V.posted_free_1 s1 n2 n3 n4 n5 n6 t7 n8 n9 f10 w R) : Calls Try.prog 98 #[.agg #[.string s1, .int .i64 n2, .int .i64 n3, .int .i64 n4, .int .i64 n5, .int .i64 n6, .bool t7, .int .i64 n8, .int .i64 n9], .pointer (some ⟨f10, 0, none⟩)] w fun e w' => ∃ v, e = .returned v ∧ R v w' :=
  fn_sound (by kernel_rfl) Try.func98 (by kernel_rfl) V.posted_free_1_ok (enters_all V.posted_free_1_cs) (by kernel_rfl) ((V.posted_free_1_eq s1 n2 n3 n4 n5 n6 t7 n8 n9 f10 w R).mp h)

def V.dispatcherref14_Posted_its (p1 : Option Addr) (p2 : Option Addr) (s3 : ByteArray) (n4 : Int) (n5 : Int) (n6 : Int) (n7 : Int) (n8 : Int) (t9 : Bool) (n10 : Int) (n11 : Int) (s12 : ByteArray) (n13 : Int) (n14 : Int) (n15 : Int) (n16 : Int) (n17 : Int) (n18 : Int) (t19 : Bool) (t20 : Bool) (w : World) (R : Value → World → Prop) : Prop :=
  ∀ (b21 : Nat) (w22 : World), New w w22 b21 [.string s3, .int .i64 n4, .int .i64 n5, .int .i64 n6, .int .i64 n7, .int .i64 n8, .bool t9, .int .i64 n10, .int .i64 n11] 57 →
  ∀ (b23 : Nat) (w24 : World), New w22 w24 b23 [.string s12, .int .i64 n13, .int .i64 n14, .int .i64 n15, .int .i64 n16, .int .i64 n17, .int .i64 n18, .bool t19] 28 →
  ∃ t25 : Bool, w24.cell? ⟨b23, 7, none⟩ = some (.bool t25) ∧
  ifb t25
  (R (.bool false) w24)
  (∃ s26 : ByteArray, ∃ n27 : Int, ∃ n28 : Int, ∃ n29 : Int, ∃ n30 : Int, ∃ n31 : Int, ∃ t32 : Bool, ∃ n33 : Int, ∃ n34 : Int, Cells w24 ⟨b21, 0, none⟩ [.string s26, .int .i64 n27, .int .i64 n28, .int .i64 n29, .int .i64 n30, .int .i64 n31, .bool t32, .int .i64 n33, .int .i64 n34] ∧
  ∃ s35 : ByteArray, ∃ n36 : Int, ∃ n37 : Int, ∃ n38 : Int, ∃ n39 : Int, ∃ n40 : Int, ∃ n41 : Int, ∃ t42 : Bool, Cells w24 ⟨b23, 0, none⟩ [.string s35, .int .i64 n36, .int .i64 n37, .int .i64 n38, .int .i64 n39, .int .i64 n40, .int .i64 n41, .bool t42] ∧
  Calls Try.prog 29 #[.agg #[.string s26, .int .i64 n27, .int .i64 n28, .int .i64 n29, .int .i64 n30, .int .i64 n31, .bool t32, .int .i64 n33, .int .i64 n34], .agg #[.string s35, .int .i64 n36, .int .i64 n37, .int .i64 n38, .int .i64 n39, .int .i64 n40, .int .i64 n41, .bool t42]] w24 fun e w43 => ∃ t44 : Bool, e = .returned (.bool t44) ∧
  ifb (!t44)
  (R (.bool false) w43)
  (∃ s45 : ByteArray, ∃ n46 : Int, ∃ n47 : Int, ∃ n48 : Int, ∃ n49 : Int, ∃ n50 : Int, ∃ n51 : Int, ∃ t52 : Bool, Cells w43 ⟨b23, 0, none⟩ [.string s45, .int .i64 n46, .int .i64 n47, .int .i64 n48, .int .i64 n49, .int .i64 n50, .int .i64 n51, .bool t52] ∧
  Calls Try.prog 102 #[.pointer p2, .agg #[.string s45, .int .i64 n46, .int .i64 n47, .int .i64 n48, .int .i64 n49, .int .i64 n50, .int .i64 n51, .bool t52]] w43 fun e w53 => ∃ A54 : Option Addr, ∃ N54 : Nat, ∃ C54 : Nat, e = .returned (.slice A54 N54 C54) ∧
  ∃ (I55 : Int → World → Prop) (μ56 : Int → World → Nat),
  I55 (0 : Int) w53 ∧
  ∀ n59 : Int, ∀ (jk58 : Env) (w57 : World), I55 n59 w57 →
  ifb (decide (n59 < ((N54 : Nat) : Int)))
  (∃ s60 : ByteArray, ∃ n61 : Int, ∃ n62 : Int, ∃ n63 : Int, ∃ n64 : Int, ∃ n65 : Int, ∃ t66 : Bool, ∃ n67 : Int, ∃ n68 : Int, Cells w57.drew ⟨b21, 0, none⟩ [.string s60, .int .i64 n61, .int .i64 n62, .int .i64 n63, .int .i64 n64, .int .i64 n65, .bool t66, .int .i64 n67, .int .i64 n68] ∧
  0 ≤ n59 ∧ n59 < ((N54 : Nat) : Int) ∧ ∃ b69 o70 : Nat, (A54 : Option Addr) = some ⟨b69, o70, none⟩ ∧
  ∃ s71 : ByteArray, ∃ n72 : Int, ∃ n73 : Int, ∃ n74 : Int, ∃ n75 : Int, ∃ n76 : Int, ∃ n77 : Int, ∃ t78 : Bool, Cells w57.drew ⟨b69, o70 + n59.toNat * 8, none⟩ [.string s71, .int .i64 n72, .int .i64 n73, .int .i64 n74, .int .i64 n75, .int .i64 n76, .int .i64 n77, .bool t78] ∧
  Calls Try.prog 29 #[.agg #[.string s60, .int .i64 n61, .int .i64 n62, .int .i64 n63, .int .i64 n64, .int .i64 n65, .bool t66, .int .i64 n67, .int .i64 n68], .agg #[.string s71, .int .i64 n72, .int .i64 n73, .int .i64 n74, .int .i64 n75, .int .i64 n76, .int .i64 n77, .bool t78]] w57.drew fun e w79 => ∃ t80 : Bool, e = .returned (.bool t80) ∧
  ifb t80
  (R (.bool false) w79)
  (∃ c81 : Int, IntKind.wrap .i64 (n59 + (1 : Int)) = c81 ∧
  I55 c81 w79 ∧ μ56 c81 w79 < μ56 n59 w57))
  (∃ n82 : Int, w57.cell? ⟨b21, 1, none⟩ = some (.int .i64 n82) ∧
  Calls Try.prog 26 #[.pointer p1, .int .i64 n82] w57 fun e w83 => ∃ A84 : Option Addr, ∃ N84 : Nat, ∃ C84 : Nat, e = .returned (.slice A84 N84 C84) ∧
  ∃ (I85 : Int → World → Prop) (μ86 : Int → World → Nat),
  I85 (0 : Int) w83 ∧
  ∀ n89 : Int, ∀ (jk88 : Env) (w87 : World), I85 n89 w87 →
  ifb (decide (n89 < ((N84 : Nat) : Int)))
  (ifb t20
  (0 ≤ n89 ∧ n89 < ((N84 : Nat) : Int) ∧ ∃ b90 o91 : Nat, (A84 : Option Addr) = some ⟨b90, o91, none⟩ ∧
  ∃ s92 : ByteArray, ∃ n93 : Int, ∃ n94 : Int, ∃ n95 : Int, ∃ n96 : Int, ∃ n97 : Int, ∃ t98 : Bool, ∃ n99 : Int, ∃ n100 : Int, Cells w87.drew ⟨b90, o91 + n89.toNat * 9, none⟩ [.string s92, .int .i64 n93, .int .i64 n94, .int .i64 n95, .int .i64 n96, .int .i64 n97, .bool t98, .int .i64 n99, .int .i64 n100] ∧
  ∃ s101 : ByteArray, ∃ n102 : Int, ∃ n103 : Int, ∃ n104 : Int, ∃ n105 : Int, ∃ n106 : Int, ∃ n107 : Int, ∃ t108 : Bool, Cells w87.drew ⟨b23, 0, none⟩ [.string s101, .int .i64 n102, .int .i64 n103, .int .i64 n104, .int .i64 n105, .int .i64 n106, .int .i64 n107, .bool t108] ∧
  Calls Try.prog 29 #[.agg #[.string s92, .int .i64 n93, .int .i64 n94, .int .i64 n95, .int .i64 n96, .int .i64 n97, .bool t98, .int .i64 n99, .int .i64 n100], .agg #[.string s101, .int .i64 n102, .int .i64 n103, .int .i64 n104, .int .i64 n105, .int .i64 n106, .int .i64 n107, .bool t108]] w87.drew fun e w109 => ∃ t110 : Bool, e = .returned (.bool t110) ∧
  ifb t110
  (R (.bool false) w109)
  (∃ c111 : Int, IntKind.wrap .i64 (n89 + (1 : Int)) = c111 ∧
  I85 c111 w109 ∧ μ86 c111 w109 < μ86 n89 w87))
  (0 ≤ n89 ∧ n89 < ((N84 : Nat) : Int) ∧ ∃ b112 o113 : Nat, (A84 : Option Addr) = some ⟨b112, o113, none⟩ ∧
  ∃ n114 : Int, w87.drew.cell? ⟨b112, o113 + n89.toNat * 9 + 2, none⟩ = some (.int .i64 n114) ∧
  ∃ n115 : Int, w87.drew.cell? ⟨b21, 2, none⟩ = some (.int .i64 n115) ∧
  ifb (decide (n114 < n115))
  (0 ≤ n89 ∧ n89 < ((N84 : Nat) : Int) ∧ ∃ b116 o117 : Nat, (A84 : Option Addr) = some ⟨b116, o117, none⟩ ∧
  ∃ s118 : ByteArray, ∃ n119 : Int, ∃ n120 : Int, ∃ n121 : Int, ∃ n122 : Int, ∃ n123 : Int, ∃ t124 : Bool, ∃ n125 : Int, ∃ n126 : Int, Cells w87.drew ⟨b116, o117 + n89.toNat * 9, none⟩ [.string s118, .int .i64 n119, .int .i64 n120, .int .i64 n121, .int .i64 n122, .int .i64 n123, .bool t124, .int .i64 n125, .int .i64 n126] ∧
  ∃ s127 : ByteArray, ∃ n128 : Int, ∃ n129 : Int, ∃ n130 : Int, ∃ n131 : Int, ∃ n132 : Int, ∃ n133 : Int, ∃ t134 : Bool, Cells w87.drew ⟨b23, 0, none⟩ [.string s127, .int .i64 n128, .int .i64 n129, .int .i64 n130, .int .i64 n131, .int .i64 n132, .int .i64 n133, .bool t134] ∧
  Calls Try.prog 29 #[.agg #[.string s118, .int .i64 n119, .int .i64 n120, .int .i64 n121, .int .i64 n122, .int .i64 n123, .bool t124, .int .i64 n125, .int .i64 n126], .agg #[.string s127, .int .i64 n128, .int .i64 n129, .int .i64 n130, .int .i64 n131, .int .i64 n132, .int .i64 n133, .bool t134]] w87.drew fun e w135 => ∃ t136 : Bool, e = .returned (.bool t136) ∧
  ifb t136
  (R (.bool false) w135)
  (∃ c137 : Int, IntKind.wrap .i64 (n89 + (1 : Int)) = c137 ∧
  I85 c137 w135 ∧ μ86 c137 w135 < μ86 n89 w87))
  (∃ c138 : Int, IntKind.wrap .i64 (n89 + (1 : Int)) = c138 ∧
  I85 c138 w87.drew ∧ μ86 c138 w87.drew < μ86 n89 w87)))
  (R (.bool true) w87))))
def V.dispatcherref14_Posted_its_ann : Ann := .s (.no) (.s (.no) (.s (.no) (.s (.s (.no) (.b (.loop [(12, .one (.i .i64))] (.s (.no) (.s (.b (.s (.draw (.r 0 (.r 1 (.r 2 (.r 3 (.r 4 (.e 5 [0, 4] (.done))))))) [(5, 0), (5, 4)]) (.no))) (.no)))))) (.s (.no) (.s (.s (.no) (.b (.loop [(14, .one (.i .i64))] (.s (.no) (.s (.b (.s (.draw (.r 0 (.r 1 (.r 2 (.r 3 (.r 4 (.r 5 (.r 6 (.r 7 (.r 8 (.r 9 (.r 10 (.r 11 (.r 12 (.r 13 (.r 14 (.r 15 (.r 16 (.e 17 [6, 8, 15, 16] (.r 18 (.done)))))))))))))))))))) [(9, 6), (9, 8), (10, 6), (10, 8), (11, 6), (11, 8), (17, 6), (17, 8), (17, 15), (17, 16)]) (.no))) (.no)))))) (.no))))))
theorem V.dispatcherref14_Posted_its_eq (p1 : Option Addr) (p2 : Option Addr) (s3 : ByteArray) (n4 : Int) (n5 : Int) (n6 : Int) (n7 : Int) (n8 : Int) (t9 : Bool) (n10 : Int) (n11 : Int) (s12 : ByteArray) (n13 : Int) (n14 : Int) (n15 : Int) (n16 : Int) (n17 : Int) (n18 : Int) (t19 : Bool) (t20 : Bool) (w : World) (R : Value → World → Prop) : V.dispatcherref14_Posted_its p1 p2 s3 n4 n5 n6 n7 n8 t9 n10 n11 s12 n13 n14 n15 n16 n17 n18 t19 t20 w R = fnW Try.prog [] [.tmp 10] (bodyOf Try.f99) V.dispatcherref14_Posted_its_ann [.pointer p1, .pointer p2, .agg #[.string s3, .int .i64 n4, .int .i64 n5, .int .i64 n6, .int .i64 n7, .int .i64 n8, .bool t9, .int .i64 n10, .int .i64 n11], .agg #[.string s12, .int .i64 n13, .int .i64 n14, .int .i64 n15, .int .i64 n16, .int .i64 n17, .int .i64 n18, .bool t19], .bool t20] w R := by kernel_rfl
theorem V.dispatcherref14_Posted_its_ok : okC 67 (bodyOf Try.f99) V.dispatcherref14_Posted_its_ann = true := by kernel_rfl
theorem V.dispatcherref14_Posted_its_cs : (calleesC (bodyOf Try.f99)).all (entersB Try.prog) = true := by kernel_rfl
theorem V.dispatcherref14_Posted_its_calls {p1 : Option Addr} {p2 : Option Addr} {s3 : ByteArray} {n4 : Int} {n5 : Int} {n6 : Int} {n7 : Int} {n8 : Int} {t9 : Bool} {n10 : Int} {n11 : Int} {s12 : ByteArray} {n13 : Int} {n14 : Int} {n15 : Int} {n16 : Int} {n17 : Int} {n18 : Int} {t19 : Bool} {t20 : Bool}  {w : World} {R : Value → World → Prop} (h : V.dispatcherref14_Posted_its p1 p2 s3 n4 n5 n6 n7 n8 t9 n10 n11 s12 n13 n14 n15 n16 n17 n18 t19 t20 w R) : Calls Try.prog 99 #[.pointer p1, .pointer p2, .agg #[.string s3, .int .i64 n4, .int .i64 n5, .int .i64 n6, .int .i64 n7, .int .i64 n8, .bool t9, .int .i64 n10, .int .i64 n11], .agg #[.string s12, .int .i64 n13, .int .i64 n14, .int .i64 n15, .int .i64 n16, .int .i64 n17, .int .i64 n18, .bool t19], .bool t20] w fun e w' => ∃ v, e = .returned v ∧ R v w' :=
  fn_sound (by kernel_rfl) Try.func99 (by kernel_rfl) V.dispatcherref14_Posted_its_ok (enters_all V.dispatcherref14_Posted_its_cs) (by kernel_rfl) ((V.dispatcherref14_Posted_its_eq p1 p2 s3 n4 n5 n6 n7 n8 t9 n10 n11 s12 n13 n14 n15 n16 n17 n18 t19 t20 w R).mp h)

def V.dispatcherref13_Queue_Ahead (p1 : Option Addr) (s2 : ByteArray) (n3 : Int) (n4 : Int) (n5 : Int) (n6 : Int) (n7 : Int) (n8 : Int) (t9 : Bool) (w : World) (R : Value → World → Prop) : Prop :=
  ∀ (b10 : Nat) (w11 : World), New w w11 b10 [.string s2, .int .i64 n3, .int .i64 n4, .int .i64 n5, .int .i64 n6, .int .i64 n7, .int .i64 n8, .bool t9] 28 →
  ∃ n12 : Int, w11.cell? ⟨b10, 1, none⟩ = some (.int .i64 n12) ∧
  ∃ n13 : Int, w11.cell? ⟨b10, 3, none⟩ = some (.int .i64 n13) ∧
  Calls Try.prog 64 #[.pointer p1, .int .i64 n12, .int .i64 n13] w11 fun e w14 => ∃ n15 : Int, e = .returned (.int .i64 n15) ∧
  ∃ (I16 : Option Addr → Nat → Nat → Int → World → Prop) (μ17 : Option Addr → Nat → Nat → Int → World → Nat),
  I16 none 0 0 (0 : Int) w14 ∧
  ∀ A20 : Option Addr, ∀ N20 : Nat, ∀ C20 : Nat, ∀ n21 : Int, ∀ (jk19 : Env) (w18 : World), I16 A20 N20 C20 n21 w18 →
  ifb (decide (n21 < n15))
  (nilC p1 fun b22 o22 =>
  ∃ A23 : Option Addr, ∃ N23 : Nat, ∃ C23 : Nat, w18.drew.cell? ⟨b22, o22, none⟩ = some (.slice A23 N23 C23) ∧
  0 ≤ n21 ∧ n21 < ((N23 : Nat) : Int) ∧ ∃ b24 o25 : Nat, (A23 : Option Addr) = some ⟨b24, o25, none⟩ ∧
  ∃ s26 : ByteArray, ∃ n27 : Int, ∃ n28 : Int, ∃ n29 : Int, ∃ n30 : Int, ∃ n31 : Int, ∃ n32 : Int, ∃ t33 : Bool, Cells w18.drew ⟨b24, o25 + n21.toNat * 8, none⟩ [.string s26, .int .i64 n27, .int .i64 n28, .int .i64 n29, .int .i64 n30, .int .i64 n31, .int .i64 n32, .bool t33] ∧
  nilC p1 fun b34 o34 =>
  ∃ A35 : Option Addr, ∃ N35 : Nat, ∃ C35 : Nat, w18.drew.cell? ⟨b34, o34, none⟩ = some (.slice A35 N35 C35) ∧
  0 ≤ n15 ∧ n15 < ((N35 : Nat) : Int) ∧ ∃ b36 o37 : Nat, (A35 : Option Addr) = some ⟨b36, o37, none⟩ ∧
  ∃ s38 : ByteArray, w18.drew.cell? ⟨b36, o37 + n15.toNat * 8, none⟩ = some (.string s38) ∧
  nilC p1 fun b39 o39 =>
  ∃ A40 : Option Addr, ∃ N40 : Nat, ∃ C40 : Nat, w18.drew.cell? ⟨b39, o39, none⟩ = some (.slice A40 N40 C40) ∧
  0 ≤ n15 ∧ n15 < ((N40 : Nat) : Int) ∧ ∃ b41 o42 : Nat, (A40 : Option Addr) = some ⟨b41, o42, none⟩ ∧
  ∃ n43 : Int, w18.drew.cell? ⟨b41, o42 + n15.toNat * 8 + 1, none⟩ = some (.int .i64 n43) ∧
  nilC p1 fun b44 o44 =>
  ∃ A45 : Option Addr, ∃ N45 : Nat, ∃ C45 : Nat, w18.drew.cell? ⟨b44, o44, none⟩ = some (.slice A45 N45 C45) ∧
  0 ≤ n15 ∧ n15 < ((N45 : Nat) : Int) ∧ ∃ b46 o47 : Nat, (A45 : Option Addr) = some ⟨b46, o47, none⟩ ∧
  ∃ n48 : Int, w18.drew.cell? ⟨b46, o47 + n15.toNat * 8 + 2, none⟩ = some (.int .i64 n48) ∧
  Calls Try.prog 103 #[.agg #[.string s26, .int .i64 n27, .int .i64 n28, .int .i64 n29, .int .i64 n30, .int .i64 n31, .int .i64 n32, .bool t33], .string s38, .int .i64 n43, .int .i64 n48] w18.drew fun e w49 => ∃ t50 : Bool, e = .returned (.bool t50) ∧
  ifb t50
  (nilC p1 fun b51 o51 =>
  ∃ A52 : Option Addr, ∃ N52 : Nat, ∃ C52 : Nat, w49.cell? ⟨b51, o51, none⟩ = some (.slice A52 N52 C52) ∧
  0 ≤ n21 ∧ n21 < ((N52 : Nat) : Int) ∧ ∃ b53 o54 : Nat, (A52 : Option Addr) = some ⟨b53, o54, none⟩ ∧
  ∃ s55 : ByteArray, ∃ n56 : Int, ∃ n57 : Int, ∃ n58 : Int, ∃ n59 : Int, ∃ n60 : Int, ∃ n61 : Int, ∃ t62 : Bool, Cells w49 ⟨b53, o54 + n21.toNat * 8, none⟩ [.string s55, .int .i64 n56, .int .i64 n57, .int .i64 n58, .int .i64 n59, .int .i64 n60, .int .i64 n61, .bool t62] ∧
  ∀ (b63 : Nat) (w64 : World), New w49 w64 b63 [.string s55, .int .i64 n56, .int .i64 n57, .int .i64 n58, .int .i64 n59, .int .i64 n60, .int .i64 n61, .bool t62] 28 →
  ∃ xs65 news66 : List Value, w64.ownsRow 0 28 8 (.slice A20 N20 C20) N20 xs65 ∧ Reads w64 (some ⟨b63, 0, none⟩) 1 8 news66 ∧ N20 + 1 ≤ maxLen ∧ (N20 + 1) * 72 ≤ 140737488355328 ∧
  ∀ (A68 : Option Addr) (C68 : Nat) (w67 : World), w67.ownsRow 0 28 8 (.slice A68 (N20 + 1) C68) (N20 + 1) (xs65 ++ news66) → App w64 w67 A20 A68 →
  ∃ c69 : Int, IntKind.wrap .i64 (n21 + (1 : Int)) = c69 ∧
  I16 A68 (N20 + 1) C68 c69 w67 ∧ μ17 A68 (N20 + 1) C68 c69 w67 < μ17 A20 N20 C20 n21 w18)
  (∃ c70 : Int, IntKind.wrap .i64 (n21 + (1 : Int)) = c70 ∧
  I16 A20 N20 C20 c70 w49 ∧ μ17 A20 N20 C20 c70 w49 < μ17 A20 N20 C20 n21 w18))
  (R (.slice A20 N20 C20) w18)
def V.dispatcherref13_Queue_Ahead_ann : Ann := .s (.no) (.s (.no) (.s (.no) (.s (.s (.no) (.b (.loop [(5, .one .sl), (7, .one (.i .i64))] (.s (.no) (.s (.b (.s (.draw (.r 0 (.r 1 (.r 2 (.r 3 (.r 4 (.r 5 (.r 6 (.r 7 (.r 8 (.r 9 (.r 10 (.r 11 (.r 12 (.r 13 (.r 14 (.r 15 (.r 16 (.r 17 (.r 18 (.r 19 (.r 20 (.r 21 (.r 22 (.r 23 (.r 24 (.r 25 (.r 26 (.r 27 (.r 28 (.r 29 (.r 30 (.e 31 [3, 6, 10, 14, 18, 22, 26, 30] (.done))))))))))))))))))))))))))))))))) [(5, 3), (6, 3), (12, 10), (13, 10), (14, 10), (20, 18), (21, 18), (22, 18), (28, 26), (29, 26), (30, 26), (31, 3), (31, 6), (31, 10), (31, 14), (31, 18), (31, 22), (31, 26), (31, 30)]) (.no))) (.no)))))) (.no))))
theorem V.dispatcherref13_Queue_Ahead_eq (p1 : Option Addr) (s2 : ByteArray) (n3 : Int) (n4 : Int) (n5 : Int) (n6 : Int) (n7 : Int) (n8 : Int) (t9 : Bool) (w : World) (R : Value → World → Prop) : V.dispatcherref13_Queue_Ahead p1 s2 n3 n4 n5 n6 n7 n8 t9 w R = fnW Try.prog [] [.tmp 4] (bodyOf Try.f102) V.dispatcherref13_Queue_Ahead_ann [.pointer p1, .agg #[.string s2, .int .i64 n3, .int .i64 n4, .int .i64 n5, .int .i64 n6, .int .i64 n7, .int .i64 n8, .bool t9]] w R := by kernel_rfl
theorem V.dispatcherref13_Queue_Ahead_ok : okC 62 (bodyOf Try.f102) V.dispatcherref13_Queue_Ahead_ann = true := by kernel_rfl
theorem V.dispatcherref13_Queue_Ahead_cs : (calleesC (bodyOf Try.f102)).all (entersB Try.prog) = true := by kernel_rfl
theorem V.dispatcherref13_Queue_Ahead_calls {p1 : Option Addr} {s2 : ByteArray} {n3 : Int} {n4 : Int} {n5 : Int} {n6 : Int} {n7 : Int} {n8 : Int} {t9 : Bool}  {w : World} {R : Value → World → Prop} (h : V.dispatcherref13_Queue_Ahead p1 s2 n3 n4 n5 n6 n7 n8 t9 w R) : Calls Try.prog 102 #[.pointer p1, .agg #[.string s2, .int .i64 n3, .int .i64 n4, .int .i64 n5, .int .i64 n6, .int .i64 n7, .int .i64 n8, .bool t9]] w fun e w' => ∃ v, e = .returned v ∧ R v w' :=
  fn_sound (by kernel_rfl) Try.func102 (by kernel_rfl) V.dispatcherref13_Queue_Ahead_ok (enters_all V.dispatcherref13_Queue_Ahead_cs) (by kernel_rfl) ((V.dispatcherref13_Queue_Ahead_eq p1 s2 n3 n4 n5 n6 n7 n8 t9 w R).mp h)

def V.dispatcherref13_is (s1 : ByteArray) (n2 : Int) (n3 : Int) (n4 : Int) (n5 : Int) (n6 : Int) (n7 : Int) (t8 : Bool) (s9 : ByteArray) (n10 : Int) (n11 : Int) (w : World) (R : Value → World → Prop) : Prop :=
  ∀ (b12 : Nat) (w13 : World), New w w13 b12 [.string s1, .int .i64 n2, .int .i64 n3, .int .i64 n4, .int .i64 n5, .int .i64 n6, .int .i64 n7, .bool t8] 28 →
  ∃ t14 : Bool, w13.cell? ⟨b12, 7, none⟩ = some (.bool t14) ∧
  ifb (!t14)
  (∃ s15 : ByteArray, w13.cell? ⟨b12, 0, none⟩ = some (.string s15) ∧
  ifb (s15.toList == s9.toList)
  (∃ n16 : Int, w13.cell? ⟨b12, 1, none⟩ = some (.int .i64 n16) ∧
  ifb (n16 == n10)
  (∃ n17 : Int, w13.cell? ⟨b12, 2, none⟩ = some (.int .i64 n17) ∧
  R (.bool (n17 == n11)) w13)
  (R (.bool false) w13))
  (R (.bool false) w13))
  (R (.bool false) w13)
def V.dispatcherref13_is_ann : Ann := .no
theorem V.dispatcherref13_is_eq (s1 : ByteArray) (n2 : Int) (n3 : Int) (n4 : Int) (n5 : Int) (n6 : Int) (n7 : Int) (t8 : Bool) (s9 : ByteArray) (n10 : Int) (n11 : Int) (w : World) (R : Value → World → Prop) : V.dispatcherref13_is s1 n2 n3 n4 n5 n6 n7 t8 s9 n10 n11 w R = fnW Try.prog [] [.tmp 8] (bodyOf Try.f103) V.dispatcherref13_is_ann [.agg #[.string s1, .int .i64 n2, .int .i64 n3, .int .i64 n4, .int .i64 n5, .int .i64 n6, .int .i64 n7, .bool t8], .string s9, .int .i64 n10, .int .i64 n11] w R := by kernel_rfl
theorem V.dispatcherref13_is_ok : okC 30 (bodyOf Try.f103) V.dispatcherref13_is_ann = true := by kernel_rfl
theorem V.dispatcherref13_is_cs : (calleesC (bodyOf Try.f103)).all (entersB Try.prog) = true := by kernel_rfl
theorem V.dispatcherref13_is_calls {s1 : ByteArray} {n2 : Int} {n3 : Int} {n4 : Int} {n5 : Int} {n6 : Int} {n7 : Int} {t8 : Bool} {s9 : ByteArray} {n10 : Int} {n11 : Int}  {w : World} {R : Value → World → Prop} (h : V.dispatcherref13_is s1 n2 n3 n4 n5 n6 n7 t8 s9 n10 n11 w R) : Calls Try.prog 103 #[.agg #[.string s1, .int .i64 n2, .int .i64 n3, .int .i64 n4, .int .i64 n5, .int .i64 n6, .int .i64 n7, .bool t8], .string s9, .int .i64 n10, .int .i64 n11] w fun e w' => ∃ v, e = .returned v ∧ R v w' :=
  fn_sound (by kernel_rfl) Try.func103 (by kernel_rfl) V.dispatcherref13_is_ok (enters_all V.dispatcherref13_is_cs) (by kernel_rfl) ((V.dispatcherref13_is_eq s1 n2 n3 n4 n5 n6 n7 t8 s9 n10 n11 w R).mp h)

end Go.Proofs.Ytdaojmkbjkaakaa
