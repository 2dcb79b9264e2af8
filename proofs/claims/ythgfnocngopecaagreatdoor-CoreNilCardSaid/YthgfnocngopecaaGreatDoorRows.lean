/-
  NARROWER THAN 'FOR EVERY INPUT', by the rows' own cells (each row's printed sentence says how): BoundNoMore: loops, laid · BoundJust: loops, laid · CoreGrows: laid · CoreOnce: laid · CoreSame: laid · CoreEither: laid · CoreNil: laid.
  DERIVED. THE GIVEN ROWS OF THIS SEAT. 7 by the template 'for every input the law returns true; each argument reads behind the call as it read before'; 0 by the template 'total and deterministic' (their statements: YthgfnocngopecaaGreatDoorTotals.lean).
  GIVEN WITH THE SEED: the statements are not yours to turn. If you find one false, say at which input.
  Laid BY PROGRAM, IN A SANDBOX (cutbox-rows.mjs): the forced cells as the released guide's own fill.sh prints them over the translation c48f3275ed7886f4… (all of the seat's roots in one cut). By AI agents, Wed Nov 11 2026. No macro, syntax, notation, axiom, sorry.
-/
import Derived.Test.YthgfnocngopecaaGreatDoorChecked
import GoSem.Claim
import GoSem.ClaimJoined
import GoSem.ClaimMapViews
import Derived.JoinedTies
import Derived.KernelRfl
namespace Go.Proofs.YthgfnocngopecaaGreatDoor
/- THE CELL 'sum', in the pinned program and in every row, IS THE sha256 OF THE DUMP (.gsa) THAT YthgfnocngopecaaGreatDoorProg.lean LOADS. Nothing in Lean hashes anything: it is a label: what it is worth is what the hold of that sum in a sandbox is worth. -/
noncomputable def Tryz.pinned : Pinned := { name := "ythgfnocngopecaagreatdoor", sum := "c48f3275ed7886f40694860b6b232fb6436ea49574b33b9e414d553d5302a0cc", checked := Tryz.checked }
namespace Rows
def none {H : Type} : Left H := { results := [], args := [] }

/- WHAT THE LISTED PACKAGE-LEVEL VARIABLES READ AS WHEN THE CALL BEGINS. Each datum BY PROGRAM (the guide's laid-datum.mjs) off the statement by which the dump's own 'gosem.cut.vars' lays the variable. In a bare row this is a premise. The card (YthgfnocngopecaaGreatDoorCards.lean) ties it to the program's text. -/
def laid_dispatcher_scan_words {H : Type} : DataW H := .agg [.lit (.string [105, 110, 116]), .lit (.string [105, 102]), .lit (.string [101, 108, 115, 101]), .lit (.string [119, 104, 105, 108, 101]), .lit (.string [102, 111, 114]), .lit (.string [97, 115, 115, 101, 114, 116]), .lit (.string [115, 116, 111, 112]), .lit (.string [114, 97, 110, 107]), .lit (.string [115, 105, 122, 101]), .lit (.string [97, 110, 121]), .lit (.string [118, 97, 108, 117, 101]), .lit (.string [112, 101, 101, 114]), .lit (.string [116, 97, 103]), .lit (.string [102, 108, 97, 103]), .lit (.string [105, 110, 100, 101, 120]), .lit (.string [114, 101, 113]), .lit (.string [99, 111, 109, 109]), .lit (.string [114, 111, 119]), .lit (.string [115, 117, 109]), .lit (.string [109, 97, 120]), .lit (.string [109, 105, 110]), .lit (.string [115, 101, 110, 100]), .lit (.string [115, 115, 101, 110, 100]), .lit (.string [98, 115, 101, 110, 100]), .lit (.string [105, 115, 101, 110, 100]), .lit (.string [105, 115, 115, 101, 110, 100]), .lit (.string [114, 101, 99, 118]), .lit (.string [105, 114, 101, 99, 118]), .lit (.string [112, 114, 111, 98, 101]), .lit (.string [105, 112, 114, 111, 98, 101]), .lit (.string [119, 97, 105, 116]), .lit (.string [119, 97, 105, 116, 97, 108, 108]), .lit (.string [119, 97, 105, 116, 97, 110, 121]), .lit (.string [116, 101, 115, 116]), .lit (.string [116, 101, 115, 116, 97, 110, 121]), .lit (.string [98, 97, 114, 114, 105, 101, 114]), .lit (.string [98, 99, 97, 115, 116]), .lit (.string [114, 101, 100, 117, 99, 101]), .lit (.string [97, 108, 108, 114, 101, 100, 117, 99, 101]), .lit (.string [103, 97, 116, 104, 101, 114]), .lit (.string [100, 117, 112]), .lit (.string [115, 112, 108, 105, 116]), .lit (.string [102, 114, 101, 101])]
def laid_dispatcher_tree_args {H : Type} : DataW H := .agg [.lit (.int .i64 5), .lit (.int .i64 5), .lit (.int .i64 5), .lit (.int .i64 5), .lit (.int .i64 5), .lit (.int .i64 3), .lit (.int .i64 3), .lit (.int .i64 1), .lit (.int .i64 (-1)), .lit (.int .i64 (-1)), .lit (.int .i64 1), .lit (.int .i64 (-1)), .lit (.int .i64 3), .lit (.int .i64 3), .lit (.int .i64 1), .lit (.int .i64 3), .lit (.int .i64 3), .lit (.int .i64 2), .lit (.int .i64 3), .lit (.int .i64 1), .lit (.int .i64 3), .lit (.int .i64 1)]
def laid_dispatcher_tree_plain {H : Type} : DataW H := .agg [.lit (.string [114, 97, 110, 107]), .lit (.string [115, 105, 122, 101]), .lit (.string [97, 110, 121]), .lit (.string [118, 97, 108, 117, 101]), .lit (.string [112, 101, 101, 114]), .lit (.string [116, 97, 103]), .lit (.string [102, 108, 97, 103]), .lit (.string [105, 110, 100, 101, 120]), .lit (.string [114, 101, 113]), .lit (.string [99, 111, 109, 109])]
def laid_dispatcher_compile_words {H : Type} : DataW H := .agg [.lit (.string [114, 97, 110, 107]), .lit (.string [115, 105, 122, 101]), .lit (.string [97, 110, 121]), .lit (.string [118, 97, 108, 117, 101]), .lit (.string [112, 101, 101, 114]), .lit (.string [116, 97, 103]), .lit (.string [102, 108, 97, 103]), .lit (.string [105, 110, 100, 101, 120]), .lit (.string [114, 101, 113]), .lit (.string [99, 111, 109, 109])]
def laid_math_bits_deBruijn32tab {H : Type} : DataW H := .agg [.lit (.int .u8 0), .lit (.int .u8 1), .lit (.int .u8 28), .lit (.int .u8 2), .lit (.int .u8 29), .lit (.int .u8 14), .lit (.int .u8 24), .lit (.int .u8 3), .lit (.int .u8 30), .lit (.int .u8 22), .lit (.int .u8 20), .lit (.int .u8 15), .lit (.int .u8 25), .lit (.int .u8 17), .lit (.int .u8 4), .lit (.int .u8 8), .lit (.int .u8 31), .lit (.int .u8 27), .lit (.int .u8 13), .lit (.int .u8 23), .lit (.int .u8 21), .lit (.int .u8 19), .lit (.int .u8 16), .lit (.int .u8 7), .lit (.int .u8 26), .lit (.int .u8 12), .lit (.int .u8 18), .lit (.int .u8 6), .lit (.int .u8 11), .lit (.int .u8 5), .lit (.int .u8 10), .lit (.int .u8 9)]
def laid_math_bits_deBruijn64tab {H : Type} : DataW H := .agg [.lit (.int .u8 0), .lit (.int .u8 1), .lit (.int .u8 56), .lit (.int .u8 2), .lit (.int .u8 57), .lit (.int .u8 49), .lit (.int .u8 28), .lit (.int .u8 3), .lit (.int .u8 61), .lit (.int .u8 58), .lit (.int .u8 42), .lit (.int .u8 50), .lit (.int .u8 38), .lit (.int .u8 29), .lit (.int .u8 17), .lit (.int .u8 4), .lit (.int .u8 62), .lit (.int .u8 47), .lit (.int .u8 59), .lit (.int .u8 36), .lit (.int .u8 45), .lit (.int .u8 43), .lit (.int .u8 51), .lit (.int .u8 22), .lit (.int .u8 53), .lit (.int .u8 39), .lit (.int .u8 33), .lit (.int .u8 30), .lit (.int .u8 24), .lit (.int .u8 18), .lit (.int .u8 12), .lit (.int .u8 5), .lit (.int .u8 63), .lit (.int .u8 55), .lit (.int .u8 48), .lit (.int .u8 27), .lit (.int .u8 60), .lit (.int .u8 41), .lit (.int .u8 37), .lit (.int .u8 16), .lit (.int .u8 46), .lit (.int .u8 35), .lit (.int .u8 44), .lit (.int .u8 21), .lit (.int .u8 52), .lit (.int .u8 32), .lit (.int .u8 23), .lit (.int .u8 11), .lit (.int .u8 54), .lit (.int .u8 26), .lit (.int .u8 40), .lit (.int .u8 15), .lit (.int .u8 34), .lit (.int .u8 20), .lit (.int .u8 31), .lit (.int .u8 10), .lit (.int .u8 25), .lit (.int .u8 14), .lit (.int .u8 19), .lit (.int .u8 9), .lit (.int .u8 13), .lit (.int .u8 8), .lit (.int .u8 7), .lit (.int .u8 6)]
def laid_internal_strconv_uint64pow10 {H : Type} : DataW H := .agg [.lit (.int .u64 1), .lit (.int .u64 10), .lit (.int .u64 100), .lit (.int .u64 1000), .lit (.int .u64 10000), .lit (.int .u64 100000), .lit (.int .u64 1000000), .lit (.int .u64 10000000), .lit (.int .u64 100000000), .lit (.int .u64 1000000000), .lit (.int .u64 10000000000), .lit (.int .u64 100000000000), .lit (.int .u64 1000000000000), .lit (.int .u64 10000000000000), .lit (.int .u64 100000000000000), .lit (.int .u64 1000000000000000), .lit (.int .u64 10000000000000000), .lit (.int .u64 100000000000000000), .lit (.int .u64 1000000000000000000), .lit (.int .u64 10000000000000000000)]

/-- 'dispatcherlaw09.BoundNoMore': WHATEVER THE INPUT: true; the input reads as it did. -/
def boundNoMoreSpec : ChangeSpec := { name := "boundNoMore", fn := fun _ => fun
  | [d1, d2, d3, d4] => { results := [.lit (.bool true)], args := [d1, d2, d3, d4] }
  | _ => none }
def boundNoMoreRow : OpenClaim := { program := "ythgfnocngopecaagreatdoor", sum := "c48f3275ed7886f40694860b6b232fb6436ea49574b33b9e414d553d5302a0cc", func := "dispatcher/dispatcherlaw09.BoundNoMore", spec := "boundNoMore", unfollowed := true, recurses := true, named := ["dispatcher/scan.words", "dispatcher/tree.args", "dispatcher/tree.plain", "dispatcher/compile.words"], loops := true, plainKeys := false, apart := false, laid := [("dispatcher/scan.words", laid_dispatcher_scan_words), ("dispatcher/tree.args", laid_dispatcher_tree_args), ("dispatcher/tree.plain", laid_dispatcher_tree_plain), ("dispatcher/compile.words", laid_dispatcher_compile_words)] }
def BoundNoMoreSaid : Prop := boundNoMoreRow.holds Tryz.pinned (OpenSpec.ofChange boundNoMoreSpec)

/-- ITS FALSE NEIGHBOUR: 'it returns false'. Refute it at one input. -/
def boundNoMoreWrong : ChangeSpec := { name := "boundNoMore", fn := fun _ => fun
  | [d1, d2, d3, d4] => { results := [.lit (.bool false)], args := [d1, d2, d3, d4] }
  | _ => none }
def BoundNoMoreWrongFalsely : Prop := boundNoMoreRow.holds Tryz.pinned (OpenSpec.ofChange boundNoMoreWrong)

/-- 'dispatcherlaw09.BoundJust': WHATEVER THE INPUT: true; the input reads as it did. -/
def boundJustSpec : ChangeSpec := { name := "boundJust", fn := fun _ => fun
  | [d1, d2, d3, d4] => { results := [.lit (.bool true)], args := [d1, d2, d3, d4] }
  | _ => none }
def boundJustRow : OpenClaim := { program := "ythgfnocngopecaagreatdoor", sum := "c48f3275ed7886f40694860b6b232fb6436ea49574b33b9e414d553d5302a0cc", func := "dispatcher/dispatcherlaw09.BoundJust", spec := "boundJust", unfollowed := true, recurses := true, named := ["dispatcher/scan.words", "dispatcher/tree.args", "dispatcher/tree.plain", "dispatcher/compile.words"], loops := true, plainKeys := false, apart := false, laid := [("dispatcher/scan.words", laid_dispatcher_scan_words), ("dispatcher/tree.args", laid_dispatcher_tree_args), ("dispatcher/tree.plain", laid_dispatcher_tree_plain), ("dispatcher/compile.words", laid_dispatcher_compile_words)] }
def BoundJustSaid : Prop := boundJustRow.holds Tryz.pinned (OpenSpec.ofChange boundJustSpec)

/-- ITS FALSE NEIGHBOUR: 'it returns false'. Refute it at one input. -/
def boundJustWrong : ChangeSpec := { name := "boundJust", fn := fun _ => fun
  | [d1, d2, d3, d4] => { results := [.lit (.bool false)], args := [d1, d2, d3, d4] }
  | _ => none }
def BoundJustWrongFalsely : Prop := boundJustRow.holds Tryz.pinned (OpenSpec.ofChange boundJustWrong)

/-- 'dispatcherlaw17.CoreGrows': WHATEVER THE INPUT: true; the input reads as it did. -/
def coreGrowsSpec : ChangeSpec := { name := "coreGrows", fn := fun _ => fun
  | [d1, d2] => { results := [.lit (.bool true)], args := [d1, d2] }
  | _ => none }
def coreGrowsRow : OpenClaim := { program := "ythgfnocngopecaagreatdoor", sum := "c48f3275ed7886f40694860b6b232fb6436ea49574b33b9e414d553d5302a0cc", func := "dispatcher/dispatcherlaw17.CoreGrows", spec := "coreGrows", unfollowed := true, recurses := true, named := ["internal/strconv.uint64pow10", "math/bits.deBruijn32tab", "math/bits.deBruijn64tab"], plainKeys := false, apart := false, laid := [("math/bits.deBruijn32tab", laid_math_bits_deBruijn32tab), ("math/bits.deBruijn64tab", laid_math_bits_deBruijn64tab), ("internal/strconv.uint64pow10", laid_internal_strconv_uint64pow10)] }
def CoreGrowsSaid : Prop := coreGrowsRow.holds Tryz.pinned (OpenSpec.ofChange coreGrowsSpec)

/-- ITS FALSE NEIGHBOUR: 'it returns false'. Refute it at one input. -/
def coreGrowsWrong : ChangeSpec := { name := "coreGrows", fn := fun _ => fun
  | [d1, d2] => { results := [.lit (.bool false)], args := [d1, d2] }
  | _ => none }
def CoreGrowsWrongFalsely : Prop := coreGrowsRow.holds Tryz.pinned (OpenSpec.ofChange coreGrowsWrong)

/-- 'dispatcherlaw17.CoreOnce': WHATEVER THE INPUT: true; the input reads as it did. -/
def coreOnceSpec : ChangeSpec := { name := "coreOnce", fn := fun _ => fun
  | [d1, d2] => { results := [.lit (.bool true)], args := [d1, d2] }
  | _ => none }
def coreOnceRow : OpenClaim := { program := "ythgfnocngopecaagreatdoor", sum := "c48f3275ed7886f40694860b6b232fb6436ea49574b33b9e414d553d5302a0cc", func := "dispatcher/dispatcherlaw17.CoreOnce", spec := "coreOnce", unfollowed := true, recurses := true, named := ["internal/strconv.uint64pow10", "math/bits.deBruijn32tab", "math/bits.deBruijn64tab"], plainKeys := false, apart := false, laid := [("math/bits.deBruijn32tab", laid_math_bits_deBruijn32tab), ("math/bits.deBruijn64tab", laid_math_bits_deBruijn64tab), ("internal/strconv.uint64pow10", laid_internal_strconv_uint64pow10)] }
def CoreOnceSaid : Prop := coreOnceRow.holds Tryz.pinned (OpenSpec.ofChange coreOnceSpec)

/-- ITS FALSE NEIGHBOUR: 'it returns false'. Refute it at one input. -/
def coreOnceWrong : ChangeSpec := { name := "coreOnce", fn := fun _ => fun
  | [d1, d2] => { results := [.lit (.bool false)], args := [d1, d2] }
  | _ => none }
def CoreOnceWrongFalsely : Prop := coreOnceRow.holds Tryz.pinned (OpenSpec.ofChange coreOnceWrong)

/-- 'dispatcherlaw17.CoreSame': WHATEVER THE INPUT: true; the input reads as it did. -/
def coreSameSpec : ChangeSpec := { name := "coreSame", fn := fun _ => fun
  | [d1, d2, d3] => { results := [.lit (.bool true)], args := [d1, d2, d3] }
  | _ => none }
def coreSameRow : OpenClaim := { program := "ythgfnocngopecaagreatdoor", sum := "c48f3275ed7886f40694860b6b232fb6436ea49574b33b9e414d553d5302a0cc", func := "dispatcher/dispatcherlaw17.CoreSame", spec := "coreSame", unfollowed := true, recurses := true, named := ["internal/strconv.uint64pow10", "math/bits.deBruijn32tab", "math/bits.deBruijn64tab"], plainKeys := false, apart := false, laid := [("math/bits.deBruijn32tab", laid_math_bits_deBruijn32tab), ("math/bits.deBruijn64tab", laid_math_bits_deBruijn64tab), ("internal/strconv.uint64pow10", laid_internal_strconv_uint64pow10)] }
def CoreSameSaid : Prop := coreSameRow.holds Tryz.pinned (OpenSpec.ofChange coreSameSpec)

/-- ITS FALSE NEIGHBOUR: 'it returns false'. Refute it at one input. -/
def coreSameWrong : ChangeSpec := { name := "coreSame", fn := fun _ => fun
  | [d1, d2, d3] => { results := [.lit (.bool false)], args := [d1, d2, d3] }
  | _ => none }
def CoreSameWrongFalsely : Prop := coreSameRow.holds Tryz.pinned (OpenSpec.ofChange coreSameWrong)

/-- 'dispatcherlaw17.CoreEither': WHATEVER THE INPUT: true; the input reads as it did. -/
def coreEitherSpec : ChangeSpec := { name := "coreEither", fn := fun _ => fun
  | [d1, d2, d3, d4] => { results := [.lit (.bool true)], args := [d1, d2, d3, d4] }
  | _ => none }
def coreEitherRow : OpenClaim := { program := "ythgfnocngopecaagreatdoor", sum := "c48f3275ed7886f40694860b6b232fb6436ea49574b33b9e414d553d5302a0cc", func := "dispatcher/dispatcherlaw17.CoreEither", spec := "coreEither", unfollowed := true, recurses := true, named := ["internal/strconv.uint64pow10", "math/bits.deBruijn32tab", "math/bits.deBruijn64tab"], plainKeys := false, apart := false, laid := [("math/bits.deBruijn32tab", laid_math_bits_deBruijn32tab), ("math/bits.deBruijn64tab", laid_math_bits_deBruijn64tab), ("internal/strconv.uint64pow10", laid_internal_strconv_uint64pow10)] }
def CoreEitherSaid : Prop := coreEitherRow.holds Tryz.pinned (OpenSpec.ofChange coreEitherSpec)

/-- ITS FALSE NEIGHBOUR: 'it returns false'. Refute it at one input. -/
def coreEitherWrong : ChangeSpec := { name := "coreEither", fn := fun _ => fun
  | [d1, d2, d3, d4] => { results := [.lit (.bool false)], args := [d1, d2, d3, d4] }
  | _ => none }
def CoreEitherWrongFalsely : Prop := coreEitherRow.holds Tryz.pinned (OpenSpec.ofChange coreEitherWrong)

/-- 'dispatcherlaw17.CoreNil': WHATEVER THE INPUT: true; the input reads as it did. -/
def coreNilSpec : ChangeSpec := { name := "coreNil", fn := fun _ => fun
  | [d] => { results := [.lit (.bool true)], args := [d] }
  | _ => none }
def coreNilRow : OpenClaim := { program := "ythgfnocngopecaagreatdoor", sum := "c48f3275ed7886f40694860b6b232fb6436ea49574b33b9e414d553d5302a0cc", func := "dispatcher/dispatcherlaw17.CoreNil", spec := "coreNil", unfollowed := true, recurses := true, named := ["internal/strconv.uint64pow10", "math/bits.deBruijn32tab", "math/bits.deBruijn64tab"], plainKeys := false, apart := false, laid := [("math/bits.deBruijn32tab", laid_math_bits_deBruijn32tab), ("math/bits.deBruijn64tab", laid_math_bits_deBruijn64tab), ("internal/strconv.uint64pow10", laid_internal_strconv_uint64pow10)] }
def CoreNilSaid : Prop := coreNilRow.holds Tryz.pinned (OpenSpec.ofChange coreNilSpec)

/-- ITS FALSE NEIGHBOUR: 'it returns false'. Refute it at one input. -/
def coreNilWrong : ChangeSpec := { name := "coreNil", fn := fun _ => fun
  | [d] => { results := [.lit (.bool false)], args := [d] }
  | _ => none }
def CoreNilWrongFalsely : Prop := coreNilRow.holds Tryz.pinned (OpenSpec.ofChange coreNilWrong)

/- THE SECOND FORM. 'bulk': how many values and letters a reading holds, each counted each time it is reached (what is shared counts as often as it is met; a slice's spare places count too). A statement '..UptoSaid' is the law's where the arguments, and the package variables that the reading takes, are together of bulk at most 1048576: NARROWER than '..Said'. Prove '..Said' where nothing that the law and all that it calls make is longer than what came in: it says more and counts as full. Else prove '..UptoSaid'. A law counts once. -/
mutual
def uptoBulk {H : Type} : DataW H → Nat
  | .lit (.string bytes) => bytes.length + 1
  | .lit _ => 1
  | .nil => 1
  | .ptr d => uptoBulk d + 1
  | .slice elems spare => uptoBulkAll elems + uptoBulkAll spare + 1
  | .agg parts => uptoBulkAll parts + 1
  | .iface _ d => uptoBulk d + 1
  | .map entries => uptoBulkEntries entries + 1
  | .held _ => 1
def uptoBulkAll {H : Type} : List (DataW H) → Nat
  | [] => 0
  | d :: r => uptoBulk d + uptoBulkAll r
def uptoBulkEntries {H : Type} : List (Lit × DataW H) → Nat
  | [] => 0
  | x :: r => uptoBulkEntry x + uptoBulkEntries r
def uptoBulkEntry {H : Type} : Lit × DataW H → Nat
  | (.string bytes, d) => bytes.length + uptoBulk d + 1
  | (_, d) => uptoBulk d + 1
 end
def uptoSmall : (H : Type) → List (DataW H) → Bool := fun _ ds => decide (uptoBulkAll ds ≤ 1048576)
def OpenSpec.upto (s : _root_.Go.ChangeSpec) : _root_.Go.OpenSpec := { _root_.Go.OpenSpec.ofChange s with cond := some uptoSmall }

/-- 'dispatcherlaw09.BoundNoMore', WHERE WHAT IT READS IS OF BULK AT MOST 1048576: true; the input reads as it did. -/
def boundNoMoreUptoRow : OpenClaim := { program := "ythgfnocngopecaagreatdoor", sum := "c48f3275ed7886f40694860b6b232fb6436ea49574b33b9e414d553d5302a0cc", func := "dispatcher/dispatcherlaw09.BoundNoMore", spec := "boundNoMore", unfollowed := true, recurses := true, named := ["dispatcher/scan.words", "dispatcher/tree.args", "dispatcher/tree.plain", "dispatcher/compile.words"], loops := true, plainKeys := false, apart := false, laid := [("dispatcher/scan.words", laid_dispatcher_scan_words), ("dispatcher/tree.args", laid_dispatcher_tree_args), ("dispatcher/tree.plain", laid_dispatcher_tree_plain), ("dispatcher/compile.words", laid_dispatcher_compile_words)], narrowed := true }
def BoundNoMoreUptoSaid : Prop := boundNoMoreUptoRow.holds Tryz.pinned (OpenSpec.upto boundNoMoreSpec)

/-- 'dispatcherlaw09.BoundJust', WHERE WHAT IT READS IS OF BULK AT MOST 1048576: true; the input reads as it did. -/
def boundJustUptoRow : OpenClaim := { program := "ythgfnocngopecaagreatdoor", sum := "c48f3275ed7886f40694860b6b232fb6436ea49574b33b9e414d553d5302a0cc", func := "dispatcher/dispatcherlaw09.BoundJust", spec := "boundJust", unfollowed := true, recurses := true, named := ["dispatcher/scan.words", "dispatcher/tree.args", "dispatcher/tree.plain", "dispatcher/compile.words"], loops := true, plainKeys := false, apart := false, laid := [("dispatcher/scan.words", laid_dispatcher_scan_words), ("dispatcher/tree.args", laid_dispatcher_tree_args), ("dispatcher/tree.plain", laid_dispatcher_tree_plain), ("dispatcher/compile.words", laid_dispatcher_compile_words)], narrowed := true }
def BoundJustUptoSaid : Prop := boundJustUptoRow.holds Tryz.pinned (OpenSpec.upto boundJustSpec)

/-- 'dispatcherlaw17.CoreGrows', WHERE WHAT IT READS IS OF BULK AT MOST 1048576: true; the input reads as it did. -/
def coreGrowsUptoRow : OpenClaim := { program := "ythgfnocngopecaagreatdoor", sum := "c48f3275ed7886f40694860b6b232fb6436ea49574b33b9e414d553d5302a0cc", func := "dispatcher/dispatcherlaw17.CoreGrows", spec := "coreGrows", unfollowed := true, recurses := true, named := ["internal/strconv.uint64pow10", "math/bits.deBruijn32tab", "math/bits.deBruijn64tab"], plainKeys := false, apart := false, laid := [("math/bits.deBruijn32tab", laid_math_bits_deBruijn32tab), ("math/bits.deBruijn64tab", laid_math_bits_deBruijn64tab), ("internal/strconv.uint64pow10", laid_internal_strconv_uint64pow10)], narrowed := true }
def CoreGrowsUptoSaid : Prop := coreGrowsUptoRow.holds Tryz.pinned (OpenSpec.upto coreGrowsSpec)

/-- 'dispatcherlaw17.CoreOnce', WHERE WHAT IT READS IS OF BULK AT MOST 1048576: true; the input reads as it did. -/
def coreOnceUptoRow : OpenClaim := { program := "ythgfnocngopecaagreatdoor", sum := "c48f3275ed7886f40694860b6b232fb6436ea49574b33b9e414d553d5302a0cc", func := "dispatcher/dispatcherlaw17.CoreOnce", spec := "coreOnce", unfollowed := true, recurses := true, named := ["internal/strconv.uint64pow10", "math/bits.deBruijn32tab", "math/bits.deBruijn64tab"], plainKeys := false, apart := false, laid := [("math/bits.deBruijn32tab", laid_math_bits_deBruijn32tab), ("math/bits.deBruijn64tab", laid_math_bits_deBruijn64tab), ("internal/strconv.uint64pow10", laid_internal_strconv_uint64pow10)], narrowed := true }
def CoreOnceUptoSaid : Prop := coreOnceUptoRow.holds Tryz.pinned (OpenSpec.upto coreOnceSpec)

/-- 'dispatcherlaw17.CoreSame', WHERE WHAT IT READS IS OF BULK AT MOST 1048576: true; the input reads as it did. -/
def coreSameUptoRow : OpenClaim := { program := "ythgfnocngopecaagreatdoor", sum := "c48f3275ed7886f40694860b6b232fb6436ea49574b33b9e414d553d5302a0cc", func := "dispatcher/dispatcherlaw17.CoreSame", spec := "coreSame", unfollowed := true, recurses := true, named := ["internal/strconv.uint64pow10", "math/bits.deBruijn32tab", "math/bits.deBruijn64tab"], plainKeys := false, apart := false, laid := [("math/bits.deBruijn32tab", laid_math_bits_deBruijn32tab), ("math/bits.deBruijn64tab", laid_math_bits_deBruijn64tab), ("internal/strconv.uint64pow10", laid_internal_strconv_uint64pow10)], narrowed := true }
def CoreSameUptoSaid : Prop := coreSameUptoRow.holds Tryz.pinned (OpenSpec.upto coreSameSpec)

/-- 'dispatcherlaw17.CoreEither', WHERE WHAT IT READS IS OF BULK AT MOST 1048576: true; the input reads as it did. -/
def coreEitherUptoRow : OpenClaim := { program := "ythgfnocngopecaagreatdoor", sum := "c48f3275ed7886f40694860b6b232fb6436ea49574b33b9e414d553d5302a0cc", func := "dispatcher/dispatcherlaw17.CoreEither", spec := "coreEither", unfollowed := true, recurses := true, named := ["internal/strconv.uint64pow10", "math/bits.deBruijn32tab", "math/bits.deBruijn64tab"], plainKeys := false, apart := false, laid := [("math/bits.deBruijn32tab", laid_math_bits_deBruijn32tab), ("math/bits.deBruijn64tab", laid_math_bits_deBruijn64tab), ("internal/strconv.uint64pow10", laid_internal_strconv_uint64pow10)], narrowed := true }
def CoreEitherUptoSaid : Prop := coreEitherUptoRow.holds Tryz.pinned (OpenSpec.upto coreEitherSpec)

/-- 'dispatcherlaw17.CoreNil', WHERE WHAT IT READS IS OF BULK AT MOST 1048576: true; the input reads as it did. -/
def coreNilUptoRow : OpenClaim := { program := "ythgfnocngopecaagreatdoor", sum := "c48f3275ed7886f40694860b6b232fb6436ea49574b33b9e414d553d5302a0cc", func := "dispatcher/dispatcherlaw17.CoreNil", spec := "coreNil", unfollowed := true, recurses := true, named := ["internal/strconv.uint64pow10", "math/bits.deBruijn32tab", "math/bits.deBruijn64tab"], plainKeys := false, apart := false, laid := [("math/bits.deBruijn32tab", laid_math_bits_deBruijn32tab), ("math/bits.deBruijn64tab", laid_math_bits_deBruijn64tab), ("internal/strconv.uint64pow10", laid_internal_strconv_uint64pow10)], narrowed := true }
def CoreNilUptoSaid : Prop := coreNilUptoRow.holds Tryz.pinned (OpenSpec.upto coreNilSpec)

end Rows
end Go.Proofs.YthgfnocngopecaaGreatDoor
