/-
  NARROWER THAN 'FOR EVERY INPUT', by the rows' own cells (each row's printed sentence says how): LrStates: laid · LrCloses: laid · LrGoes: laid · LrReached: laid · LrMore: laid · LrKnown: laid · AheadComes: laid · AheadReasons: laid · AheadFollows: laid · AheadKnown: laid.
  DERIVED. THE GIVEN ROWS OF THIS SEAT. 10 by the template 'for every input the law returns true; each argument reads behind the call as it read before'; 0 by the template 'total and deterministic' (their statements: YtcbaebkkdkdaaaaDoorTotals.lean).
  GIVEN WITH THE SEED: the statements are not yours to turn. If you find one false, say at which input.
  Laid BY PROGRAM, IN A SANDBOX (cutbox-rows.mjs): the forced cells as the released guide's own fill.sh prints them over the translation ba00ff37c4d4f70f… (all of the seat's roots in one cut). By AI agents, Wed Nov 11 2026. No macro, syntax, notation, axiom, sorry.
-/
import Derived.Test.YtcbaebkkdkdaaaaDoorChecked
import GoSem.Claim
import GoSem.ClaimJoined
import GoSem.ClaimMapViews
import Derived.JoinedTies
import Derived.KernelRfl
namespace Go.Proofs.YtcbaebkkdkdaaaaDoor
/- THE CELL 'sum', in the pinned program and in every row, IS THE sha256 OF THE DUMP (.gsa) THAT YtcbaebkkdkdaaaaDoorProg.lean LOADS. Nothing in Lean hashes anything: it is a label: what it is worth is what the hold of that sum in a sandbox is worth. -/
noncomputable def Tryd.pinned : Pinned := { name := "ytcbaebkkdkdaaaadoor", sum := "ba00ff37c4d4f70f57ad69480f5089a329dd981927fcb0434b24392d2f68b3be", checked := Tryd.checked }
namespace Rows
def none {H : Type} : Left H := { results := [], args := [] }

/- WHAT THE LISTED PACKAGE-LEVEL VARIABLES READ AS WHEN THE CALL BEGINS. Each datum BY PROGRAM (the guide's laid-datum.mjs) off the statement by which the dump's own 'gosem.cut.vars' lays the variable. In a bare row this is a premise. The card (YtcbaebkkdkdaaaaDoorCards.lean) ties it to the program's text. -/
def laid_math_bits_deBruijn32tab {H : Type} : DataW H := .agg [.lit (.int .u8 0), .lit (.int .u8 1), .lit (.int .u8 28), .lit (.int .u8 2), .lit (.int .u8 29), .lit (.int .u8 14), .lit (.int .u8 24), .lit (.int .u8 3), .lit (.int .u8 30), .lit (.int .u8 22), .lit (.int .u8 20), .lit (.int .u8 15), .lit (.int .u8 25), .lit (.int .u8 17), .lit (.int .u8 4), .lit (.int .u8 8), .lit (.int .u8 31), .lit (.int .u8 27), .lit (.int .u8 13), .lit (.int .u8 23), .lit (.int .u8 21), .lit (.int .u8 19), .lit (.int .u8 16), .lit (.int .u8 7), .lit (.int .u8 26), .lit (.int .u8 12), .lit (.int .u8 18), .lit (.int .u8 6), .lit (.int .u8 11), .lit (.int .u8 5), .lit (.int .u8 10), .lit (.int .u8 9)]
def laid_math_bits_deBruijn64tab {H : Type} : DataW H := .agg [.lit (.int .u8 0), .lit (.int .u8 1), .lit (.int .u8 56), .lit (.int .u8 2), .lit (.int .u8 57), .lit (.int .u8 49), .lit (.int .u8 28), .lit (.int .u8 3), .lit (.int .u8 61), .lit (.int .u8 58), .lit (.int .u8 42), .lit (.int .u8 50), .lit (.int .u8 38), .lit (.int .u8 29), .lit (.int .u8 17), .lit (.int .u8 4), .lit (.int .u8 62), .lit (.int .u8 47), .lit (.int .u8 59), .lit (.int .u8 36), .lit (.int .u8 45), .lit (.int .u8 43), .lit (.int .u8 51), .lit (.int .u8 22), .lit (.int .u8 53), .lit (.int .u8 39), .lit (.int .u8 33), .lit (.int .u8 30), .lit (.int .u8 24), .lit (.int .u8 18), .lit (.int .u8 12), .lit (.int .u8 5), .lit (.int .u8 63), .lit (.int .u8 55), .lit (.int .u8 48), .lit (.int .u8 27), .lit (.int .u8 60), .lit (.int .u8 41), .lit (.int .u8 37), .lit (.int .u8 16), .lit (.int .u8 46), .lit (.int .u8 35), .lit (.int .u8 44), .lit (.int .u8 21), .lit (.int .u8 52), .lit (.int .u8 32), .lit (.int .u8 23), .lit (.int .u8 11), .lit (.int .u8 54), .lit (.int .u8 26), .lit (.int .u8 40), .lit (.int .u8 15), .lit (.int .u8 34), .lit (.int .u8 20), .lit (.int .u8 31), .lit (.int .u8 10), .lit (.int .u8 25), .lit (.int .u8 14), .lit (.int .u8 19), .lit (.int .u8 9), .lit (.int .u8 13), .lit (.int .u8 8), .lit (.int .u8 7), .lit (.int .u8 6)]
def laid_internal_strconv_uint64pow10 {H : Type} : DataW H := .agg [.lit (.int .u64 1), .lit (.int .u64 10), .lit (.int .u64 100), .lit (.int .u64 1000), .lit (.int .u64 10000), .lit (.int .u64 100000), .lit (.int .u64 1000000), .lit (.int .u64 10000000), .lit (.int .u64 100000000), .lit (.int .u64 1000000000), .lit (.int .u64 10000000000), .lit (.int .u64 100000000000), .lit (.int .u64 1000000000000), .lit (.int .u64 10000000000000), .lit (.int .u64 100000000000000), .lit (.int .u64 1000000000000000), .lit (.int .u64 10000000000000000), .lit (.int .u64 100000000000000000), .lit (.int .u64 1000000000000000000), .lit (.int .u64 10000000000000000000)]

/-- 'incunablelaw19.LrStates': WHATEVER THE INPUT: true; the input reads as it did. -/
def lrStatesSpec : ChangeSpec := { name := "lrStates", fn := fun _ => fun
  | [d] => { results := [.lit (.bool true)], args := [d] }
  | _ => none }
def lrStatesRow : OpenClaim := { program := "ytcbaebkkdkdaaaadoor", sum := "ba00ff37c4d4f70f57ad69480f5089a329dd981927fcb0434b24392d2f68b3be", func := "incunable/incunablelaw19.LrStates", spec := "lrStates", inPlace := ["internal/abi.NoEscape"], unfollowed := true, recurses := true, named := ["internal/strconv.uint64pow10", "math/bits.deBruijn32tab", "math/bits.deBruijn64tab"], plainKeys := false, apart := false, laid := [("math/bits.deBruijn32tab", laid_math_bits_deBruijn32tab), ("math/bits.deBruijn64tab", laid_math_bits_deBruijn64tab), ("internal/strconv.uint64pow10", laid_internal_strconv_uint64pow10)] }
def LrStatesSaid : Prop := lrStatesRow.holds Tryd.pinned (OpenSpec.ofChange lrStatesSpec)

/-- ITS FALSE NEIGHBOUR: 'it returns false'. Refute it at one input. -/
def lrStatesWrong : ChangeSpec := { name := "lrStates", fn := fun _ => fun
  | [d] => { results := [.lit (.bool false)], args := [d] }
  | _ => none }
def LrStatesWrongFalsely : Prop := lrStatesRow.holds Tryd.pinned (OpenSpec.ofChange lrStatesWrong)

/-- 'incunablelaw19.LrCloses': WHATEVER THE INPUT: true; the input reads as it did. -/
def lrClosesSpec : ChangeSpec := { name := "lrCloses", fn := fun _ => fun
  | [d1, d2] => { results := [.lit (.bool true)], args := [d1, d2] }
  | _ => none }
def lrClosesRow : OpenClaim := { program := "ytcbaebkkdkdaaaadoor", sum := "ba00ff37c4d4f70f57ad69480f5089a329dd981927fcb0434b24392d2f68b3be", func := "incunable/incunablelaw19.LrCloses", spec := "lrCloses", inPlace := ["internal/abi.NoEscape"], unfollowed := true, recurses := true, named := ["internal/strconv.uint64pow10", "math/bits.deBruijn32tab", "math/bits.deBruijn64tab"], plainKeys := false, apart := false, laid := [("math/bits.deBruijn32tab", laid_math_bits_deBruijn32tab), ("math/bits.deBruijn64tab", laid_math_bits_deBruijn64tab), ("internal/strconv.uint64pow10", laid_internal_strconv_uint64pow10)] }
def LrClosesSaid : Prop := lrClosesRow.holds Tryd.pinned (OpenSpec.ofChange lrClosesSpec)

/-- ITS FALSE NEIGHBOUR: 'it returns false'. Refute it at one input. -/
def lrClosesWrong : ChangeSpec := { name := "lrCloses", fn := fun _ => fun
  | [d1, d2] => { results := [.lit (.bool false)], args := [d1, d2] }
  | _ => none }
def LrClosesWrongFalsely : Prop := lrClosesRow.holds Tryd.pinned (OpenSpec.ofChange lrClosesWrong)

/-- 'incunablelaw19.LrGoes': WHATEVER THE INPUT: true; the input reads as it did. -/
def lrGoesSpec : ChangeSpec := { name := "lrGoes", fn := fun _ => fun
  | [d] => { results := [.lit (.bool true)], args := [d] }
  | _ => none }
def lrGoesRow : OpenClaim := { program := "ytcbaebkkdkdaaaadoor", sum := "ba00ff37c4d4f70f57ad69480f5089a329dd981927fcb0434b24392d2f68b3be", func := "incunable/incunablelaw19.LrGoes", spec := "lrGoes", inPlace := ["internal/abi.NoEscape"], unfollowed := true, recurses := true, named := ["internal/strconv.uint64pow10", "math/bits.deBruijn32tab", "math/bits.deBruijn64tab"], plainKeys := false, apart := false, laid := [("math/bits.deBruijn32tab", laid_math_bits_deBruijn32tab), ("math/bits.deBruijn64tab", laid_math_bits_deBruijn64tab), ("internal/strconv.uint64pow10", laid_internal_strconv_uint64pow10)] }
def LrGoesSaid : Prop := lrGoesRow.holds Tryd.pinned (OpenSpec.ofChange lrGoesSpec)

/-- ITS FALSE NEIGHBOUR: 'it returns false'. Refute it at one input. -/
def lrGoesWrong : ChangeSpec := { name := "lrGoes", fn := fun _ => fun
  | [d] => { results := [.lit (.bool false)], args := [d] }
  | _ => none }
def LrGoesWrongFalsely : Prop := lrGoesRow.holds Tryd.pinned (OpenSpec.ofChange lrGoesWrong)

/-- 'incunablelaw19.LrReached': WHATEVER THE INPUT: true; the input reads as it did. -/
def lrReachedSpec : ChangeSpec := { name := "lrReached", fn := fun _ => fun
  | [d] => { results := [.lit (.bool true)], args := [d] }
  | _ => none }
def lrReachedRow : OpenClaim := { program := "ytcbaebkkdkdaaaadoor", sum := "ba00ff37c4d4f70f57ad69480f5089a329dd981927fcb0434b24392d2f68b3be", func := "incunable/incunablelaw19.LrReached", spec := "lrReached", inPlace := ["internal/abi.NoEscape"], unfollowed := true, recurses := true, named := ["internal/strconv.uint64pow10", "math/bits.deBruijn32tab", "math/bits.deBruijn64tab"], plainKeys := false, apart := false, laid := [("math/bits.deBruijn32tab", laid_math_bits_deBruijn32tab), ("math/bits.deBruijn64tab", laid_math_bits_deBruijn64tab), ("internal/strconv.uint64pow10", laid_internal_strconv_uint64pow10)] }
def LrReachedSaid : Prop := lrReachedRow.holds Tryd.pinned (OpenSpec.ofChange lrReachedSpec)

/-- ITS FALSE NEIGHBOUR: 'it returns false'. Refute it at one input. -/
def lrReachedWrong : ChangeSpec := { name := "lrReached", fn := fun _ => fun
  | [d] => { results := [.lit (.bool false)], args := [d] }
  | _ => none }
def LrReachedWrongFalsely : Prop := lrReachedRow.holds Tryd.pinned (OpenSpec.ofChange lrReachedWrong)

/-- 'incunablelaw19.LrMore': WHATEVER THE INPUT: true; the input reads as it did. -/
def lrMoreSpec : ChangeSpec := { name := "lrMore", fn := fun _ => fun
  | [d1, d2, d3] => { results := [.lit (.bool true)], args := [d1, d2, d3] }
  | _ => none }
def lrMoreRow : OpenClaim := { program := "ytcbaebkkdkdaaaadoor", sum := "ba00ff37c4d4f70f57ad69480f5089a329dd981927fcb0434b24392d2f68b3be", func := "incunable/incunablelaw19.LrMore", spec := "lrMore", inPlace := ["internal/abi.NoEscape"], unfollowed := true, recurses := true, named := ["internal/strconv.uint64pow10", "math/bits.deBruijn32tab", "math/bits.deBruijn64tab"], plainKeys := false, apart := false, laid := [("math/bits.deBruijn32tab", laid_math_bits_deBruijn32tab), ("math/bits.deBruijn64tab", laid_math_bits_deBruijn64tab), ("internal/strconv.uint64pow10", laid_internal_strconv_uint64pow10)] }
def LrMoreSaid : Prop := lrMoreRow.holds Tryd.pinned (OpenSpec.ofChange lrMoreSpec)

/-- ITS FALSE NEIGHBOUR: 'it returns false'. Refute it at one input. -/
def lrMoreWrong : ChangeSpec := { name := "lrMore", fn := fun _ => fun
  | [d1, d2, d3] => { results := [.lit (.bool false)], args := [d1, d2, d3] }
  | _ => none }
def LrMoreWrongFalsely : Prop := lrMoreRow.holds Tryd.pinned (OpenSpec.ofChange lrMoreWrong)

/-- 'incunablelaw19.LrKnown': WHATEVER THE INPUT: true; the input reads as it did. -/
def lrKnownSpec : ChangeSpec := { name := "lrKnown", fn := fun _ => fun
  | [] => { results := [.lit (.bool true)], args := [] }
  | _ => none }
def lrKnownRow : OpenClaim := { program := "ytcbaebkkdkdaaaadoor", sum := "ba00ff37c4d4f70f57ad69480f5089a329dd981927fcb0434b24392d2f68b3be", func := "incunable/incunablelaw19.LrKnown", spec := "lrKnown", inPlace := ["internal/abi.NoEscape"], unfollowed := true, recurses := true, named := ["internal/strconv.uint64pow10", "math/bits.deBruijn32tab", "math/bits.deBruijn64tab"], plainKeys := false, apart := false, laid := [("math/bits.deBruijn32tab", laid_math_bits_deBruijn32tab), ("math/bits.deBruijn64tab", laid_math_bits_deBruijn64tab), ("internal/strconv.uint64pow10", laid_internal_strconv_uint64pow10)] }
def LrKnownSaid : Prop := lrKnownRow.holds Tryd.pinned (OpenSpec.ofChange lrKnownSpec)

/-- ITS FALSE NEIGHBOUR: 'it returns false'. Refute it at one input. -/
def lrKnownWrong : ChangeSpec := { name := "lrKnown", fn := fun _ => fun
  | [] => { results := [.lit (.bool false)], args := [] }
  | _ => none }
def LrKnownWrongFalsely : Prop := lrKnownRow.holds Tryd.pinned (OpenSpec.ofChange lrKnownWrong)

/-- 'incunablelaw20.AheadComes': WHATEVER THE INPUT: true; the input reads as it did. -/
def aheadComesSpec : ChangeSpec := { name := "aheadComes", fn := fun _ => fun
  | [d1, d2] => { results := [.lit (.bool true)], args := [d1, d2] }
  | _ => none }
def aheadComesRow : OpenClaim := { program := "ytcbaebkkdkdaaaadoor", sum := "ba00ff37c4d4f70f57ad69480f5089a329dd981927fcb0434b24392d2f68b3be", func := "incunable/incunablelaw20.AheadComes", spec := "aheadComes", inPlace := ["internal/abi.NoEscape"], unfollowed := true, recurses := true, named := ["internal/strconv.uint64pow10", "math/bits.deBruijn32tab", "math/bits.deBruijn64tab"], plainKeys := false, apart := false, laid := [("math/bits.deBruijn32tab", laid_math_bits_deBruijn32tab), ("math/bits.deBruijn64tab", laid_math_bits_deBruijn64tab), ("internal/strconv.uint64pow10", laid_internal_strconv_uint64pow10)] }
def AheadComesSaid : Prop := aheadComesRow.holds Tryd.pinned (OpenSpec.ofChange aheadComesSpec)

/-- ITS FALSE NEIGHBOUR: 'it returns false'. Refute it at one input. -/
def aheadComesWrong : ChangeSpec := { name := "aheadComes", fn := fun _ => fun
  | [d1, d2] => { results := [.lit (.bool false)], args := [d1, d2] }
  | _ => none }
def AheadComesWrongFalsely : Prop := aheadComesRow.holds Tryd.pinned (OpenSpec.ofChange aheadComesWrong)

/-- 'incunablelaw20.AheadReasons': WHATEVER THE INPUT: true; the input reads as it did. -/
def aheadReasonsSpec : ChangeSpec := { name := "aheadReasons", fn := fun _ => fun
  | [d] => { results := [.lit (.bool true)], args := [d] }
  | _ => none }
def aheadReasonsRow : OpenClaim := { program := "ytcbaebkkdkdaaaadoor", sum := "ba00ff37c4d4f70f57ad69480f5089a329dd981927fcb0434b24392d2f68b3be", func := "incunable/incunablelaw20.AheadReasons", spec := "aheadReasons", inPlace := ["internal/abi.NoEscape"], unfollowed := true, recurses := true, named := ["internal/strconv.uint64pow10", "math/bits.deBruijn32tab", "math/bits.deBruijn64tab"], plainKeys := false, apart := false, laid := [("math/bits.deBruijn32tab", laid_math_bits_deBruijn32tab), ("math/bits.deBruijn64tab", laid_math_bits_deBruijn64tab), ("internal/strconv.uint64pow10", laid_internal_strconv_uint64pow10)] }
def AheadReasonsSaid : Prop := aheadReasonsRow.holds Tryd.pinned (OpenSpec.ofChange aheadReasonsSpec)

/-- ITS FALSE NEIGHBOUR: 'it returns false'. Refute it at one input. -/
def aheadReasonsWrong : ChangeSpec := { name := "aheadReasons", fn := fun _ => fun
  | [d] => { results := [.lit (.bool false)], args := [d] }
  | _ => none }
def AheadReasonsWrongFalsely : Prop := aheadReasonsRow.holds Tryd.pinned (OpenSpec.ofChange aheadReasonsWrong)

/-- 'incunablelaw20.AheadFollows': WHATEVER THE INPUT: true; the input reads as it did. -/
def aheadFollowsSpec : ChangeSpec := { name := "aheadFollows", fn := fun _ => fun
  | [d] => { results := [.lit (.bool true)], args := [d] }
  | _ => none }
def aheadFollowsRow : OpenClaim := { program := "ytcbaebkkdkdaaaadoor", sum := "ba00ff37c4d4f70f57ad69480f5089a329dd981927fcb0434b24392d2f68b3be", func := "incunable/incunablelaw20.AheadFollows", spec := "aheadFollows", inPlace := ["internal/abi.NoEscape"], unfollowed := true, recurses := true, named := ["internal/strconv.uint64pow10", "math/bits.deBruijn32tab", "math/bits.deBruijn64tab"], plainKeys := false, apart := false, laid := [("math/bits.deBruijn32tab", laid_math_bits_deBruijn32tab), ("math/bits.deBruijn64tab", laid_math_bits_deBruijn64tab), ("internal/strconv.uint64pow10", laid_internal_strconv_uint64pow10)] }
def AheadFollowsSaid : Prop := aheadFollowsRow.holds Tryd.pinned (OpenSpec.ofChange aheadFollowsSpec)

/-- ITS FALSE NEIGHBOUR: 'it returns false'. Refute it at one input. -/
def aheadFollowsWrong : ChangeSpec := { name := "aheadFollows", fn := fun _ => fun
  | [d] => { results := [.lit (.bool false)], args := [d] }
  | _ => none }
def AheadFollowsWrongFalsely : Prop := aheadFollowsRow.holds Tryd.pinned (OpenSpec.ofChange aheadFollowsWrong)

/-- 'incunablelaw20.AheadKnown': WHATEVER THE INPUT: true; the input reads as it did. -/
def aheadKnownSpec : ChangeSpec := { name := "aheadKnown", fn := fun _ => fun
  | [] => { results := [.lit (.bool true)], args := [] }
  | _ => none }
def aheadKnownRow : OpenClaim := { program := "ytcbaebkkdkdaaaadoor", sum := "ba00ff37c4d4f70f57ad69480f5089a329dd981927fcb0434b24392d2f68b3be", func := "incunable/incunablelaw20.AheadKnown", spec := "aheadKnown", inPlace := ["internal/abi.NoEscape"], unfollowed := true, recurses := true, named := ["internal/strconv.uint64pow10", "math/bits.deBruijn32tab", "math/bits.deBruijn64tab"], plainKeys := false, apart := false, laid := [("math/bits.deBruijn32tab", laid_math_bits_deBruijn32tab), ("math/bits.deBruijn64tab", laid_math_bits_deBruijn64tab), ("internal/strconv.uint64pow10", laid_internal_strconv_uint64pow10)] }
def AheadKnownSaid : Prop := aheadKnownRow.holds Tryd.pinned (OpenSpec.ofChange aheadKnownSpec)

/-- ITS FALSE NEIGHBOUR: 'it returns false'. Refute it at one input. -/
def aheadKnownWrong : ChangeSpec := { name := "aheadKnown", fn := fun _ => fun
  | [] => { results := [.lit (.bool false)], args := [] }
  | _ => none }
def AheadKnownWrongFalsely : Prop := aheadKnownRow.holds Tryd.pinned (OpenSpec.ofChange aheadKnownWrong)

/- THE SECOND FORM. 'bulk': how many values and letters a reading holds, each counted each time it is reached (what is shared counts as often as it is met; a slice's spare places count too). A statement '..UptoSaid' is the law's where the arguments, and the package variables that the reading takes, are together of bulk at most 1048576: NARROWER than '..Said'. Prove '..Said' where nothing that the law and all that it calls make is longer than what came in: it says more and counts as full. Else prove '..UptoSaid'. A law counts once. -/
mutual
def uptoBulk {H : Type} : DataW H → Nat
  | .lit (.string bytes) => bytes.length + 1
  | .lit _ => 1
  | .nil => 1
  | .ptr d => uptoBulk d + 1
  | .slice elems spare => uptoBulkAll elems + uptoBulkAll spare + 1
  | .agg parts => uptoBulkAll parts + 1
  | .iface _ d => uptoBulk d + 1
  | .map entries => uptoBulkEntries entries + 1
  | .held _ => 1
def uptoBulkAll {H : Type} : List (DataW H) → Nat
  | [] => 0
  | d :: r => uptoBulk d + uptoBulkAll r
def uptoBulkEntries {H : Type} : List (Lit × DataW H) → Nat
  | [] => 0
  | x :: r => uptoBulkEntry x + uptoBulkEntries r
def uptoBulkEntry {H : Type} : Lit × DataW H → Nat
  | (.string bytes, d) => bytes.length + uptoBulk d + 1
  | (_, d) => uptoBulk d + 1
 end
def uptoSmall : (H : Type) → List (DataW H) → Bool := fun _ ds => decide (uptoBulkAll ds ≤ 1048576)
def OpenSpec.upto (s : _root_.Go.ChangeSpec) : _root_.Go.OpenSpec := { _root_.Go.OpenSpec.ofChange s with cond := some uptoSmall }

/-- 'incunablelaw19.LrStates', WHERE WHAT IT READS IS OF BULK AT MOST 1048576: true; the input reads as it did. -/
def lrStatesUptoRow : OpenClaim := { program := "ytcbaebkkdkdaaaadoor", sum := "ba00ff37c4d4f70f57ad69480f5089a329dd981927fcb0434b24392d2f68b3be", func := "incunable/incunablelaw19.LrStates", spec := "lrStates", inPlace := ["internal/abi.NoEscape"], unfollowed := true, recurses := true, named := ["internal/strconv.uint64pow10", "math/bits.deBruijn32tab", "math/bits.deBruijn64tab"], plainKeys := false, apart := false, laid := [("math/bits.deBruijn32tab", laid_math_bits_deBruijn32tab), ("math/bits.deBruijn64tab", laid_math_bits_deBruijn64tab), ("internal/strconv.uint64pow10", laid_internal_strconv_uint64pow10)], narrowed := true }
def LrStatesUptoSaid : Prop := lrStatesUptoRow.holds Tryd.pinned (OpenSpec.upto lrStatesSpec)

/-- 'incunablelaw19.LrCloses', WHERE WHAT IT READS IS OF BULK AT MOST 1048576: true; the input reads as it did. -/
def lrClosesUptoRow : OpenClaim := { program := "ytcbaebkkdkdaaaadoor", sum := "ba00ff37c4d4f70f57ad69480f5089a329dd981927fcb0434b24392d2f68b3be", func := "incunable/incunablelaw19.LrCloses", spec := "lrCloses", inPlace := ["internal/abi.NoEscape"], unfollowed := true, recurses := true, named := ["internal/strconv.uint64pow10", "math/bits.deBruijn32tab", "math/bits.deBruijn64tab"], plainKeys := false, apart := false, laid := [("math/bits.deBruijn32tab", laid_math_bits_deBruijn32tab), ("math/bits.deBruijn64tab", laid_math_bits_deBruijn64tab), ("internal/strconv.uint64pow10", laid_internal_strconv_uint64pow10)], narrowed := true }
def LrClosesUptoSaid : Prop := lrClosesUptoRow.holds Tryd.pinned (OpenSpec.upto lrClosesSpec)

/-- 'incunablelaw19.LrGoes', WHERE WHAT IT READS IS OF BULK AT MOST 1048576: true; the input reads as it did. -/
def lrGoesUptoRow : OpenClaim := { program := "ytcbaebkkdkdaaaadoor", sum := "ba00ff37c4d4f70f57ad69480f5089a329dd981927fcb0434b24392d2f68b3be", func := "incunable/incunablelaw19.LrGoes", spec := "lrGoes", inPlace := ["internal/abi.NoEscape"], unfollowed := true, recurses := true, named := ["internal/strconv.uint64pow10", "math/bits.deBruijn32tab", "math/bits.deBruijn64tab"], plainKeys := false, apart := false, laid := [("math/bits.deBruijn32tab", laid_math_bits_deBruijn32tab), ("math/bits.deBruijn64tab", laid_math_bits_deBruijn64tab), ("internal/strconv.uint64pow10", laid_internal_strconv_uint64pow10)], narrowed := true }
def LrGoesUptoSaid : Prop := lrGoesUptoRow.holds Tryd.pinned (OpenSpec.upto lrGoesSpec)

/-- 'incunablelaw19.LrReached', WHERE WHAT IT READS IS OF BULK AT MOST 1048576: true; the input reads as it did. -/
def lrReachedUptoRow : OpenClaim := { program := "ytcbaebkkdkdaaaadoor", sum := "ba00ff37c4d4f70f57ad69480f5089a329dd981927fcb0434b24392d2f68b3be", func := "incunable/incunablelaw19.LrReached", spec := "lrReached", inPlace := ["internal/abi.NoEscape"], unfollowed := true, recurses := true, named := ["internal/strconv.uint64pow10", "math/bits.deBruijn32tab", "math/bits.deBruijn64tab"], plainKeys := false, apart := false, laid := [("math/bits.deBruijn32tab", laid_math_bits_deBruijn32tab), ("math/bits.deBruijn64tab", laid_math_bits_deBruijn64tab), ("internal/strconv.uint64pow10", laid_internal_strconv_uint64pow10)], narrowed := true }
def LrReachedUptoSaid : Prop := lrReachedUptoRow.holds Tryd.pinned (OpenSpec.upto lrReachedSpec)

/-- 'incunablelaw19.LrMore', WHERE WHAT IT READS IS OF BULK AT MOST 1048576: true; the input reads as it did. -/
def lrMoreUptoRow : OpenClaim := { program := "ytcbaebkkdkdaaaadoor", sum := "ba00ff37c4d4f70f57ad69480f5089a329dd981927fcb0434b24392d2f68b3be", func := "incunable/incunablelaw19.LrMore", spec := "lrMore", inPlace := ["internal/abi.NoEscape"], unfollowed := true, recurses := true, named := ["internal/strconv.uint64pow10", "math/bits.deBruijn32tab", "math/bits.deBruijn64tab"], plainKeys := false, apart := false, laid := [("math/bits.deBruijn32tab", laid_math_bits_deBruijn32tab), ("math/bits.deBruijn64tab", laid_math_bits_deBruijn64tab), ("internal/strconv.uint64pow10", laid_internal_strconv_uint64pow10)], narrowed := true }
def LrMoreUptoSaid : Prop := lrMoreUptoRow.holds Tryd.pinned (OpenSpec.upto lrMoreSpec)

/-- 'incunablelaw19.LrKnown', WHERE WHAT IT READS IS OF BULK AT MOST 1048576: true; the input reads as it did. -/
def lrKnownUptoRow : OpenClaim := { program := "ytcbaebkkdkdaaaadoor", sum := "ba00ff37c4d4f70f57ad69480f5089a329dd981927fcb0434b24392d2f68b3be", func := "incunable/incunablelaw19.LrKnown", spec := "lrKnown", inPlace := ["internal/abi.NoEscape"], unfollowed := true, recurses := true, named := ["internal/strconv.uint64pow10", "math/bits.deBruijn32tab", "math/bits.deBruijn64tab"], plainKeys := false, apart := false, laid := [("math/bits.deBruijn32tab", laid_math_bits_deBruijn32tab), ("math/bits.deBruijn64tab", laid_math_bits_deBruijn64tab), ("internal/strconv.uint64pow10", laid_internal_strconv_uint64pow10)], narrowed := true }
def LrKnownUptoSaid : Prop := lrKnownUptoRow.holds Tryd.pinned (OpenSpec.upto lrKnownSpec)

/-- 'incunablelaw20.AheadComes', WHERE WHAT IT READS IS OF BULK AT MOST 1048576: true; the input reads as it did. -/
def aheadComesUptoRow : OpenClaim := { program := "ytcbaebkkdkdaaaadoor", sum := "ba00ff37c4d4f70f57ad69480f5089a329dd981927fcb0434b24392d2f68b3be", func := "incunable/incunablelaw20.AheadComes", spec := "aheadComes", inPlace := ["internal/abi.NoEscape"], unfollowed := true, recurses := true, named := ["internal/strconv.uint64pow10", "math/bits.deBruijn32tab", "math/bits.deBruijn64tab"], plainKeys := false, apart := false, laid := [("math/bits.deBruijn32tab", laid_math_bits_deBruijn32tab), ("math/bits.deBruijn64tab", laid_math_bits_deBruijn64tab), ("internal/strconv.uint64pow10", laid_internal_strconv_uint64pow10)], narrowed := true }
def AheadComesUptoSaid : Prop := aheadComesUptoRow.holds Tryd.pinned (OpenSpec.upto aheadComesSpec)

/-- 'incunablelaw20.AheadReasons', WHERE WHAT IT READS IS OF BULK AT MOST 1048576: true; the input reads as it did. -/
def aheadReasonsUptoRow : OpenClaim := { program := "ytcbaebkkdkdaaaadoor", sum := "ba00ff37c4d4f70f57ad69480f5089a329dd981927fcb0434b24392d2f68b3be", func := "incunable/incunablelaw20.AheadReasons", spec := "aheadReasons", inPlace := ["internal/abi.NoEscape"], unfollowed := true, recurses := true, named := ["internal/strconv.uint64pow10", "math/bits.deBruijn32tab", "math/bits.deBruijn64tab"], plainKeys := false, apart := false, laid := [("math/bits.deBruijn32tab", laid_math_bits_deBruijn32tab), ("math/bits.deBruijn64tab", laid_math_bits_deBruijn64tab), ("internal/strconv.uint64pow10", laid_internal_strconv_uint64pow10)], narrowed := true }
def AheadReasonsUptoSaid : Prop := aheadReasonsUptoRow.holds Tryd.pinned (OpenSpec.upto aheadReasonsSpec)

/-- 'incunablelaw20.AheadFollows', WHERE WHAT IT READS IS OF BULK AT MOST 1048576: true; the input reads as it did. -/
def aheadFollowsUptoRow : OpenClaim := { program := "ytcbaebkkdkdaaaadoor", sum := "ba00ff37c4d4f70f57ad69480f5089a329dd981927fcb0434b24392d2f68b3be", func := "incunable/incunablelaw20.AheadFollows", spec := "aheadFollows", inPlace := ["internal/abi.NoEscape"], unfollowed := true, recurses := true, named := ["internal/strconv.uint64pow10", "math/bits.deBruijn32tab", "math/bits.deBruijn64tab"], plainKeys := false, apart := false, laid := [("math/bits.deBruijn32tab", laid_math_bits_deBruijn32tab), ("math/bits.deBruijn64tab", laid_math_bits_deBruijn64tab), ("internal/strconv.uint64pow10", laid_internal_strconv_uint64pow10)], narrowed := true }
def AheadFollowsUptoSaid : Prop := aheadFollowsUptoRow.holds Tryd.pinned (OpenSpec.upto aheadFollowsSpec)

/-- 'incunablelaw20.AheadKnown', WHERE WHAT IT READS IS OF BULK AT MOST 1048576: true; the input reads as it did. -/
def aheadKnownUptoRow : OpenClaim := { program := "ytcbaebkkdkdaaaadoor", sum := "ba00ff37c4d4f70f57ad69480f5089a329dd981927fcb0434b24392d2f68b3be", func := "incunable/incunablelaw20.AheadKnown", spec := "aheadKnown", inPlace := ["internal/abi.NoEscape"], unfollowed := true, recurses := true, named := ["internal/strconv.uint64pow10", "math/bits.deBruijn32tab", "math/bits.deBruijn64tab"], plainKeys := false, apart := false, laid := [("math/bits.deBruijn32tab", laid_math_bits_deBruijn32tab), ("math/bits.deBruijn64tab", laid_math_bits_deBruijn64tab), ("internal/strconv.uint64pow10", laid_internal_strconv_uint64pow10)], narrowed := true }
def AheadKnownUptoSaid : Prop := aheadKnownUptoRow.holds Tryd.pinned (OpenSpec.upto aheadKnownSpec)

end Rows
end Go.Proofs.YtcbaebkkdkdaaaaDoor
