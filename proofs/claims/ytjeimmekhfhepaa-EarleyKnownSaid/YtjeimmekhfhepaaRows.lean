/-
  No cell of these rows narrows 'for every input' (looked for: loops, veiled, ifaces, maps, wideKeys, modest, calm, conditions, laid).
  DERIVED. THE GIVEN ROWS OF THIS SEAT. 3 by the template 'for every input the law returns true; each argument reads behind the call as it read before'; 0 by the template 'total and deterministic' (their statements: YtjeimmekhfhepaaTotals.lean).
  GIVEN WITH THE SEED: the statements are not yours to turn. If you find one false, say at which input.
  Laid BY PROGRAM, IN A SANDBOX (cutbox-rows.mjs): the forced cells as the released guide's own fill.sh prints them over the translation b2aaeb4190d64862… (all of the seat's roots in one cut). By AI agents, Wed Nov 11 2026. No macro, syntax, notation, axiom, sorry.
-/
import Derived.Test.YtjeimmekhfhepaaChecked
import GoSem.Claim
import GoSem.ClaimJoined
import GoSem.ClaimMapViews
import Derived.JoinedTies
import Derived.KernelRfl
namespace Go.Proofs.Ytjeimmekhfhepaa
/- THE CELL 'sum', in the pinned program and in every row, IS THE sha256 OF THE DUMP (.gsa) THAT YtjeimmekhfhepaaProg.lean LOADS. Nothing in Lean hashes anything: it is a label: what it is worth is what the hold of that sum in a sandbox is worth. -/
noncomputable def Try.pinned : Pinned := { name := "ytjeimmekhfhepaa", sum := "b2aaeb4190d64862962d09d1adeb510b7513469edc129a5fbbcf3ef5ba3dbe05", checked := Try.checked }
namespace Rows
def none {H : Type} : Left H := { results := [], args := [] }

/-- 'incunablelaw24.EarleyBegins': WHATEVER THE INPUT: true; the input reads as it did. -/
def earleyBeginsSpec : ChangeSpec := { name := "earleyBegins", fn := fun _ => fun
  | [d1, d2, d3] => { results := [.lit (.bool true)], args := [d1, d2, d3] }
  | _ => none }
def earleyBeginsRow : OpenClaim := { program := "ytjeimmekhfhepaa", sum := "b2aaeb4190d64862962d09d1adeb510b7513469edc129a5fbbcf3ef5ba3dbe05", func := "incunable/incunablelaw24.EarleyBegins", spec := "earleyBegins", unfollowed := true, recurses := true, plainKeys := false, apart := false }
def EarleyBeginsSaid : Prop := earleyBeginsRow.holds Try.pinned (OpenSpec.ofChange earleyBeginsSpec)

/-- ITS FALSE NEIGHBOUR: 'it returns false'. Refute it at one input. -/
def earleyBeginsWrong : ChangeSpec := { name := "earleyBegins", fn := fun _ => fun
  | [d1, d2, d3] => { results := [.lit (.bool false)], args := [d1, d2, d3] }
  | _ => none }
def EarleyBeginsWrongFalsely : Prop := earleyBeginsRow.holds Try.pinned (OpenSpec.ofChange earleyBeginsWrong)

/-- 'incunablelaw24.EarleyMore': WHATEVER THE INPUT: true; the input reads as it did. -/
def earleyMoreSpec : ChangeSpec := { name := "earleyMore", fn := fun _ => fun
  | [d1, d2, d3] => { results := [.lit (.bool true)], args := [d1, d2, d3] }
  | _ => none }
def earleyMoreRow : OpenClaim := { program := "ytjeimmekhfhepaa", sum := "b2aaeb4190d64862962d09d1adeb510b7513469edc129a5fbbcf3ef5ba3dbe05", func := "incunable/incunablelaw24.EarleyMore", spec := "earleyMore", unfollowed := true, recurses := true, plainKeys := false, apart := false }
def EarleyMoreSaid : Prop := earleyMoreRow.holds Try.pinned (OpenSpec.ofChange earleyMoreSpec)

/-- ITS FALSE NEIGHBOUR: 'it returns false'. Refute it at one input. -/
def earleyMoreWrong : ChangeSpec := { name := "earleyMore", fn := fun _ => fun
  | [d1, d2, d3] => { results := [.lit (.bool false)], args := [d1, d2, d3] }
  | _ => none }
def EarleyMoreWrongFalsely : Prop := earleyMoreRow.holds Try.pinned (OpenSpec.ofChange earleyMoreWrong)

/-- 'incunablelaw24.EarleyKnown': WHATEVER THE INPUT: true; the input reads as it did. -/
def earleyKnownSpec : ChangeSpec := { name := "earleyKnown", fn := fun _ => fun
  | [] => { results := [.lit (.bool true)], args := [] }
  | _ => none }
def earleyKnownRow : OpenClaim := { program := "ytjeimmekhfhepaa", sum := "b2aaeb4190d64862962d09d1adeb510b7513469edc129a5fbbcf3ef5ba3dbe05", func := "incunable/incunablelaw24.EarleyKnown", spec := "earleyKnown", unfollowed := true, recurses := true, plainKeys := false, apart := false }
def EarleyKnownSaid : Prop := earleyKnownRow.holds Try.pinned (OpenSpec.ofChange earleyKnownSpec)

/-- ITS FALSE NEIGHBOUR: 'it returns false'. Refute it at one input. -/
def earleyKnownWrong : ChangeSpec := { name := "earleyKnown", fn := fun _ => fun
  | [] => { results := [.lit (.bool false)], args := [] }
  | _ => none }
def EarleyKnownWrongFalsely : Prop := earleyKnownRow.holds Try.pinned (OpenSpec.ofChange earleyKnownWrong)

/- THE SECOND FORM. 'bulk': how many values and letters a reading holds, each counted each time it is reached (what is shared counts as often as it is met; a slice's spare places count too). A statement '..UptoSaid' is the law's where the arguments, and the package variables that the reading takes, are together of bulk at most 1048576: NARROWER than '..Said'. Prove '..Said' where nothing that the law and all that it calls make is longer than what came in: it says more and counts as full. Else prove '..UptoSaid'. A law counts once. -/
mutual
def uptoBulk {H : Type} : DataW H → Nat
  | .lit (.string bytes) => bytes.length + 1
  | .lit _ => 1
  | .nil => 1
  | .ptr d => uptoBulk d + 1
  | .slice elems spare => uptoBulkAll elems + uptoBulkAll spare + 1
  | .agg parts => uptoBulkAll parts + 1
  | .iface _ d => uptoBulk d + 1
  | .map entries => uptoBulkEntries entries + 1
  | .held _ => 1
def uptoBulkAll {H : Type} : List (DataW H) → Nat
  | [] => 0
  | d :: r => uptoBulk d + uptoBulkAll r
def uptoBulkEntries {H : Type} : List (Lit × DataW H) → Nat
  | [] => 0
  | x :: r => uptoBulkEntry x + uptoBulkEntries r
def uptoBulkEntry {H : Type} : Lit × DataW H → Nat
  | (.string bytes, d) => bytes.length + uptoBulk d + 1
  | (_, d) => uptoBulk d + 1
 end
def uptoSmall : (H : Type) → List (DataW H) → Bool := fun _ ds => decide (uptoBulkAll ds ≤ 1048576)
def OpenSpec.upto (s : _root_.Go.ChangeSpec) : _root_.Go.OpenSpec := { _root_.Go.OpenSpec.ofChange s with cond := some uptoSmall }

/-- 'incunablelaw24.EarleyBegins', WHERE WHAT IT READS IS OF BULK AT MOST 1048576: true; the input reads as it did. -/
def earleyBeginsUptoRow : OpenClaim := { program := "ytjeimmekhfhepaa", sum := "b2aaeb4190d64862962d09d1adeb510b7513469edc129a5fbbcf3ef5ba3dbe05", func := "incunable/incunablelaw24.EarleyBegins", spec := "earleyBegins", unfollowed := true, recurses := true, plainKeys := false, apart := false, narrowed := true }
def EarleyBeginsUptoSaid : Prop := earleyBeginsUptoRow.holds Try.pinned (OpenSpec.upto earleyBeginsSpec)

/-- 'incunablelaw24.EarleyMore', WHERE WHAT IT READS IS OF BULK AT MOST 1048576: true; the input reads as it did. -/
def earleyMoreUptoRow : OpenClaim := { program := "ytjeimmekhfhepaa", sum := "b2aaeb4190d64862962d09d1adeb510b7513469edc129a5fbbcf3ef5ba3dbe05", func := "incunable/incunablelaw24.EarleyMore", spec := "earleyMore", unfollowed := true, recurses := true, plainKeys := false, apart := false, narrowed := true }
def EarleyMoreUptoSaid : Prop := earleyMoreUptoRow.holds Try.pinned (OpenSpec.upto earleyMoreSpec)

/-- 'incunablelaw24.EarleyKnown', WHERE WHAT IT READS IS OF BULK AT MOST 1048576: true; the input reads as it did. -/
def earleyKnownUptoRow : OpenClaim := { program := "ytjeimmekhfhepaa", sum := "b2aaeb4190d64862962d09d1adeb510b7513469edc129a5fbbcf3ef5ba3dbe05", func := "incunable/incunablelaw24.EarleyKnown", spec := "earleyKnown", unfollowed := true, recurses := true, plainKeys := false, apart := false, narrowed := true }
def EarleyKnownUptoSaid : Prop := earleyKnownUptoRow.holds Try.pinned (OpenSpec.upto earleyKnownSpec)

end Rows
end Go.Proofs.Ytjeimmekhfhepaa
