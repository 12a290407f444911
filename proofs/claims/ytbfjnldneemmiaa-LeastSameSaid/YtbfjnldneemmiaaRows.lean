/-
  No cell of these rows narrows 'for every input' (looked for: loops, veiled, ifaces, maps, wideKeys, modest, calm, conditions, laid).
  DERIVED. THE GIVEN ROWS OF THIS SEAT. 12 by the template 'for every input the law returns true; each argument reads behind the call as it read before'; 0 by the template 'total and deterministic' (their statements: YtbfjnldneemmiaaTotals.lean).
  GIVEN WITH THE SEED: the statements are not yours to turn. If you find one false, say at which input.
  Laid BY PROGRAM, IN A SANDBOX (cutbox-rows.mjs): the forced cells as the released guide's own fill.sh prints them over the translation 3c026b972ce70ae0… (all of the seat's roots in one cut). By AI agents, Wed Nov 11 2026. No macro, syntax, notation, axiom, sorry.
-/
import Derived.Test.YtbfjnldneemmiaaChecked
import GoSem.Claim
import GoSem.ClaimJoined
import GoSem.ClaimMapViews
import Derived.JoinedTies
import Derived.KernelRfl
namespace Go.Proofs.Ytbfjnldneemmiaa
/- THE CELL 'sum', in the pinned program and in every row, IS THE sha256 OF THE DUMP (.gsa) THAT YtbfjnldneemmiaaProg.lean LOADS. Nothing in Lean hashes anything: it is a label: what it is worth is what the hold of that sum in a sandbox is worth. -/
noncomputable def Try.pinned : Pinned := { name := "ytbfjnldneemmiaa", sum := "3c026b972ce70ae083dfe679ea7bed066cfce7a428be611deac23cfc6f2b00f5", checked := Try.checked }
namespace Rows
def none {H : Type} : Left H := { results := [], args := [] }

/-- 'incunablelaw12.LeastMakes': WHATEVER THE INPUT: true; the input reads as it did. -/
def leastMakesSpec : ChangeSpec := { name := "leastMakes", fn := fun _ => fun
  | [d] => { results := [.lit (.bool true)], args := [d] }
  | _ => none }
def leastMakesRow : OpenClaim := { program := "ytbfjnldneemmiaa", sum := "3c026b972ce70ae083dfe679ea7bed066cfce7a428be611deac23cfc6f2b00f5", func := "incunable/incunablelaw12.LeastMakes", spec := "leastMakes", unfollowed := true, recurses := true, plainKeys := false, apart := false }
def LeastMakesSaid : Prop := leastMakesRow.holds Try.pinned (OpenSpec.ofChange leastMakesSpec)

/-- ITS FALSE NEIGHBOUR: 'it returns false'. Refute it at one input. -/
def leastMakesWrong : ChangeSpec := { name := "leastMakes", fn := fun _ => fun
  | [d] => { results := [.lit (.bool false)], args := [d] }
  | _ => none }
def LeastMakesWrongFalsely : Prop := leastMakesRow.holds Try.pinned (OpenSpec.ofChange leastMakesWrong)

/-- 'incunablelaw12.LeastApart': WHATEVER THE INPUT: true; the input reads as it did. -/
def leastApartSpec : ChangeSpec := { name := "leastApart", fn := fun _ => fun
  | [d] => { results := [.lit (.bool true)], args := [d] }
  | _ => none }
def leastApartRow : OpenClaim := { program := "ytbfjnldneemmiaa", sum := "3c026b972ce70ae083dfe679ea7bed066cfce7a428be611deac23cfc6f2b00f5", func := "incunable/incunablelaw12.LeastApart", spec := "leastApart", unfollowed := true, recurses := true, plainKeys := false, apart := false }
def LeastApartSaid : Prop := leastApartRow.holds Try.pinned (OpenSpec.ofChange leastApartSpec)

/-- ITS FALSE NEIGHBOUR: 'it returns false'. Refute it at one input. -/
def leastApartWrong : ChangeSpec := { name := "leastApart", fn := fun _ => fun
  | [d] => { results := [.lit (.bool false)], args := [d] }
  | _ => none }
def LeastApartWrongFalsely : Prop := leastApartRow.holds Try.pinned (OpenSpec.ofChange leastApartWrong)

/-- 'incunablelaw12.LeastNumbers': WHATEVER THE INPUT: true; the input reads as it did. -/
def leastNumbersSpec : ChangeSpec := { name := "leastNumbers", fn := fun _ => fun
  | [d] => { results := [.lit (.bool true)], args := [d] }
  | _ => none }
def leastNumbersRow : OpenClaim := { program := "ytbfjnldneemmiaa", sum := "3c026b972ce70ae083dfe679ea7bed066cfce7a428be611deac23cfc6f2b00f5", func := "incunable/incunablelaw12.LeastNumbers", spec := "leastNumbers", unfollowed := true, recurses := true, plainKeys := false, apart := false }
def LeastNumbersSaid : Prop := leastNumbersRow.holds Try.pinned (OpenSpec.ofChange leastNumbersSpec)

/-- ITS FALSE NEIGHBOUR: 'it returns false'. Refute it at one input. -/
def leastNumbersWrong : ChangeSpec := { name := "leastNumbers", fn := fun _ => fun
  | [d] => { results := [.lit (.bool false)], args := [d] }
  | _ => none }
def LeastNumbersWrongFalsely : Prop := leastNumbersRow.holds Try.pinned (OpenSpec.ofChange leastNumbersWrong)

/-- 'incunablelaw18.FirstCheck': WHATEVER THE INPUT: true; the input reads as it did. -/
def firstCheckSpec : ChangeSpec := { name := "firstCheck", fn := fun _ => fun
  | [d] => { results := [.lit (.bool true)], args := [d] }
  | _ => none }
def firstCheckRow : OpenClaim := { program := "ytbfjnldneemmiaa", sum := "3c026b972ce70ae083dfe679ea7bed066cfce7a428be611deac23cfc6f2b00f5", func := "incunable/incunablelaw18.FirstCheck", spec := "firstCheck", unfollowed := true, recurses := true, plainKeys := false, apart := false }
def FirstCheckSaid : Prop := firstCheckRow.holds Try.pinned (OpenSpec.ofChange firstCheckSpec)

/-- ITS FALSE NEIGHBOUR: 'it returns false'. Refute it at one input. -/
def firstCheckWrong : ChangeSpec := { name := "firstCheck", fn := fun _ => fun
  | [d] => { results := [.lit (.bool false)], args := [d] }
  | _ => none }
def FirstCheckWrongFalsely : Prop := firstCheckRow.holds Try.pinned (OpenSpec.ofChange firstCheckWrong)

/-- 'incunablelaw18.FirstTells': WHATEVER THE INPUT: true; the input reads as it did. -/
def firstTellsSpec : ChangeSpec := { name := "firstTells", fn := fun _ => fun
  | [d1, d2] => { results := [.lit (.bool true)], args := [d1, d2] }
  | _ => none }
def firstTellsRow : OpenClaim := { program := "ytbfjnldneemmiaa", sum := "3c026b972ce70ae083dfe679ea7bed066cfce7a428be611deac23cfc6f2b00f5", func := "incunable/incunablelaw18.FirstTells", spec := "firstTells", unfollowed := true, recurses := true, plainKeys := false, apart := false }
def FirstTellsSaid : Prop := firstTellsRow.holds Try.pinned (OpenSpec.ofChange firstTellsSpec)

/-- ITS FALSE NEIGHBOUR: 'it returns false'. Refute it at one input. -/
def firstTellsWrong : ChangeSpec := { name := "firstTells", fn := fun _ => fun
  | [d1, d2] => { results := [.lit (.bool false)], args := [d1, d2] }
  | _ => none }
def FirstTellsWrongFalsely : Prop := firstTellsRow.holds Try.pinned (OpenSpec.ofChange firstTellsWrong)

/-- 'incunablelaw18.FirstKeeps': WHATEVER THE INPUT: true; the input reads as it did. -/
def firstKeepsSpec : ChangeSpec := { name := "firstKeeps", fn := fun _ => fun
  | [d] => { results := [.lit (.bool true)], args := [d] }
  | _ => none }
def firstKeepsRow : OpenClaim := { program := "ytbfjnldneemmiaa", sum := "3c026b972ce70ae083dfe679ea7bed066cfce7a428be611deac23cfc6f2b00f5", func := "incunable/incunablelaw18.FirstKeeps", spec := "firstKeeps", unfollowed := true, recurses := true, plainKeys := false, apart := false }
def FirstKeepsSaid : Prop := firstKeepsRow.holds Try.pinned (OpenSpec.ofChange firstKeepsSpec)

/-- ITS FALSE NEIGHBOUR: 'it returns false'. Refute it at one input. -/
def firstKeepsWrong : ChangeSpec := { name := "firstKeeps", fn := fun _ => fun
  | [d] => { results := [.lit (.bool false)], args := [d] }
  | _ => none }
def FirstKeepsWrongFalsely : Prop := firstKeepsRow.holds Try.pinned (OpenSpec.ofChange firstKeepsWrong)

/-- 'incunablelaw18.FirstJoins': WHATEVER THE INPUT: true; the input reads as it did. -/
def firstJoinsSpec : ChangeSpec := { name := "firstJoins", fn := fun _ => fun
  | [d1, d2, d3] => { results := [.lit (.bool true)], args := [d1, d2, d3] }
  | _ => none }
def firstJoinsRow : OpenClaim := { program := "ytbfjnldneemmiaa", sum := "3c026b972ce70ae083dfe679ea7bed066cfce7a428be611deac23cfc6f2b00f5", func := "incunable/incunablelaw18.FirstJoins", spec := "firstJoins", unfollowed := true, recurses := true, plainKeys := false, apart := false }
def FirstJoinsSaid : Prop := firstJoinsRow.holds Try.pinned (OpenSpec.ofChange firstJoinsSpec)

/-- ITS FALSE NEIGHBOUR: 'it returns false'. Refute it at one input. -/
def firstJoinsWrong : ChangeSpec := { name := "firstJoins", fn := fun _ => fun
  | [d1, d2, d3] => { results := [.lit (.bool false)], args := [d1, d2, d3] }
  | _ => none }
def FirstJoinsWrongFalsely : Prop := firstJoinsRow.holds Try.pinned (OpenSpec.ofChange firstJoinsWrong)

/-- 'incunablelaw18.FirstDerives': WHATEVER THE INPUT: true; the input reads as it did. -/
def firstDerivesSpec : ChangeSpec := { name := "firstDerives", fn := fun _ => fun
  | [d1, d2, d3] => { results := [.lit (.bool true)], args := [d1, d2, d3] }
  | _ => none }
def firstDerivesRow : OpenClaim := { program := "ytbfjnldneemmiaa", sum := "3c026b972ce70ae083dfe679ea7bed066cfce7a428be611deac23cfc6f2b00f5", func := "incunable/incunablelaw18.FirstDerives", spec := "firstDerives", unfollowed := true, recurses := true, plainKeys := false, apart := false }
def FirstDerivesSaid : Prop := firstDerivesRow.holds Try.pinned (OpenSpec.ofChange firstDerivesSpec)

/-- ITS FALSE NEIGHBOUR: 'it returns false'. Refute it at one input. -/
def firstDerivesWrong : ChangeSpec := { name := "firstDerives", fn := fun _ => fun
  | [d1, d2, d3] => { results := [.lit (.bool false)], args := [d1, d2, d3] }
  | _ => none }
def FirstDerivesWrongFalsely : Prop := firstDerivesRow.holds Try.pinned (OpenSpec.ofChange firstDerivesWrong)

/-- 'incunablelaw18.FirstKnown': WHATEVER THE INPUT: true; the input reads as it did. -/
def firstKnownSpec : ChangeSpec := { name := "firstKnown", fn := fun _ => fun
  | [] => { results := [.lit (.bool true)], args := [] }
  | _ => none }
def firstKnownRow : OpenClaim := { program := "ytbfjnldneemmiaa", sum := "3c026b972ce70ae083dfe679ea7bed066cfce7a428be611deac23cfc6f2b00f5", func := "incunable/incunablelaw18.FirstKnown", spec := "firstKnown", unfollowed := true, recurses := true, plainKeys := false, apart := false }
def FirstKnownSaid : Prop := firstKnownRow.holds Try.pinned (OpenSpec.ofChange firstKnownSpec)

/-- ITS FALSE NEIGHBOUR: 'it returns false'. Refute it at one input. -/
def firstKnownWrong : ChangeSpec := { name := "firstKnown", fn := fun _ => fun
  | [] => { results := [.lit (.bool false)], args := [] }
  | _ => none }
def FirstKnownWrongFalsely : Prop := firstKnownRow.holds Try.pinned (OpenSpec.ofChange firstKnownWrong)

/-- 'incunablelaw12.LeastTells': WHATEVER THE INPUT: true; the input reads as it did. -/
def leastTellsSpec : ChangeSpec := { name := "leastTells", fn := fun _ => fun
  | [d1, d2] => { results := [.lit (.bool true)], args := [d1, d2] }
  | _ => none }
def leastTellsRow : OpenClaim := { program := "ytbfjnldneemmiaa", sum := "3c026b972ce70ae083dfe679ea7bed066cfce7a428be611deac23cfc6f2b00f5", func := "incunable/incunablelaw12.LeastTells", spec := "leastTells", unfollowed := true, recurses := true, plainKeys := false, apart := false }
def LeastTellsSaid : Prop := leastTellsRow.holds Try.pinned (OpenSpec.ofChange leastTellsSpec)

/-- ITS FALSE NEIGHBOUR: 'it returns false'. Refute it at one input. -/
def leastTellsWrong : ChangeSpec := { name := "leastTells", fn := fun _ => fun
  | [d1, d2] => { results := [.lit (.bool false)], args := [d1, d2] }
  | _ => none }
def LeastTellsWrongFalsely : Prop := leastTellsRow.holds Try.pinned (OpenSpec.ofChange leastTellsWrong)

/-- 'incunablelaw12.LeastSame': WHATEVER THE INPUT: true; the input reads as it did. -/
def leastSameSpec : ChangeSpec := { name := "leastSame", fn := fun _ => fun
  | [d1, d2] => { results := [.lit (.bool true)], args := [d1, d2] }
  | _ => none }
def leastSameRow : OpenClaim := { program := "ytbfjnldneemmiaa", sum := "3c026b972ce70ae083dfe679ea7bed066cfce7a428be611deac23cfc6f2b00f5", func := "incunable/incunablelaw12.LeastSame", spec := "leastSame", unfollowed := true, recurses := true, plainKeys := false, apart := false }
def LeastSameSaid : Prop := leastSameRow.holds Try.pinned (OpenSpec.ofChange leastSameSpec)

/-- ITS FALSE NEIGHBOUR: 'it returns false'. Refute it at one input. -/
def leastSameWrong : ChangeSpec := { name := "leastSame", fn := fun _ => fun
  | [d1, d2] => { results := [.lit (.bool false)], args := [d1, d2] }
  | _ => none }
def LeastSameWrongFalsely : Prop := leastSameRow.holds Try.pinned (OpenSpec.ofChange leastSameWrong)

/-- 'incunablelaw12.LeastOne': WHATEVER THE INPUT: true; the input reads as it did. -/
def leastOneSpec : ChangeSpec := { name := "leastOne", fn := fun _ => fun
  | [d1, d2] => { results := [.lit (.bool true)], args := [d1, d2] }
  | _ => none }
def leastOneRow : OpenClaim := { program := "ytbfjnldneemmiaa", sum := "3c026b972ce70ae083dfe679ea7bed066cfce7a428be611deac23cfc6f2b00f5", func := "incunable/incunablelaw12.LeastOne", spec := "leastOne", unfollowed := true, recurses := true, plainKeys := false, apart := false }
def LeastOneSaid : Prop := leastOneRow.holds Try.pinned (OpenSpec.ofChange leastOneSpec)

/-- ITS FALSE NEIGHBOUR: 'it returns false'. Refute it at one input. -/
def leastOneWrong : ChangeSpec := { name := "leastOne", fn := fun _ => fun
  | [d1, d2] => { results := [.lit (.bool false)], args := [d1, d2] }
  | _ => none }
def LeastOneWrongFalsely : Prop := leastOneRow.holds Try.pinned (OpenSpec.ofChange leastOneWrong)

/- THE SECOND FORM. 'bulk': how many values and letters a reading holds, each counted each time it is reached (what is shared counts as often as it is met; a slice's spare places count too). A statement '..UptoSaid' is the law's where the arguments, and the package variables that the reading takes, are together of bulk at most 1048576: NARROWER than '..Said'. Prove '..Said' where nothing that the law and all that it calls make is longer than what came in: it says more and counts as full. Else prove '..UptoSaid'. A law counts once. -/
mutual
def uptoBulk {H : Type} : DataW H → Nat
  | .lit (.string bytes) => bytes.length + 1
  | .lit _ => 1
  | .nil => 1
  | .ptr d => uptoBulk d + 1
  | .slice elems spare => uptoBulkAll elems + uptoBulkAll spare + 1
  | .agg parts => uptoBulkAll parts + 1
  | .iface _ d => uptoBulk d + 1
  | .map entries => uptoBulkEntries entries + 1
  | .held _ => 1
def uptoBulkAll {H : Type} : List (DataW H) → Nat
  | [] => 0
  | d :: r => uptoBulk d + uptoBulkAll r
def uptoBulkEntries {H : Type} : List (Lit × DataW H) → Nat
  | [] => 0
  | x :: r => uptoBulkEntry x + uptoBulkEntries r
def uptoBulkEntry {H : Type} : Lit × DataW H → Nat
  | (.string bytes, d) => bytes.length + uptoBulk d + 1
  | (_, d) => uptoBulk d + 1
 end
def uptoSmall : (H : Type) → List (DataW H) → Bool := fun _ ds => decide (uptoBulkAll ds ≤ 1048576)
def OpenSpec.upto (s : _root_.Go.ChangeSpec) : _root_.Go.OpenSpec := { _root_.Go.OpenSpec.ofChange s with cond := some uptoSmall }

/-- 'incunablelaw12.LeastMakes', WHERE WHAT IT READS IS OF BULK AT MOST 1048576: true; the input reads as it did. -/
def leastMakesUptoRow : OpenClaim := { program := "ytbfjnldneemmiaa", sum := "3c026b972ce70ae083dfe679ea7bed066cfce7a428be611deac23cfc6f2b00f5", func := "incunable/incunablelaw12.LeastMakes", spec := "leastMakes", unfollowed := true, recurses := true, plainKeys := false, apart := false, narrowed := true }
def LeastMakesUptoSaid : Prop := leastMakesUptoRow.holds Try.pinned (OpenSpec.upto leastMakesSpec)

/-- 'incunablelaw12.LeastApart', WHERE WHAT IT READS IS OF BULK AT MOST 1048576: true; the input reads as it did. -/
def leastApartUptoRow : OpenClaim := { program := "ytbfjnldneemmiaa", sum := "3c026b972ce70ae083dfe679ea7bed066cfce7a428be611deac23cfc6f2b00f5", func := "incunable/incunablelaw12.LeastApart", spec := "leastApart", unfollowed := true, recurses := true, plainKeys := false, apart := false, narrowed := true }
def LeastApartUptoSaid : Prop := leastApartUptoRow.holds Try.pinned (OpenSpec.upto leastApartSpec)

/-- 'incunablelaw12.LeastNumbers', WHERE WHAT IT READS IS OF BULK AT MOST 1048576: true; the input reads as it did. -/
def leastNumbersUptoRow : OpenClaim := { program := "ytbfjnldneemmiaa", sum := "3c026b972ce70ae083dfe679ea7bed066cfce7a428be611deac23cfc6f2b00f5", func := "incunable/incunablelaw12.LeastNumbers", spec := "leastNumbers", unfollowed := true, recurses := true, plainKeys := false, apart := false, narrowed := true }
def LeastNumbersUptoSaid : Prop := leastNumbersUptoRow.holds Try.pinned (OpenSpec.upto leastNumbersSpec)

/-- 'incunablelaw18.FirstCheck', WHERE WHAT IT READS IS OF BULK AT MOST 1048576: true; the input reads as it did. -/
def firstCheckUptoRow : OpenClaim := { program := "ytbfjnldneemmiaa", sum := "3c026b972ce70ae083dfe679ea7bed066cfce7a428be611deac23cfc6f2b00f5", func := "incunable/incunablelaw18.FirstCheck", spec := "firstCheck", unfollowed := true, recurses := true, plainKeys := false, apart := false, narrowed := true }
def FirstCheckUptoSaid : Prop := firstCheckUptoRow.holds Try.pinned (OpenSpec.upto firstCheckSpec)

/-- 'incunablelaw18.FirstTells', WHERE WHAT IT READS IS OF BULK AT MOST 1048576: true; the input reads as it did. -/
def firstTellsUptoRow : OpenClaim := { program := "ytbfjnldneemmiaa", sum := "3c026b972ce70ae083dfe679ea7bed066cfce7a428be611deac23cfc6f2b00f5", func := "incunable/incunablelaw18.FirstTells", spec := "firstTells", unfollowed := true, recurses := true, plainKeys := false, apart := false, narrowed := true }
def FirstTellsUptoSaid : Prop := firstTellsUptoRow.holds Try.pinned (OpenSpec.upto firstTellsSpec)

/-- 'incunablelaw18.FirstKeeps', WHERE WHAT IT READS IS OF BULK AT MOST 1048576: true; the input reads as it did. -/
def firstKeepsUptoRow : OpenClaim := { program := "ytbfjnldneemmiaa", sum := "3c026b972ce70ae083dfe679ea7bed066cfce7a428be611deac23cfc6f2b00f5", func := "incunable/incunablelaw18.FirstKeeps", spec := "firstKeeps", unfollowed := true, recurses := true, plainKeys := false, apart := false, narrowed := true }
def FirstKeepsUptoSaid : Prop := firstKeepsUptoRow.holds Try.pinned (OpenSpec.upto firstKeepsSpec)

/-- 'incunablelaw18.FirstJoins', WHERE WHAT IT READS IS OF BULK AT MOST 1048576: true; the input reads as it did. -/
def firstJoinsUptoRow : OpenClaim := { program := "ytbfjnldneemmiaa", sum := "3c026b972ce70ae083dfe679ea7bed066cfce7a428be611deac23cfc6f2b00f5", func := "incunable/incunablelaw18.FirstJoins", spec := "firstJoins", unfollowed := true, recurses := true, plainKeys := false, apart := false, narrowed := true }
def FirstJoinsUptoSaid : Prop := firstJoinsUptoRow.holds Try.pinned (OpenSpec.upto firstJoinsSpec)

/-- 'incunablelaw18.FirstDerives', WHERE WHAT IT READS IS OF BULK AT MOST 1048576: true; the input reads as it did. -/
def firstDerivesUptoRow : OpenClaim := { program := "ytbfjnldneemmiaa", sum := "3c026b972ce70ae083dfe679ea7bed066cfce7a428be611deac23cfc6f2b00f5", func := "incunable/incunablelaw18.FirstDerives", spec := "firstDerives", unfollowed := true, recurses := true, plainKeys := false, apart := false, narrowed := true }
def FirstDerivesUptoSaid : Prop := firstDerivesUptoRow.holds Try.pinned (OpenSpec.upto firstDerivesSpec)

/-- 'incunablelaw18.FirstKnown', WHERE WHAT IT READS IS OF BULK AT MOST 1048576: true; the input reads as it did. -/
def firstKnownUptoRow : OpenClaim := { program := "ytbfjnldneemmiaa", sum := "3c026b972ce70ae083dfe679ea7bed066cfce7a428be611deac23cfc6f2b00f5", func := "incunable/incunablelaw18.FirstKnown", spec := "firstKnown", unfollowed := true, recurses := true, plainKeys := false, apart := false, narrowed := true }
def FirstKnownUptoSaid : Prop := firstKnownUptoRow.holds Try.pinned (OpenSpec.upto firstKnownSpec)

/-- 'incunablelaw12.LeastTells', WHERE WHAT IT READS IS OF BULK AT MOST 1048576: true; the input reads as it did. -/
def leastTellsUptoRow : OpenClaim := { program := "ytbfjnldneemmiaa", sum := "3c026b972ce70ae083dfe679ea7bed066cfce7a428be611deac23cfc6f2b00f5", func := "incunable/incunablelaw12.LeastTells", spec := "leastTells", unfollowed := true, recurses := true, plainKeys := false, apart := false, narrowed := true }
def LeastTellsUptoSaid : Prop := leastTellsUptoRow.holds Try.pinned (OpenSpec.upto leastTellsSpec)

/-- 'incunablelaw12.LeastSame', WHERE WHAT IT READS IS OF BULK AT MOST 1048576: true; the input reads as it did. -/
def leastSameUptoRow : OpenClaim := { program := "ytbfjnldneemmiaa", sum := "3c026b972ce70ae083dfe679ea7bed066cfce7a428be611deac23cfc6f2b00f5", func := "incunable/incunablelaw12.LeastSame", spec := "leastSame", unfollowed := true, recurses := true, plainKeys := false, apart := false, narrowed := true }
def LeastSameUptoSaid : Prop := leastSameUptoRow.holds Try.pinned (OpenSpec.upto leastSameSpec)

/-- 'incunablelaw12.LeastOne', WHERE WHAT IT READS IS OF BULK AT MOST 1048576: true; the input reads as it did. -/
def leastOneUptoRow : OpenClaim := { program := "ytbfjnldneemmiaa", sum := "3c026b972ce70ae083dfe679ea7bed066cfce7a428be611deac23cfc6f2b00f5", func := "incunable/incunablelaw12.LeastOne", spec := "leastOne", unfollowed := true, recurses := true, plainKeys := false, apart := false, narrowed := true }
def LeastOneUptoSaid : Prop := leastOneUptoRow.holds Try.pinned (OpenSpec.upto leastOneSpec)

end Rows
end Go.Proofs.Ytbfjnldneemmiaa
