/-
  DERIVED. GIVEN WITH THE SEED: THE CARDS: each row of YtcbaebkkdkdaaaaDoorRows.lean that lists a variable, with what it lists TIED to the program's text (the seventh form; the later family's looks); each row that meets fmt, with fmt's text TOLD by the authors' own Lean function (tested against real Go, not proved from fmt's source: count such statements apart). THE CARD IS WHAT COUNTS. Prove the row's statement (the work); the ties are given (YtcbaebkkdkdaaaaDoorTie.lean); close each card by the builder's one call (the guide's Derived/Test/ToyasCard.lean, 'card_holds'). Laid BY PROGRAM, IN A SANDBOX (cutbox-door.mjs). By AI agents, Wed Nov 11 2026. No macro, syntax, notation, axiom, sorry.
-/
import Derived.Test.YtcbaebkkdkdaaaaDoorRows
import GoSem.ClaimSeven
namespace Go.Proofs.YtcbaebkkdkdaaaaDoor
namespace Rows

/-- THE TIED CARD OF 'incunablelaw19.LrStates'. -/
def lrStatesCard : Claim7 := { stood := { row := lrStatesRow, standIns := [], harness := (true, "b8a5fe96d434e05961b610469dd3c10ccba213d8be8affec027210d0bb9d5390"), looks := false }, kinds := [], alts := [], laidByText := true, laidKinds := [.data, .data, .data], laidTests := true, laidLooks := .later }
def LrStatesCardSaid : Prop := Claim7.holds Tryd.pinned (.plain (OpenSpec.ofChange lrStatesSpec)) lrStatesCard

/-- THE TIED CARD OF 'incunablelaw19.LrCloses'. -/
def lrClosesCard : Claim7 := { stood := { row := lrClosesRow, standIns := [], harness := (true, "b8a5fe96d434e05961b610469dd3c10ccba213d8be8affec027210d0bb9d5390"), looks := false }, kinds := [], alts := [], laidByText := true, laidKinds := [.data, .data, .data], laidTests := true, laidLooks := .later }
def LrClosesCardSaid : Prop := Claim7.holds Tryd.pinned (.plain (OpenSpec.ofChange lrClosesSpec)) lrClosesCard

/-- THE TIED CARD OF 'incunablelaw19.LrGoes'. -/
def lrGoesCard : Claim7 := { stood := { row := lrGoesRow, standIns := [], harness := (true, "b8a5fe96d434e05961b610469dd3c10ccba213d8be8affec027210d0bb9d5390"), looks := false }, kinds := [], alts := [], laidByText := true, laidKinds := [.data, .data, .data], laidTests := true, laidLooks := .later }
def LrGoesCardSaid : Prop := Claim7.holds Tryd.pinned (.plain (OpenSpec.ofChange lrGoesSpec)) lrGoesCard

/-- THE TIED CARD OF 'incunablelaw19.LrReached'. -/
def lrReachedCard : Claim7 := { stood := { row := lrReachedRow, standIns := [], harness := (true, "b8a5fe96d434e05961b610469dd3c10ccba213d8be8affec027210d0bb9d5390"), looks := false }, kinds := [], alts := [], laidByText := true, laidKinds := [.data, .data, .data], laidTests := true, laidLooks := .later }
def LrReachedCardSaid : Prop := Claim7.holds Tryd.pinned (.plain (OpenSpec.ofChange lrReachedSpec)) lrReachedCard

/-- THE TIED CARD OF 'incunablelaw19.LrMore'. -/
def lrMoreCard : Claim7 := { stood := { row := lrMoreRow, standIns := [], harness := (true, "b8a5fe96d434e05961b610469dd3c10ccba213d8be8affec027210d0bb9d5390"), looks := false }, kinds := [], alts := [], laidByText := true, laidKinds := [.data, .data, .data], laidTests := true, laidLooks := .later }
def LrMoreCardSaid : Prop := Claim7.holds Tryd.pinned (.plain (OpenSpec.ofChange lrMoreSpec)) lrMoreCard

/-- THE TIED CARD OF 'incunablelaw19.LrKnown'. -/
def lrKnownCard : Claim7 := { stood := { row := lrKnownRow, standIns := [], harness := (true, "b8a5fe96d434e05961b610469dd3c10ccba213d8be8affec027210d0bb9d5390"), looks := false }, kinds := [], alts := [], laidByText := true, laidKinds := [.data, .data, .data], laidTests := true, laidLooks := .later }
def LrKnownCardSaid : Prop := Claim7.holds Tryd.pinned (.plain (OpenSpec.ofChange lrKnownSpec)) lrKnownCard

/-- THE TIED CARD OF 'incunablelaw20.AheadComes'. -/
def aheadComesCard : Claim7 := { stood := { row := aheadComesRow, standIns := [], harness := (true, "b8a5fe96d434e05961b610469dd3c10ccba213d8be8affec027210d0bb9d5390"), looks := false }, kinds := [], alts := [], laidByText := true, laidKinds := [.data, .data, .data], laidTests := true, laidLooks := .later }
def AheadComesCardSaid : Prop := Claim7.holds Tryd.pinned (.plain (OpenSpec.ofChange aheadComesSpec)) aheadComesCard

/-- THE TIED CARD OF 'incunablelaw20.AheadReasons'. -/
def aheadReasonsCard : Claim7 := { stood := { row := aheadReasonsRow, standIns := [], harness := (true, "b8a5fe96d434e05961b610469dd3c10ccba213d8be8affec027210d0bb9d5390"), looks := false }, kinds := [], alts := [], laidByText := true, laidKinds := [.data, .data, .data], laidTests := true, laidLooks := .later }
def AheadReasonsCardSaid : Prop := Claim7.holds Tryd.pinned (.plain (OpenSpec.ofChange aheadReasonsSpec)) aheadReasonsCard

/-- THE TIED CARD OF 'incunablelaw20.AheadFollows'. -/
def aheadFollowsCard : Claim7 := { stood := { row := aheadFollowsRow, standIns := [], harness := (true, "b8a5fe96d434e05961b610469dd3c10ccba213d8be8affec027210d0bb9d5390"), looks := false }, kinds := [], alts := [], laidByText := true, laidKinds := [.data, .data, .data], laidTests := true, laidLooks := .later }
def AheadFollowsCardSaid : Prop := Claim7.holds Tryd.pinned (.plain (OpenSpec.ofChange aheadFollowsSpec)) aheadFollowsCard

/-- THE TIED CARD OF 'incunablelaw20.AheadKnown'. -/
def aheadKnownCard : Claim7 := { stood := { row := aheadKnownRow, standIns := [], harness := (true, "b8a5fe96d434e05961b610469dd3c10ccba213d8be8affec027210d0bb9d5390"), looks := false }, kinds := [], alts := [], laidByText := true, laidKinds := [.data, .data, .data], laidTests := true, laidLooks := .later }
def AheadKnownCardSaid : Prop := Claim7.holds Tryd.pinned (.plain (OpenSpec.ofChange aheadKnownSpec)) aheadKnownCard

/-- THE SECOND FORM's CARD OF 'incunablelaw19.LrStates'. -/
def lrStatesUptoCard : Claim7 := { stood := { row := lrStatesUptoRow, standIns := [], harness := (true, "b8a5fe96d434e05961b610469dd3c10ccba213d8be8affec027210d0bb9d5390"), looks := false }, kinds := [], alts := [], laidByText := true, laidKinds := [.data, .data, .data], laidTests := true, laidLooks := .later }
def LrStatesUptoCardSaid : Prop := Claim7.holds Tryd.pinned (.plain (OpenSpec.upto lrStatesSpec)) lrStatesUptoCard

/-- THE SECOND FORM's CARD OF 'incunablelaw19.LrCloses'. -/
def lrClosesUptoCard : Claim7 := { stood := { row := lrClosesUptoRow, standIns := [], harness := (true, "b8a5fe96d434e05961b610469dd3c10ccba213d8be8affec027210d0bb9d5390"), looks := false }, kinds := [], alts := [], laidByText := true, laidKinds := [.data, .data, .data], laidTests := true, laidLooks := .later }
def LrClosesUptoCardSaid : Prop := Claim7.holds Tryd.pinned (.plain (OpenSpec.upto lrClosesSpec)) lrClosesUptoCard

/-- THE SECOND FORM's CARD OF 'incunablelaw19.LrGoes'. -/
def lrGoesUptoCard : Claim7 := { stood := { row := lrGoesUptoRow, standIns := [], harness := (true, "b8a5fe96d434e05961b610469dd3c10ccba213d8be8affec027210d0bb9d5390"), looks := false }, kinds := [], alts := [], laidByText := true, laidKinds := [.data, .data, .data], laidTests := true, laidLooks := .later }
def LrGoesUptoCardSaid : Prop := Claim7.holds Tryd.pinned (.plain (OpenSpec.upto lrGoesSpec)) lrGoesUptoCard

/-- THE SECOND FORM's CARD OF 'incunablelaw19.LrReached'. -/
def lrReachedUptoCard : Claim7 := { stood := { row := lrReachedUptoRow, standIns := [], harness := (true, "b8a5fe96d434e05961b610469dd3c10ccba213d8be8affec027210d0bb9d5390"), looks := false }, kinds := [], alts := [], laidByText := true, laidKinds := [.data, .data, .data], laidTests := true, laidLooks := .later }
def LrReachedUptoCardSaid : Prop := Claim7.holds Tryd.pinned (.plain (OpenSpec.upto lrReachedSpec)) lrReachedUptoCard

/-- THE SECOND FORM's CARD OF 'incunablelaw19.LrMore'. -/
def lrMoreUptoCard : Claim7 := { stood := { row := lrMoreUptoRow, standIns := [], harness := (true, "b8a5fe96d434e05961b610469dd3c10ccba213d8be8affec027210d0bb9d5390"), looks := false }, kinds := [], alts := [], laidByText := true, laidKinds := [.data, .data, .data], laidTests := true, laidLooks := .later }
def LrMoreUptoCardSaid : Prop := Claim7.holds Tryd.pinned (.plain (OpenSpec.upto lrMoreSpec)) lrMoreUptoCard

/-- THE SECOND FORM's CARD OF 'incunablelaw19.LrKnown'. -/
def lrKnownUptoCard : Claim7 := { stood := { row := lrKnownUptoRow, standIns := [], harness := (true, "b8a5fe96d434e05961b610469dd3c10ccba213d8be8affec027210d0bb9d5390"), looks := false }, kinds := [], alts := [], laidByText := true, laidKinds := [.data, .data, .data], laidTests := true, laidLooks := .later }
def LrKnownUptoCardSaid : Prop := Claim7.holds Tryd.pinned (.plain (OpenSpec.upto lrKnownSpec)) lrKnownUptoCard

/-- THE SECOND FORM's CARD OF 'incunablelaw20.AheadComes'. -/
def aheadComesUptoCard : Claim7 := { stood := { row := aheadComesUptoRow, standIns := [], harness := (true, "b8a5fe96d434e05961b610469dd3c10ccba213d8be8affec027210d0bb9d5390"), looks := false }, kinds := [], alts := [], laidByText := true, laidKinds := [.data, .data, .data], laidTests := true, laidLooks := .later }
def AheadComesUptoCardSaid : Prop := Claim7.holds Tryd.pinned (.plain (OpenSpec.upto aheadComesSpec)) aheadComesUptoCard

/-- THE SECOND FORM's CARD OF 'incunablelaw20.AheadReasons'. -/
def aheadReasonsUptoCard : Claim7 := { stood := { row := aheadReasonsUptoRow, standIns := [], harness := (true, "b8a5fe96d434e05961b610469dd3c10ccba213d8be8affec027210d0bb9d5390"), looks := false }, kinds := [], alts := [], laidByText := true, laidKinds := [.data, .data, .data], laidTests := true, laidLooks := .later }
def AheadReasonsUptoCardSaid : Prop := Claim7.holds Tryd.pinned (.plain (OpenSpec.upto aheadReasonsSpec)) aheadReasonsUptoCard

/-- THE SECOND FORM's CARD OF 'incunablelaw20.AheadFollows'. -/
def aheadFollowsUptoCard : Claim7 := { stood := { row := aheadFollowsUptoRow, standIns := [], harness := (true, "b8a5fe96d434e05961b610469dd3c10ccba213d8be8affec027210d0bb9d5390"), looks := false }, kinds := [], alts := [], laidByText := true, laidKinds := [.data, .data, .data], laidTests := true, laidLooks := .later }
def AheadFollowsUptoCardSaid : Prop := Claim7.holds Tryd.pinned (.plain (OpenSpec.upto aheadFollowsSpec)) aheadFollowsUptoCard

/-- THE SECOND FORM's CARD OF 'incunablelaw20.AheadKnown'. -/
def aheadKnownUptoCard : Claim7 := { stood := { row := aheadKnownUptoRow, standIns := [], harness := (true, "b8a5fe96d434e05961b610469dd3c10ccba213d8be8affec027210d0bb9d5390"), looks := false }, kinds := [], alts := [], laidByText := true, laidKinds := [.data, .data, .data], laidTests := true, laidLooks := .later }
def AheadKnownUptoCardSaid : Prop := Claim7.holds Tryd.pinned (.plain (OpenSpec.upto aheadKnownSpec)) aheadKnownUptoCard
end Rows
end Go.Proofs.YtcbaebkkdkdaaaaDoor
