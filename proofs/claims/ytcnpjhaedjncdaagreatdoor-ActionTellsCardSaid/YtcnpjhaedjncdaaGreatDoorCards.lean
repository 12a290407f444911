/-
  DERIVED. GIVEN WITH THE SEED: THE CARDS: each row of YtcnpjhaedjncdaaGreatDoorRows.lean that lists a variable, with what it lists TIED to the program's text (the seventh form; the later family's looks); each row that meets fmt, with fmt's text TOLD by the authors' own Lean function (tested against real Go, not proved from fmt's source: count such statements apart). THE CARD IS WHAT COUNTS. Prove the row's statement (the work); the ties are given (YtcnpjhaedjncdaaGreatDoorTie.lean); close each card by the builder's one call (the guide's Derived/Test/ToyasCard.lean, 'card_holds'). Laid BY PROGRAM, IN A SANDBOX (cutbox-door.mjs). By AI agents, Wed Nov 11 2026. No macro, syntax, notation, axiom, sorry.
-/
import Derived.Test.YtcnpjhaedjncdaaGreatDoorRows
import GoSem.ClaimSeven
namespace Go.Proofs.YtcnpjhaedjncdaaGreatDoor
namespace Rows

/-- THE TIED CARD OF 'incunablelaw20.AheadTells'. -/
def aheadTellsCard : Claim7 := { stood := { row := aheadTellsRow, standIns := [], harness := (true, "6ca9bce979c8ee9952f39943a7265d333e67d9ea20059b8679383fbb1abb5c5c"), looks := false }, kinds := [], alts := [], laidByText := true, laidKinds := [.data, .data, .data], laidTests := true, laidLooks := .later }
def AheadTellsCardSaid : Prop := Claim7.holds Tryz.pinned (.plain (OpenSpec.ofChange aheadTellsSpec)) aheadTellsCard

/-- THE TIED CARD OF 'incunablelaw21.ActionTells'. -/
def actionTellsCard : Claim7 := { stood := { row := actionTellsRow, standIns := [], harness := (true, "6ca9bce979c8ee9952f39943a7265d333e67d9ea20059b8679383fbb1abb5c5c"), looks := false }, kinds := [], alts := [], laidByText := true, laidKinds := [.data, .data, .data], laidTests := true, laidLooks := .later }
def ActionTellsCardSaid : Prop := Claim7.holds Tryz.pinned (.plain (OpenSpec.ofChange actionTellsSpec)) actionTellsCard

/-- THE SECOND FORM's CARD OF 'incunablelaw20.AheadTells'. -/
def aheadTellsUptoCard : Claim7 := { stood := { row := aheadTellsUptoRow, standIns := [], harness := (true, "6ca9bce979c8ee9952f39943a7265d333e67d9ea20059b8679383fbb1abb5c5c"), looks := false }, kinds := [], alts := [], laidByText := true, laidKinds := [.data, .data, .data], laidTests := true, laidLooks := .later }
def AheadTellsUptoCardSaid : Prop := Claim7.holds Tryz.pinned (.plain (OpenSpec.upto aheadTellsSpec)) aheadTellsUptoCard

/-- THE SECOND FORM's CARD OF 'incunablelaw21.ActionTells'. -/
def actionTellsUptoCard : Claim7 := { stood := { row := actionTellsUptoRow, standIns := [], harness := (true, "6ca9bce979c8ee9952f39943a7265d333e67d9ea20059b8679383fbb1abb5c5c"), looks := false }, kinds := [], alts := [], laidByText := true, laidKinds := [.data, .data, .data], laidTests := true, laidLooks := .later }
def ActionTellsUptoCardSaid : Prop := Claim7.holds Tryz.pinned (.plain (OpenSpec.upto actionTellsSpec)) actionTellsUptoCard
end Rows
end Go.Proofs.YtcnpjhaedjncdaaGreatDoor
