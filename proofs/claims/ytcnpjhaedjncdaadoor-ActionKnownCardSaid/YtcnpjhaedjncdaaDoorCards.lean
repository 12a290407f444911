/-
  DERIVED. GIVEN WITH THE SEED: THE CARDS: each row of YtcnpjhaedjncdaaDoorRows.lean that lists a variable, with what it lists TIED to the program's text (the seventh form; the later family's looks); each row that meets fmt, with fmt's text TOLD by the authors' own Lean function (tested against real Go, not proved from fmt's source: count such statements apart). THE CARD IS WHAT COUNTS. Prove the row's statement (the work); the ties are given (YtcnpjhaedjncdaaDoorTie.lean); close each card by the builder's one call (the guide's Derived/Test/ToyasCard.lean, 'card_holds'). Laid BY PROGRAM, IN A SANDBOX (cutbox-door.mjs). By AI agents, Wed Nov 11 2026. No macro, syntax, notation, axiom, sorry.
-/
import Derived.Test.YtcnpjhaedjncdaaDoorRows
import GoSem.ClaimSeven
namespace Go.Proofs.YtcnpjhaedjncdaaDoor
namespace Rows

/-- THE TIED CARD OF 'incunablelaw21.ActionAll'. -/
def actionAllCard : Claim7 := { stood := { row := actionAllRow, standIns := [], harness := (true, "1525e056466dc4949ca393b446f3f15f52cf6e5ffd6ad3fd85eb78d54ca2450b"), looks := false }, kinds := [], alts := [], laidByText := true, laidKinds := [.data, .data, .data], laidTests := true, laidLooks := .later }
def ActionAllCardSaid : Prop := Claim7.holds Tryd.pinned (.plain (OpenSpec.ofChange actionAllSpec)) actionAllCard

/-- THE TIED CARD OF 'incunablelaw21.ActionOrder'. -/
def actionOrderCard : Claim7 := { stood := { row := actionOrderRow, standIns := [], harness := (true, "1525e056466dc4949ca393b446f3f15f52cf6e5ffd6ad3fd85eb78d54ca2450b"), looks := false }, kinds := [], alts := [], laidByText := true, laidKinds := [.data, .data, .data], laidTests := true, laidLooks := .later }
def ActionOrderCardSaid : Prop := Claim7.holds Tryd.pinned (.plain (OpenSpec.ofChange actionOrderSpec)) actionOrderCard

/-- THE TIED CARD OF 'incunablelaw21.ActionBinds'. -/
def actionBindsCard : Claim7 := { stood := { row := actionBindsRow, standIns := [], harness := (true, "1525e056466dc4949ca393b446f3f15f52cf6e5ffd6ad3fd85eb78d54ca2450b"), looks := false }, kinds := [], alts := [], laidByText := true, laidKinds := [.data, .data, .data], laidTests := true, laidLooks := .later }
def ActionBindsCardSaid : Prop := Claim7.holds Tryd.pinned (.plain (OpenSpec.ofChange actionBindsSpec)) actionBindsCard

/-- THE TIED CARD OF 'incunablelaw21.ActionKnown'. -/
def actionKnownCard : Claim7 := { stood := { row := actionKnownRow, standIns := [], harness := (true, "1525e056466dc4949ca393b446f3f15f52cf6e5ffd6ad3fd85eb78d54ca2450b"), looks := false }, kinds := [], alts := [], laidByText := true, laidKinds := [.data, .data, .data], laidTests := true, laidLooks := .later }
def ActionKnownCardSaid : Prop := Claim7.holds Tryd.pinned (.plain (OpenSpec.ofChange actionKnownSpec)) actionKnownCard

/-- THE SECOND FORM's CARD OF 'incunablelaw21.ActionAll'. -/
def actionAllUptoCard : Claim7 := { stood := { row := actionAllUptoRow, standIns := [], harness := (true, "1525e056466dc4949ca393b446f3f15f52cf6e5ffd6ad3fd85eb78d54ca2450b"), looks := false }, kinds := [], alts := [], laidByText := true, laidKinds := [.data, .data, .data], laidTests := true, laidLooks := .later }
def ActionAllUptoCardSaid : Prop := Claim7.holds Tryd.pinned (.plain (OpenSpec.upto actionAllSpec)) actionAllUptoCard

/-- THE SECOND FORM's CARD OF 'incunablelaw21.ActionOrder'. -/
def actionOrderUptoCard : Claim7 := { stood := { row := actionOrderUptoRow, standIns := [], harness := (true, "1525e056466dc4949ca393b446f3f15f52cf6e5ffd6ad3fd85eb78d54ca2450b"), looks := false }, kinds := [], alts := [], laidByText := true, laidKinds := [.data, .data, .data], laidTests := true, laidLooks := .later }
def ActionOrderUptoCardSaid : Prop := Claim7.holds Tryd.pinned (.plain (OpenSpec.upto actionOrderSpec)) actionOrderUptoCard

/-- THE SECOND FORM's CARD OF 'incunablelaw21.ActionBinds'. -/
def actionBindsUptoCard : Claim7 := { stood := { row := actionBindsUptoRow, standIns := [], harness := (true, "1525e056466dc4949ca393b446f3f15f52cf6e5ffd6ad3fd85eb78d54ca2450b"), looks := false }, kinds := [], alts := [], laidByText := true, laidKinds := [.data, .data, .data], laidTests := true, laidLooks := .later }
def ActionBindsUptoCardSaid : Prop := Claim7.holds Tryd.pinned (.plain (OpenSpec.upto actionBindsSpec)) actionBindsUptoCard

/-- THE SECOND FORM's CARD OF 'incunablelaw21.ActionKnown'. -/
def actionKnownUptoCard : Claim7 := { stood := { row := actionKnownUptoRow, standIns := [], harness := (true, "1525e056466dc4949ca393b446f3f15f52cf6e5ffd6ad3fd85eb78d54ca2450b"), looks := false }, kinds := [], alts := [], laidByText := true, laidKinds := [.data, .data, .data], laidTests := true, laidLooks := .later }
def ActionKnownUptoCardSaid : Prop := Claim7.holds Tryd.pinned (.plain (OpenSpec.upto actionKnownSpec)) actionKnownUptoCard
end Rows
end Go.Proofs.YtcnpjhaedjncdaaDoor
