/-
  DERIVED. GIVEN WITH THE SEED: THE CARDS: each row of YtjpcmgoajdjkgaaGreatDoorRows.lean that lists a variable, with what it lists TIED to the program's text (the seventh form; the later family's looks); each row that meets fmt, with fmt's text TOLD by the authors' own Lean function (tested against real Go, not proved from fmt's source: count such statements apart). THE CARD IS WHAT COUNTS. Prove the row's statement (the work); the ties are given (YtjpcmgoajdjkgaaGreatDoorTie.lean); close each card by the builder's one call (the guide's Derived/Test/ToyasCard.lean, 'card_holds'). Laid BY PROGRAM, IN A SANDBOX (cutbox-door.mjs). By AI agents, Wed Nov 11 2026. No macro, syntax, notation, axiom, sorry.
-/
import Derived.Test.YtjpcmgoajdjkgaaGreatDoorRows
import GoSem.ClaimSeven
namespace Go.Proofs.YtjpcmgoajdjkgaaGreatDoor
namespace Rows

/-- THE TIED CARD OF 'conclavelaw08.WalFrames'. -/
def walFramesCard : Claim7 := { stood := { row := walFramesRow, standIns := [], harness := (true, "9e7c5bd3313164ee8cd6d22ee659422365333bc54594c2403236e61064e3e96a"), looks := true }, kinds := [], alts := [], laidByText := true, laidKinds := [.data, .data, .data, .sentinel, .sentinel], laidTests := true, laidLooks := .later }
def WalFramesCardSaid : Prop := Claim7.holds Tryz.pinned (.plain (OpenSpec.ofChange walFramesSpec)) walFramesCard

/-- THE TIED CARD OF 'conclavelaw08.WalOpens'. -/
def walOpensCard : Claim7 := { stood := { row := walOpensRow, standIns := [], harness := (true, "9e7c5bd3313164ee8cd6d22ee659422365333bc54594c2403236e61064e3e96a"), looks := true }, kinds := [], alts := [], laidByText := true, laidKinds := [.data, .data, .data, .sentinel, .sentinel], laidTests := true, laidLooks := .later }
def WalOpensCardSaid : Prop := Claim7.holds Tryz.pinned (.plain (OpenSpec.ofChange walOpensSpec)) walOpensCard

/-- THE TIED CARD OF 'conclavelaw08.WalRots'. -/
def walRotsCard : Claim7 := { stood := { row := walRotsRow, standIns := [], harness := (true, "9e7c5bd3313164ee8cd6d22ee659422365333bc54594c2403236e61064e3e96a"), looks := true }, kinds := [], alts := [], laidByText := true, laidKinds := [.data, .data, .data, .sentinel, .sentinel], laidTests := true, laidLooks := .later }
def WalRotsCardSaid : Prop := Claim7.holds Tryz.pinned (.plain (OpenSpec.ofChange walRotsSpec)) walRotsCard

/-- THE TIED CARD OF 'conclavelaw08.WalLasts'. -/
def walLastsCard : Claim7 := { stood := { row := walLastsRow, standIns := [], harness := (true, "9e7c5bd3313164ee8cd6d22ee659422365333bc54594c2403236e61064e3e96a"), looks := true }, kinds := [], alts := [], laidByText := true, laidKinds := [.data, .data, .data, .sentinel, .sentinel], laidTests := true, laidLooks := .later }
def WalLastsCardSaid : Prop := Claim7.holds Tryz.pinned (.plain (OpenSpec.ofChange walLastsSpec)) walLastsCard

/-- THE TIED CARD OF 'conclavelaw08.WalNils'. -/
def walNilsCard : Claim7 := { stood := { row := walNilsRow, standIns := [], harness := (true, "9e7c5bd3313164ee8cd6d22ee659422365333bc54594c2403236e61064e3e96a"), looks := true }, kinds := [], alts := [], laidByText := true, laidKinds := [.data, .data, .data, .sentinel, .sentinel], laidTests := true, laidLooks := .later }
def WalNilsCardSaid : Prop := Claim7.holds Tryz.pinned (.plain (OpenSpec.ofChange walNilsSpec)) walNilsCard

/-- THE SECOND FORM's CARD OF 'conclavelaw08.WalFrames'. -/
def walFramesUptoCard : Claim7 := { stood := { row := walFramesUptoRow, standIns := [], harness := (true, "9e7c5bd3313164ee8cd6d22ee659422365333bc54594c2403236e61064e3e96a"), looks := true }, kinds := [], alts := [], laidByText := true, laidKinds := [.data, .data, .data, .sentinel, .sentinel], laidTests := true, laidLooks := .later }
def WalFramesUptoCardSaid : Prop := Claim7.holds Tryz.pinned (.plain (OpenSpec.upto walFramesSpec)) walFramesUptoCard

/-- THE SECOND FORM's CARD OF 'conclavelaw08.WalOpens'. -/
def walOpensUptoCard : Claim7 := { stood := { row := walOpensUptoRow, standIns := [], harness := (true, "9e7c5bd3313164ee8cd6d22ee659422365333bc54594c2403236e61064e3e96a"), looks := true }, kinds := [], alts := [], laidByText := true, laidKinds := [.data, .data, .data, .sentinel, .sentinel], laidTests := true, laidLooks := .later }
def WalOpensUptoCardSaid : Prop := Claim7.holds Tryz.pinned (.plain (OpenSpec.upto walOpensSpec)) walOpensUptoCard

/-- THE SECOND FORM's CARD OF 'conclavelaw08.WalRots'. -/
def walRotsUptoCard : Claim7 := { stood := { row := walRotsUptoRow, standIns := [], harness := (true, "9e7c5bd3313164ee8cd6d22ee659422365333bc54594c2403236e61064e3e96a"), looks := true }, kinds := [], alts := [], laidByText := true, laidKinds := [.data, .data, .data, .sentinel, .sentinel], laidTests := true, laidLooks := .later }
def WalRotsUptoCardSaid : Prop := Claim7.holds Tryz.pinned (.plain (OpenSpec.upto walRotsSpec)) walRotsUptoCard

/-- THE SECOND FORM's CARD OF 'conclavelaw08.WalLasts'. -/
def walLastsUptoCard : Claim7 := { stood := { row := walLastsUptoRow, standIns := [], harness := (true, "9e7c5bd3313164ee8cd6d22ee659422365333bc54594c2403236e61064e3e96a"), looks := true }, kinds := [], alts := [], laidByText := true, laidKinds := [.data, .data, .data, .sentinel, .sentinel], laidTests := true, laidLooks := .later }
def WalLastsUptoCardSaid : Prop := Claim7.holds Tryz.pinned (.plain (OpenSpec.upto walLastsSpec)) walLastsUptoCard

/-- THE SECOND FORM's CARD OF 'conclavelaw08.WalNils'. -/
def walNilsUptoCard : Claim7 := { stood := { row := walNilsUptoRow, standIns := [], harness := (true, "9e7c5bd3313164ee8cd6d22ee659422365333bc54594c2403236e61064e3e96a"), looks := true }, kinds := [], alts := [], laidByText := true, laidKinds := [.data, .data, .data, .sentinel, .sentinel], laidTests := true, laidLooks := .later }
def WalNilsUptoCardSaid : Prop := Claim7.holds Tryz.pinned (.plain (OpenSpec.upto walNilsSpec)) walNilsUptoCard
end Rows
end Go.Proofs.YtjpcmgoajdjkgaaGreatDoor
