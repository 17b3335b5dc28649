/-
  DERIVED. GIVEN WITH THE SEED: THE CARDS: each row of YtnljhabpcoiihaaGreatDoorRows.lean that lists a variable, with what it lists TIED to the program's text (the seventh form; the later family's looks); each row that meets fmt, with fmt's text TOLD by the authors' own Lean function (tested against real Go, not proved from fmt's source: count such statements apart). THE CARD IS WHAT COUNTS. Prove the row's statement (the work); the ties are given (YtnljhabpcoiihaaGreatDoorTie.lean); close each card by the builder's one call (the guide's Derived/Test/ToyasCard.lean, 'card_holds'). Laid BY PROGRAM, IN A SANDBOX (cutbox-door.mjs). By AI agents, Wed Nov 11 2026. No macro, syntax, notation, axiom, sorry.
-/
import Derived.Test.YtnljhabpcoiihaaGreatDoorRows
import GoSem.ClaimSeven
namespace Go.Proofs.YtnljhabpcoiihaaGreatDoor
namespace Rows

/-- THE TIED CARD OF 'conclavelaw09.KvOpens'. -/
def kvOpensCard : Claim7 := { stood := { row := kvOpensRow, standIns := [], harness := (true, "3eeb367903e5d34e61bb92eab46e54c4b1744e496def62ccd05a20491a3e658f"), looks := true }, kinds := [], alts := [], laidByText := true, laidKinds := [.data, .data, .data, .sentinel, .sentinel], laidTests := true, laidLooks := .later }
def KvOpensCardSaid : Prop := Claim7.holds Tryz.pinned (.plain (OpenSpec.ofChange kvOpensSpec)) kvOpensCard

/-- THE TIED CARD OF 'conclavelaw09.KvBack'. -/
def kvBackCard : Claim7 := { stood := { row := kvBackRow, standIns := [], harness := (true, "3eeb367903e5d34e61bb92eab46e54c4b1744e496def62ccd05a20491a3e658f"), looks := true }, kinds := [], alts := [], laidByText := true, laidKinds := [.data, .data, .data, .sentinel, .sentinel], laidTests := true, laidLooks := .later }
def KvBackCardSaid : Prop := Claim7.holds Tryz.pinned (.plain (OpenSpec.ofChange kvBackSpec)) kvBackCard

/-- THE TIED CARD OF 'conclavelaw09.KvWhole'. -/
def kvWholeCard : Claim7 := { stood := { row := kvWholeRow, standIns := [], harness := (true, "3eeb367903e5d34e61bb92eab46e54c4b1744e496def62ccd05a20491a3e658f"), looks := true }, kinds := [], alts := [], laidByText := true, laidKinds := [.data, .data, .data, .sentinel, .sentinel], laidTests := true, laidLooks := .later }
def KvWholeCardSaid : Prop := Claim7.holds Tryz.pinned (.plain (OpenSpec.ofChange kvWholeSpec)) kvWholeCard

/-- THE TIED CARD OF 'conclavelaw09.KvPlays'. -/
def kvPlaysCard : Claim7 := { stood := { row := kvPlaysRow, standIns := [], harness := (true, "3eeb367903e5d34e61bb92eab46e54c4b1744e496def62ccd05a20491a3e658f"), looks := true }, kinds := [], alts := [], laidByText := true, laidKinds := [.data, .data, .data, .sentinel, .sentinel], laidTests := true, laidLooks := .later }
def KvPlaysCardSaid : Prop := Claim7.holds Tryz.pinned (.plain (OpenSpec.ofChange kvPlaysSpec)) kvPlaysCard

/-- THE SECOND FORM's CARD OF 'conclavelaw09.KvOpens'. -/
def kvOpensUptoCard : Claim7 := { stood := { row := kvOpensUptoRow, standIns := [], harness := (true, "3eeb367903e5d34e61bb92eab46e54c4b1744e496def62ccd05a20491a3e658f"), looks := true }, kinds := [], alts := [], laidByText := true, laidKinds := [.data, .data, .data, .sentinel, .sentinel], laidTests := true, laidLooks := .later }
def KvOpensUptoCardSaid : Prop := Claim7.holds Tryz.pinned (.plain (OpenSpec.upto kvOpensSpec)) kvOpensUptoCard

/-- THE SECOND FORM's CARD OF 'conclavelaw09.KvBack'. -/
def kvBackUptoCard : Claim7 := { stood := { row := kvBackUptoRow, standIns := [], harness := (true, "3eeb367903e5d34e61bb92eab46e54c4b1744e496def62ccd05a20491a3e658f"), looks := true }, kinds := [], alts := [], laidByText := true, laidKinds := [.data, .data, .data, .sentinel, .sentinel], laidTests := true, laidLooks := .later }
def KvBackUptoCardSaid : Prop := Claim7.holds Tryz.pinned (.plain (OpenSpec.upto kvBackSpec)) kvBackUptoCard

/-- THE SECOND FORM's CARD OF 'conclavelaw09.KvWhole'. -/
def kvWholeUptoCard : Claim7 := { stood := { row := kvWholeUptoRow, standIns := [], harness := (true, "3eeb367903e5d34e61bb92eab46e54c4b1744e496def62ccd05a20491a3e658f"), looks := true }, kinds := [], alts := [], laidByText := true, laidKinds := [.data, .data, .data, .sentinel, .sentinel], laidTests := true, laidLooks := .later }
def KvWholeUptoCardSaid : Prop := Claim7.holds Tryz.pinned (.plain (OpenSpec.upto kvWholeSpec)) kvWholeUptoCard

/-- THE SECOND FORM's CARD OF 'conclavelaw09.KvPlays'. -/
def kvPlaysUptoCard : Claim7 := { stood := { row := kvPlaysUptoRow, standIns := [], harness := (true, "3eeb367903e5d34e61bb92eab46e54c4b1744e496def62ccd05a20491a3e658f"), looks := true }, kinds := [], alts := [], laidByText := true, laidKinds := [.data, .data, .data, .sentinel, .sentinel], laidTests := true, laidLooks := .later }
def KvPlaysUptoCardSaid : Prop := Claim7.holds Tryz.pinned (.plain (OpenSpec.upto kvPlaysSpec)) kvPlaysUptoCard
end Rows
end Go.Proofs.YtnljhabpcoiihaaGreatDoor
