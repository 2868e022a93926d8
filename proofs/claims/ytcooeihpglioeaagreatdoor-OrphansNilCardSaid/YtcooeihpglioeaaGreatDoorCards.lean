/-
  DERIVED. GIVEN WITH THE SEED: THE CARDS: each row of YtcooeihpglioeaaGreatDoorRows.lean that lists a variable, with what it lists TIED to the program's text (the seventh form; the later family's looks); each row that meets fmt, with fmt's text TOLD by the authors' own Lean function (tested against real Go, not proved from fmt's source: count such statements apart). THE CARD IS WHAT COUNTS. Prove the row's statement (the work); the ties are given (YtcooeihpglioeaaGreatDoorTie.lean); close each card by the builder's one call (the guide's Derived/Test/ToyasCard.lean, 'card_holds'). Laid BY PROGRAM, IN A SANDBOX (cutbox-door.mjs). By AI agents, Wed Nov 11 2026. No macro, syntax, notation, axiom, sorry.
-/
import Derived.Test.YtcooeihpglioeaaGreatDoorRows
import GoSem.ClaimSeven
namespace Go.Proofs.YtcooeihpglioeaaGreatDoor
namespace Rows

/-- THE TIED CARD OF 'estuarylaw07.OrphansNil'. -/
def orphansNilCard : Claim7 := { stood := { row := orphansNilRow, standIns := [], harness := (true, "5fe21db51f78d1cadfab9367a81bc72c512311699b5027bea8da254e0b52cbee"), looks := true }, kinds := [], alts := [], laidByText := true, laidKinds := [.data, .data, .widerDeep, .widerDeep, .data, .data, .data, .data, .data, .data, .sentinel, .sentinel, .data, .data, .pinned, .pinned, .pinned], laidTests := true, laidLooks := .later }
def OrphansNilCardSaid : Prop := Claim7.holds Tryz.pinned (.plain (OpenSpec.ofChange orphansNilSpec)) orphansNilCard

/-- THE TIED CARD OF 'estuarylaw25.KeysNil'. -/
def keysNilCard : Claim7 := { stood := { row := keysNilRow, standIns := [], harness := (true, "5fe21db51f78d1cadfab9367a81bc72c512311699b5027bea8da254e0b52cbee"), looks := true }, kinds := [], alts := [], laidByText := true, laidKinds := [.data, .data, .widerDeep, .widerDeep, .data, .data, .data, .data, .data, .data, .sentinel, .sentinel, .data, .data, .pinned, .pinned, .pinned], laidTests := true, laidLooks := .later }
def KeysNilCardSaid : Prop := Claim7.holds Tryz.pinned (.plain (OpenSpec.ofChange keysNilSpec)) keysNilCard

/-- THE SECOND FORM's CARD OF 'estuarylaw07.OrphansNil'. -/
def orphansNilUptoCard : Claim7 := { stood := { row := orphansNilUptoRow, standIns := [], harness := (true, "5fe21db51f78d1cadfab9367a81bc72c512311699b5027bea8da254e0b52cbee"), looks := true }, kinds := [], alts := [], laidByText := true, laidKinds := [.data, .data, .widerDeep, .widerDeep, .data, .data, .data, .data, .data, .data, .sentinel, .sentinel, .data, .data, .pinned, .pinned, .pinned], laidTests := true, laidLooks := .later }
def OrphansNilUptoCardSaid : Prop := Claim7.holds Tryz.pinned (.plain (OpenSpec.upto orphansNilSpec)) orphansNilUptoCard

/-- THE SECOND FORM's CARD OF 'estuarylaw25.KeysNil'. -/
def keysNilUptoCard : Claim7 := { stood := { row := keysNilUptoRow, standIns := [], harness := (true, "5fe21db51f78d1cadfab9367a81bc72c512311699b5027bea8da254e0b52cbee"), looks := true }, kinds := [], alts := [], laidByText := true, laidKinds := [.data, .data, .widerDeep, .widerDeep, .data, .data, .data, .data, .data, .data, .sentinel, .sentinel, .data, .data, .pinned, .pinned, .pinned], laidTests := true, laidLooks := .later }
def KeysNilUptoCardSaid : Prop := Claim7.holds Tryz.pinned (.plain (OpenSpec.upto keysNilSpec)) keysNilUptoCard
end Rows
end Go.Proofs.YtcooeihpglioeaaGreatDoor
