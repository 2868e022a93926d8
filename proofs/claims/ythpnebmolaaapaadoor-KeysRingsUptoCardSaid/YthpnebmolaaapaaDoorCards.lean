/-
  DERIVED. GIVEN WITH THE SEED: THE CARDS: each row of YthpnebmolaaapaaDoorRows.lean that lists a variable, with what it lists TIED to the program's text (the seventh form; the later family's looks); each row that meets fmt, with fmt's text TOLD by the authors' own Lean function (tested against real Go, not proved from fmt's source: count such statements apart). THE CARD IS WHAT COUNTS. Prove the row's statement (the work); the ties are given (YthpnebmolaaapaaDoorTie.lean); close each card by the builder's one call (the guide's Derived/Test/ToyasCard.lean, 'card_holds'). Laid BY PROGRAM, IN A SANDBOX (cutbox-door.mjs). By AI agents, Wed Nov 11 2026. No macro, syntax, notation, axiom, sorry.
-/
import Derived.Test.YthpnebmolaaapaaDoorRows
import GoSem.ClaimSeven
namespace Go.Proofs.YthpnebmolaaapaaDoor
namespace Rows

/-- THE TIED CARD OF 'estuarylaw25.KeysRings'. -/
def keysRingsCard : Claim7 := { stood := { row := keysRingsRow, standIns := [], harness := (true, "72fb2c8dc57f11344dd5ebdf91af2647582796c65240e76ada6a2f8c696cc4a9"), looks := false }, kinds := [], alts := [], laidByText := true, laidKinds := [.data, .data, .data, .data], laidTests := true, laidLooks := .later }
def KeysRingsCardSaid : Prop := Claim7.holds Tryd.pinned (.plain (OpenSpec.ofChange keysRingsSpec)) keysRingsCard

/-- THE SECOND FORM's CARD OF 'estuarylaw25.KeysRings'. -/
def keysRingsUptoCard : Claim7 := { stood := { row := keysRingsUptoRow, standIns := [], harness := (true, "72fb2c8dc57f11344dd5ebdf91af2647582796c65240e76ada6a2f8c696cc4a9"), looks := false }, kinds := [], alts := [], laidByText := true, laidKinds := [.data, .data, .data, .data], laidTests := true, laidLooks := .later }
def KeysRingsUptoCardSaid : Prop := Claim7.holds Tryd.pinned (.plain (OpenSpec.upto keysRingsSpec)) keysRingsUptoCard
end Rows
end Go.Proofs.YthpnebmolaaapaaDoor
