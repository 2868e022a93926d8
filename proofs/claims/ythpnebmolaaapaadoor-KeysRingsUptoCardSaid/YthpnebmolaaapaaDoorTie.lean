/-
  DERIVED. GIVEN WITH THE SEED: THE PROGRAM's TIES (one call each: nine closed facts by the kernel) AND EACH ROW's TIE, after the 31st guide's Derived/Test/Toyas{Tie, Card}.lean. No idea stands in it: it is a product of the set-up. Laid BY PROGRAM, IN A SANDBOX (cutbox-door.mjs). By AI agents, Wed Nov 11 2026. No macro, syntax, notation, axiom, sorry.
-/
import Derived.Test.YthpnebmolaaapaaDoorRows
import Derived.LaidByTextLater
import Derived.SevenTiedAt
import Derived.LaidSub
import Derived.LaidOnce
namespace Go.Proofs.YthpnebmolaaapaaDoor
open Go
set_option maxRecDepth 100000
theorem seatTie1 : Tryd.prog.laidByTextLater [("estuary/estuaryref01.roots", Rows.laid_estuary_estuaryref01_roots), ("estuary/estuaryref01.rounds", Rows.laid_estuary_estuaryref01_rounds), ("estuary/digest.squares", Rows.laid_estuary_digest_squares), ("estuary/digest.cubes", Rows.laid_estuary_digest_cubes)] [.data, .data, .data, .data] true :=
  Program.laidByTextLater_by_one 29 8 65 (by kernel_rfl) (by kernel_rfl) (by kernel_rfl) (by kernel_rfl) (by kernel_rfl) (by kernel_rfl) (fun _ _ => by kernel_rfl)
theorem noOwnUnsafe : Tryd.pinned.checked.prog.headLifts.contains "ownunsafe" = false := by kernel_rfl
theorem tie : Tryd.prog.laidByTextLater [("estuary/estuaryref01.roots", Rows.laid_estuary_estuaryref01_roots), ("estuary/estuaryref01.rounds", Rows.laid_estuary_estuaryref01_rounds), ("estuary/digest.squares", Rows.laid_estuary_digest_squares), ("estuary/digest.cubes", Rows.laid_estuary_digest_cubes)] [.data, .data, .data, .data] true :=
  Program.laidByTextLater.sub seatTie1 ["estuary/estuaryref01.roots", "estuary/estuaryref01.rounds", "estuary/digest.squares", "estuary/digest.cubes"] (by kernel_rfl) (by kernel_rfl)
theorem keysRings_row_tie : Rows.keysRingsRow.laidByTextAt .later Tryd.pinned [.data, .data, .data, .data] true :=
  OpenClaim.laidByTextAt_later rfl rfl tie noOwnUnsafe
theorem keysRingsUpto_row_tie : Rows.keysRingsUptoRow.laidByTextAt .later Tryd.pinned [.data, .data, .data, .data] true :=
  OpenClaim.laidByTextAt_later rfl rfl tie noOwnUnsafe
end Go.Proofs.YthpnebmolaaapaaDoor
