/- A world in which this seat's listed package-level variables hold what its rows list: for the rows' witness. No condition. -/
import Derived.Test.YtcooeihpglioeaaGreatDoorRows
import Derived.WideWitness
import Derived.Test.YtcooeihpglioeaaGreatDoorWit
namespace Go.Proofs.YtcooeihpglioeaaGreatDoor.laids

open wit (flat)
def elems : DataW Unit → List (DataW Unit)
  | .slice l _ => l
  | _ => []
def told : DataW Unit → DataW Unit
  | .iface _ (.ptr d) => d
  | d => d
noncomputable def laidHeap : Array Obj := #[
  .cells (flat 9 Rows.laid_estuary_digest_squares).toArray 148,
  .cells (flat 9 Rows.laid_estuary_digest_cubes).toArray 187,
  .cells (flat 9 Rows.laid_unicode_utf8_first).toArray 191,
  .cells (flat 9 Rows.laid_unicode_utf8_acceptRanges).toArray 194,
  .cells #[.bool false] 4,
  .cells (flat 9 Rows.laid_internal_strconv_uint64pow10).toArray 294,
  .cells #[.int .i64 0] 3,
  .cells #[.iface 335 (.pointer (some ⟨24, 0, none⟩))] 248,
  .cells #[.iface 335 (.pointer (some ⟨25, 0, none⟩))] 248,
  .cells (flat 9 Rows.laid_internal_strconv_optimize).toArray 4,
  .cells (flat 9 Rows.laid_math_bits_deBruijn32tab).toArray 26,
  .cells (flat 9 Rows.laid_math_bits_deBruijn64tab).toArray 99,
  .cells (flat 9 Rows.laid_internal_strconv_pow10Tab).toArray 356,
  .cells #[.slice (some ⟨26, 0, none⟩) (elems Rows.laid_internal_strconv_leftcheats).length (elems Rows.laid_internal_strconv_leftcheats).length] 361,
  .cells (flat 9 Rows.laid_internal_strconv_float32info).toArray 370,
  .cells (flat 9 Rows.laid_internal_strconv_float64info).toArray 370,
  .cells #[.slice (some ⟨27, 0, none⟩) (elems Rows.laid_internal_strconv_float32pow10).length (elems Rows.laid_internal_strconv_float32pow10).length] 383,
  .cells #[.slice (some ⟨28, 0, none⟩) (elems Rows.laid_internal_strconv_powtab).length (elems Rows.laid_internal_strconv_powtab).length] 385,
  .cells #[.slice (some ⟨29, 0, none⟩) (elems Rows.laid_internal_strconv_float64pow10).length (elems Rows.laid_internal_strconv_float64pow10).length] 386,
  .cells ((Array.range 400).map fun t => .int .u64 (Int.ofNat t)) 0,
  .map #[] 0,
  .finalizers #[] none,
  .cells #[.bool false] 0,
  .finalizers #[] none,
  .cells (flat 9 (told Rows.laid_strconv_ErrSyntax)).toArray 337,
  .cells (flat 9 (told Rows.laid_strconv_ErrRange)).toArray 337,
  .cells ((elems Rows.laid_internal_strconv_leftcheats).flatMap (flat 9)).toArray 360,
  .cells ((elems Rows.laid_internal_strconv_float32pow10).flatMap (flat 9)).toArray 303,
  .cells ((elems Rows.laid_internal_strconv_powtab).flatMap (flat 9)).toArray 3,
  .cells ((elems Rows.laid_internal_strconv_float64pow10).flatMap (flat 9)).toArray 126]
noncomputable def laidWorld (os : Os) : World := { heap := laidHeap, tape := fun _ _ => 0, drawn := 0, os := os, output := #[] }
theorem globals : Tryz.prog.globals.size = 19 := by kernel_rfl
theorem vars0 (os : Os) (args : Array Value) : ([2].all fun g => wit.varLin Tryz.prog ((laidWorld os).forCall (fun _ _ => 0) ⟨#[], args, []⟩) g) = true := by kernel_rfl
theorem vars1 (os : Os) (args : Array Value) : ([0, 1, 3, 4, 5, 6].all fun g => wit.varLin Tryz.prog ((laidWorld os).forCall (fun _ _ => 0) ⟨#[], args, []⟩) g) = true := by kernel_rfl
theorem vars2 (os : Os) (args : Array Value) : ([12].all fun g => wit.varLin Tryz.prog ((laidWorld os).forCall (fun _ _ => 0) ⟨#[], args, []⟩) g) = true := by kernel_rfl
theorem vars3 (os : Os) (args : Array Value) : ([7, 8, 9, 10, 11, 13].all fun g => wit.varLin Tryz.prog ((laidWorld os).forCall (fun _ _ => 0) ⟨#[], args, []⟩) g) = true := by kernel_rfl
theorem vars4 (os : Os) (args : Array Value) : ([14, 15, 16, 17, 18].all fun g => wit.varLin Tryz.prog ((laidWorld os).forCall (fun _ _ => 0) ⟨#[], args, []⟩) g) = true := by kernel_rfl
theorem tail (os : Os) (args : Array Value) : ((((laidWorld os).forCall (fun _ _ => 0) ⟨#[], args, []⟩).heap.toList.drop Tryz.prog.globals.size).take ((begin Tryz.prog (fun _ _ => 0) default).world.heap.size - Tryz.prog.globals.size) =
    (begin Tryz.prog (fun _ _ => 0) default).world.heap.toList.drop Tryz.prog.globals.size) := by kernel_rfl
theorem shaped (os : Os) (args : Array Value) : ((laidWorld os).forCall (fun _ _ => 0) ⟨#[], args, []⟩).Shaped Tryz.prog := by
  refine wit.shaped_of_lin (fun g hg => ?_) (tail os args)
  rw [globals] at hg
  match g, hg with
  | 0, _ => exact List.all_eq_true.1 (vars1 os args) 0 (by decide)
  | 1, _ => exact List.all_eq_true.1 (vars1 os args) 1 (by decide)
  | 2, _ => exact List.all_eq_true.1 (vars0 os args) 2 (by decide)
  | 3, _ => exact List.all_eq_true.1 (vars1 os args) 3 (by decide)
  | 4, _ => exact List.all_eq_true.1 (vars1 os args) 4 (by decide)
  | 5, _ => exact List.all_eq_true.1 (vars1 os args) 5 (by decide)
  | 6, _ => exact List.all_eq_true.1 (vars1 os args) 6 (by decide)
  | 7, _ => exact List.all_eq_true.1 (vars3 os args) 7 (by decide)
  | 8, _ => exact List.all_eq_true.1 (vars3 os args) 8 (by decide)
  | 9, _ => exact List.all_eq_true.1 (vars3 os args) 9 (by decide)
  | 10, _ => exact List.all_eq_true.1 (vars3 os args) 10 (by decide)
  | 11, _ => exact List.all_eq_true.1 (vars3 os args) 11 (by decide)
  | 12, _ => exact List.all_eq_true.1 (vars2 os args) 12 (by decide)
  | 13, _ => exact List.all_eq_true.1 (vars3 os args) 13 (by decide)
  | 14, _ => exact List.all_eq_true.1 (vars4 os args) 14 (by decide)
  | 15, _ => exact List.all_eq_true.1 (vars4 os args) 15 (by decide)
  | 16, _ => exact List.all_eq_true.1 (vars4 os args) 16 (by decide)
  | 17, _ => exact List.all_eq_true.1 (vars4 os args) 17 (by decide)
  | 18, _ => exact List.all_eq_true.1 (vars4 os args) 18 (by decide)
  | n + 19, h => omega
noncomputable abbrev mem (os : Os) (args : Array Value) : World := ((laidWorld os).forCall (fun _ _ => 0) ⟨#[], args, []⟩).memory
def listed : List (String × DataW Unit) := [("math/bits.deBruijn32tab", Rows.laid_math_bits_deBruijn32tab), ("math/bits.deBruijn64tab", Rows.laid_math_bits_deBruijn64tab), ("internal/strconv.float32info", Rows.laid_internal_strconv_float32info), ("internal/strconv.float64info", Rows.laid_internal_strconv_float64info), ("internal/strconv.optimize", Rows.laid_internal_strconv_optimize), ("internal/strconv.powtab", Rows.laid_internal_strconv_powtab), ("internal/strconv.float64pow10", Rows.laid_internal_strconv_float64pow10), ("internal/strconv.float32pow10", Rows.laid_internal_strconv_float32pow10), ("internal/strconv.uint64pow10", Rows.laid_internal_strconv_uint64pow10), ("unicode/utf8.acceptRanges", Rows.laid_unicode_utf8_acceptRanges), ("strconv.ErrRange", Rows.laid_strconv_ErrRange), ("strconv.ErrSyntax", Rows.laid_strconv_ErrSyntax), ("estuary/digest.squares", Rows.laid_estuary_digest_squares), ("estuary/digest.cubes", Rows.laid_estuary_digest_cubes), ("internal/strconv.leftcheats", Rows.laid_internal_strconv_leftcheats), ("internal/strconv.pow10Tab", Rows.laid_internal_strconv_pow10Tab), ("unicode/utf8.first", Rows.laid_unicode_utf8_first)]
theorem run1 (os : Os) (args : Array Value) : (DataW.laidRun Tryz.prog (mem os args) 9 ((listed.take 15 ++ listed.drop 16).map (·.1))).map (·.1) = some (listed.take 15 ++ listed.drop 16) := by kernel_rfl
theorem run2 (os : Os) (args : Array Value) : (DataW.laidRun Tryz.prog (mem os args) 9 ((listed.take 15 ++ listed.drop 16).map (·.1))).map (fun x => nodupB (x.2.map MemPlace.codeOf) && laidRowsB Tryz.prog (mem os args) x.2 && x.2.all (fun p => p.block != 12)) = some true := by kernel_rfl
theorem bigFits : wit.fits Tryz.prog 9 356 Rows.laid_internal_strconv_pow10Tab = true := by kernel_rfl
theorem bigPlain : (wit.flat 9 Rows.laid_internal_strconv_pow10Tab).all wit.noIface = true := by kernel_rfl
theorem met (os : Os) (args : Array Value) : laidMet Tryz.prog listed (mem os args) :=
  wit.laidMet_of_run_but (l1 := listed.take 15) (l2 := listed.drop 16) (n := "internal/strconv.pow10Tab") (d := Rows.laid_internal_strconv_pow10Tab) (g := 12) (t := 356) 9 (run1 os args) (run2 os args) (by kernel_rfl) (by kernel_rfl) (by kernel_rfl) bigFits (by kernel_rfl) bigPlain
end Go.Proofs.YtcooeihpglioeaaGreatDoor.laids
