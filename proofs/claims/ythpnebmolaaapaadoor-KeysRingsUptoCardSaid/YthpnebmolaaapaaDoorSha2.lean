/- The words of a block, as the document's text makes them. No condition. -/
import Derived.Test.YthpnebmolaaapaaDoorSha1
import Derived.Test.YthpnebmolaaapaaDoorBk
import Derived.BigRegion
import Derived.Deep.WholeRow
import Derived.Deep.Cut
namespace Go.Proofs.YthpnebmolaaapaaDoor.sha
open Go.RowKit eqv chunks
/-- An array of n numbers. -/
def cs (n : Nat) (A : Nat → W32) : List Value := (List.range n).map fun j => U (A j)
theorem cs_length (n : Nat) (A : Nat → W32) : (cs n A).length = n := by simp [cs]
theorem cs_get {n : Nat} {A : Nat → W32} {i : Nat} (h : i < n) : (cs n A)[i]? = some (U (A i)) := by simp [cs, List.getElem?_range h]
theorem cs_set {n : Nat} {A : Nat → W32} {i : Nat} {v : W32} : (cs n A).set i (U v) = cs n (upd A i v) := by
  apply List.ext_getElem?
  intro j
  rw [List.getElem?_set]
  by_cases hj : j < n
  · by_cases h : i = j
    · subst h
      rw [if_pos rfl, cs_get hj, cs_length, if_pos hj]
      simp [upd]
    · rw [if_neg h, cs_get hj, cs_get hj]
      simp [upd, Ne.symm h]
  · by_cases h : i = j
    · subst h
      rw [if_pos rfl, cs_length, if_neg hj, List.getElem?_eq_none (by rw [cs_length]; omega)]
    · rw [if_neg h, List.getElem?_eq_none (by rw [cs_length]; omega), List.getElem?_eq_none (by rw [cs_length]; omega)]
theorem cs_one (n : Nat) (A : Nat → W32) : ∀ v ∈ cs n A, v.oneCell' = true := by
  intro v hv
  obtain ⟨j, _, rfl⟩ := List.mem_map.1 hv
  rfl
theorem zero64 (w : World) : (zeroValue 59).run Tryd.prog w = .ok (.agg (cs 64 fun _ => 0).toArray) w := by kernel_rfl
theorem zero8 (w : World) : (zeroValue 52).run Tryd.prog w = .ok (.agg (cs 8 fun _ => 0).toArray) w := by kernel_rfl
theorem toLd64 (a : Addr) : loadVar 59 a = bigLoad 59 a := rfl
theorem ld64 {w : World} {a : Addr} (h : okAt w a 64) : Sem.run Tryd.prog (bigLoad 59 a) w = .ok (.agg (cellsAt w a 64).toArray) w := run_bigLoad (by kernel_rfl) ⟨_, Tryd.underlying59, rfl⟩ h
theorem toSt64 (a : Addr) (v : Value) : storeVar 59 a v = bigStore 59 a v := rfl
theorem st64 {w : World} {g o : Nat} {cs : List Value} (hl : cs.length = 64) (h : mayPut w g o cs) : Sem.run Tryd.prog (bigStore 59 ⟨g, o, none⟩ (.agg cs.toArray)) w = .ok () (putAt w g o cs) := run_bigStore (by kernel_rfl) hl h
theorem stNew64 {w : World} {g : Nat} {A B : Nat → W32} (hg : w.heap.size = g) : Sem.run Tryd.prog (bigStore 59 ⟨g, 0, none⟩ (.agg (cs 64 A).toArray)) (w.alloc (.cells (cs 64 B).toArray 59)) = .ok () (w.alloc (.cells (cs 64 A).toArray 59)) :=
  run_stNew (by kernel_rfl) hg (cs_length _ _) (cs_length _ _) (cs_one _ _)
theorem toLd8 (a : Addr) : loadVar 52 a = bigLoad 52 a := rfl
theorem ld8 {w : World} {a : Addr} (h : okAt w a 8) : Sem.run Tryd.prog (bigLoad 52 a) w = .ok (.agg (cellsAt w a 8).toArray) w := run_bigLoad (by kernel_rfl) ⟨_, Tryd.underlying52, rfl⟩ h
theorem toSt8 (a : Addr) (v : Value) : storeVar 52 a v = bigStore 52 a v := rfl
theorem st8 {w : World} {g o : Nat} {cs : List Value} (hl : cs.length = 8) (h : mayPut w g o cs) : Sem.run Tryd.prog (bigStore 52 ⟨g, o, none⟩ (.agg cs.toArray)) w = .ok () (putAt w g o cs) := run_bigStore (by kernel_rfl) hl h
theorem grow_ref (A : Nat → W32) (k : Nat) : upd (grow A k) (16 + k) (s1 (grow A k (k + 14)) + grow A k (k + 9) + s0 (grow A k (k + 1)) + grow A k k) = grow A (k + 1) := by
  rw [grow]
  congr 1
  rw [BitVec.add_comm (s1 _), BitVec.add_assoc (grow A k (k + 9)), BitVec.add_comm (s1 _), ← BitVec.add_assoc, BitVec.add_comm _ (grow A k k), ← BitVec.add_assoc, ← BitVec.add_assoc]
/-- 64 bytes lie there. -/
def Bytes (w : World) (ad : Addr) (p : Nat → Int) : Prop := ∀ i, i < 64 → w.cell? (ad.add i) = some (.int .u8 (p i))
theorem Bytes.below {w w' : World} {ad : Addr} {p : Nat → Int} {B : Nat} (h : Bytes w ad p) (hb : Below B w w') (hlt : ad.block < B) : Bytes w' ad p :=
  fun i hi => (hb.cell (p := ad.add i) (by rw [block_add]; exact hlt)).trans (h i hi)
end Go.Proofs.YthpnebmolaaapaaDoor.sha
