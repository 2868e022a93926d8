/- Slices of bytes kept whole: what the walk does with them. No condition. -/
import Derived.Test.YthpnebmolaaapaaDoorBk
import Derived.Laws.CopyOwn
import Derived.WalkKit
import Derived.WalkLawsBesides
import Derived.WalkSpells
import Derived.BigQuiet
import Derived.Deep.LoopGhost
import Derived.Lib.Hide
import Derived.Outline
import Derived.StillTailTactics
import Derived.Deep.RegionHeld3
import Derived.Deep.Cut
import Derived.IntWalk
namespace Go.Proofs.YthpnebmolaaapaaDoor.chunks
open Go.RowKit eqv
/-- A slice's address behind a cut. -/
def cutA (A : Option Addr) (c k : Nat) : Option Addr := if c = k then A else A.map (·.add k)
/-- The slice's bytes read so. -/
def Bs (w : World) (A : Option Addr) (m : List Int) : Prop := 0 < m.length → ∃ ad, A = some ad ∧ ∀ i z, m[i]? = some z → w.cell? (ad.add i) = some (.int .u8 z)
theorem Bs.nil (w : World) (A : Option Addr) : Bs w A [] := fun h => by simp at h
theorem Bs.at_ {w : World} {A : Option Addr} {m : List Int} (h : Bs w A m) {i : Nat} {z : Int} (hz : m[i]? = some z) : ∃ ad, A = some ad ∧ w.cell? (ad.add i) = some (.int .u8 z) := by
  obtain ⟨ad, e, hc⟩ := h (by have := (List.getElem?_eq_some_iff.1 hz).1; omega)
  exact ⟨ad, e, hc i z hz⟩
theorem Bs.keep {w w' : World} {A : Option Addr} {m : List Int} (h : Bs w A m) (hk : ∀ p : Addr, (∃ ad, A = some ad ∧ p.block = ad.block) → w'.cell? p = w.cell? p) : Bs w' A m := fun hn => by
  obtain ⟨ad, e, hc⟩ := h hn
  exact ⟨ad, e, fun i z hz => (hk _ ⟨ad, e, block_add _ _⟩).trans (hc i z hz)⟩
theorem Bs.below {w w' : World} {A : Option Addr} {m : List Int} {B : Nat} (h : Bs w A m) (hb : Below B w w') (hlt : ∀ ad, A = some ad → ad.block < B) : Bs w' A m :=
  h.keep fun p ⟨ad, e, hp⟩ => hb.cell (by rw [hp]; exact hlt ad e)
theorem Bs.grown {w w' : World} {A : Option Addr} {m : List Int} {row : Option Nat} (h : Bs w A m) (hb : w.grownBy w' row) (hlt : ∀ ad, A = some ad → ad.block < w.heap.size ∧ some ad.block ≠ row) : Bs w' A m :=
  h.keep fun p ⟨ad, e, hp⟩ => World.cell?_of_block (hb.block p.block (by rw [hp]; exact (hlt ad e).1) (by rw [hp]; exact (hlt ad e).2))
theorem Bs.drewN {w : World} {A : Option Addr} {m : List Int} (h : Bs w A m) (n : Nat) : Bs (w.drewN n) A m := h
theorem Bs.drew {w : World} {A : Option Addr} {m : List Int} (h : Bs w A m) : Bs w.drew A m := h
theorem Bs.cut {w : World} {A : Option Addr} {m : List Int} {c k : Nat} (h : Bs w A m) (hc : m.length ≤ c) : Bs w (cutA A c k) (m.drop k) := fun hn => by
  rw [List.length_drop] at hn
  obtain ⟨ad, rfl, hcell⟩ := h (by omega)
  refine ⟨ad.add k, by unfold cutA; rw [if_neg (by omega)]; rfl, fun i z hz => ?_⟩
  rw [add_add]
  exact hcell _ z (by rw [← hz, List.getElem?_drop])
theorem Bs.take {w : World} {A : Option Addr} {m : List Int} (h : Bs w A m) (k : Nat) : Bs w A (m.take k) := fun hn => by
  rw [List.length_take] at hn
  obtain ⟨ad, rfl, hcell⟩ := h (by omega)
  exact ⟨ad, rfl, fun i z hz => hcell i z (by
    rw [List.getElem?_take] at hz
    split at hz
    · exact hz
    · cases hz)⟩
theorem cutA_block {A : Option Addr} {c k : Nat} {ad : Addr} (h : cutA A c k = some ad) : ∃ ad', A = some ad' ∧ ad.block = ad'.block := by
  unfold cutA at h
  split at h
  · exact ⟨ad, h, rfl⟩
  · cases A with
    | none => cases h
    | some x =>
      simp only [Option.map_some, Option.some.injEq] at h
      subst h
      exact ⟨x, rfl, block_add _ _⟩
/-- A cut of bytes. -/
def sl8 (x : Value) (lo hi mx : Option Value) : Sem Value := Instr.sliceAt 45 x lo hi mx
theorem toSl8 (x : Value) (lo hi mx : Option Value) : Instr.sliceAt 45 x lo hi mx = sl8 x lo hi mx := rfl
theorem elem8 : Tryd.prog.underlying 45 = some (.slice (Tryd.prog.elem 45)) := by kernel_rfl
theorem size8 (w : World) : (sizeOf (Tryd.prog.elem 45)).run Tryd.prog w = .ok 1 w := by kernel_rfl
theorem sl8_l {A : Option Addr} {n c : Nat} {k : IntKind} {l : Int} (h0 : 0 ≤ l) (h1 : l ≤ n) (w : World) : (sl8 (.slice A n c) (some (.int k l)) none none).run Tryd.prog w = .ok (.slice (cutA A c l.toNat) (n - l.toNat) (c - l.toNat)) w := by
  unfold sl8
  rw [run_sliceAt_slice (h := elem8), run_slice_l (ht := elem8) (h0 := h0) (h1 := h1), size8]
  simp [Result.andThen, sliced, cutA]
theorem sl8_h {A : Option Addr} {n c : Nat} {k : IntKind} {l : Int} (h0 : 0 ≤ l) (h1 : l ≤ c) (w : World) : (sl8 (.slice A n c) none (some (.int k l)) none).run Tryd.prog w = .ok (.slice A l.toNat c) w := by
  unfold sl8
  rw [run_sliceAt_slice (h := elem8), run_slice_h (ht := elem8) (h0 := h0) (h2 := h1), size8]
  have e : (if c = 0 then A else A.map (·.add (0 * 1))) = A := by
    split
    · rfl
    · cases A <;> simp [Addr.add]
  simp only [Result.andThen, sliced, e, Nat.sub_zero]
theorem sl8_lh {A : Option Addr} {n c : Nat} {k k' : IntKind} {l h : Int} (h0 : 0 ≤ l) (h1 : l ≤ h) (h2 : h ≤ c) (w : World) : (sl8 (.slice A n c) (some (.int k l)) (some (.int k' h)) none).run Tryd.prog w = .ok (.slice (cutA A c l.toNat) (h.toNat - l.toNat) (c - l.toNat)) w := by
  unfold sl8
  rw [run_sliceAt_slice (h := elem8), run_slice_lh (ht := elem8) (h0 := h0) (h1 := h1) (h2 := h2), size8]
  simp [Result.andThen, sliced, cutA]
theorem sl8_all {A : Option Addr} {n c : Nat} (w : World) : (sl8 (.slice A n c) none none none).run Tryd.prog w = .ok (.slice A n c) w := by
  unfold sl8
  rw [run_sliceAt_slice (h := elem8), run_slice_all (ht := elem8), size8]
  have e : (if c = 0 then A else A.map (·.add (0 * 1))) = A := by
    split
    · rfl
    · cases A <;> simp [Addr.add]
  simp only [Result.andThen, sliced, e, Nat.sub_zero]
/-- A copy into a block that is known whole. -/
theorem run_copy_blk {P : Program} {w : World} (dT sT ty : TypeId) (elem : TypeId) (hu : P.underlying dT = some (.slice elem)) (hsz : (P.info? elem).map (·.size) = some 1)
    (g off dLen dCap : Nat) (ad : Addr) (sLen sCap : Nat) (cur : List Value) (t : TypeId) (hg : Blk w g t cur) (cs : List Value) (hn : cs.length = Nat.min sLen dLen)
    (hsrc : ∀ j v, cs[j]? = some v → w.cell? (ad.add j) = some v) (hfit : off + cs.length ≤ cur.length) (h1 : ∀ v ∈ cs, v.oneCell' = true) :
    ∃ w', (Builtin.copy_ #[dT, sT] ty #[.slice (some ⟨g, off, none⟩) dLen dCap, .slice (some ad) sLen sCap]).run P w = .ok (.int .i64 (cs.length : Int)) w' ∧ Blk w' g t (splice cur off cs) ∧ w.grownBy w' (some g) := by
  have h := run_copy_row (P := P) w dT sT ty elem g off dLen dCap ad sLen sCap cur.toArray t cs hu hsz hg hn hsrc (by simpa using hfit) h1
  have e : (cur.toArray.toList.take off ++ cs ++ cur.toArray.toList.drop (off + cs.length)).toArray = (splice cur off cs).toArray := by simp [splice]
  rw [e] at h
  exact ⟨_, h, setRow_heap w g _ (splice cur off cs).toArray t _ hg, ⟨rfl, rfl, rfl, by simp [World.setRow], fun k _ hne => setRow_other w g k _ (fun e => hne (by rw [e]))⟩⟩
end Go.Proofs.YthpnebmolaaapaaDoor.chunks
