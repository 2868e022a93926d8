/- The program's Hasher: New. No condition. -/
import Derived.Test.YthpnebmolaaapaaDoorSha6
namespace Go.Proofs.YthpnebmolaaapaaDoor.sha
open Go.RowKit eqv chunks
/-- An array of eight lies there. -/
def Iv (w : World) (g : Nat) : Prop := g < w.heap.size ∧ okAt w ⟨g, 0, none⟩ 8 ∧ cellsAt w ⟨g, 0, none⟩ 8 = vals iv
theorem cells_keep {w w' : World} {g : Nat} (h : ∀ i, w'.cell? ⟨g, i, none⟩ = w.cell? ⟨g, i, none⟩) (k : Nat) : (okAt w' ⟨g, 0, none⟩ k ↔ okAt w ⟨g, 0, none⟩ k) ∧ cellsAt w' ⟨g, 0, none⟩ k = cellsAt w ⟨g, 0, none⟩ k := by
  have e : ∀ j, w'.cell? ((⟨g, 0, none⟩ : Addr).add j) = w.cell? ((⟨g, 0, none⟩ : Addr).add j) := fun j => by rw [add_zero_lit]; exact h j
  unfold okAt cellsAt
  exact ⟨by simp only [e], by simp only [e]⟩
theorem Iv.below {w w' : World} {g B : Nat} (h : Iv w g) (hb : Below B w w') (hg : g < B) : Iv w' g := by
  obtain ⟨h1, h2, h3⟩ := h
  have := cells_keep (w := w) (w' := w') (g := g) (fun i => hb.cell (p := ⟨g, i, none⟩) hg) 8
  exact ⟨Nat.lt_of_lt_of_le h1 hb.size, this.1.2 h2, this.2.trans h3⟩
/-- A Hasher's cells. -/
def hv (v : V8) (rest : List Int) (n : Int) : List Value := vals v ++ (u8s rest ++ [.int .i64 n])
def z64 : List Int := List.replicate 64 0
def bldS (parts : Array (Nat × Value)) : Sem Value := Instr.build 56 parts
theorem toBldS (parts : Array (Nat × Value)) : Instr.build 56 parts = bldS parts := rfl
theorem run_bldS (v : V8) (w : World) : (bldS #[(0, .agg (vals v).toArray)]).run Tryd.prog w = .ok (.agg (hv v z64 0).toArray) w := run_build w 56 _ _ (by kernel_rfl)
attribute [local go_sem ↓] toLd8 toBldS
attribute [local go_sem] ld8 run_bldS
theorem new (w : World) (hI : Iv w 1) :
    Calls Tryd.prog 11 #[] w fun e w' => e = .returned (.pointer (some ⟨w.heap.size, 0, none⟩)) ∧ HasH w' w.heap.size [] ∧ Below w.heap.size w w' ∧ w'.heap.size = w.heap.size + 1 := by
  obtain ⟨h0, h1, h2⟩ := hI
  go_enter Tryd.func11, Tryd.ntmps11
  go_wp2
  go_ret
  have hb := Blk.new w 56 (hv iv z64 0)
  refine ⟨rfl, ⟨z64, rfl, ?_, rfl⟩, (Below.refl _ _).alloc (Nat.le_refl _) _, by simp only [hsz]⟩
  rw [absorb_short iv (l := []) (by simp)]
  exact hb
end Go.Proofs.YthpnebmolaaapaaDoor.sha
