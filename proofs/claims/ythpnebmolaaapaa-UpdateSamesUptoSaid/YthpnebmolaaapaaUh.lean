import Derived.Test.YthpnebmolaaapaaUg
import Derived.Test.YthpnebmolaaapaaOpn
import Derived.Lib.SmallJoins
import Derived.WideShapes
namespace Go.Proofs.Ythpnebmolaaapaa.upd
open Go.RowKit eqv chunks opn
theorem types30 : Try.prog.cellTypes Try.prog.depth 30 = some [27, 3, 3, 2, 9, 28] := by kernel_rfl
theorem slice_lt {P : Program} {w : World} {r : Reach} {base : Nat} {t e : TypeId} {a : Addr} {n c : Nat} (hu : P.underlying t = some (.slice e)) (h : Cell.okWide P w r base t (.slice (some a) n c)) : a.block < w.heap.size := by
  simp only [Cell.okWide, hu, Cell.ok] at h
  obtain ⟨_, _, _, _, row, cells, hs, _⟩ := h
  unfold World.shape? at hs
  rcases Nat.lt_or_ge a.block w.heap.size with hlt | hge
  · exact hlt
  · rw [Array.getElem?_eq_none hge] at hs
    cases hs
theorem open_upd {H : Type} {enc : TypeId × Value → H} {W : World} {base : Nat} {v : Value} {d : DataW H} {p : List MemPlace} (hv : Value.okWide Try.prog W .any base 30 v) (h : DataW.Trod enc Try.prog W 0 (fun _ => true) true 30 v d p)
    (hb : Rows.uptoBulk d ≤ 1048576) : ∃ u : Upd, v = .agg u.cells ∧ u.In W ∧ ∀ y ∈ u.Y, ∀ s, y[103]? = some (.string s) → s.size ≤ 1048576 := by
  have hv2 := hv
  obtain ⟨cs, rfl, hsz⟩ := WideShapes.okWide_struct Try.underlying30 hv
  simp only [Value.okWide, Try.underlying30, Value.agg.injEq] at hv2
  obtain ⟨cs', rfl, _, ts, hts, _, hcell⟩ := hv2
  rw [types30] at hts
  cases hts
  obtain ⟨l⟩ := cs
  have hc6 : Try.prog.cellsOf 30 = 6 := by kernel_rfl
  match l, hsz.trans hc6 with
  | [c0, c1, c2, c3, c4, c5], _ =>
    obtain ⟨fuel, hf⟩ := h
    obtain ⟨xs, n, _, hx, _, hlen, hg⟩ := DataW.trod_struct Try.underlying30 hf
    have k27 : Try.prog.cellsOf 27 = 1 := by kernel_rfl
    have k3 : Try.prog.cellsOf 3 = 1 := by kernel_rfl
    have k2 : Try.prog.cellsOf 2 = 1 := by kernel_rfl
    have k9 : Try.prog.cellsOf 9 = 1 := by kernel_rfl
    have k28 : Try.prog.cellsOf 28 = 1 := by kernel_rfl
    match xs, hlen with
    | [y0, y1, y2, y3, y4, y5], _ =>
      simp only [Prod.mk.injEq] at hx
      have g0 : DataW.trod enc Try.prog W 0 (fun _ => true) true n 27 [c0] = some y0 := by simpa [Value.cells, k27] using hg 0 _ rfl
      have g1 : DataW.trod enc Try.prog W 0 (fun _ => true) true n 3 [c1] = some y1 := by simpa [Value.cells, k3] using hg 1 _ rfl
      have g2 : DataW.trod enc Try.prog W 0 (fun _ => true) true n 3 [c2] = some y2 := by simpa [Value.cells, k3] using hg 2 _ rfl
      have g3 : DataW.trod enc Try.prog W 0 (fun _ => true) true n 2 [c3] = some y3 := by simpa [Value.cells, k2] using hg 3 _ rfl
      have g4 : DataW.trod enc Try.prog W 0 (fun _ => true) true n 9 [c4] = some y4 := by simpa [Value.cells, k9] using hg 4 _ rfl
      have g5 : DataW.trod enc Try.prog W 0 (fun _ => true) true n 28 [c5] = some y5 := by simpa [Value.cells, k28] using hg 5 _ rfl
      obtain ⟨n1, e1, _⟩ := DataW.trod_int Try.underlying3 g1
      obtain ⟨n2, e2, _⟩ := DataW.trod_int Try.underlying3 g2
      obtain ⟨n3, e3, _⟩ := DataW.trod_int Try.underlying2 g3
      obtain ⟨s4, e4, _⟩ := DataW.trod_string Try.underlying9 g4
      obtain ⟨A, X, c, e0, hA, hX, hX1, hnA, hXl, _⟩ := open_plain Try.underlying27 leafsH (by kernel_rfl) g0
      obtain ⟨E, Y, d', e5, hE, hY, hY1, hnE, hYl, _⟩ := open_plain Try.underlying28 leafsE (by kernel_rfl) g5
      simp only [List.cons.injEq, and_true] at e0 e1 e2 e3 e4 e5
      subst e0 e1 e2 e3 e4 e5
      rw [tsE_length] at hE
      have hb0 : Rows.uptoBulk y0.1 ≤ 1048576 := by
        refine Nat.le_trans (bulks.part_le (l := [y0.1, y1.1, y2.1, y3.1, y4.1, y5.1]) (by simp)) ?_
        rw [hx.1] at hb
        simp only [Rows.uptoBulk, List.map_cons, List.map_nil] at hb
        omega
      have hb5 : Rows.uptoBulk y5.1 ≤ 1048576 := by
        refine Nat.le_trans (bulks.part_le (l := [y0.1, y1.1, y2.1, y3.1, y4.1, y5.1]) (by simp)) ?_
        rw [hx.1] at hb
        simp only [Rows.uptoBulk, List.map_cons, List.map_nil] at hb
        omega
      refine ⟨⟨A, X, c, n1, n2, n3, s4, E, Y, d'⟩, rfl, ⟨hA, hE, hX, hY, fun x hx v hv => (hX1 x hx v hv).1, fun x hx v hv => (hY1 x hx v hv).1, by simp only; omega, by simp only; omega, ?_, ?_, hnA, hnE⟩, ?_⟩
      · intro ad e
        simp only at e
        subst e
        obtain ⟨u, hu, hok⟩ := hcell 0 _ rfl
        cases hu
        exact slice_lt Try.underlying27 hok
      · intro ad e
        simp only at e
        subst e
        obtain ⟨u, hu, hok⟩ := hcell 5 _ rfl
        cases hu
        exact slice_lt Try.underlying28 hok
      · intro y hy s hs
        have := (hY1 y hy _ (List.mem_of_getElem? hs)).2.1 s rfl
        omega
end Go.Proofs.Ythpnebmolaaapaa.upd
