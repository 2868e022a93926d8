import Derived.Test.YthpnebmolaaapaaU4
import Derived.StillTailTactics
namespace Go.Proofs.Ythpnebmolaaapaa.upd
open Go.RowKit eqv chunks
theorem run_store_float {P : Program} {w : World} {a : Addr} {m : Mode} (k : FloatKind) (n : Nat) : (store a (.float k n) m).run P w = stored P w a (.float k n) m := run_store P w a _ m rfl
attribute [local go_sem] run_store_float
/-! ### An edit's cells -/
noncomputable def tsE : List TypeId := (leafs Try.prog 9 44).getD []
theorem leafsE : leafs Try.prog 9 44 = some tsE := by kernel_rfl
theorem tsE_length : tsE.length = 111 := by kernel_rfl
theorem leqs_set {x y z : Value} (hz : leq z z = true) : ∀ {xs ys : List Value} {i : Nat}, xs[i]? = some x → ys[i]? = some y → leqs xs ys = (leq x y && leqs (xs.set i z) (ys.set i z))
  | [], _, i, h, _ => by simp at h
  | _ :: _, [], i, _, h => by simp at h
  | a :: xs, b :: ys, 0, h, h' => by
    simp only [List.getElem?_cons_zero, Option.some.injEq] at h h'
    subst h h'
    simp [leqs, hz]
  | a :: xs, b :: ys, i + 1, h, h' => by
    simp only [List.getElem?_cons_succ] at h h'
    simp only [leqs, List.set_cons_succ, leqs_set hz h h']
    cases leq a b <;> cases leq x y <;> simp
theorem leafsOk_set {P : Program} {v : Value} {t : TypeId} (hv : leafOk P t v = true) : ∀ {ts : List TypeId} {xs : List Value} {i : Nat}, leafsOk P ts xs = true → ts[i]? = some t → leafsOk P ts (xs.set i v) = true
  | [], _, i, _, h => by simp at h
  | _ :: _, [], i, h, _ => by simp [leafsOk] at h
  | a :: ts, b :: xs, 0, h, h' => by
    simp only [List.getElem?_cons_zero, Option.some.injEq] at h'
    subst h'
    simp only [leafsOk, Bool.and_eq_true] at h
    simp [leafsOk, hv, h.2]
  | a :: ts, b :: xs, i + 1, h, h' => by
    simp only [leafsOk, Bool.and_eq_true] at h
    simp only [List.getElem?_cons_succ] at h'
    simp [leafsOk, h.1, leafsOk_set hv h.2 h']
theorem leafsOk_at {P : Program} {t : TypeId} : ∀ {ts : List TypeId} {xs : List Value} {i : Nat}, leafsOk P ts xs = true → ts[i]? = some t → ∃ v, xs[i]? = some v ∧ leafOk P t v = true
  | [], _, i, _, h => by simp at h
  | _ :: _, [], i, h, _ => by simp [leafsOk] at h
  | a :: ts, b :: xs, 0, h, h' => by
    simp only [List.getElem?_cons_zero, Option.some.injEq] at h'
    subst h'
    simp only [leafsOk, Bool.and_eq_true] at h
    exact ⟨b, rfl, h.1⟩
  | a :: ts, b :: xs, i + 1, h, h' => by
    simp only [leafsOk, Bool.and_eq_true] at h
    simpa using leafsOk_at h.2 (by simpa using h')
theorem leaf_int {P : Program} {t : TypeId} {k : IntKind} {v : Value} (hu : P.underlying t = some (.int k)) (h : leafOk P t v = true) : ∃ n, v = .int k n := by
  unfold leafOk at h
  rw [hu] at h
  cases v <;> first | (simp at h; done) | skip
  simp only [decide_eq_true_eq] at h
  subst h
  exact ⟨_, rfl⟩
theorem leaf_float {P : Program} {t : TypeId} {k : FloatKind} {v : Value} (hu : P.underlying t = some (.float k)) (h : leafOk P t v = true) : ∃ n, v = .float k n := by
  unfold leafOk at h
  rw [hu] at h
  cases v <;> first | (simp at h; done) | skip
  simp only [decide_eq_true_eq] at h
  subst h
  exact ⟨_, rfl⟩
theorem leaf_string {P : Program} {t : TypeId} {v : Value} (hu : P.underlying t = some .string) (h : leafOk P t v = true) : ∃ n, v = .string n := by
  unfold leafOk at h
  rw [hu] at h
  cases v <;> first | (simp at h; done) | skip
  exact ⟨_, rfl⟩
theorem edit_at {xs : List Value} (h : leafsOk Try.prog tsE xs = true) : xs.length = 111 ∧ ∃ k n f s, xs[105]? = some (.int .u8 k) ∧ xs[106]? = some (.int .i64 n) ∧ xs[107]? = some (.float .f64 f) ∧ xs[108]? = some (.string s) := by
  refine ⟨(leafsOk_length h).trans tsE_length, ?_⟩
  obtain ⟨v1, h1, l1⟩ := leafsOk_at (i := 105) h (show tsE[105]? = some 39 by kernel_rfl)
  obtain ⟨v2, h2, l2⟩ := leafsOk_at (i := 106) h (show tsE[106]? = some 2 by kernel_rfl)
  obtain ⟨v3, h3, l3⟩ := leafsOk_at (i := 107) h (show tsE[107]? = some 40 by kernel_rfl)
  obtain ⟨v4, h4, l4⟩ := leafsOk_at (i := 108) h (show tsE[108]? = some 9 by kernel_rfl)
  obtain ⟨k, rfl⟩ := leaf_int Try.underlying39 l1
  obtain ⟨n, rfl⟩ := leaf_int Try.underlying2 l2
  obtain ⟨f, rfl⟩ := leaf_float Try.underlying40 l3
  obtain ⟨s, rfl⟩ := leaf_string Try.underlying9 l4
  exact ⟨k, n, f, s, h1, h2, h3, h4⟩
theorem _root_.Go.Proofs.Ythpnebmolaaapaa.chunks.Blk.setCell {w : World} {g o : Nat} {t : TypeId} {cs : List Value} {v : Value} (h : Blk w g t cs) : Blk (w.setCell ⟨g, o, none⟩ v) g t (cs.set o v) := by
  unfold Blk at h ⊢
  simp [World.setCell, Array.getElem?_modify, h]
theorem _root_.Go.Proofs.Ythpnebmolaaapaa.chunks.Blk.setCell_other {w : World} {g g' o : Nat} {t : TypeId} {cs : List Value} {v : Value} (h : Blk w g t cs) (hne : g' ≠ g) : Blk (w.setCell ⟨g', o, none⟩ v) g t cs := by
  unfold Blk at h ⊢
  simp [World.setCell, Array.getElem?_modify, h, hne]
theorem _root_.Go.Proofs.Ythpnebmolaaapaa.chunks.Blk.frozen {w : World} {g : Nat} {t : TypeId} {cs : List Value} (h : Blk w g t cs) (o : Nat) : w.frozen? ⟨g, o, none⟩ = false := by
  unfold Blk at h
  simp [World.frozen?, h]
theorem _root_.Go.Proofs.Ythpnebmolaaapaa.chunks.Blk.all {w : World} {g : Nat} {t : TypeId} {cs : List Value} (h : Blk w g t cs) : okAt w ⟨g, 0, none⟩ cs.length ∧ cellsAt w ⟨g, 0, none⟩ cs.length = cs :=
  at_of fun j u hu => by rw [add_zero_lit, h.cell]; exact hu
end Go.Proofs.Ythpnebmolaaapaa.upd
