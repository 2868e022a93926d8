import Derived.Test.YthpnebmolaaapaaUd
namespace Go.Proofs.Ythpnebmolaaapaa.upd
open Go.RowKit eqv chunks
theorem leqs_refl : ∀ {xs : List Value}, (∀ v ∈ xs, leq v v = true) → leqs xs xs = true
  | [], _ => rfl
  | x :: xs, h => by
    have h2 : leqs xs xs = true := leqs_refl fun v hv => h v (List.mem_cons_of_mem _ hv)
    simp [leqs, h x List.mem_cons_self, h2]
def noFloat (P : Program) (t : TypeId) : Bool := match P.underlying t with | some (.float _) => false | _ => true
theorem leq_leaf {P : Program} {t : TypeId} {v : Value} (h : leafOk P t v = true) (hn : noFloat P t = true) : leq v v = true := by
  unfold leafOk at h
  unfold noFloat at hn
  split at h
  · simp [leq]
  · simp [leq]
  · rename_i hu
    simp [hu] at hn
  · simp [leq, beq_toListBytes]
  · cases h
theorem leafsOk_get {P : Program} : ∀ {ts : List TypeId} {xs : List Value} {i : Nat} {v : Value}, leafsOk P ts xs = true → xs[i]? = some v → ∃ t, ts[i]? = some t ∧ leafOk P t v = true
  | [], [], i, v, _, h => by simp at h
  | [], _ :: _, i, v, h, _ => by simp [leafsOk] at h
  | _ :: _, [], i, v, h, _ => by simp [leafsOk] at h
  | a :: ts, b :: xs, 0, v, h, h' => by
    simp only [List.getElem?_cons_zero, Option.some.injEq] at h'
    subst h'
    simp only [leafsOk, Bool.and_eq_true] at h
    exact ⟨a, rfl, h.1⟩
  | a :: ts, b :: xs, i + 1, v, h, h' => by
    simp only [leafsOk, Bool.and_eq_true] at h
    simpa using leafsOk_get h.2 (by simpa using h')
theorem tsH_noFloat : tsH.all (noFloat Try.prog) = true := by kernel_rfl
theorem tsE_noFloat : (tsE.set 107 5).all (noFloat Try.prog) = true := by kernel_rfl
theorem leqs_hash {xs : List Value} (h : leafsOk Try.prog tsH xs = true) : leqs xs xs = true := leqs_refl fun v hv => by
  obtain ⟨i, hi⟩ := List.getElem?_of_mem hv
  obtain ⟨t, ht, hl⟩ := leafsOk_get h hi
  exact leq_leaf hl (List.all_eq_true.1 tsH_noFloat t (List.mem_of_getElem? ht))
theorem eqE_refl {xs : List Value} (h : leafsOk Try.prog tsE xs = true) : eqE xs xs = true := by
  unfold eqE
  simp only [beq_self_eq_true, Bool.and_true]
  refine leqs_refl fun v hv => ?_
  obtain ⟨i, hi⟩ := List.getElem?_of_mem hv
  obtain ⟨t, ht, hl⟩ := leafsOk_get (noF_ok h) hi
  by_cases h7 : i = 107
  · subst h7
    unfold noF at hi
    rw [List.getElem?_set_self (by rw [(leafsOk_length h).trans tsE_length]; decide)] at hi
    simp only [Option.some.injEq] at hi
    subst hi
    kernel_rfl
  · refine leq_leaf hl (List.all_eq_true.1 tsE_noFloat t (List.mem_of_getElem? (i := i) ?_))
    rw [List.getElem?_set_ne (by omega)]
    exact ht
theorem leqL_refl {X : List (List Value)} (h : ∀ x ∈ X, leafsOk Try.prog tsH x = true) : leqL X X = true := by
  induction X with
  | nil => rfl
  | cons x X ih => simp [leqL, leqs_hash (h x (by simp)), ih fun y hy => h y (by simp [hy])]
theorem eqEL_refl {X : List (List Value)} (h : ∀ x ∈ X, leafsOk Try.prog tsE x = true) : eqEL X X = true := by
  induction X with
  | nil => rfl
  | cons x X ih => simp [eqEL, eqE_refl (h x (by simp)), ih fun y hy => h y (by simp [hy])]
theorem eqU_refl {u v : Upd} {w : World} (h : u.In w) (e : v.X = u.X ∧ v.a = u.a ∧ v.b = u.b ∧ v.m = u.m ∧ v.s = u.s ∧ v.Y = u.Y) : eqU u v = true := by
  unfold eqU
  obtain ⟨e1, e2, e3, e4, e5, e6⟩ := e
  rw [e1, e2, e3, e4, e5, e6]
  simp [leqL_refl h.hX, eqEL_refl h.hY]
end Go.Proofs.Ythpnebmolaaapaa.upd
