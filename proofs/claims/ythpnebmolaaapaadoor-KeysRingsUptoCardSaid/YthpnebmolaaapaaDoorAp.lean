/- Rows of structs that the call owns: append, reading back. No condition. -/
import Derived.Test.YthpnebmolaaapaaDoorBk
import Derived.Deep.RegionHeld3
import Derived.Maps.AppendAt
namespace Go.Proofs.YthpnebmolaaapaaDoor.chunks
open Go.RowKit eqv
theorem flat_at {s j : Nat} {u : Value} : ∀ {L : List (List Value)}, (∀ x ∈ L, x.length = s) → L.flatten[j]? = some u → ∃ k i, k < L.length ∧ j = k * s + i ∧ (ch L k)[i]? = some u := by
  intro L
  induction L generalizing j with
  | nil => intro _ h; simp at h
  | cons x L ih =>
    intro hL h
    have hx := hL x List.mem_cons_self
    rw [List.flatten_cons] at h
    by_cases hj : j < s
    · rw [List.getElem?_append_left (by omega)] at h
      exact ⟨0, j, by simp, by omega, by simpa [ch] using h⟩
    · rw [List.getElem?_append_right (by omega), hx] at h
      obtain ⟨k, i, hk, e, hc⟩ := ih (fun y hy => hL y (List.mem_cons_of_mem _ hy)) h
      exact ⟨k + 1, i, by simpa using hk, by rw [Nat.succ_mul]; omega, by simpa [ch] using hc⟩
/-- A row's cells, chunk by chunk. -/
theorem Sl.flat {w : World} {ad : Addr} {s : Nat} {X : List (List Value)} (h : Sl w (some ad) s X) : ∀ j u, X.flatten[j]? = some u → w.cell? (ad.add j) = some u := by
  intro j u hu
  obtain ⟨k, i, hk, rfl, hc⟩ := flat_at h.1 hu
  obtain ⟨ad', e, hr⟩ := h.2 (by omega)
  cases e
  rw [← add_add]
  exact hr k hk i u hc
theorem flat_one {X : List (List Value)} (h : ∀ x ∈ X, ∀ v ∈ x, v.oneCell' = true) : ∀ u ∈ X.flatten, u.oneCell' = true := fun u hu => by
  obtain ⟨x, hx, hux⟩ := List.mem_flatten.1 hu
  exact h x hx u hux
/-- 'append' of a whole slice onto a row that the call owns. -/
theorem run_app {P : Program} {w : World} (t ty : TypeId) (base : Nat) (e : TypeId) (i : TypeInfo) (z : Value) (size : Nat) (ht : P.underlying t = some (.slice e)) (hi : P.info? e = some i ∧ i.zero = some z ∧ i.size = size ∧ i.bytes ≤ 1000)
    (hzs : z.cells.size = size) (hsz : 0 < size) {v : Value} {n : Nat} {xs : List Value} (hown : w.ownsRow base e size v n xs) {A : Option Addr} {X : List (List Value)} {c : Nat} (hA : Sl w A size X) (hn : A = none → X = [] ∧ c = 0)
    (h1 : ∀ x ∈ X, ∀ v ∈ x, v.oneCell' = true) (hm : X.length ≤ 1048576) (hn' : n ≤ 1048577) (hbase : base ≤ w.heap.size) :
    ∃ A1 c1 w', (Builtin.append_ #[t, t] ty #[v, .slice A X.length c]).run P w = .ok (.slice A1 (n + X.length) c1) w' ∧ w'.ownsRow base e size (.slice A1 (n + X.length) c1) (n + X.length) (xs ++ X.flatten) ∧ w.grownBy w' v.ownBlock ∧
      ((Value.slice A1 (n + X.length) c1).ownBlock = v.ownBlock ∨ (Value.slice A1 (n + X.length) c1).ownBlock = some w.heap.size) := by
  obtain ⟨hi, hz, hsize, hby⟩ := hi
  rcases A with _ | ad
  · obtain ⟨rfl, rfl⟩ := hn rfl
    obtain ⟨A1, c1, rfl, _, _⟩ := own_slice hown
    exact ⟨A1, c1, w, run_append_owned_none w base t ty e i size ht hi _ n xs hown, by simpa using hown, World.grownBy.refl w _, .inl rfl⟩
  · obtain ⟨v', w', hr, h2, h3, _, h5⟩ := run_append_own_at (P := P) w base t ty e i z size i.bytes ht hi hz hsize rfl hzs hsz v n xs hown ad X.length c X.flatten (flat_len hA.1) hA.flat (flat_one h1) (by simp only [maxLen]; omega) (by
        calc (n + X.length) * i.bytes ≤ 2097153 * 1000 := Nat.mul_le_mul (by omega) hby
          _ ≤ _ := by decide) hbase
    obtain ⟨A1, c1, rfl, _, _⟩ := own_slice h2
    exact ⟨A1, c1, w', hr, h2, h3, h5⟩
theorem wp_app {P : Program} {w : World} {o : Oper} {a : Act} {K : Act → World → Prop} {Q : Exit → Act → World → Prop} (s x : Operand) (t : TypeId)
    (ho : o.op = .call { callee := .builtin .append, args := #[s, x], argTypes := #[t, t] }) (base : Nat) (e : TypeId) (i : TypeInfo) (z : Value) (size : Nat) (ht : P.underlying t = some (.slice e)) (hi : P.info? e = some i ∧ i.zero = some z ∧ i.size = size ∧ i.bytes ≤ 1000)
    (hzs : z.cells.size = size) (hsz : 0 < size) {v : Value} {n : Nat} {xs : List Value} (hs : a.eval s = v) (hown : w.ownsRow base e size v n xs) {A : Option Addr} {X : List (List Value)} {c : Nat} (hx : a.eval x = .slice A X.length c) (hA : Sl w A size X) (hn : A = none → X = [] ∧ c = 0)
    (h1 : ∀ x ∈ X, ∀ v ∈ x, v.oneCell' = true) (hm : X.length ≤ 1048576) (hn' : n ≤ 1048577) (hbase : base ≤ w.heap.size)
    (h : ∀ A1 c1 w', w'.ownsRow base e size (.slice A1 (n + X.length) c1) (n + X.length) (xs ++ X.flatten) → w.grownBy w' v.ownBlock →
      ((Value.slice A1 (n + X.length) c1).ownBlock = v.ownBlock ∨ (Value.slice A1 (n + X.length) c1).ownBlock = some w.heap.size) → K (a.put o.dst (.slice A1 (n + X.length) c1)) w') : o.wp P a w K Q := by
  obtain ⟨A1, c1, w', hr, h2, h3, h4⟩ := run_app (P := P) t o.type base e i z size ht hi hzs hsz hown hA hn h1 hm hn' hbase
  unfold Oper.wp execOp
  simp only [ho, resolve, invoke, builtin, Sem.run_bind, Sem.run_pure, Result.andThen_ok, List.map_toArray, List.map_cons, List.map_nil, hs, hx, hr]
  exact h A1 c1 w' h2 h3 h4
theorem step_app {P : Program} {w : World} {ops : Array Oper} {o : Oper} {a : Act} {K : Act → World → Prop} {Q : Exit → Act → World → Prop} {E' : Prop} (hgd : o.guard = none) (s x : Operand) (t : TypeId)
    (ho : o.op = .call { callee := .builtin .append, args := #[s, x], argTypes := #[t, t] }) (base : Nat) (e : TypeId) (i : TypeInfo) (z : Value) (size : Nat) (ht : P.underlying t = some (.slice e)) (hi : P.info? e = some i ∧ i.zero = some z ∧ i.size = size ∧ i.bytes ≤ 1000)
    (hzs : z.cells.size = size) (hsz : 0 < size) {v : Value} {n : Nat} {xs : List Value} (hs : a.eval s = v) (hown : w.ownsRow base e size v n xs) {A : Option Addr} {X : List (List Value)} {c : Nat} (hx : a.eval x = .slice A X.length c) (hA : Sl w A size X) (hn : A = none → X = [] ∧ c = 0)
    (h1 : ∀ x ∈ X, ∀ v ∈ x, v.oneCell' = true) (hm : X.length ≤ 1048576) (hn' : n ≤ 1048577) (hbase : base ≤ w.heap.size)
    (h : ∀ A1 c1 w', w'.ownsRow base e size (.slice A1 (n + X.length) c1) (n + X.length) (xs ++ X.flatten) → w.grownBy w' v.ownBlock →
      ((Value.slice A1 (n + X.length) c1).ownBlock = v.ownBlock ∨ (Value.slice A1 (n + X.length) c1).ownBlock = some w.heap.size) → K (a.put o.dst (.slice A1 (n + X.length) c1)) w') :
    if Region.wanted o (yielded ops a.tmps) = true then Oper.wp P o a w K Q else E' := by
  have hw : Region.wanted o (yielded ops a.tmps) = true := by simp [Region.wanted, hgd]
  rw [if_pos hw]
  exact wp_app s x t ho base e i z size ht hi hzs hsz hs hown hx hA hn h1 hm hn' hbase h
theorem sl_of_flat {w : World} {ad : Addr} {s : Nat} {L : List (List Value)} (hL : ∀ x ∈ L, x.length = s) (h : ∀ j u, L.flatten[j]? = some u → w.cell? (ad.add j) = some u) : Sl w (some ad) s L := by
  refine ⟨hL, fun _ => ⟨_, rfl, fun k hk j u hu => ?_⟩⟩
  rw [add_add]
  apply h
  clear h
  have hj : j < s := by rw [← ch_length hL hk]; exact (List.getElem?_eq_some_iff.1 hu).1
  induction L generalizing k with
  | nil => simp at hk
  | cons x L ih =>
    have hx := hL x (List.mem_cons_self)
    cases k with
    | zero =>
      rw [List.flatten_cons, List.getElem?_append_left (by omega)]
      simpa [ch] using hu
    | succ k =>
      rw [List.flatten_cons, List.getElem?_append_right (by rw [hx, Nat.succ_mul]; omega)]
      have e : (k + 1) * s + j - x.length = k * s + j := by rw [hx, Nat.succ_mul]; omega
      rw [e]
      exact ih (fun y hy => hL y (List.mem_cons_of_mem _ hy)) (by simp at hk; omega) k (by simpa using hk) (by simpa [ch] using hu)
theorem sl_of_own {w : World} {base e s c : Nat} {A : Option Addr} {L : List (List Value)} (h : w.ownsRow base e s (.slice A L.length c) L.length L.flatten) (hL : ∀ x ∈ L, x.length = s) : Sl w A s L := by
  rcases Nat.eq_zero_or_pos L.length with h0 | h0
  · exact ⟨hL, fun hn => by omega⟩
  · obtain ⟨g, cap, e, _, _⟩ := h.form h0
    cases e
    exact sl_of_flat hL (h.cells rfl)
theorem own_cap {w : World} {base e s n c : Nat} {A : Option Addr} {xs : List Value} (h : w.ownsRow base e s (.slice A n c) n xs) : (n : Int) ≤ (c : Int) := by
  rcases h.2 with ⟨h1, h2⟩ | ⟨g, cap, cur, h1, _, _, hc, _⟩
  · omega
  · cases h1; omega
end Go.Proofs.YthpnebmolaaapaaDoor.chunks
