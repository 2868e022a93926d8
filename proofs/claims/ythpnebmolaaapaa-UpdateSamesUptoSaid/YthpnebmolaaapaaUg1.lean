import Derived.Test.YthpnebmolaaapaaUg0
namespace Go.Proofs.Ythpnebmolaaapaa.upd
open Go.RowKit eqv chunks
theorem own_type {w : World} {base e s n g : Nat} {v : Value} {xs : List Value} (h : w.ownsRow base e s v n xs) (hg : v.ownBlock = some g) : ∃ cur, w.heap[g]? = some (.cells cur e (0, 0)) := by
  rcases h.2 with ⟨rfl, _⟩ | ⟨g', cap, cur, rfl, _, hh, _⟩
  · cases hg
  · cases hg
    exact ⟨cur, hh⟩
theorem own_ne {w : World} {base base' e e' s s' n n' g : Nat} {v v' : Value} {xs xs' : List Value} (h : w.ownsRow base e s v n xs) (h' : w.ownsRow base' e' s' v' n' xs') (hne : e ≠ e') (hg : v.ownBlock = some g) : v'.ownBlock ≠ some g := fun hg' => by
  obtain ⟨cur, h1⟩ := own_type h hg
  obtain ⟨cur', h2⟩ := own_type h' hg'
  rw [h1] at h2
  cases h2
  exact hne rfl
theorem own_ne_blk {w : World} {base e s n g t : Nat} {v : Value} {xs cs : List Value} (h : w.ownsRow base e s v n xs) (hb : Blk w g t cs) (hne : e ≠ t) : v.ownBlock ≠ some g := fun hg => by
  obtain ⟨cur, h1⟩ := own_type h hg
  unfold Blk at hb
  rw [h1] at hb
  cases hb
  exact hne rfl
theorem blk_grown {w w' : World} {g t : Nat} {cs : List Value} {row : Option Nat} (h : Blk w g t cs) (hg : w.grownBy w' row) (hne : row ≠ some g) : Blk w' g t cs := (hg.block g h.lt (fun e => hne e.symm)).trans h
/-- The law's world while the copy is written over. -/
structure Inv (V : World) (g : Nat) (cs : List Value) (A1 : Option Addr) (c1 n : Nat) (A2 : Option Addr) (c2 m : Nat) (j : Nat) (wr : World) : Prop where
  bel : Below V.heap.size V wr
  blk : Blk wr g 30 cs
  row : ∃ xs, wr.ownsRow V.heap.size 34 32 (.slice A1 n c1) n xs ∧ ∀ k, k < n → ∃ z, xs[k * 32]? = some (.int .u8 z)
  rowE : ∃ ys, wr.ownsRow V.heap.size 44 111 (.slice A2 m c2) m ys ∧ ∀ k, j ≤ k → k < m → ∃ s, ys[k * 111 + 103]? = some (.string s) ∧ s.size ≤ 1048576
variable {V wr : World} {g c1 c2 n m j : Nat} {cs : List Value} {A1 A2 : Option Addr}
theorem Inv.drew (h : Inv V g cs A1 c1 n A2 c2 m j wr) : Inv V g cs A1 c1 n A2 c2 m j wr.drew := ⟨h.bel.drew, h.blk, h.row, h.rowE⟩
theorem Inv.at34 (h : Inv V g cs A1 c1 n A2 c2 m j wr) {k : Nat} (hk : k < n) : ∃ a, A1 = some ⟨a, 0, none⟩ ∧ ∃ z, wr.cell? ⟨a, k * 32, none⟩ = some (.int .u8 z) ∧ wr.frozen? ⟨a, k * 32, none⟩ = false ∧
    ∀ z', Inv V g cs A1 c1 n A2 c2 m j (wr.setCell ⟨a, k * 32, none⟩ (.int .u8 z')) := by
  obtain ⟨xs, ho, hx⟩ := h.row
  obtain ⟨ys, ho', hy⟩ := h.rowE
  obtain ⟨a, cap, e, hb, hlt⟩ := ho.form (by omega)
  cases e
  obtain ⟨z, hz⟩ := hx k hk
  have hl := (List.getElem?_eq_some_iff.1 hz).1
  refine ⟨a, rfl, z, ?_, ho.frozenAt _, fun z' => ?_⟩
  · rw [ho.cellAt _ (by rw [← ho.1]; exact hl)]
    exact hz
  · obtain ⟨h1, h2⟩ := ho.stored (k * 32) (.int .u8 z')
    refine ⟨h.bel.setCell hb _, blk_grown h.blk h2 (fun e => own_ne_blk ho h.blk (by decide) e), ⟨_, h1, fun j hj => ?_⟩, ys, ho'.kept h2 (.inr fun e => own_ne ho ho' (by decide) rfl e), hy⟩
    rcases Nat.decEq j k with hne | rfl
    · rw [List.getElem?_set_ne (by omega)]
      exact hx j hj
    · exact ⟨z', by rw [List.getElem?_set_self hl]⟩
theorem Inv.at44 (h : Inv V g cs A1 c1 n A2 c2 m j wr) (hk : j < m) : ∃ a, A2 = some ⟨a, 0, none⟩ ∧ ∃ s, wr.cell? ⟨a, j * 111 + 103, none⟩ = some (.string s) ∧ s.size ≤ 1048576 ∧ wr.frozen? ⟨a, j * 111 + 103, none⟩ = false ∧
    ∀ s', Inv V g cs A1 c1 n A2 c2 m (j + 1) (wr.setCell ⟨a, j * 111 + 103, none⟩ (.string s')) := by
  obtain ⟨xs, ho', hx⟩ := h.row
  obtain ⟨ys, ho, hy⟩ := h.rowE
  obtain ⟨a, cap, e, hb, hlt⟩ := ho.form (by omega)
  cases e
  obtain ⟨z, hz, hsz⟩ := hy j (Nat.le_refl _) hk
  have hl := (List.getElem?_eq_some_iff.1 hz).1
  refine ⟨a, rfl, z, ?_, hsz, ho.frozenAt _, fun z' => ?_⟩
  · rw [ho.cellAt _ (by rw [← ho.1]; exact hl)]
    exact hz
  · obtain ⟨h1, h2⟩ := ho.stored (j * 111 + 103) (.string z')
    refine ⟨h.bel.setCell hb _, blk_grown h.blk h2 (fun e => own_ne_blk ho h.blk (by decide) e), ⟨xs, ho'.kept h2 (.inr fun e => own_ne ho ho' (by decide) rfl e), hx⟩, ⟨_, h1, fun k hk1 hk2 => ?_⟩⟩
    rw [List.getElem?_set_ne (by omega)]
    exact hy k (by omega) hk2
theorem flat_get {s i : Nat} {v : Value} : ∀ {L : List (List Value)} {k : Nat}, (∀ x ∈ L, x.length = s) → k < L.length → (ch L k)[i]? = some v → L.flatten[k * s + i]? = some v
  | [], k, _, hk, _ => by simp at hk
  | x :: L, 0, hL, _, h => by
    have hx : x[i]? = some v := by simpa [ch] using h
    rw [List.flatten_cons, List.getElem?_append_left (by rw [Nat.zero_mul, Nat.zero_add]; exact (List.getElem?_eq_some_iff.1 hx).1)]
    simpa using hx
  | x :: L, k + 1, hL, hk, h => by
    have hx := hL x List.mem_cons_self
    rw [List.flatten_cons, List.getElem?_append_right (by rw [hx, Nat.succ_mul]; omega)]
    have e : (k + 1) * s + i - x.length = k * s + i := by rw [hx, Nat.succ_mul]; omega
    rw [e]
    exact flat_get (fun y hy => hL y (List.mem_cons_of_mem _ hy)) (by simpa using hk) (by simpa [ch] using h)
theorem leaf_at0 {xs : List Value} (h : leafsOk Try.prog tsH xs = true) : ∃ z, xs[0]? = some (.int .u8 z) := by
  obtain ⟨v, h1, l1⟩ := leafsOk_at (i := 0) h (show tsH[0]? = some 5 by kernel_rfl)
  obtain ⟨z, rfl⟩ := leaf_int Try.underlying5 l1
  exact ⟨z, h1⟩
theorem leaf_at103 {xs : List Value} (h : leafsOk Try.prog tsE xs = true) : ∃ z, xs[103]? = some (.string z) := by
  obtain ⟨v, h1, l1⟩ := leafsOk_at (i := 103) h (show tsE[103]? = some 9 by kernel_rfl)
  obtain ⟨z, rfl⟩ := leaf_string Try.underlying9 l1
  exact ⟨z, h1⟩
theorem Inv.start {u : Upd} {w W : World} (hu : u.In w) (hK : ∀ y ∈ u.Y, ∀ s, y[103]? = some (.string s) → s.size ≤ 1048576) (hb : Below V.heap.size V W) (hblk : Blk W g 30 cs) (h1 : W.ownsRow V.heap.size 34 32 (.slice A1 u.X.length c1) u.X.length u.X.flatten)
    (h2 : W.ownsRow V.heap.size 44 111 (.slice A2 u.Y.length c2) u.Y.length u.Y.flatten) : Inv V g cs A1 c1 u.X.length A2 c2 u.Y.length 0 W := by
  refine ⟨hb, hblk, ⟨_, h1, fun k hk => ?_⟩, ⟨_, h2, fun k _ hk => ?_⟩⟩
  · obtain ⟨z, hz⟩ := leaf_at0 (hu.hX _ (ch_mem hk))
    have h := flat_get (s := 32) hu.hA.1 hk hz
    rw [Nat.add_zero] at h
    exact ⟨z, h⟩
  · obtain ⟨z, hz⟩ := leaf_at103 (hu.hY _ (ch_mem hk))
    have h := flat_get (s := 111) hu.hE.1 hk hz
    exact ⟨z, h, hK _ (ch_mem hk) _ hz⟩
theorem wpList_app2 {P : Program} {w : World} {ops : Array Oper} {rest : List Oper} {o : Oper} {a : Act} {Q : Exit → Act → World → Prop} (hgd : o.guard = none) (s x : Operand) (t : TypeId)
    (ho : o.op = .call { callee := .builtin .append, args := #[s, x], argTypes := #[t, t] }) (base : Nat) (e : TypeId) (i : TypeInfo) (z : Value) (size : Nat) (ht : P.underlying t = some (.slice e)) (hi : P.info? e = some i ∧ i.zero = some z ∧ i.size = size ∧ i.bytes ≤ 1000)
    (hzs : z.cells.size = size) (hsz : 0 < size) {v : Value} {n : Nat} {xs : List Value} (hs : a.eval s = v) (hown : w.ownsRow base e size v n xs) {A : Option Addr} {X : List (List Value)} {c : Nat} (hx : a.eval x = .slice A X.length c) (hA : Sl w A size X) (hn : A = none → X = [] ∧ c = 0)
    (h1 : ∀ x ∈ X, ∀ v ∈ x, v.oneCell' = true) (hm : X.length ≤ 1048576) (hn' : n ≤ 1048577) (hbase : base ≤ w.heap.size)
    (h : ∀ A1 c1 w', w'.ownsRow base e size (.slice A1 (n + X.length) c1) (n + X.length) (xs ++ X.flatten) → w.grownBy w' v.ownBlock →
      ((Value.slice A1 (n + X.length) c1).ownBlock = v.ownBlock ∨ (Value.slice A1 (n + X.length) c1).ownBlock = some w.heap.size) → wpList P ops Q rest (a.put o.dst (.slice A1 (n + X.length) c1)) w') : wpList P ops Q (o :: rest) a w :=
  wpList_plain hgd fun _ hK => wp_app s x t ho base e i z size ht hi hzs hsz hs hown hx hA hn h1 hm hn' hbase fun A1 c1 w' h2 h3 h4 => hK _ _ (h A1 c1 w' h2 h3 h4)
theorem wpList_one {P : Program} {w V : World} {ops : Array Oper} {rest : List Oper} {o : Oper} {a : Act} {Q : Exit → Act → World → Prop} (hgd : o.guard = none) (s x : Operand) (t : TypeId)
    (ho : o.op = .call { callee := .builtin .append, args := #[s, x], argTypes := #[t, t] }) (base : Nat) (e : TypeId) (i : TypeInfo) (z : Value) (size : Nat) (ht : P.underlying t = some (.slice e)) (hi : P.info? e = some i ∧ i.zero = some z ∧ i.size = size ∧ i.bytes ≤ 1000)
    (hzs : z.cells.size = size) (hs0 : 0 < size) {v : Value} {n : Nat} {xs zs : List Value} (hs : a.eval s = v) (hw : V.alloc (.cells zs.toArray e) = w) (hown : V.ownsRow base e size v n xs) (hx : a.eval x = .slice (some ⟨V.heap.size, 0, none⟩) 1 1) (hz : zs.length = size)
    (h1 : ∀ v ∈ zs, v.oneCell' = true) (hn' : n ≤ 1048577) (hbase : base ≤ V.heap.size)
    (h : ∀ A1 c1 w', w'.ownsRow base e size (.slice A1 (n + 1) c1) (n + 1) (xs ++ zs) → V.grownBy w' v.ownBlock → wpList P ops Q rest (a.put o.dst (.slice A1 (n + 1) c1)) w') : wpList P ops Q (o :: rest) a w := by
  subst hw
  refine wpList_app2 (X := [zs]) (c := 1) hgd s x t ho base e i z size ht hi hzs hs0 hs (hown.alloc _) hx ?_ (fun h => by cases h) ?_ (by simp) hn' (by rw [hsz]; omega) ?_
  · exact Blk.sl (rest := []) (t := e) (by simpa using Blk.new V e zs) (by intro x hx; simp at hx; subst hx; exact hz)
  · intro x hx v hv
    simp at hx
    subst hx
    exact h1 v hv
  · intro A1 c1 w' h2 h3 _
    refine h A1 c1 w' (by simpa using h2) ⟨h3.os, h3.tape, h3.output, by have := h3.size; rw [hsz] at this; omega, fun k hk hne => (h3.block k (by rw [hsz]; omega) hne).trans (Below.heap_alloc _ _ _ hk)⟩
def zH : List Value := List.replicate 32 (.int .u8 0)
def bldH (parts : Array (Nat × Value)) : Sem Value := Instr.build 34 parts
theorem toBldH (parts : Array (Nat × Value)) : Instr.build 34 parts = bldH parts := rfl
theorem build34 (w : World) : (bldH #[]).run Try.prog w = .ok (.agg zH.toArray) w := run_build w 34 #[] _ (by kernel_rfl)
def blsH (n : Nat) (parts : Array (Nat × Value)) : Sem Value := Instr.buildSlice 27 n parts
theorem toBlsH (n : Nat) (parts : Array (Nat × Value)) : Instr.buildSlice 27 n parts = blsH n parts := rfl
theorem blsH1 (w : World) : (blsH 1 #[(0, .agg zH.toArray)]).run Try.prog w = .ok (.slice (some ⟨w.heap.size, 0, none⟩) 1 1) (w.alloc (.cells zH.toArray 34)) := by kernel_rfl
theorem build44z (w : World) : (bld #[]).run Try.prog w = .ok (.agg zE.toArray) w := run_build w 44 #[] _ (by kernel_rfl)
theorem bls1z (w : World) : (bls 1 #[(0, .agg zE.toArray)]).run Try.prog w = .ok (.slice (some ⟨w.heap.size, 0, none⟩) 1 1) (w.alloc (.cells zE.toArray 44)) := by kernel_rfl
theorem zH_one : ∀ v ∈ zH, v.oneCell' = true := List.all_eq_true.1 (show zH.all (fun v => v.oneCell') = true by kernel_rfl)
theorem zE_one : ∀ v ∈ zE, v.oneCell' = true := List.all_eq_true.1 (show zE.all (fun v => v.oneCell') = true by kernel_rfl)
/-- Behind the first append. -/
theorem Inv.app34 (h : Inv V g cs A1 c1 n A2 c2 m j wr) {w' : World} (hg : wr.grownBy w' (Value.slice A1 n c1).ownBlock) (hgB : V.heap.size ≤ g) (u : Value) :
    Below V.heap.size V (w'.setCell ⟨g, 0, none⟩ u) ∧ Blk w' g 30 cs ∧ Blk (w'.setCell ⟨g, 0, none⟩ u) g 30 (cs.set 0 u) ∧ ∃ ys, (w'.setCell ⟨g, 0, none⟩ u).ownsRow V.heap.size 44 111 (.slice A2 m c2) m ys := by
  obtain ⟨xs, ho, _⟩ := h.row
  obtain ⟨ys, ho', _⟩ := h.rowE
  have hb : Below V.heap.size V w' := h.bel.grown hg h.bel.size (fun k e => (ho.lt k e).1)
  have hk : Blk w' g 30 cs := blk_grown h.blk hg (own_ne_blk ho h.blk (by decide))
  have ho2 : w'.ownsRow V.heap.size 44 111 (.slice A2 m c2) m ys := ho'.kept hg (by
    cases hA : (Value.slice A1 n c1).ownBlock with
    | none =>
      cases hB : (Value.slice A2 m c2).ownBlock with
      | none => exact .inl rfl
      | some b => exact .inr (by simp)
    | some b => exact .inr (own_ne ho ho' (by decide) hA))
  refine ⟨hb.setCell hgB u, hk, hk.setCell, ys, ?_⟩
  refine ho2.kept (row := some g) ⟨rfl, rfl, rfl, by simp, fun k _ hne => heap_setCell_other w' ⟨g, 0, none⟩ k u (fun e => hne (by simp [e]))⟩ (.inr (own_ne_blk ho2 hk (by decide)))
theorem app44 {W w' : World} (hb : Below V.heap.size V W) (hk : Blk W g 30 cs) {ys : List Value} (ho : W.ownsRow V.heap.size 44 111 (.slice A2 m c2) m ys) (hg : W.grownBy w' (Value.slice A2 m c2).ownBlock) (hgB : V.heap.size ≤ g) (u : Value) :
    Below V.heap.size V (w'.setCell ⟨g, 5, none⟩ u) ∧ Blk w' g 30 cs :=
  ⟨(hb.grown hg hb.size (fun k e => (ho.lt k e).1)).setCell hgB u, blk_grown hk hg (own_ne_blk ho hk (by decide))⟩
end Go.Proofs.Ythpnebmolaaapaa.upd
