import Derived.Test.YthpnebmolaaapaaUc
import Derived.Deep.RegionHeld3
import Derived.Deep.AppendLies
namespace Go.Proofs.Ythpnebmolaaapaa.upd
open Go.RowKit eqv chunks
/-- 'append' of a whole slice onto a row that the call owns. -/
theorem run_app {P : Program} {w : World} (t ty : TypeId) (base : Nat) (e : TypeId) (i : TypeInfo) (z : Value) (size : Nat) (ht : P.underlying t = some (.slice e)) (hi : P.info? e = some i ∧ i.zero = some z ∧ i.size = size ∧ i.bytes ≤ 1000)
    (hzs : z.cells.size = size) (hsz : 0 < size) {v : Value} {n : Nat} {xs : List Value} (hown : w.ownsRow base e size v n xs) {A : Option Addr} {X : List (List Value)} {c : Nat} (hA : Sl w A size X) (hn : A = none → X = [] ∧ c = 0)
    (h1 : ∀ x ∈ X, ∀ v ∈ x, v.oneCell' = true) (hm : X.length ≤ 1048576) (hn' : n ≤ 1048577) (hbase : base ≤ w.heap.size) :
    ∃ A1 c1 w', (Builtin.append_ #[t, t] ty #[v, .slice A X.length c]).run P w = .ok (.slice A1 (n + X.length) c1) w' ∧ w'.ownsRow base e size (.slice A1 (n + X.length) c1) (n + X.length) (xs ++ X.flatten) ∧ w.grownBy w' v.ownBlock ∧
      ((Value.slice A1 (n + X.length) c1).ownBlock = v.ownBlock ∨ (Value.slice A1 (n + X.length) c1).ownBlock = some w.heap.size) := by
  obtain ⟨hi, hz, hsize, hby⟩ := hi
  rcases A with _ | ad
  · obtain ⟨rfl, rfl⟩ := hn rfl
    obtain ⟨A1, c1, rfl, _, _⟩ := own_slice hown
    exact ⟨A1, c1, w, run_append_owned_none w base t ty e i size ht hi _ n xs hown, by simpa using hown, World.grownBy.refl w _, .inl rfl⟩
  · obtain ⟨v', w', hr, h2, h3, _, h5⟩ := run_append_own_at (P := P) w base t ty e i z size i.bytes ht hi hz hsize rfl hzs hsz v n xs hown ad X.length c X.flatten (flat_len hA.1) hA.flat (flat_one h1) (by simp only [maxLen]; omega) (by
        calc (n + X.length) * i.bytes ≤ 2097153 * 1000 := Nat.mul_le_mul (by omega) hby
          _ ≤ _ := by decide) hbase
    obtain ⟨A1, c1, rfl, _, _⟩ := own_slice h2
    exact ⟨A1, c1, w', hr, h2, h3, h5⟩
theorem wp_app {P : Program} {w : World} {o : Oper} {a : Act} {K : Act → World → Prop} {Q : Exit → Act → World → Prop} (s x : Operand) (t : TypeId)
    (ho : o.op = .call { callee := .builtin .append, args := #[s, x], argTypes := #[t, t] }) (base : Nat) (e : TypeId) (i : TypeInfo) (z : Value) (size : Nat) (ht : P.underlying t = some (.slice e)) (hi : P.info? e = some i ∧ i.zero = some z ∧ i.size = size ∧ i.bytes ≤ 1000)
    (hzs : z.cells.size = size) (hsz : 0 < size) {v : Value} {n : Nat} {xs : List Value} (hs : a.eval s = v) (hown : w.ownsRow base e size v n xs) {A : Option Addr} {X : List (List Value)} {c : Nat} (hx : a.eval x = .slice A X.length c) (hA : Sl w A size X) (hn : A = none → X = [] ∧ c = 0)
    (h1 : ∀ x ∈ X, ∀ v ∈ x, v.oneCell' = true) (hm : X.length ≤ 1048576) (hn' : n ≤ 1048577) (hbase : base ≤ w.heap.size)
    (h : ∀ A1 c1 w', w'.ownsRow base e size (.slice A1 (n + X.length) c1) (n + X.length) (xs ++ X.flatten) → w.grownBy w' v.ownBlock →
      ((Value.slice A1 (n + X.length) c1).ownBlock = v.ownBlock ∨ (Value.slice A1 (n + X.length) c1).ownBlock = some w.heap.size) → K (a.put o.dst (.slice A1 (n + X.length) c1)) w') : o.wp P a w K Q := by
  obtain ⟨A1, c1, w', hr, h2, h3, h4⟩ := run_app (P := P) t o.type base e i z size ht hi hzs hsz hown hA hn h1 hm hn' hbase
  unfold Oper.wp execOp
  simp only [ho, resolve, invoke, builtin, Sem.run_bind, Sem.run_pure, Result.andThen_ok, List.map_toArray, List.map_cons, List.map_nil, hs, hx, hr]
  exact h A1 c1 w' h2 h3 h4
theorem step_app {P : Program} {w : World} {ops : Array Oper} {o : Oper} {a : Act} {K : Act → World → Prop} {Q : Exit → Act → World → Prop} {E' : Prop} (hgd : o.guard = none) (s x : Operand) (t : TypeId)
    (ho : o.op = .call { callee := .builtin .append, args := #[s, x], argTypes := #[t, t] }) (base : Nat) (e : TypeId) (i : TypeInfo) (z : Value) (size : Nat) (ht : P.underlying t = some (.slice e)) (hi : P.info? e = some i ∧ i.zero = some z ∧ i.size = size ∧ i.bytes ≤ 1000)
    (hzs : z.cells.size = size) (hsz : 0 < size) {v : Value} {n : Nat} {xs : List Value} (hs : a.eval s = v) (hown : w.ownsRow base e size v n xs) {A : Option Addr} {X : List (List Value)} {c : Nat} (hx : a.eval x = .slice A X.length c) (hA : Sl w A size X) (hn : A = none → X = [] ∧ c = 0)
    (h1 : ∀ x ∈ X, ∀ v ∈ x, v.oneCell' = true) (hm : X.length ≤ 1048576) (hn' : n ≤ 1048577) (hbase : base ≤ w.heap.size)
    (h : ∀ A1 c1 w', w'.ownsRow base e size (.slice A1 (n + X.length) c1) (n + X.length) (xs ++ X.flatten) → w.grownBy w' v.ownBlock →
      ((Value.slice A1 (n + X.length) c1).ownBlock = v.ownBlock ∨ (Value.slice A1 (n + X.length) c1).ownBlock = some w.heap.size) → K (a.put o.dst (.slice A1 (n + X.length) c1)) w') :
    if Region.wanted o (yielded ops a.tmps) = true then Oper.wp P o a w K Q else E' := by
  have hw : Region.wanted o (yielded ops a.tmps) = true := by simp [Region.wanted, hgd]
  rw [if_pos hw]
  exact wp_app s x t ho base e i z size ht hi hzs hsz hs hown hx hA hn h1 hm hn' hbase h
/-- The mark that 'lent' lays behind the length. -/
noncomputable def markE : List Value := zE.set 110 (.int .i64 77)
theorem built44 : Try.prog.built 44 [(8, .int .i64 77)] = some markE.toArray := by kernel_rfl
def bld (parts : Array (Nat × Value)) : Sem Value := Instr.build 44 parts
theorem toBld (parts : Array (Nat × Value)) : Instr.build 44 parts = bld parts := rfl
theorem build44 (w : World) : (bld #[(8, .int .i64 77)]).run Try.prog w = .ok (.agg markE.toArray) w := run_build w 44 #[(8, .int .i64 77)] _ built44
def bls (n : Nat) (parts : Array (Nat × Value)) : Sem Value := Instr.buildSlice 28 n parts
theorem toBls (n : Nat) (parts : Array (Nat × Value)) : Instr.buildSlice 28 n parts = bls n parts := rfl
theorem bls0 (w : World) : (bls 0 #[]).run Try.prog w = .ok (.slice (some ⟨w.heap.size, 0, none⟩) 0 0) (w.alloc (.cells #[] 44)) := by kernel_rfl
theorem bls1 (w : World) : (bls 1 #[(0, .agg markE.toArray)]).run Try.prog w = .ok (.slice (some ⟨w.heap.size, 0, none⟩) 1 1) (w.alloc (.cells markE.toArray 44)) := by kernel_rfl
end Go.Proofs.Ythpnebmolaaapaa.upd
