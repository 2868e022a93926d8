/- KeysRings: what a ring is refused for; small laws of holders' rows. No condition. -/
import Derived.Test.YthpnebmolaaapaaDoorKr2
import Derived.Test.YthpnebmolaaapaaDoorAp
namespace Go.Proofs.YthpnebmolaaapaaDoor.ring
open Go.RowKit eqv chunks sha
def bad (x : List Value) : Bool := decide (au x < 1 ∨ 4294967296 ≤ au x)
def dupAt (X : List (List Value)) (k : Nat) : Bool := (X.take k).any fun x => au x == au (ch X k)
def dup (X : List (List Value)) : Bool := (List.range X.length).any (dupAt X)
/-- What a ring of these is refused for. -/
def ringErr (X : List (List Value)) : Int := if X.any bad then 51 else if dup X then 5 else 0
theorem bad_any {X : List (List Value)} {k : Nat} (hk : k < X.length) (h : bad (ch X k) = true) : X.any bad = true := List.any_eq_true.2 ⟨_, ch_mem hk, h⟩
theorem bad_none {X : List (List Value)} (h : ∀ j, j < X.length → bad (ch X j) = false) : X.any bad = false := by
  rw [List.any_eq_false]
  intro x hx
  obtain ⟨j, hj, rfl⟩ := List.getElem_of_mem hx
  have := h j hj
  unfold ch at this
  rw [List.getD_eq_getElem?_getD, List.getElem?_eq_getElem hj] at this
  simpa using this
theorem dup_of {X : List (List Value)} {k : Nat} (hk : k < X.length) (h : dupAt X k = true) : dup X = true := List.any_eq_true.2 ⟨k, List.mem_range.2 hk, h⟩
theorem dup_none {X : List (List Value)} (h : ∀ j, j < X.length → dupAt X j = false) : dup X = false := by
  unfold dup
  rw [List.any_eq_false]
  intro j hj
  rw [h j (List.mem_range.1 hj)]
  exact Bool.false_ne_true
theorem err_bad {X : List (List Value)} (h : X.any bad = true) : ringErr X = 51 := by unfold ringErr; rw [if_pos h]
theorem err_dup {X : List (List Value)} (h : X.any bad = false) (h2 : dup X = true) : ringErr X = 5 := by unfold ringErr; rw [h, h2]; rfl
theorem err_ok {X : List (List Value)} (h : X.any bad = false) (h2 : dup X = false) : ringErr X = 0 := by unfold ringErr; rw [h, h2]; rfl
noncomputable def zHd : List Value := .int .i64 0 :: u8s z32
theorem infoHd : ∃ i, Tryd.prog.info? 26 = some i ∧ i.zero = some (.agg zHd.toArray) ∧ i.size = 33 ∧ i.bytes ≤ 1000 := by
  have h1 : (Tryd.prog.info? 26).map (fun i => (i.zero, i.size)) = some (some (.agg zHd.toArray), 33) := by kernel_rfl
  have h2 : (Tryd.prog.info? 26).map (fun i => Nat.ble i.bytes 1000) = some true := by kernel_rfl
  cases hq : Tryd.prog.info? 26 with
  | none => simp [hq] at h1
  | some i =>
    rw [hq] at h1 h2
    simp only [Option.map_some, Option.some.injEq, Prod.mk.injEq] at h1 h2
    exact ⟨i, rfl, h1.1, h1.2, Nat.le_of_ble_eq_true h2⟩
def appH (args : Array Value) : Sem Value := Builtin.append_ #[22, 22] 22 args
theorem toAppH (args : Array Value) : Builtin.append_ #[22, 22] 22 args = appH args := rfl
theorem run_appH {w : World} (base : Nat) {v : Value} {n : Nat} {xs : List Value} (hown : w.ownsRow base 26 33 v n xs) {A : Option Addr} {X : List (List Value)} {c : Nat} (hA : Sl w A 33 X) (hn : A = none → X = [] ∧ c = 0)
    (h1 : ∀ x ∈ X, Hd x) (hm : X.length ≤ 1048576) (hn' : n ≤ 1048577) (hbase : base ≤ w.heap.size) :
    ∃ A1 c1 w', (appH #[v, .slice A X.length c]).run Tryd.prog w = .ok (.slice A1 (n + X.length) c1) w' ∧ w'.ownsRow base 26 33 (.slice A1 (n + X.length) c1) (n + X.length) (xs ++ X.flatten) ∧ w.grownBy w' v.ownBlock := by
  obtain ⟨i, hi⟩ := infoHd
  obtain ⟨A1, c1, w', h, h2, h3, _⟩ := run_app (P := Tryd.prog) 22 22 base 26 i _ 33 Tryd.underlying22 hi (by simp [Value.cells, zHd]; rfl) (by omega) hown hA hn (fun x hx v hv => by
    obtain ⟨a, ks, rfl, _, h, _⟩ := h1 x hx
    rcases List.mem_cons.1 hv with rfl | h'
    · rfl
    · exact h v h') hm hn' hbase
  exact ⟨A1, c1, w', h, h2, h3⟩
theorem toLdH (a : Addr) : loadVar 26 a = bigLoad 26 a := rfl
theorem ldH {w : World} {a : Addr} (h : okAt w a 33) : Sem.run Tryd.prog (bigLoad 26 a) w = .ok (.agg (cellsAt w a 33).toArray) w := run_bigLoad (by kernel_rfl) ⟨_, Tryd.underlying26, rfl⟩ h
theorem toStH (a : Addr) (v : Value) : storeVar 26 a v = bigStore 26 a v := rfl
theorem zeroH (w : World) : (zeroValue 26).run Tryd.prog w = .ok (.agg zHd.toArray) w := by kernel_rfl
theorem stNewH {w : World} {g : Nat} {x : List Value} (hg : w.heap.size = g) (h : Hd x) : Sem.run Tryd.prog (bigStore 26 ⟨g, 0, none⟩ (.agg x.toArray)) (w.alloc (.cells zHd.toArray 26)) = .ok () (w.alloc (.cells x.toArray 26)) := by
  refine run_stNew (by kernel_rfl) hg rfl h.length fun v hv => ?_
  obtain ⟨a, ks, rfl, _, h1, _⟩ := h
  rcases List.mem_cons.1 hv with rfl | h'
  · rfl
  · exact h1 v h'
/-- A key's cells. -/
def K32 (x : List Value) : Prop := x.length = 32 ∧ ∀ v ∈ x, v.oneCell' = true
theorem stNewK {w : World} {g : Nat} {x : List Value} (hg : w.heap.size = g) (h : K32 x) : Sem.run Tryd.prog (bigStore 24 ⟨g, 0, none⟩ (.agg x.toArray)) (w.alloc (.cells (u8s z32).toArray 24)) = .ok () (w.alloc (.cells x.toArray 24)) :=
  run_stNew (by kernel_rfl) hg rfl h.1 h.2
/-- '[]Holder{..}'. -/
def blsH (n : Nat) (parts : Array (Nat × Value)) : Sem Value := Instr.buildSlice 22 n parts
theorem toBlsH (n : Nat) (parts : Array (Nat × Value)) : Instr.buildSlice 22 n parts = blsH n parts := rfl
theorem blsH0 (w : World) : (blsH 0 #[]).run Tryd.prog w = .ok (.slice (some ⟨w.heap.size, 0, none⟩) 0 0) (w.alloc (.cells #[] 26)) := by kernel_rfl
theorem blsH1 (w : World) {x : List Value} (h : x.length = 33) : (blsH 1 #[(0, .agg x.toArray)]).run Tryd.prog w = .ok (.slice (some ⟨w.heap.size, 0, none⟩) 1 1) (w.alloc (.cells x.toArray 26)) := by
  obtain ⟨a0, x0, rfl⟩ := List.exists_cons_of_length_eq_add_one h
  replace h : x0.length = 32 := Nat.succ.inj h
  obtain ⟨a1, x1, rfl⟩ := List.exists_cons_of_length_eq_add_one h
  replace h : x1.length = 31 := Nat.succ.inj h
  obtain ⟨a2, x2, rfl⟩ := List.exists_cons_of_length_eq_add_one h
  replace h : x2.length = 30 := Nat.succ.inj h
  obtain ⟨a3, x3, rfl⟩ := List.exists_cons_of_length_eq_add_one h
  replace h : x3.length = 29 := Nat.succ.inj h
  obtain ⟨a4, x4, rfl⟩ := List.exists_cons_of_length_eq_add_one h
  replace h : x4.length = 28 := Nat.succ.inj h
  obtain ⟨a5, x5, rfl⟩ := List.exists_cons_of_length_eq_add_one h
  replace h : x5.length = 27 := Nat.succ.inj h
  obtain ⟨a6, x6, rfl⟩ := List.exists_cons_of_length_eq_add_one h
  replace h : x6.length = 26 := Nat.succ.inj h
  obtain ⟨a7, x7, rfl⟩ := List.exists_cons_of_length_eq_add_one h
  replace h : x7.length = 25 := Nat.succ.inj h
  obtain ⟨a8, x8, rfl⟩ := List.exists_cons_of_length_eq_add_one h
  replace h : x8.length = 24 := Nat.succ.inj h
  obtain ⟨a9, x9, rfl⟩ := List.exists_cons_of_length_eq_add_one h
  replace h : x9.length = 23 := Nat.succ.inj h
  obtain ⟨a10, x10, rfl⟩ := List.exists_cons_of_length_eq_add_one h
  replace h : x10.length = 22 := Nat.succ.inj h
  obtain ⟨a11, x11, rfl⟩ := List.exists_cons_of_length_eq_add_one h
  replace h : x11.length = 21 := Nat.succ.inj h
  obtain ⟨a12, x12, rfl⟩ := List.exists_cons_of_length_eq_add_one h
  replace h : x12.length = 20 := Nat.succ.inj h
  obtain ⟨a13, x13, rfl⟩ := List.exists_cons_of_length_eq_add_one h
  replace h : x13.length = 19 := Nat.succ.inj h
  obtain ⟨a14, x14, rfl⟩ := List.exists_cons_of_length_eq_add_one h
  replace h : x14.length = 18 := Nat.succ.inj h
  obtain ⟨a15, x15, rfl⟩ := List.exists_cons_of_length_eq_add_one h
  replace h : x15.length = 17 := Nat.succ.inj h
  obtain ⟨a16, x16, rfl⟩ := List.exists_cons_of_length_eq_add_one h
  replace h : x16.length = 16 := Nat.succ.inj h
  obtain ⟨a17, x17, rfl⟩ := List.exists_cons_of_length_eq_add_one h
  replace h : x17.length = 15 := Nat.succ.inj h
  obtain ⟨a18, x18, rfl⟩ := List.exists_cons_of_length_eq_add_one h
  replace h : x18.length = 14 := Nat.succ.inj h
  obtain ⟨a19, x19, rfl⟩ := List.exists_cons_of_length_eq_add_one h
  replace h : x19.length = 13 := Nat.succ.inj h
  obtain ⟨a20, x20, rfl⟩ := List.exists_cons_of_length_eq_add_one h
  replace h : x20.length = 12 := Nat.succ.inj h
  obtain ⟨a21, x21, rfl⟩ := List.exists_cons_of_length_eq_add_one h
  replace h : x21.length = 11 := Nat.succ.inj h
  obtain ⟨a22, x22, rfl⟩ := List.exists_cons_of_length_eq_add_one h
  replace h : x22.length = 10 := Nat.succ.inj h
  obtain ⟨a23, x23, rfl⟩ := List.exists_cons_of_length_eq_add_one h
  replace h : x23.length = 9 := Nat.succ.inj h
  obtain ⟨a24, x24, rfl⟩ := List.exists_cons_of_length_eq_add_one h
  replace h : x24.length = 8 := Nat.succ.inj h
  obtain ⟨a25, x25, rfl⟩ := List.exists_cons_of_length_eq_add_one h
  replace h : x25.length = 7 := Nat.succ.inj h
  obtain ⟨a26, x26, rfl⟩ := List.exists_cons_of_length_eq_add_one h
  replace h : x26.length = 6 := Nat.succ.inj h
  obtain ⟨a27, x27, rfl⟩ := List.exists_cons_of_length_eq_add_one h
  replace h : x27.length = 5 := Nat.succ.inj h
  obtain ⟨a28, x28, rfl⟩ := List.exists_cons_of_length_eq_add_one h
  replace h : x28.length = 4 := Nat.succ.inj h
  obtain ⟨a29, x29, rfl⟩ := List.exists_cons_of_length_eq_add_one h
  replace h : x29.length = 3 := Nat.succ.inj h
  obtain ⟨a30, x30, rfl⟩ := List.exists_cons_of_length_eq_add_one h
  replace h : x30.length = 2 := Nat.succ.inj h
  obtain ⟨a31, x31, rfl⟩ := List.exists_cons_of_length_eq_add_one h
  replace h : x31.length = 1 := Nat.succ.inj h
  obtain ⟨a32, x32, rfl⟩ := List.exists_cons_of_length_eq_add_one h
  replace h : x32.length = 0 := Nat.succ.inj h
  obtain rfl := List.eq_nil_of_length_eq_zero h
  clear h
  change _ = _
  kernel_rfl
end Go.Proofs.YthpnebmolaaapaaDoor.ring
