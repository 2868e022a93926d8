/- Slices of structs and arrays: what their elements read as, chunk by chunk. No condition. -/
import Derived.Test.YthpnebmolaaapaaDoorEqv
import Derived.Below
import Derived.Deep.Draws
import Derived.Laws.AppendOwn
import Derived.Laws.CopyRow
import Derived.Laws.Tables
namespace Go.Proofs.YthpnebmolaaapaaDoor.chunks
open Go.RowKit eqv

/-- The k-th element. -/
def ch (X : List (List Value)) (k : Nat) : List Value := X.getD k []
/-- The slice's elements read so: each is s cells. -/
def Sl (w : World) (A : Option Addr) (s : Nat) (X : List (List Value)) : Prop :=
  (∀ x ∈ X, x.length = s) ∧ (0 < X.length → ∃ ad, A = some ad ∧ ∀ k, k < X.length → ∀ j u, (ch X k)[j]? = some u → w.cell? ((ad.add (k * s)).add j) = some u)
theorem add_add (a : Addr) (i j : Nat) : (a.add i).add j = a.add (i + j) := by
  unfold Addr.add
  by_cases hi : i = 0 <;> by_cases hj : j = 0 <;> simp [hi, hj, Nat.add_assoc]
theorem block_add (a : Addr) (i : Nat) : (a.add i).block = a.block := by unfold Addr.add; split <;> rfl
theorem ch_mem {X : List (List Value)} {k : Nat} (h : k < X.length) : ch X k ∈ X := by
  unfold ch
  rw [List.getD_eq_getElem?_getD, List.getElem?_eq_getElem h]
  exact List.getElem_mem h
theorem ch_length {X : List (List Value)} {s k : Nat} (hX : ∀ x ∈ X, x.length = s) (h : k < X.length) : (ch X k).length = s := hX _ (ch_mem h)
theorem at_of {w : World} {a : Addr} {xs : List Value} (h : ∀ j u, xs[j]? = some u → w.cell? (a.add j) = some u) : okAt w a xs.length ∧ cellsAt w a xs.length = xs := by
  refine ⟨fun j hj => ?_, ?_⟩
  · rw [h j _ (List.getElem?_eq_getElem hj)]
    rfl
  · apply List.ext_getElem?
    intro j
    unfold cellsAt
    simp only [List.getElem?_map]
    by_cases hj : j < xs.length
    · rw [List.getElem?_range hj, List.getElem?_eq_getElem hj]
      simp [h j _ (List.getElem?_eq_getElem hj)]
    · rw [List.getElem?_eq_none (by simp; omega), List.getElem?_eq_none (by omega)]
      rfl
theorem Sl.at_ {w : World} {A : Option Addr} {s : Nat} {X : List (List Value)} (h : Sl w A s X) {k : Nat} (hk : k < X.length) :
    ∃ ad, A = some ad ∧ ∀ i, i < X.length → okAt w (ad.add (i * s)) s ∧ cellsAt w (ad.add (i * s)) s = ch X i := by
  obtain ⟨ad, e, hc⟩ := h.2 (by omega)
  refine ⟨ad, e, fun i hi => ?_⟩
  have := at_of (hc i hi)
  rwa [ch_length h.1 hi] at this
theorem cellsAt_drewN (w : World) (n : Nat) (a : Addr) (k : Nat) : cellsAt (w.drewN n) a k = cellsAt w a k := rfl
theorem okAt_drewN (w : World) (n : Nat) (a : Addr) (k : Nat) : okAt (w.drewN n) a k ↔ okAt w a k := ⟨fun h => h, fun h => h⟩
theorem Sl.keep {w w' : World} {A : Option Addr} {s : Nat} {X : List (List Value)} (h : Sl w A s X) (hk : ∀ p : Addr, (∃ ad, A = some ad ∧ p.block = ad.block) → w'.cell? p = w.cell? p) : Sl w' A s X :=
  ⟨h.1, fun hn => by
    obtain ⟨ad, e, hc⟩ := h.2 hn
    exact ⟨ad, e, fun k hk' j u hu => (hk _ ⟨ad, e, by rw [block_add, block_add]⟩).trans (hc k hk' j u hu)⟩⟩

def leqL : List (List Value) → List (List Value) → Bool
  | [], [] => true
  | x :: X, y :: Y => leqs x y && leqL X Y
  | _, _ => false
theorem leqL_ne {X Y : List (List Value)} (h : X.length ≠ Y.length) : leqL X Y = false := by
  induction X generalizing Y with
  | nil => cases Y with
    | nil => simp at h
    | cons y Y => rfl
  | cons x X ih => cases Y with
    | nil => rfl
    | cons y Y => simp only [leqL, ih (by simpa using h), Bool.and_false]
/-- As far as k the two agree. -/
def Upto (X Y : List (List Value)) (k : Nat) : Prop := ∀ i, i < k → leqs (ch X i) (ch Y i) = true
theorem Upto.zero (X Y : List (List Value)) : Upto X Y 0 := fun i h => by omega
theorem Upto.succ {X Y : List (List Value)} {k : Nat} (h : Upto X Y k) (hk : leqs (ch X k) (ch Y k) = true) : Upto X Y (k + 1) := fun i hi => by
  rcases Nat.lt_or_ge i k with h1 | h1
  · exact h i h1
  · obtain rfl : i = k := by omega
    exact hk
theorem leqL_of {X Y : List (List Value)} (hl : X.length = Y.length) (h : Upto X Y X.length) : leqL X Y = true := by
  induction X generalizing Y with
  | nil => cases Y with
    | nil => rfl
    | cons y Y => simp at hl
  | cons x X ih => cases Y with
    | nil => simp at hl
    | cons y Y =>
      simp only [leqL, Bool.and_eq_true]
      exact ⟨by simpa [ch] using h 0 (by simp), ih (by simpa using hl) fun i hi => by simpa [ch] using h (i + 1) (by simp; omega)⟩
theorem leqL_not {X Y : List (List Value)} {k : Nat} (hk : k < X.length) (h : leqs (ch X k) (ch Y k) = false) : leqL X Y = false := by
  induction X generalizing Y k with
  | nil => simp at hk
  | cons x X ih => cases Y with
    | nil => rfl
    | cons y Y =>
      cases k with
      | zero => simp [leqL, show leqs x y = false by simpa [ch] using h]
      | succ k => simp [leqL, ih (k := k) (by simpa using hk) (by simpa [ch] using h)]

/-! ### A block that the call owns, filled chunk by chunk -/
/-- Block g is the cells cs, none frozen. -/
def Blk (w : World) (g : Nat) (t : TypeId) (cs : List Value) : Prop := w.heap[g]? = some (.cells cs.toArray t (0, 0))
theorem Blk.lt {w : World} {g : Nat} {t : TypeId} {cs : List Value} (h : Blk w g t cs) : g < w.heap.size := by
  rcases Nat.lt_or_ge g w.heap.size with h1 | h1
  · exact h1
  · unfold Blk at h; rw [Array.getElem?_eq_none h1] at h; cases h
theorem Blk.below {w w' : World} {g B : Nat} {t : TypeId} {cs : List Value} (h : Blk w g t cs) (hb : Below B w w') (hg : g < B) : Blk w' g t cs := (hb.block g hg).trans h
theorem Blk.drewN {w : World} {g : Nat} {t : TypeId} {cs : List Value} (h : Blk w g t cs) (n : Nat) : Blk (w.drewN n) g t cs := h
theorem Blk.alloc {w : World} {g : Nat} {t : TypeId} {cs : List Value} (h : Blk w g t cs) (o : Obj) : Blk (w.alloc o) g t cs := (Below.heap_alloc w o g h.lt).trans h
theorem Blk.cell {w : World} {g : Nat} {t : TypeId} {cs : List Value} (h : Blk w g t cs) (i : Nat) : w.cell? ⟨g, i, none⟩ = cs[i]? := by
  unfold Blk at h
  simp [World.cell?, h]
theorem add_zero_lit (g n : Nat) : (⟨g, 0, none⟩ : Addr).add n = ⟨g, n, none⟩ := by unfold Addr.add; split <;> simp_all
/-- A block whose cells are chunks reads as a slice of them. -/
theorem Blk.sl {w : World} {g s : Nat} {t : TypeId} {L : List (List Value)} {rest : List Value} (h : Blk w g t (L.flatten ++ rest)) (hL : ∀ x ∈ L, x.length = s) : Sl w (some ⟨g, 0, none⟩) s L := by
  refine ⟨hL, fun _ => ⟨_, rfl, fun k hk j u hu => ?_⟩⟩
  have hj : j < s := by rw [← ch_length hL hk]; exact (List.getElem?_eq_some_iff.1 hu).1
  rw [add_add, add_zero_lit, h.cell]
  clear h
  induction L generalizing k with
  | nil => simp at hk
  | cons x L ih =>
    have hx := hL x (List.mem_cons_self)
    cases k with
    | zero =>
      rw [List.flatten_cons, List.append_assoc, List.getElem?_append_left (by omega)]
      simpa [ch] using hu
    | succ k =>
      rw [List.flatten_cons, List.append_assoc, List.getElem?_append_right (by rw [hx, Nat.succ_mul]; omega)]
      have e : (k + 1) * s + j - x.length = k * s + j := by rw [hx, Nat.succ_mul]; omega
      rw [e]
      exact ih (fun y hy => hL y (List.mem_cons_of_mem _ hy)) (by simp at hk; omega) k (by simpa using hk) (by simpa [ch] using hu)
/-- The world with the cells cs laid into block g from o on. -/
def putAt (w : World) (g o : Nat) (cs : List Value) : World :=
  match w.heap[g]? with
  | some (.cells cur _ _) => w.setRow g (cur.toList.take o ++ cs ++ cur.toList.drop (o + cs.length)).toArray
  | _ => w
def mayPut (w : World) (g o : Nat) (cs : List Value) : Prop := ∃ cur t, Blk w g t cur ∧ o + cs.length ≤ cur.length ∧ ∀ v ∈ cs, v.oneCell' = true
theorem Blk.put {w : World} {g o : Nat} {t : TypeId} {cur cs : List Value} (h : Blk w g t cur) : Blk (putAt w g o cs) g t (cur.take o ++ cs ++ cur.drop (o + cs.length)) ∧ (putAt w g o cs).heap.size = w.heap.size ∧ ∀ B, B ≤ g → Below B w (putAt w g o cs) := by
  have e : putAt w g o cs = w.setRow g (cur.take o ++ cs ++ cur.drop (o + cs.length)).toArray := by
    unfold putAt
    unfold Blk at h
    rw [h]
  rw [e]
  refine ⟨setRow_heap w g _ _ t _ h, by simp, fun B hB => ⟨rfl, rfl, rfl, by simp, fun k hk => setRow_other w g k _ (by omega)⟩⟩
theorem Blk.put_other {w : World} {g g' o : Nat} {t : TypeId} {cur cs : List Value} (h : Blk w g' t cur) (hne : g' ≠ g) : Blk (putAt w g o cs) g' t cur := by
  unfold putAt
  split
  · unfold Blk; rw [setRow_other _ _ _ _ hne]; exact h
  · exact h
def bigStore (t : Nat) (a : Addr) (v : Value) : Sem Unit := storeVar t a v
theorem run_bigStore {P : Program} {t k g o : Nat} {cs : List Value} {w : World} (hs : (P.info? t).map (·.size) = some k) (hl : cs.length = k) (h : mayPut w g o cs) :
    (bigStore t ⟨g, o, none⟩ (.agg cs.toArray)).run P w = .ok () (putAt w g o cs) := by
  obtain ⟨cur, T, hb, hle, h1⟩ := h
  have hst := run_storeCells_at (P := P) g o T cs 0 cur.toArray w hb (by simpa using hle) h1
  have e : putAt w g o cs = w.setRow g (cur.take o ++ cs ++ cur.drop (o + cs.length)).toArray := by
    unfold putAt
    unfold Blk at hb
    rw [hb]
  cases hq : P.info? t with
  | none => simp [hq] at hs
  | some i =>
    have hsz : i.size = k := by simpa [hq] using hs
    unfold bigStore
    rw [e]
    simp only [Nat.add_zero] at hst
    simp [storeVar, Value.cells, Sem.run_bind, sizeOf, typeInfo, hq, hsz, hl, hst]
/-- k chunks of L, and noughts for the others. -/
def filled (L : List (List Value)) (s : Nat) (z : Value) (k : Nat) : List Value := (L.take k).flatten ++ List.replicate ((L.length - k) * s) z
theorem flat_len {L : List (List Value)} {s : Nat} (hL : ∀ x ∈ L, x.length = s) : L.flatten.length = L.length * s := by
  induction L with
  | nil => simp
  | cons x L ih => rw [List.flatten_cons, List.length_append, hL x (List.mem_cons_self), ih (fun y hy => hL y (List.mem_cons_of_mem _ hy)), List.length_cons, Nat.succ_mul, Nat.add_comm]
theorem filled_len {L : List (List Value)} {s k : Nat} {z : Value} (hL : ∀ x ∈ L, x.length = s) (hk : k ≤ L.length) : (filled L s z k).length = L.length * s := by
  unfold filled
  rw [List.length_append, flat_len (fun x hx => hL x (List.mem_of_mem_take hx)), List.length_replicate, List.length_take, ← Nat.add_mul]
  congr 1
  omega
theorem filled_step {L : List (List Value)} {s k : Nat} {z : Value} (hL : ∀ x ∈ L, x.length = s) (hk : k < L.length) :
    (filled L s z k).take (k * s) ++ ch L k ++ (filled L s z k).drop (k * s + (ch L k).length) = filled L s z (k + 1) := by
  have h1 : (L.take k).flatten.length = k * s := by
    rw [flat_len (fun x hx => hL x (List.mem_of_mem_take hx)), List.length_take]
    congr 1
    omega
  have h2 : L.take (k + 1) = L.take k ++ [ch L k] := by
    rw [List.take_succ_eq_append_getElem hk]
    simp [ch, List.getElem?_eq_getElem hk]
  unfold filled
  rw [List.take_left' h1, h2, List.flatten_append, ch_length hL hk]
  congr 1
  · simp
  · rw [← h1, List.drop_append, List.drop_eq_nil_of_le (by omega), List.nil_append, Nat.add_sub_cancel_left, List.drop_replicate]
    congr 1
    have : L.length - k = (L.length - (k + 1)) + 1 := by omega
    rw [this, Nat.succ_mul]
    omega
theorem filled_all {L : List (List Value)} {s : Nat} {z : Value} : filled L s z L.length = L.flatten := by simp [filled]
theorem filled_none {L : List (List Value)} {s : Nat} {z : Value} : filled L s z 0 = List.replicate (L.length * s) z := by simp [filled]

theorem Sl.below {w w' : World} {A : Option Addr} {s B : Nat} {X : List (List Value)} (h : Sl w A s X) (hb : Below B w w') (hlt : ∀ ad, A = some ad → ad.block < B) : Sl w' A s X :=
  h.keep fun p ⟨ad, e, hp⟩ => hb.cell (by rw [hp]; exact hlt ad e)
theorem ch_append_left {X Y : List (List Value)} {k : Nat} (h : k < X.length) : ch (X ++ Y) k = ch X k := by
  simp [ch, List.getElem?_append_left h]
theorem ch_append_right {X Y : List (List Value)} {j : Nat} : ch (X ++ Y) (X.length + j) = ch Y j := by
  simp only [ch, List.getD_eq_getElem?_getD]
  rw [List.getElem?_append_right (by omega), Nat.add_sub_cancel_left]
/-- A filled block takes the next chunk. -/
theorem mayFill {w : World} {g k s : Nat} {t : TypeId} {z : Value} {L : List (List Value)} (h : Blk w g t (filled L s z k)) (hL : ∀ x ∈ L, x.length = s) (h1 : ∀ x ∈ L, ∀ v ∈ x, v.oneCell' = true) (hk : k < L.length) : mayPut w g (k * s) (ch L k) := by
  refine ⟨_, t, h, ?_, h1 _ (ch_mem hk)⟩
  rw [filled_len hL (by omega), ch_length hL hk, ← Nat.succ_mul]
  exact Nat.mul_le_mul_right _ (by omega)
theorem fillNext {w : World} {g k s : Nat} {t : TypeId} {z : Value} {L : List (List Value)} (h : Blk w g t (filled L s z k)) (hL : ∀ x ∈ L, x.length = s) (hk : k < L.length) :
    Blk (putAt w g (k * s) (ch L k)) g t (filled L s z (k + 1)) ∧ (putAt w g (k * s) (ch L k)).heap.size = w.heap.size ∧ ∀ B, B ≤ g → Below B w (putAt w g (k * s) (ch L k)) := by
  have hp := h.put (o := k * s) (cs := ch L k)
  rw [filled_step hL hk] at hp
  exact hp

theorem Sl.left {w : World} {A : Option Addr} {s : Nat} {X Y : List (List Value)} (h : Sl w A s (X ++ Y)) : Sl w A s X := by
  refine ⟨fun x hx => h.1 x (List.mem_append_left _ hx), fun hn => ?_⟩
  obtain ⟨ad, e, hc⟩ := h.2 (by rw [List.length_append]; omega)
  refine ⟨ad, e, fun k hk j u hu => hc k (by rw [List.length_append]; omega) j u ?_⟩
  rwa [ch_append_left hk]
theorem leqL_length {X Y : List (List Value)} (h : leqL X Y = true) : X.length = Y.length := by
  rcases Nat.decEq X.length Y.length with hn | hn
  · rw [leqL_ne hn] at h; cases h
  · exact hn
end Go.Proofs.YthpnebmolaaapaaDoor.chunks
