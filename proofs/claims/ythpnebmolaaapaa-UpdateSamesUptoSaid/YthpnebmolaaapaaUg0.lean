import Derived.Test.YthpnebmolaaapaaUf
namespace Go.Proofs.Ythpnebmolaaapaa.upd
open Go.RowKit eqv chunks
theorem sl_of_flat {w : World} {ad : Addr} {s : Nat} {L : List (List Value)} (hL : ∀ x ∈ L, x.length = s) (h : ∀ j u, L.flatten[j]? = some u → w.cell? (ad.add j) = some u) : Sl w (some ad) s L := by
  refine ⟨hL, fun _ => ⟨_, rfl, fun k hk j u hu => ?_⟩⟩
  rw [add_add]
  apply h
  clear h
  have hj : j < s := by rw [← ch_length hL hk]; exact (List.getElem?_eq_some_iff.1 hu).1
  induction L generalizing k with
  | nil => simp at hk
  | cons x L ih =>
    have hx := hL x (List.mem_cons_self)
    cases k with
    | zero =>
      rw [List.flatten_cons, List.getElem?_append_left (by omega)]
      simpa [ch] using hu
    | succ k =>
      rw [List.flatten_cons, List.getElem?_append_right (by rw [hx, Nat.succ_mul]; omega)]
      have e : (k + 1) * s + j - x.length = k * s + j := by rw [hx, Nat.succ_mul]; omega
      rw [e]
      exact ih (fun y hy => hL y (List.mem_cons_of_mem _ hy)) (by simp at hk; omega) k (by simpa using hk) (by simpa [ch] using hu)
theorem sl_of_own {w : World} {base e s c : Nat} {A : Option Addr} {L : List (List Value)} (h : w.ownsRow base e s (.slice A L.length c) L.length L.flatten) (hL : ∀ x ∈ L, x.length = s) : Sl w A s L := by
  rcases Nat.eq_zero_or_pos L.length with h0 | h0
  · exact ⟨hL, fun hn => by omega⟩
  · obtain ⟨g, cap, e, _, _⟩ := h.form h0
    cases e
    exact sl_of_flat hL (h.cells rfl)
theorem own_below {w w' : World} {base e s n : Nat} {v : Value} {xs : List Value} (h : w.ownsRow base e s v n xs) (hb : Below w.heap.size w w') : w'.ownsRow base e s v n xs :=
  h.kept (row := none) ⟨hb.os, hb.tape, hb.output, hb.size, fun k hk _ => hb.block k hk⟩ (by cases v.ownBlock <;> simp)
theorem to30 (a : Addr) : loadVar 30 a = bigLoad 30 a := rfl
theorem ld30 {w : World} {g : Nat} {cs : List Value} (h : Blk w g 30 cs) (hl : cs.length = 6) : Sem.run Try.prog (bigLoad 30 ⟨g, 0, none⟩) w = .ok (.agg cs.toArray) w := by
  have h2 := h.all
  rw [hl] at h2
  rw [run_bigLoad (k := 6) (by kernel_rfl) ⟨_, Try.underlying30, rfl⟩ h2.1, h2.2]
theorem below_drew {B : Nat} {w w' : World} : Below B w w'.drew ↔ Below B w w' := ⟨fun h => ⟨h.os, h.tape, h.output, h.size, h.block⟩, fun h => h.drew⟩
theorem two {w W : World} {cs zs : List Value} {t : TypeId} (h : (w.alloc (.cells cs.toArray t)).alloc (.cells zs.toArray t) = W) :
    Blk W w.heap.size t cs ∧ Blk W (w.heap.size + 1) t zs ∧ Below w.heap.size w W ∧ W.heap.size = w.heap.size + 1 + 1 := by
  subst h
  have b1 := (Blk.new w t cs).alloc (.cells zs.toArray t)
  have b2 := Blk.new (w.alloc (.cells cs.toArray t)) t zs
  rw [hsz] at b2
  exact ⟨b1, b2, ((Below.refl _ _).alloc (Nat.le_refl _) _).alloc (by simp) _, by simp only [hsz]⟩
theorem one {w W : World} {cs : List Value} {t : TypeId} (h : w.alloc (.cells cs.toArray t) = W) : Blk W w.heap.size t cs ∧ Below w.heap.size w W ∧ W.heap.size = w.heap.size + 1 := by
  subst h
  exact ⟨Blk.new w t cs, (Below.refl _ _).alloc (Nat.le_refl _) _, by simp only [hsz]⟩
/-- What 'lent' answers. -/
def own (u : Upd) (g : Nat) (A3 : Option Addr) (c3 : Nat) : Upd := ⟨some ⟨g, 0, none⟩, u.X, u.X.length + 9, u.a, u.b, u.m, u.s, A3, u.Y, c3⟩
theorem own_In {u : Upd} {w W : World} {g base : Nat} {A3 : Option Addr} {c3 : Nat} (hu : u.In w) (hb : Blk W g 34 (u.X ++ marks).flatten) (ho : W.ownsRow base 44 111 (.slice A3 (u.Y.length + 1) c3) (u.Y.length + 1) (u.Y ++ [markE]).flatten) :
    (own u g A3 c3).In W ∧ Sl W (some ⟨g, 0, none⟩) 32 (u.X ++ marks) ∧ Sl W A3 111 (u.Y ++ [markE]) ∧ u.Y.length + 1 ≤ c3 := by
  have hL : ∀ x ∈ u.X ++ marks, x.length = 32 := fun x hx => (List.mem_append.1 hx).elim (hu.hA.1 x) (marks_len x)
  have hM : ∀ x ∈ u.Y ++ [markE], x.length = 111 := fun x hx => (List.mem_append.1 hx).elim (hu.hE.1 x) (fun h => by simp at h; subst h; exact markE_length)
  have s1 : Sl W (some ⟨g, 0, none⟩) 32 (u.X ++ marks) := Blk.sl (rest := []) (by simpa using hb) hL
  have s2 : Sl W A3 111 (u.Y ++ [markE]) := sl_of_own (c := c3) (base := base) (e := 44) (by simpa using ho) hM
  obtain ⟨g', cap, e, _, hlt⟩ := ho.form (by omega)
  have hc : u.Y.length + 1 ≤ c3 := by have := own_cap ho; omega
  cases e
  exact ⟨⟨s1.left, s2.left, hu.hX, hu.hY, hu.hX1, hu.hY1, hu.hm, hu.hn, (fun ad e => by cases e; exact hb.lt), (fun ad e => by cases e; exact hlt), (fun e => by cases e), (fun e => by cases e)⟩, s1, s2, hc⟩
theorem k8 {u v : Upd} {V W : World} {t : Bool} (hu : u.In V) (hv : v.In V) (ht : eqU u v = t) (hb : Below V.heap.size V W) :
    Calls Try.prog 8 #[.agg u.cells, .agg v.cells] W fun e w' => e = .returned (.bool t) ∧ Below V.heap.size V w' :=
  (same8 u v W (hu.below hb) (hv.below hb)).mono fun _ _ h => ⟨by rw [h.1, ht], hb.trans (h.2.mono hb.size)⟩
theorem k9 {u v : Upd} {V W : World} {t : Bool} (hu : u.In V) (hv : v.In V) (ht : eqU u v = t) (hb : Below V.heap.size V W) :
    Calls Try.prog 9 #[.agg u.cells, .agg v.cells] W fun e w' => e = .returned (.bool t) ∧ Below V.heap.size V w' :=
  (same9 u v W (hu.below hb) (hv.below hb)).mono fun _ _ h => ⟨by rw [h.1, ht], hb.trans (h.2.mono hb.size)⟩
/-- What 'Copy' answers. -/
def cop (u : Upd) (A1 : Option Addr) (c1 : Nat) (A2 : Option Addr) (c2 : Nat) : Upd := ⟨A1, u.X, c1, u.a, u.b, u.m, u.s, A2, u.Y, c2⟩
theorem cop_In {u : Upd} {w W : World} {base : Nat} {A1 A2 : Option Addr} {c1 c2 : Nat} (hu : u.In w) (h1 : Own W base 34 32 (.slice A1 u.X.length c1) u.X) (h2 : Own W base 44 111 (.slice A2 u.Y.length c2) u.Y) : (cop u A1 c1 A2 c2).In W := by
  refine ⟨sl_of_own h1.1 h1.2, sl_of_own h2.1 h2.2, hu.hX, hu.hY, hu.hX1, hu.hY1, hu.hm, hu.hn, ?_, ?_, ?_, ?_⟩
  · intro ad e
    have e : A1 = some ad := e
    subst e
    exact (h1.1.lt ad.block rfl).2
  · intro ad e
    have e : A2 = some ad := e
    subst e
    exact (h2.1.lt ad.block rfl).2
  · intro e
    have e : A1 = none := e
    subst e
    obtain ⟨A, c, h, hn, _⟩ := own_slice h1.1
    cases h
    exact ⟨List.eq_nil_of_length_eq_zero (hn rfl).1, (hn rfl).2⟩
  · intro e
    have e : A2 = none := e
    subst e
    obtain ⟨A, c, h, hn, _⟩ := own_slice h2.1
    cases h
    exact ⟨List.eq_nil_of_length_eq_zero (hn rfl).1, (hn rfl).2⟩
theorem eqU_self {u v : Upd} {w : World} (h : u.In w) (e : v.X = u.X ∧ v.a = u.a ∧ v.b = u.b ∧ v.m = u.m ∧ v.s = u.s ∧ v.Y = u.Y) : eqU v u = true := by
  obtain ⟨e1, e2, e3, e4, e5, e6⟩ := e
  have := eqU_refl h (v := u) ⟨rfl, rfl, rfl, rfl, rfl, rfl⟩
  unfold eqU at this ⊢
  rw [e1, e2, e3, e4, e5, e6]
  exact this
end Go.Proofs.Ythpnebmolaaapaa.upd
