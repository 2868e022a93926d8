/- Blocks that are known whole: small laws. No condition. -/
import Derived.Test.YthpnebmolaaapaaDoorCh
import Derived.Laws.AppendOwnNone
import Derived.OwnWalk
import Derived.Deep.AppendLies
import Derived.Deep.WholeRow
namespace Go.Proofs.YthpnebmolaaapaaDoor.chunks
open Go.RowKit eqv
theorem Blk.new (w : World) (t : TypeId) (cs : List Value) : Blk (w.alloc (Obj.cells cs.toArray t)) w.heap.size t cs := heap_alloc_new w _
theorem Blk.setCell {w : World} {g o : Nat} {t : TypeId} {cs : List Value} {v : Value} (h : Blk w g t cs) : Blk (w.setCell ⟨g, o, none⟩ v) g t (cs.set o v) := by
  unfold Blk at h ⊢
  simp [World.setCell, Array.getElem?_modify, h]
theorem Blk.setCell_other {w : World} {g g' o : Nat} {t : TypeId} {cs : List Value} {v : Value} (h : Blk w g t cs) (hne : g' ≠ g) : Blk (w.setCell ⟨g', o, none⟩ v) g t cs := by
  unfold Blk at h ⊢
  simp [World.setCell, Array.getElem?_modify, h, hne]
theorem Blk.frozen {w : World} {g : Nat} {t : TypeId} {cs : List Value} (h : Blk w g t cs) (o : Nat) : w.frozen? ⟨g, o, none⟩ = false := by
  unfold Blk at h
  simp [World.frozen?, h]
theorem Blk.all {w : World} {g : Nat} {t : TypeId} {cs : List Value} (h : Blk w g t cs) : okAt w ⟨g, 0, none⟩ cs.length ∧ cellsAt w ⟨g, 0, none⟩ cs.length = cs :=
  at_of fun j u hu => by rw [add_zero_lit, h.cell]; exact hu
theorem hsz (w : World) (o : Obj) : (w.alloc o).heap.size = w.heap.size + 1 := by simp
theorem cell_of {W : World} {a t o : Nat} {xs : List Value} {v : Value} (h : Blk W a t xs) (hv : xs[o]? = some v) : W.cell? ⟨a, o, none⟩ = some v := by rw [h.cell]; exact hv
theorem two {w W : World} {cs zs : List Value} {t u : TypeId} (h : (w.alloc (.cells cs.toArray t)).alloc (.cells zs.toArray u) = W) :
    Blk W w.heap.size t cs ∧ Blk W (w.heap.size + 1) u zs ∧ Below w.heap.size w W ∧ W.heap.size = w.heap.size + 1 + 1 := by
  subst h
  have b1 := (Blk.new w t cs).alloc (.cells zs.toArray u)
  have b2 := Blk.new (w.alloc (.cells cs.toArray t)) u zs
  rw [hsz] at b2
  exact ⟨b1, b2, ((Below.refl _ _).alloc (Nat.le_refl _) _).alloc (by simp) _, by simp only [hsz]⟩
theorem one {w W : World} {cs : List Value} {t : TypeId} (h : w.alloc (.cells cs.toArray t) = W) : Blk W w.heap.size t cs ∧ Below w.heap.size w W ∧ W.heap.size = w.heap.size + 1 := by
  subst h
  exact ⟨Blk.new w t cs, (Below.refl _ _).alloc (Nat.le_refl _) _, by simp only [hsz]⟩
theorem put_all {cs ds : List Value} (h : ds.length = cs.length) : cs.take 0 ++ ds ++ cs.drop (0 + ds.length) = ds := by
  rw [List.take_zero, List.nil_append, Nat.zero_add, h, List.drop_length, List.append_nil]
theorem results_cell {fn : Func} {p : Tmp} {ty : TypeId} (h : fn.results = #[.cell p ty]) {tmps : Array Value} {a : Addr} (ha : tmps.getD p undef = .pointer (some a)) (P : Program) (w : World) : (results fn tmps).run P w = (loadVar ty a).run P w := by
  have ha' : tmps[p]?.getD undef = .pointer (some a) := by simpa [Array.getD_eq_getD_getElem?] using ha
  simp only [results, h]
  simp [ha', asAddr]
/-- A result that lies in a block of its own. -/
theorem ret_blk {P : Program} {fn : Func} {p : Tmp} {ty t k g : Nat} {cs : List Value} {tmps : Array Value} {W : World} (h : fn.results = #[.cell p ty]) (ha : tmps.getD p undef = .pointer (some ⟨g, 0, none⟩))
    (hs : (P.info? ty).map (·.size) = some k) (hu : ∃ d, P.underlying ty = some d ∧ aggD d = true) (hb : Blk W g t cs) (hl : cs.length = k) : (results fn tmps).run P W = .ok (.agg cs.toArray) W := by
  have h2 := hb.all
  rw [hl] at h2
  have h3 := run_bigLoad hs hu h2.1
  rw [h2.2] at h3
  rw [results_cell h ha]
  exact h3
theorem Blk.drew {w : World} {g : Nat} {t : TypeId} {cs : List Value} (h : Blk w g t cs) : Blk w.drew g t cs := h
theorem okAt_drew (w : World) (a : Addr) (k : Nat) : okAt w.drew a k ↔ okAt w a k := ⟨fun h => h, fun h => h⟩
theorem cellsAt_drew (w : World) (a : Addr) (k : Nat) : cellsAt w.drew a k = cellsAt w a k := rfl
theorem Blk.part {w : World} {g : Nat} {t : TypeId} {pre cs post : List Value} (h : Blk w g t (pre ++ cs ++ post)) : okAt w ⟨g, pre.length, none⟩ cs.length ∧ cellsAt w ⟨g, pre.length, none⟩ cs.length = cs :=
  at_of fun j u hu => by
    have e : (⟨g, pre.length, none⟩ : Addr).add j = ⟨g, pre.length + j, none⟩ := by
      unfold Addr.add
      split <;> simp_all
    rw [e, h.cell, List.append_assoc, List.getElem?_append_right (by omega), Nat.add_sub_cancel_left, List.getElem?_append_left (List.getElem?_eq_some_iff.1 hu).1]
    exact hu
/-- A store of a whole value into a block that was just made for it. -/
theorem run_stNew {P : Program} {t k g : Nat} {w : World} {cs zs : List Value} (hs : (P.info? t).map (·.size) = some k) (hg : w.heap.size = g) (hz : zs.length = k) (hl : cs.length = k) (h1 : ∀ v ∈ cs, v.oneCell' = true) :
    (bigStore t ⟨g, 0, none⟩ (.agg cs.toArray)).run P (w.alloc (.cells zs.toArray t)) = .ok () (w.alloc (.cells cs.toArray t)) := by
  subst hg
  have hb := Blk.new w t zs
  rw [run_bigStore hs hl ⟨zs, t, hb, by omega, h1⟩]
  congr 1
  have e : putAt (w.alloc (.cells zs.toArray t)) w.heap.size 0 cs = (w.alloc (.cells zs.toArray t)).setRow w.heap.size cs.toArray := by
    unfold putAt
    unfold Blk at hb
    rw [hb]
    simp [hl, List.drop_eq_nil_of_le (show zs.length ≤ k by omega)]
  rw [e, World.setRow_alloc_new]
theorem own_below {w w' : World} {base e s n : Nat} {v : Value} {xs : List Value} (h : w.ownsRow base e s v n xs) (hb : Below w.heap.size w w') : w'.ownsRow base e s v n xs :=
  h.kept (row := none) ⟨hb.os, hb.tape, hb.output, hb.size, fun k hk _ => hb.block k hk⟩ (by cases v.ownBlock <;> simp)
theorem own_block {w w' : World} {base e s n g c : Nat} {xs : List Value} (h : w.ownsRow base e s (.slice (some ⟨g, 0, none⟩) n c) n xs) (hk : w'.heap[g]? = w.heap[g]?) : w'.ownsRow base e s (.slice (some ⟨g, 0, none⟩) n c) n xs := by
  refine ⟨h.1, ?_⟩
  rcases h.2 with ⟨h1, _⟩ | ⟨g', cap, cur, h1, hg, hh, h2⟩
  · cases h1
  · cases h1
    exact .inr ⟨g, c, cur, rfl, hg, hk.trans hh, h2⟩
theorem own_slice {w : World} {base e s n : Nat} {v : Value} {xs : List Value} (h : w.ownsRow base e s v n xs) : ∃ A c, v = .slice A n c ∧ (A = none → n = 0 ∧ c = 0) ∧ ∀ ad, A = some ad → base ≤ ad.block := by
  rcases h.2 with ⟨rfl, rfl⟩ | ⟨g, cap, cur, rfl, hg, _⟩
  · exact ⟨none, 0, rfl, fun _ => ⟨rfl, rfl⟩, fun ad e => by cases e⟩
  · exact ⟨_, cap, rfl, fun e => by (cases e), fun ad e => by cases e; exact hg⟩
theorem own_base {w : World} {base base' e s n : Nat} {v : Value} {xs : List Value} (h : w.ownsRow base e s v n xs) (hb : base' ≤ base) : w.ownsRow base' e s v n xs := by
  refine ⟨h.1, ?_⟩
  rcases h.2 with h1 | ⟨g, cap, cur, h1, hg, h2⟩
  · exact .inl h1
  · exact .inr ⟨g, cap, cur, h1, Nat.le_trans hb hg, h2⟩
theorem own_type {w : World} {base e s n g : Nat} {v : Value} {xs : List Value} (h : w.ownsRow base e s v n xs) (hg : v.ownBlock = some g) : ∃ cur, w.heap[g]? = some (.cells cur e (0, 0)) := by
  rcases h.2 with ⟨rfl, _⟩ | ⟨g', cap, cur, rfl, _, hh, _⟩
  · cases hg
  · cases hg
    exact ⟨cur, hh⟩
theorem own_ne {w : World} {base base' e e' s s' n n' g : Nat} {v v' : Value} {xs xs' : List Value} (h : w.ownsRow base e s v n xs) (h' : w.ownsRow base' e' s' v' n' xs') (hne : e ≠ e') (hg : v.ownBlock = some g) : v'.ownBlock ≠ some g := fun hg' => by
  obtain ⟨cur, h1⟩ := own_type h hg
  obtain ⟨cur', h2⟩ := own_type h' hg'
  rw [h1] at h2
  cases h2
  exact hne rfl
theorem own_ne_blk {w : World} {base e s n g t : Nat} {v : Value} {xs cs : List Value} (h : w.ownsRow base e s v n xs) (hb : Blk w g t cs) (hne : e ≠ t) : v.ownBlock ≠ some g := fun hg => by
  obtain ⟨cur, h1⟩ := own_type h hg
  unfold Blk at hb
  rw [h1] at hb
  cases hb
  exact hne rfl
theorem blk_grown {w w' : World} {g t : Nat} {cs : List Value} {row : Option Nat} (h : Blk w g t cs) (hg : w.grownBy w' row) (hne : row ≠ some g) : Blk w' g t cs := (hg.block g h.lt (fun e => hne e.symm)).trans h
theorem grown_below {w w' : World} {row : Option Nat} (hb : Below w.heap.size w w') : w.grownBy w' row := ⟨hb.os, hb.tape, hb.output, hb.size, fun k hk _ => hb.block k hk⟩
theorem grown_drewN {a w : World} {row : Option Nat} (h : a.grownBy w row) (n : Nat) : a.grownBy (w.drewN n) row := ⟨h.os, h.tape, h.output, h.size, h.block⟩
theorem grown_drew {a w : World} {row : Option Nat} (h : a.grownBy w row) : a.grownBy w.drew row := ⟨h.os, h.tape, h.output, h.size, h.block⟩
theorem grown_alloc {a w : World} {row : Option Nat} (h : a.grownBy w row) (o : Obj) : a.grownBy (w.alloc o) row :=
  ⟨h.os, h.tape, h.output, Nat.le_trans h.size (by simp), fun i hi hne => (Below.heap_alloc w o i (Nat.lt_of_lt_of_le hi h.size)).trans (h.block i hi hne)⟩
theorem grown_setCell {a w : World} {g : Nat} (h : a.grownBy w (some g)) {p : Addr} (hp : p.block = g ∨ a.heap.size ≤ p.block) (u : Value) : a.grownBy (w.setCell p u) (some g) :=
  ⟨h.os, h.tape, h.output, by simpa [World.setCell] using h.size, fun i hi hne => (Below.heap_setCell w p u i (by
    rintro rfl
    rcases hp with hp | hp
    · exact hne (by rw [hp])
    · omega)).trans (h.block i hi hne)⟩
theorem grown_then {a b c : World} {row : Option Nat} (h : a.grownBy b row) (k : b.grownBy c row) : a.grownBy c row :=
  ⟨k.os.trans h.os, k.tape.trans h.tape, k.output.trans h.output, Nat.le_trans h.size k.size, fun i hi hne => (k.block i (Nat.lt_of_lt_of_le hi h.size) hne).trans (h.block i hi hne)⟩
theorem grown_of_below {a b c : World} {row : Option Nat} (h : a.grownBy b row) (k : Below a.heap.size b c) : a.grownBy c row :=
  ⟨k.os.trans h.os, k.tape.trans h.tape, k.output.trans h.output, Nat.le_trans h.size k.size, fun i hi hne => (k.block i hi).trans (h.block i hi hne)⟩
end Go.Proofs.YthpnebmolaaapaaDoor.chunks
