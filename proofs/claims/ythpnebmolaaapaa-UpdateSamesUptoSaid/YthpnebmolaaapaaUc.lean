import Derived.Test.YthpnebmolaaapaaUb
import Derived.Laws.AppendOwnNone
import Derived.OwnWalk
namespace Go.Proofs.Ythpnebmolaaapaa.upd
open Go.RowKit eqv chunks
theorem flat_at {s j : Nat} {u : Value} : ∀ {L : List (List Value)}, (∀ x ∈ L, x.length = s) → L.flatten[j]? = some u → ∃ k i, k < L.length ∧ j = k * s + i ∧ (ch L k)[i]? = some u := by
  intro L
  induction L generalizing j with
  | nil => intro _ h; simp at h
  | cons x L ih =>
    intro hL h
    have hx := hL x List.mem_cons_self
    rw [List.flatten_cons] at h
    by_cases hj : j < s
    · rw [List.getElem?_append_left (by omega)] at h
      exact ⟨0, j, by simp, by omega, by simpa [ch] using h⟩
    · rw [List.getElem?_append_right (by omega), hx] at h
      obtain ⟨k, i, hk, e, hc⟩ := ih (fun y hy => hL y (List.mem_cons_of_mem _ hy)) h
      exact ⟨k + 1, i, by simpa using hk, by rw [Nat.succ_mul]; omega, by simpa [ch] using hc⟩
/-- A row's cells, chunk by chunk. -/
theorem _root_.Go.Proofs.Ythpnebmolaaapaa.chunks.Sl.flat {w : World} {ad : Addr} {s : Nat} {X : List (List Value)} (h : Sl w (some ad) s X) : ∀ j u, X.flatten[j]? = some u → w.cell? (ad.add j) = some u := by
  intro j u hu
  obtain ⟨k, i, hk, rfl, hc⟩ := flat_at h.1 hu
  obtain ⟨ad', e, hr⟩ := h.2 (by omega)
  cases e
  rw [← add_add]
  exact hr k hk i u hc
theorem flat_one {X : List (List Value)} (h : ∀ x ∈ X, ∀ v ∈ x, v.oneCell' = true) : ∀ u ∈ X.flatten, u.oneCell' = true := fun u hu => by
  obtain ⟨x, hx, hux⟩ := List.mem_flatten.1 hu
  exact h x hx u hux
theorem info44 : ∃ i, Try.prog.info? 44 = some i ∧ i.zero = some (.agg zE.toArray) ∧ i.size = 111 ∧ i.bytes ≤ 1000 := by
  have h1 : (Try.prog.info? 44).map (fun i => (i.zero, i.size)) = some (some (.agg zE.toArray), 111) := by kernel_rfl
  have h2 : (Try.prog.info? 44).map (fun i => Nat.ble i.bytes 1000) = some true := by kernel_rfl
  cases hq : Try.prog.info? 44 with
  | none => simp [hq] at h1
  | some i =>
    rw [hq] at h1 h2
    simp only [Option.map_some, Option.some.injEq, Prod.mk.injEq] at h1 h2
    exact ⟨i, rfl, h1.1, h1.2, Nat.le_of_ble_eq_true h2⟩
attribute [local go_sem] zero44
/-- A row that the call owns. -/
def Own (w : World) (base : Nat) (e s : Nat) (v : Value) (X : List (List Value)) : Prop := w.ownsRow base e s v X.length X.flatten ∧ ∀ x ∈ X, x.length = s
theorem own_slice {w : World} {base e s n : Nat} {v : Value} {xs : List Value} (h : w.ownsRow base e s v n xs) : ∃ A c, v = .slice A n c ∧ (A = none → n = 0 ∧ c = 0) ∧ ∀ ad, A = some ad → base ≤ ad.block := by
  rcases h.2 with ⟨rfl, rfl⟩ | ⟨g, cap, cur, rfl, hg, _⟩
  · exact ⟨none, 0, rfl, fun _ => ⟨rfl, rfl⟩, fun ad e => by cases e⟩
  · exact ⟨_, cap, rfl, fun e => by (cases e), fun ad e => by cases e; exact hg⟩
theorem own_base {w : World} {base base' e s n : Nat} {v : Value} {xs : List Value} (h : w.ownsRow base e s v n xs) (hb : base' ≤ base) : w.ownsRow base' e s v n xs := by
  refine ⟨h.1, ?_⟩
  rcases h.2 with h1 | ⟨g, cap, cur, h1, hg, h2⟩
  · exact .inl h1
  · exact .inr ⟨g, cap, cur, h1, Nat.le_trans hb hg, h2⟩
theorem own_setCell {w : World} {base e s n : Nat} {v : Value} {xs : List Value} (h : w.ownsRow base e s v n xs) {a : Addr} (ha : a.block < base) (u : Value) : (w.setCell a u).ownsRow base e s v n xs := ownsRow_setCell_below h ha u
/-- 'append' of a whole slice onto nil. -/
theorem wpList_app {P : Program} {w : World} {ops : Array Oper} {rest : List Oper} {o : Oper} {a : Act} {Q : Exit → Act → World → Prop} (hgd : o.guard = none) (s x : Operand) (t : TypeId)
    (ho : o.op = .call { callee := .builtin .append, args := #[s, x], argTypes := #[t, t] })
    (base : Nat) (e : TypeId) (i : TypeInfo) (z : Value) (size : Nat) (ht : P.underlying t = some (.slice e)) (hi : P.info? e = some i ∧ i.zero = some z ∧ i.size = size ∧ i.bytes ≤ 1000)
    (hzs : z.cells.size = size) (hsz : 0 < size) {A : Option Addr} {X : List (List Value)} {c : Nat} (hs : a.eval s = .slice none 0 0) (hx : a.eval x = .slice A X.length c) (hA : Sl w A size X) (hn : A = none → X = [] ∧ c = 0)
    (h1 : ∀ x ∈ X, ∀ v ∈ x, v.oneCell' = true) (hm : X.length ≤ 1048576) (hbase : base ≤ w.heap.size)
    (h : ∀ A1 c1 w', w'.ownsRow base e size (.slice A1 X.length c1) X.length X.flatten → w.grownBy w' none → wpList P ops Q rest (a.put o.dst (.slice A1 X.length c1)) w') : wpList P ops Q (o :: rest) a w := by
  obtain ⟨hi, hz, hsize, hby⟩ := hi
  rcases A with _ | ad
  · obtain ⟨rfl, rfl⟩ := hn rfl
    exact wpList_append_own_none hgd s x t ho base e i size ht hi (.slice none 0 0) 0 [] hs (World.ownsRow_nil _ _ _ _) hx (h none 0 w (World.ownsRow_nil _ _ _ _) (World.grownBy.refl w none))
  · refine wpList_append_own w hgd s x t ho base e i z size i.bytes ht hi hz hsize rfl hzs hsz (.slice none 0 0) 0 [] hs (World.ownsRow_nil _ _ _ _) ad X.length c X.flatten hx (flat_len hA.1) hA.flat (flat_one h1) (by simp only [maxLen]; omega) ?_ hbase ?_
    · calc (0 + X.length) * i.bytes ≤ 1048576 * 1000 := Nat.mul_le_mul (by omega) hby
        _ ≤ _ := by decide
    · intro v' w' hown hg _
      rw [Nat.zero_add, List.nil_append] at hown
      obtain ⟨A1, c1, rfl, _, _⟩ := own_slice hown
      exact h A1 c1 w' hown hg
theorem grown_two {w w1 : World} {cs zs : List Value} {t u : TypeId} (hg : ((w.alloc (.cells cs.toArray t)).alloc (.cells zs.toArray u)).grownBy w1 none) :
    Blk w1 w.heap.size t cs ∧ Blk w1 (w.heap.size + 1) u zs ∧ Below w.heap.size w w1 ∧ w.heap.size + 1 + 1 ≤ w1.heap.size := by
  have b1 := (Blk.new w t cs).alloc (.cells zs.toArray u)
  have b2 := Blk.new (w.alloc (.cells cs.toArray t)) u zs
  rw [hsz] at b2
  refine ⟨(hg.block _ (by simp only [hsz]; omega) (by simp)).trans b1, (hg.block _ (by simp only [hsz]; omega) (by simp)).trans b2, (((Below.refl _ _).alloc (Nat.le_refl _) _).alloc (by simp) _).grown hg (by simp only [hsz]; omega) (by simp), ?_⟩
  have := hg.size
  simpa only [hsz] using this
theorem grown_keep {w w1 : World} {g : Nat} {cs : List Value} {t : TypeId} (hg : w.grownBy w1 none) (h : Blk w g t cs) : Blk w1 g t cs := (hg.block _ h.lt (by simp)).trans h
set_option maxHeartbeats 4000000 in
theorem copy (u : Upd) (w : World) (hu : u.In w) :
    Calls Try.prog 7 #[.agg u.cells] w fun e w' => ∃ A1 c1 A2 c2, e = .returned (.agg #[.slice A1 u.X.length c1, .int .i64 u.a, .int .i64 u.b, .int .i64 u.m, .string u.s, .slice A2 u.Y.length c2]) ∧
      Own w' w.heap.size 34 32 (.slice A1 u.X.length c1) u.X ∧ Own w' w.heap.size 44 111 (.slice A2 u.Y.length c2) u.Y ∧ Below w.heap.size w w' := by
  obtain ⟨A, X, c, a, b, m, s, E, Y, d⟩ := u
  unfold Upd.cells
  simp only
  obtain ⟨i4, hi4⟩ := info44
  obtain ⟨i3, hi3, hz3, hs3, hb3⟩ := info_parts info34
  have HI4 := Lib.hid hi4
  have HI3 := Lib.hid (show Try.prog.info? 34 = some i3 ∧ i3.zero = some _ ∧ i3.size = 32 ∧ i3.bytes ≤ 1000 from ⟨hi3, hz3, hs3, by omega⟩)
  clear hi4 hi3 hz3 hs3 hb3
  have HU := Lib.hid hu
  clear hu
  go_enter Try.func7, Try.ntmps7
  go_upto_region 1 with fail
  have hU1 := HU.out.below (((Below.refl w.heap.size w).alloc (Nat.le_refl _) (.cells #[.slice A X.length c, .int .i64 a, .int .i64 b, .int .i64 m, .string s, .slice E Y.length d] 30)).alloc (by simp) (.cells #[.slice none 0 0, .int .i64 0, .int .i64 0, .int .i64 0, .string ⟨#[]⟩, .slice none 0 0] 30))
  have HU1 := Lib.hid hU1
  clear hU1
  go_upto_region 2 with (at_builtin; go_loud (refine wpList_app rfl (.const (.slice none 0 0)) (.tmp 4) 27 rfl (w.heap.size + 1 + 1) 34 i3 _ 32 Try.underlying27 HI3.out (by simp [Value.cells]) (by omega) rfl rfl HU1.out.hA HU1.out.nA HU1.out.hX1 HU1.out.hm (by simp) ?_); intro A1 c1 w1 hown1 hg1; have hG := grown_two (cs := [.slice A X.length c, .int .i64 a, .int .i64 b, .int .i64 m, .string s, .slice E Y.length d]) (zs := [.slice none 0 0, .int .i64 0, .int .i64 0, .int .i64 0, .string ⟨#[]⟩, .slice none 0 0]) hg1; clear hg1; have HOWN1 := Lib.hid hown1; clear hown1; have HG := Lib.hid hG; clear hG; have k0 := cell_of (o := 0) HG.out.1 rfl; have f0 := HG.out.1.frozen 0; have k5 := cell_of (o := 5) HG.out.1 rfl)
  have hB2 : Below w.heap.size w (w1.setCell ⟨w.heap.size, 0, none⟩ (.slice A1 X.length c1)) := HG.out.2.2.1.setCell (Nat.le_refl _) _
  have hz2 : w.heap.size + 1 + 1 ≤ (w1.setCell ⟨w.heap.size, 0, none⟩ (.slice A1 X.length c1)).heap.size := by simpa using HG.out.2.2.2
  have hb1 := HG.out.1.setCell (o := 0) (v := .slice A1 X.length c1)
  have hb2 := HG.out.2.1.setCell_other (g' := w.heap.size) (o := 0) (v := .slice A1 X.length c1) (by omega)
  have hown2 := own_setCell HOWN1.out (a := ⟨w.heap.size, 0, none⟩) (by simp only; omega) (.slice A1 X.length c1)
  have HB2 := Lib.hid (And.intro hB2 (And.intro hz2 (And.intro hb1 (And.intro hb2 (And.intro hown2 (HU.out.below hB2))))))
  clear hB2 hz2 hb1 hb2 hown2 k0 f0
  go_upto_region 3 with (at_builtin; go_loud (refine wpList_app rfl (.const (.slice none 0 0)) (.tmp 8) 28 rfl (w.heap.size + 1 + 1) 44 i4 _ 111 Try.underlying28 HI4.out (by simp [Value.cells, zE_length]) (by omega) rfl rfl HB2.out.2.2.2.2.2.hE HB2.out.2.2.2.2.2.nE HB2.out.2.2.2.2.2.hY1 HB2.out.2.2.2.2.2.hn HB2.out.2.1 ?_); intro A2 c2 w2 hown3 hg2; have HOWN3 := Lib.hid hown3; clear hown3; have HG2 := Lib.hid hg2; clear hg2; have k0 := cell_of (o := 5) (grown_keep HG2.out HB2.out.2.2.1) rfl; have f0 := (grown_keep HG2.out HB2.out.2.2.1).frozen 5)
  clear k0 f0 k5
  have HL := Lib.hid (And.intro HU.out.hA.1 HU.out.hE.1)
  have g1 := (grown_keep HG2.out HB2.out.2.2.1).setCell (o := 5) (v := .slice A2 Y.length c2)
  have g2 := (grown_keep HG2.out HB2.out.2.2.2.1).setCell_other (g' := w.heap.size) (o := 5) (v := .slice A2 Y.length c2) (by omega)
  have g3 := own_setCell (HB2.out.2.2.2.2.1.kept HG2.out (by rcases A1 with _ | ad1 <;> simp [Value.ownBlock])) (a := ⟨w.heap.size, 5, none⟩) (by simp only; omega) (.slice A2 Y.length c2)
  have g4 := own_setCell HOWN3.out (a := ⟨w.heap.size, 5, none⟩) (by simp only; omega) (.slice A2 Y.length c2)
  have g5 : Below w.heap.size w (w2.setCell ⟨w.heap.size, 5, none⟩ (.slice A2 Y.length c2)) := (HB2.out.1.grown HG2.out HB2.out.1.size (by simp)).setCell (Nat.le_refl _) _
  clear HB2 HG2 HOWN3 HG HU1 HU HOWN1
  generalize w2.setCell ⟨w.heap.size, 5, none⟩ (.slice A2 Y.length c2) = W at g1 g2 g3 g4 g5 ⊢
  have l0 := cell_of (o := 0) g1 rfl
  have l1 := cell_of (o := 1) g1 rfl
  have l2 := cell_of (o := 2) g1 rfl
  have l3 := cell_of (o := 3) g1 rfl
  have l4 := cell_of (o := 4) g1 rfl
  have l5 := cell_of (o := 5) g1 rfl
  have m0 := cell_of (o := 0) g2 rfl
  have m1 := cell_of (o := 1) g2 rfl
  have m2 := cell_of (o := 2) g2 rfl
  have m3 := cell_of (o := 3) g2 rfl
  have m4 := cell_of (o := 4) g2 rfl
  have m5 := cell_of (o := 5) g2 rfl
  have n0 := g2.frozen 0
  have n1 := g2.frozen 1
  have n2 := g2.frozen 2
  have n3 := g2.frozen 3
  have n4 := g2.frozen 4
  have n5 := g2.frozen 5
  have G := Lib.hid (And.intro g3 (And.intro g4 g5))
  clear g1 g2 g3 g4 g5
  go_wp2
  refine bodyPost_ret (v := .agg #[.slice A1 X.length c1, .int .i64 a, .int .i64 b, .int .i64 m, .string s, .slice A2 Y.length c2]) (by simp [results, Try.results7, go_sem, *]) rfl ⟨A1, c1, A2, c2, rfl, ⟨own_base (own_setCell (own_setCell (own_setCell (own_setCell (own_setCell (own_setCell (G.out.1) (a := ⟨w.heap.size + 1, 0, none⟩) (by simp only; omega) _) (a := ⟨w.heap.size + 1, 1, none⟩) (by simp only; omega) _) (a := ⟨w.heap.size + 1, 2, none⟩) (by simp only; omega) _) (a := ⟨w.heap.size + 1, 3, none⟩) (by simp only; omega) _) (a := ⟨w.heap.size + 1, 4, none⟩) (by simp only; omega) _) (a := ⟨w.heap.size + 1, 5, none⟩) (by simp only; omega) _) (by omega), HL.out.1⟩, ⟨own_base (own_setCell (own_setCell (own_setCell (own_setCell (own_setCell (own_setCell (G.out.2.1) (a := ⟨w.heap.size + 1, 0, none⟩) (by simp only; omega) _) (a := ⟨w.heap.size + 1, 1, none⟩) (by simp only; omega) _) (a := ⟨w.heap.size + 1, 2, none⟩) (by simp only; omega) _) (a := ⟨w.heap.size + 1, 3, none⟩) (by simp only; omega) _) (a := ⟨w.heap.size + 1, 4, none⟩) (by simp only; omega) _) (a := ⟨w.heap.size + 1, 5, none⟩) (by simp only; omega) _) (by omega), HL.out.2⟩, ((((((G.out.2.2).setCell (p := ⟨w.heap.size + 1, 0, none⟩) (by simp only; omega) _).setCell (p := ⟨w.heap.size + 1, 1, none⟩) (by simp only; omega) _).setCell (p := ⟨w.heap.size + 1, 2, none⟩) (by simp only; omega) _).setCell (p := ⟨w.heap.size + 1, 3, none⟩) (by simp only; omega) _).setCell (p := ⟨w.heap.size + 1, 4, none⟩) (by simp only; omega) _).setCell (p := ⟨w.heap.size + 1, 5, none⟩) (by simp only; omega) _⟩
end Go.Proofs.Ythpnebmolaaapaa.upd
