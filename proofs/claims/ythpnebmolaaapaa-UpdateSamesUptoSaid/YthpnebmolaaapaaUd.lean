import Derived.Test.YthpnebmolaaapaaUd0
import Derived.Deep.RegionHeld3
namespace Go.Proofs.Ythpnebmolaaapaa.upd
open Go.RowKit eqv chunks
attribute [local go_sem] zero44
attribute [local go_sem ↓] toBld toBls
attribute [local go_sem] bls0 bls1
attribute [local go_sem] build44
theorem three {w : World} {cs zs : List Value} {t : TypeId} {W : World} (h : ((w.alloc (.cells cs.toArray t)).alloc (.cells zs.toArray t)).alloc (.cells cs.toArray t) = W) :
    Blk W w.heap.size t cs ∧ Blk W (w.heap.size + 1) t zs ∧ Blk W (w.heap.size + 1 + 1) t cs ∧ Below w.heap.size w W ∧ W.heap.size = w.heap.size + 1 + 1 + 1 := by
  subst h
  have b1 := Blk.new w t cs
  have b2 := Blk.new (w.alloc (.cells cs.toArray t)) t zs
  have b3 := Blk.new ((w.alloc (.cells cs.toArray t)).alloc (.cells zs.toArray t)) t cs
  simp only [hsz] at b2 b3
  exact ⟨(b1.alloc _).alloc _, b2.alloc _, b3, (((Below.refl _ _).alloc (Nat.le_refl _) _).alloc (by simp) _).alloc (by simp only [hsz]; omega) _, by simp only [hsz]⟩
theorem own0 {W : World} {g base : Nat} (h : W.heap[g]? = some (.cells #[] 44 (0, 0))) (hb : base ≤ g) : W.ownsRow base 44 111 (.slice (some ⟨g, 0, none⟩) 0 0) 0 [] :=
  ⟨by simp, .inr ⟨g, 0, #[], rfl, hb, h, Nat.le_refl _, Nat.zero_le _, by simp, by simp⟩⟩
theorem own0_new (V : World) {base : Nat} (hb : base ≤ V.heap.size) : (V.alloc (.cells #[] 44)).drew.ownsRow base 44 111 (.slice (some ⟨V.heap.size, 0, none⟩) 0 0) 0 [] := own0 (heap_alloc_new V _) hb
theorem own_cap {w : World} {base e s n c : Nat} {A : Option Addr} {xs : List Value} (h : w.ownsRow base e s (.slice A n c) n xs) : (n : Int) ≤ (c : Int) := by
  rcases h.2 with ⟨h1, h2⟩ | ⟨g, cap, cur, h1, _, _, hc, _⟩
  · omega
  · cases h1; omega
theorem markE_length : markE.length = 111 := by simp [markE, zE_length]
theorem slMark (w2 : World) : Sl (w2.alloc (.cells markE.toArray 44)) (some ⟨w2.heap.size, 0, none⟩) 111 [markE] :=
  Blk.sl (rest := []) (t := 44) (by simpa using Blk.new w2 44 markE) (by intro x hx; simp at hx; subst hx; exact markE_length)
theorem slBlk {W : World} {g : Nat} (h : Blk W g 44 markE) : Sl W (some ⟨g, 0, none⟩) 111 [markE] :=
  Blk.sl (rest := []) (t := 44) (by simpa using h) (by intro x hx; simp at hx; subst hx; exact markE_length)
theorem markE_one : ∀ x ∈ [markE], ∀ v ∈ x, v.oneCell' = true := by
  have h : markE.all (fun v => v.oneCell') = true := by kernel_rfl
  intro x hx v hv
  simp at hx
  subst hx
  exact List.all_eq_true.1 h v hv
set_option maxRecDepth 4000 in
set_option maxHeartbeats 4000000 in
theorem lent (u : Upd) (w : World) (hu : u.In w) :
    Calls Try.prog 6 #[.agg u.cells] w fun e w' => ∃ A3 c3, e = .returned (.agg #[.slice (some ⟨w.heap.size + 1 + 1 + 1, 0, none⟩) u.X.length (u.X.length + 9), .int .i64 u.a, .int .i64 u.b, .int .i64 u.m, .string u.s, .slice A3 u.Y.length c3]) ∧
      Blk w' (w.heap.size + 1 + 1 + 1) 34 (u.X ++ marks).flatten ∧ w'.ownsRow (w.heap.size + 1 + 1 + 1 + 1) 44 111 (.slice A3 (u.Y.length + 1) c3) (u.Y.length + 1) (u.Y ++ [markE]).flatten ∧ Below w.heap.size w w' := by
  obtain ⟨A, X, c, a, b, m, s, E, Y, d⟩ := u
  unfold Upd.cells
  simp only
  obtain ⟨i4, hi4⟩ := info44
  have HI4 := Lib.hid hi4
  clear hi4
  have HU := Lib.hid hu
  clear hu
  go_enter Try.func6, Try.ntmps6
  go_upto_region 2 with fail
  generalize hW : World.alloc _ _ = W
  have h3 := three (cs := [.slice A X.length c, .int .i64 a, .int .i64 b, .int .i64 m, .string s, .slice E Y.length d]) (zs := [.slice none 0 0, .int .i64 0, .int .i64 0, .int .i64 0, .string ⟨#[]⟩, .slice none 0 0]) hW
  clear hW
  have hUW := HU.out.below h3.2.2.2.1
  have HUW := Lib.hid hUW
  have k0 := cell_of (o := 0) h3.1 rfl
  have H3 := Lib.hid h3
  clear h3 hUW
  have hh := handHashes A X c W HUW.out.hA HUW.out.hX1 HUW.out.hm HUW.out.lA
  have HH := Lib.hid hh
  clear hh
  go_upto_region 3 with (go_at_call 11; refine HH.out.mono ?_; rintro e w1 ⟨rfl, hb1, hbel1, hsz1⟩; have q1 := H3.out.1.below hbel1 (by have := H3.out.2.2.2.2; omega); have q2 := H3.out.2.1.below hbel1 (by have := H3.out.2.2.2.2; omega); have q3 := H3.out.2.2.1.below hbel1 (by have := H3.out.2.2.2.2; omega); have l0 := cell_of (o := 0) q3 rfl; have f0 := q3.frozen 0; have HB1 := Lib.hid (And.intro hb1 (And.intro hbel1 (And.intro hsz1 (And.intro q1 (And.intro q2 q3))))); clear hb1 hbel1 hsz1 q1 q2 q3)
  have v1 := HB1.out.1.setCell_other (g' := w.heap.size + 1 + 1) (o := 0) (v := .slice (some ⟨W.heap.size, 0, none⟩) X.length (X.length + 9)) (by have := H3.out.2.2.2.2; omega)
  have v2 := HB1.out.2.2.2.1.setCell_other (g' := w.heap.size + 1 + 1) (o := 0) (v := .slice (some ⟨W.heap.size, 0, none⟩) X.length (X.length + 9)) (by omega)
  have v3 := HB1.out.2.2.2.2.1.setCell_other (g' := w.heap.size + 1 + 1) (o := 0) (v := .slice (some ⟨W.heap.size, 0, none⟩) X.length (X.length + 9)) (by omega)
  have v4 := HB1.out.2.2.2.2.2.setCell (o := 0) (v := .slice (some ⟨W.heap.size, 0, none⟩) X.length (X.length + 9))
  have v5 := (H3.out.2.2.2.1.trans (HB1.out.2.1.mono H3.out.2.2.2.1.size)).setCell (p := ⟨w.heap.size + 1 + 1, 0, none⟩) (by simp only; omega) (.slice (some ⟨W.heap.size, 0, none⟩) X.length (X.length + 9))
  have v6 := HUW.out.below (HB1.out.2.1)
  have v7 : (w1.setCell ⟨w.heap.size + 1 + 1, 0, none⟩ (.slice (some ⟨W.heap.size, 0, none⟩) X.length (X.length + 9))).heap.size = w.heap.size + 1 + 1 + 1 + 1 := by simp [World.setCell]; rw [HB1.out.2.2.1, H3.out.2.2.2.2]
  have v8 := H3.out.2.2.2.2
  clear k0 l0 f0 HUW H3 HH HB1 v6
  have v6 := HU.out.below v5
  generalize w1.setCell ⟨w.heap.size + 1 + 1, 0, none⟩ (.slice (some ⟨W.heap.size, 0, none⟩) X.length (X.length + 9)) = V at v1 v2 v3 v4 v5 v6 v7 ⊢
  rw [v8] at v1 v4 ⊢
  clear v8 HU
  have k5 := cell_of (o := 5) v2 rfl
  have l5 := cell_of (o := 5) v4 rfl
  have f5 := v4.frozen 5
  have HV := Lib.hid (And.intro v1 (And.intro v2 (And.intro v3 (And.intro v4 (And.intro v5 (And.intro v6 v7))))))
  clear v1 v2 v3 v4 v5 v6 v7
  go_region_held3 (fun w' => w'.cell? ⟨w.heap.size, 5, none⟩ = some (.slice E Y.length d)) (first | go_keep | (rw [World.cell?_setCell_other _ _ _ _ (by simp)]; assumption)) (first | (refine step_app rfl (.tmp 9) (.tmp 11) 28 rfl (w.heap.size + 1 + 1 + 1 + 1) 44 i4 _ 111 Try.underlying28 HI4.out (by simp [Value.cells, zE_length]) (by omega) rfl (own0_new V (by rw [HV.out.2.2.2.2.2.2]; omega)) rfl (HV.out.2.2.2.2.2.1.below ((Below.refl _ _).alloc (Nat.le_refl _) _).drew).hE HV.out.2.2.2.2.2.1.nE HV.out.2.2.2.2.2.1.hY1 HV.out.2.2.2.2.2.1.hn (by omega) (by have := HV.out.2.2.2.2.2.2; simp; omega) ?_; intro A2 c2 w2 hown2 hg2 hat2; rw [Nat.zero_add, List.nil_append] at hown2; rw [Nat.zero_add] at hat2 ⊢; have hbel2 : Below V.heap.size V w2 := ((Below.refl _ _).alloc (Nat.le_refl _) _).drew.grown hg2 (by simp <;> omega) (fun k hk => by have h := Option.some.inj hk; simp only at h; omega); have k6 := cell_of (o := 5) (HV.out.2.1.below hbel2 (by have := HV.out.2.2.2.2.2.2; omega)) rfl; have HW2 := Lib.hid (And.intro hown2 (And.intro hg2 (And.intro hat2 hbel2))); clear hown2 hg2 hat2 hbel2) | (refine step_app rfl (.tmp 9) (.tmp 11) 28 rfl (w.heap.size + 1 + 1 + 1 + 1) 44 i4 _ 111 Try.underlying28 HI4.out (by simp [Value.cells, zE_length]) (by omega) rfl (own0 ((Blk.new V 44 []).alloc (.cells markE.toArray 44)) (by rw [HV.out.2.2.2.2.2.2]; omega)) rfl (HV.out.2.2.2.2.2.1.below (((Below.refl _ _).alloc (Nat.le_refl _) _).alloc (by simp) _).drew).hE HV.out.2.2.2.2.2.1.nE HV.out.2.2.2.2.2.1.hY1 HV.out.2.2.2.2.2.1.hn (by omega) (by have := HV.out.2.2.2.2.2.2; simp; omega) ?_; intro A2 c2 w2 hown2 hg2 hat2; rw [Nat.zero_add, List.nil_append] at hown2; rw [Nat.zero_add] at hat2 ⊢; have hbel2 : Below V.heap.size V w2 := (((Below.refl _ _).alloc (Nat.le_refl _) _).alloc (by simp) _).drew.grown hg2 (by simp <;> omega) (fun k hk => by have h := Option.some.inj hk; simp only at h; simp at h ⊢; omega); have bm : Blk w2 (V.heap.size + 1) 44 markE := ((hg2.block (V.heap.size + 1) (by simp <;> omega) (fun e => by have h := Option.some.inj e; simp only at h; omega)).trans (by have h := Blk.new (V.alloc (.cells #[] 44)) 44 markE; rw [hsz] at h; exact h)); have k6 := cell_of (o := 5) (HV.out.2.1.below hbel2 (by have := HV.out.2.2.2.2.2.2; omega)) rfl; have HW2 := Lib.hid (And.intro hown2 (And.intro hg2 (And.intro hat2 (And.intro hbel2 bm)))); clear hown2 hg2 hat2 hbel2 bm) | (refine step_app rfl (.tmp 9) (.tmp 11) 28 rfl (w.heap.size + 1 + 1 + 1 + 1) 44 i4 _ 111 Try.underlying28 HI4.out (by simp [Value.cells, zE_length]) (by omega) rfl (own0 (by have h := Blk.new (V.alloc (.cells markE.toArray 44)) 44 []; rw [hsz] at h; exact h) (by rw [HV.out.2.2.2.2.2.2]; omega)) rfl (HV.out.2.2.2.2.2.1.below (((Below.refl _ _).alloc (Nat.le_refl _) _).alloc (by simp) _).drew).hE HV.out.2.2.2.2.2.1.nE HV.out.2.2.2.2.2.1.hY1 HV.out.2.2.2.2.2.1.hn (by omega) (by have := HV.out.2.2.2.2.2.2; simp; omega) ?_; intro A2 c2 w2 hown2 hg2 hat2; rw [Nat.zero_add, List.nil_append] at hown2; rw [Nat.zero_add] at hat2 ⊢; have hbel2 : Below V.heap.size V w2 := (((Below.refl _ _).alloc (Nat.le_refl _) _).alloc (by simp) _).drew.grown hg2 (by simp <;> omega) (fun k hk => by have h := Option.some.inj hk; simp only at h; simp at h ⊢; omega); have bm : Blk w2 (V.heap.size) 44 markE := ((hg2.block (V.heap.size) (by simp <;> omega) (fun e => by have h := Option.some.inj e; simp at h)).trans ((Blk.new V 44 markE).alloc (.cells #[] 44))); have k6 := cell_of (o := 5) (HV.out.2.1.below hbel2 (by have := HV.out.2.2.2.2.2.2; omega)) rfl; have HW2 := Lib.hid (And.intro hown2 (And.intro hg2 (And.intro hat2 (And.intro hbel2 bm)))); clear hown2 hg2 hat2 hbel2 bm) | (refine step_app (X := [markE]) rfl (.tmp 12) (.tmp 14) 28 rfl (w.heap.size + 1 + 1 + 1 + 1) 44 i4 _ 111 Try.underlying28 HI4.out (by simp [Value.cells, zE_length]) (by omega) rfl (HW2.out.1.alloc _) rfl (slMark w2) (fun h => by cases h) markE_one (by simp) (by have := HV.out.2.2.2.2.2.1.hn; simp only at this; omega) (by have := HV.out.2.2.2.2.2.2; have := HW2.out.2.2.2.size; simp; omega) ?_; intro A3 c3 w3 hown3 hg3 hat3; have hbel3 : Below V.heap.size V w3 := (HW2.out.2.2.2.alloc HW2.out.2.2.2.size (.cells markE.toArray 44)).grown hg3 (by have := HW2.out.2.2.2.size; simp; omega) (fun k hk => by have := HV.out.2.2.2.2.2.2; have := (HW2.out.1.lt k hk).1; omega); have k7 := cell_of (o := 5) (HV.out.2.1.below hbel3 (by have := HV.out.2.2.2.2.2.2; omega)) rfl; have hc3 := own_cap hown3; have hc4 : (Y.length : Int) ≤ (c3 : Int) := (by simp at hc3; omega); have hc5 : (0 : Int) ≤ (Y.length : Int) := Int.natCast_nonneg _; have k8 := cell_of (o := 5) (HV.out.2.2.2.1.below hbel3 (by have := HV.out.2.2.2.2.2.2; omega)) rfl; have f8 := (HV.out.2.2.2.1.below hbel3 (by have := HV.out.2.2.2.2.2.2; omega)).frozen 5; have HW3 := Lib.hid (And.intro hown3 (And.intro hg3 (And.intro hat3 hbel3))); clear hown3 hg3 hat3 hbel3) | (refine step_app (X := [markE]) rfl (.tmp 12) (.tmp 14) 28 rfl (w.heap.size + 1 + 1 + 1 + 1) 44 i4 _ 111 Try.underlying28 HI4.out (by simp [Value.cells, zE_length]) (by omega) rfl HW2.out.1 rfl (slBlk HW2.out.2.2.2.2) (fun h => by cases h) markE_one (by simp) (by have := HV.out.2.2.2.2.2.1.hn; simp only at this; omega) (by have := HV.out.2.2.2.2.2.2; have := HW2.out.2.2.2.1.size; simp; omega) ?_; intro A3 c3 w3 hown3 hg3 hat3; have hbel3 : Below V.heap.size V w3 := HW2.out.2.2.2.1.grown hg3 (by have := HW2.out.2.2.2.1.size; simp; omega) (fun k hk => by have := HV.out.2.2.2.2.2.2; have := (HW2.out.1.lt k hk).1; omega); have k7 := cell_of (o := 5) (HV.out.2.1.below hbel3 (by have := HV.out.2.2.2.2.2.2; omega)) rfl; have hc3 := own_cap hown3; have hc4 : (Y.length : Int) ≤ (c3 : Int) := (by simp at hc3; omega); have hc5 : (0 : Int) ≤ (Y.length : Int) := Int.natCast_nonneg _; have k8 := cell_of (o := 5) (HV.out.2.2.2.1.below hbel3 (by have := HV.out.2.2.2.2.2.2; omega)) rfl; have f8 := (HV.out.2.2.2.1.below hbel3 (by have := HV.out.2.2.2.2.2.2; omega)).frozen 5; have HW3 := Lib.hid (And.intro hown3 (And.intro hg3 (And.intro hat3 hbel3))); clear hown3 hg3 hat3 hbel3))
  all_goals
    have hV := HV.out.2.2.2.2.2.2
    have y1 := (HV.out.1.below HW3.out.2.2.2 (by omega)).setCell_other (g' := w.heap.size + 1 + 1) (o := 5) (v := .slice A3 Y.length c3) (by omega)
    have y3 := (HV.out.2.2.1.below HW3.out.2.2.2 (by omega)).setCell_other (g' := w.heap.size + 1 + 1) (o := 5) (v := .slice A3 Y.length c3) (by omega)
    have y4 := (HV.out.2.2.2.1.below HW3.out.2.2.2 (by omega)).setCell (o := 5) (v := .slice A3 Y.length c3)
    have y5 := (HV.out.2.2.2.2.1.trans (HW3.out.2.2.2.mono (by omega))).setCell (p := ⟨w.heap.size + 1 + 1, 5, none⟩) (by simp only; omega) (.slice A3 Y.length c3)
    have y6 := own_setCell HW3.out.1 (a := ⟨w.heap.size + 1 + 1, 5, none⟩) (by simp only; omega) (.slice A3 Y.length c3)
    clear HV HW2 HW3 k5 k6 k7 k8 l5 f5 f8 hV
    generalize w3.setCell ⟨w.heap.size + 1 + 1, 5, none⟩ (.slice A3 Y.length c3) = V3 at y1 y3 y4 y5 y6 ⊢
    have l0 := cell_of (o := 0) y4 rfl
    have l1 := cell_of (o := 1) y4 rfl
    have l2 := cell_of (o := 2) y4 rfl
    have l3 := cell_of (o := 3) y4 rfl
    have l4 := cell_of (o := 4) y4 rfl
    have l5 := cell_of (o := 5) y4 rfl
    have m0 := cell_of (o := 0) y3 rfl
    have m1 := cell_of (o := 1) y3 rfl
    have m2 := cell_of (o := 2) y3 rfl
    have m3 := cell_of (o := 3) y3 rfl
    have m4 := cell_of (o := 4) y3 rfl
    have m5 := cell_of (o := 5) y3 rfl
    have n0 := y3.frozen 0
    have n1 := y3.frozen 1
    have n2 := y3.frozen 2
    have n3 := y3.frozen 3
    have n4 := y3.frozen 4
    have n5 := y3.frozen 5
    have G := Lib.hid (And.intro y1 (And.intro y6 y5))
    clear y1 y3 y4 y5 y6
    go_wp2
    refine bodyPost_ret (v := .agg #[.slice (some ⟨w.heap.size + 1 + 1 + 1, 0, none⟩) X.length (X.length + 9), .int .i64 a, .int .i64 b, .int .i64 m, .string s, .slice A3 Y.length c3]) (by simp [results, Try.results6, go_sem, *]) rfl ⟨A3, c3, rfl, ((((((G.out.1).setCell_other (g' := w.heap.size + 1) (o := 0) (by omega)).setCell_other (g' := w.heap.size + 1) (o := 1) (by omega)).setCell_other (g' := w.heap.size + 1) (o := 2) (by omega)).setCell_other (g' := w.heap.size + 1) (o := 3) (by omega)).setCell_other (g' := w.heap.size + 1) (o := 4) (by omega)).setCell_other (g' := w.heap.size + 1) (o := 5) (by omega), (by rw [List.flatten_append]; exact own_setCell (own_setCell (own_setCell (own_setCell (own_setCell (own_setCell (G.out.2.1) (a := ⟨w.heap.size + 1, 0, none⟩) (by simp only; omega) _) (a := ⟨w.heap.size + 1, 1, none⟩) (by simp only; omega) _) (a := ⟨w.heap.size + 1, 2, none⟩) (by simp only; omega) _) (a := ⟨w.heap.size + 1, 3, none⟩) (by simp only; omega) _) (a := ⟨w.heap.size + 1, 4, none⟩) (by simp only; omega) _) (a := ⟨w.heap.size + 1, 5, none⟩) (by simp only; omega) _), ((((((G.out.2.2).setCell (p := ⟨w.heap.size + 1, 0, none⟩) (by simp only; omega) _).setCell (p := ⟨w.heap.size + 1, 1, none⟩) (by simp only; omega) _).setCell (p := ⟨w.heap.size + 1, 2, none⟩) (by simp only; omega) _).setCell (p := ⟨w.heap.size + 1, 3, none⟩) (by simp only; omega) _).setCell (p := ⟨w.heap.size + 1, 4, none⟩) (by simp only; omega) _).setCell (p := ⟨w.heap.size + 1, 5, none⟩) (by simp only; omega) _⟩
end Go.Proofs.Ythpnebmolaaapaa.upd
