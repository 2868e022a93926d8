import Derived.Test.YthpnebmolaaapaaUe
namespace Go.Proofs.Ythpnebmolaaapaa.upd
open Go.RowKit eqv chunks
attribute [local go_sem ↓] to44 toOp44 toBld
attribute [local go_sem] ld44 eql44 guard44 cellsAt_drewN okAt_drewN okAt_drew cellsAt_drew build44
theorem markE_ok : leafsOk Try.prog tsE markE = true := by kernel_rfl
theorem markE_leqs : leqs markE markE = true := by kernel_rfl
set_option maxHeartbeats 4000000 in
theorem kept10 (v u : Upd) (w : World) (hv : v.In w) (hu : u.In w) (e : v.X = u.X ∧ v.a = u.a ∧ v.b = u.b ∧ v.m = u.m ∧ v.s = u.s ∧ v.Y = u.Y) (hc : v.c = v.X.length + 9)
    (hA : Sl w v.A 32 (v.X ++ marks)) (hE : Sl w v.E 111 (v.Y ++ [markE])) (hd : v.Y.length + 1 ≤ v.d) :
    Calls Try.prog 10 #[.agg v.cells, .agg u.cells] w fun e w' => e = .returned (.bool true) ∧ Below w.heap.size w w' := by
  have hq : eqU v u = true := eqU_refl hv ⟨e.1.symm, e.2.1.symm, e.2.2.1.symm, e.2.2.2.1.symm, e.2.2.2.2.1.symm, e.2.2.2.2.2.symm⟩
  have hl : leqL v.X u.X = true := by rw [e.1]; exact leqL_refl hu.hX
  have hny : v.Y.length = u.Y.length := by rw [e.2.2.2.2.2]
  clear e
  obtain ⟨ad, hE1, hE2⟩ := hE.at_ (k := v.Y.length) (by simp)
  obtain ⟨A, X, c, a, b, m, s, E, Y, d⟩ := v
  obtain ⟨A', X', c', a', b', m', s', E', Y', d'⟩ := u
  simp only at hc hd hE1 hE2 hA hE hny
  subst hc hE1
  have h9 := same9 _ _ ((w.alloc (.cells #[.slice A X.length (X.length + 9), .int .i64 a, .int .i64 b, .int .i64 m, .string s, .slice (some ad) Y.length d] 30)).alloc (.cells #[.slice A' X'.length c', .int .i64 a', .int .i64 b', .int .i64 m', .string s', .slice E' Y'.length d'] 30)) (hv.below (((Below.refl w.heap.size w).alloc (Nat.le_refl _) _).alloc (by simp) _)) (hu.below (((Below.refl w.heap.size w).alloc (Nat.le_refl _) _).alloc (by simp) _))
  have h0 : Below w.heap.size w ((w.alloc (.cells #[.slice A X.length (X.length + 9), .int .i64 a, .int .i64 b, .int .i64 m, .string s, .slice (some ad) Y.length d] 30)).alloc (.cells #[.slice A' X'.length c', .int .i64 a', .int .i64 b', .int .i64 m', .string s', .slice E' Y'.length d'] 30)) :=
    ((Below.refl _ _).alloc (Nat.le_refl _) _).alloc (by simp) _
  have b1 := (Blk.new w 30 [.slice A X.length (X.length + 9), .int .i64 a, .int .i64 b, .int .i64 m, .string s, .slice (some ad) Y.length d]).alloc (.cells #[.slice A' X'.length c', .int .i64 a', .int .i64 b', .int .i64 m', .string s', .slice E' Y'.length d'] 30)
  have b2 := Blk.new (w.alloc (.cells #[.slice A X.length (X.length + 9), .int .i64 a, .int .i64 b, .int .i64 m, .string s, .slice (some ad) Y.length d] 30)) 30 [.slice A' X'.length c', .int .i64 a', .int .i64 b', .int .i64 m', .string s', .slice E' Y'.length d']
  rw [hsz] at b2
  have hws : ((w.alloc (.cells #[.slice A X.length (X.length + 9), .int .i64 a, .int .i64 b, .int .i64 m, .string s, .slice (some ad) Y.length d] 30)).alloc (.cells #[.slice A' X'.length c', .int .i64 a', .int .i64 b', .int .i64 m', .string s', .slice E' Y'.length d'] 30)).heap.size = w.heap.size + 1 + 1 := by simp only [hsz]
  unfold Upd.cells at h9 ⊢
  simp only at h9 ⊢
  have hny' : (Y.length : Int) = (Y'.length : Int) := by omega
  have hd2 : (Y'.length : Int) + 1 ≤ (d : Int) := by omega
  have hm2 := hu.hn
  simp only at hm2
  rw [hny'] at *
  have H := Lib.hid (And.intro h9 (And.intro h0 (And.intro b1 (And.intro b2 (And.intro hws (And.intro hv (And.intro hu (And.intro hA (And.intro hE (And.intro hE2 (And.intro hq (And.intro hl (And.intro hny hny')))))))))))))
  clear h9 h0 b1 b2 hws hv hu hA hE hE2 hq hl hny hny'
  go_enter Try.func10, Try.ntmps10
  go_wp2_with fail
  refine H.out.1.mono ?_
  rintro e w1 ⟨rfl, hb1⟩
  rw [H.out.2.2.2.2.2.2.2.2.2.2.1]
  have c1 := H.out.2.2.1.below hb1 (by have := H.out.2.2.2.2.1; omega)
  have c2 := H.out.2.2.2.1.below hb1 (by have := H.out.2.2.2.2.1; omega)
  have hb2 := H.out.2.1.trans (hb1.mono H.out.2.1.size)
  have HB := Lib.hid (And.intro hb2 hb1)
  clear hb1 hb2
  have k0 := cell_of (o := 0) c1 rfl
  have k5 := cell_of (o := 5) c1 rfl
  have l0 := cell_of (o := 0) c2 rfl
  clear c1 c2
  have hk := keptHashes A A' X X' c' w1 (H.out.2.2.2.2.2.2.2.1.below HB.out.1 H.out.2.2.2.2.2.1.lA) (H.out.2.2.2.2.2.2.1.hA.below HB.out.1 H.out.2.2.2.2.2.2.1.lA) H.out.2.2.2.2.2.1.hX H.out.2.2.2.2.2.2.1.hX H.out.2.2.2.2.2.1.hm H.out.2.2.2.2.2.2.1.hm
  have HK := Lib.hid hk
  clear hk
  go_wp2_with fail
  refine HK.out.mono ?_
  rintro e w2 ⟨rfl, q, rfl⟩
  rw [H.out.2.2.2.2.2.2.2.2.2.2.2.1]
  have hE3 := (H.out.2.2.2.2.2.2.2.2.1.below HB.out.1 H.out.2.2.2.2.2.1.lE).at_ (k := Y.length) (by simp)
  obtain ⟨ad', e, hx⟩ := hE3
  cases e
  obtain ⟨x1, x2⟩ := hx Y.length (by simp)
  have e3 : ch (Y ++ [markE]) Y.length = markE := by
    simp [ch]
  rw [e3] at x2
  clear hx e3
  rw [H.out.2.2.2.2.2.2.2.2.2.2.2.2.1] at x1 x2
  have o1 := markE_ok
  have o2 := markE_leqs
  have hlt1 : Y'.length < Y'.length + 1 := by omega
  clear k0 l0
  go_wp2
  go_ret
  exact ⟨rfl, below_drewN HB.out.1 q⟩
end Go.Proofs.Ythpnebmolaaapaa.upd
