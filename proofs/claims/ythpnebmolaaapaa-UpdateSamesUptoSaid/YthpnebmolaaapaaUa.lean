import Derived.Test.YthpnebmolaaapaaU9
namespace Go.Proofs.Ythpnebmolaaapaa.upd
open Go.RowKit eqv chunks
/-- What an update's cells say. -/
structure Upd where
  A : Option Addr
  X : List (List Value)
  c : Nat
  a : Int
  b : Int
  m : Int
  s : ByteArray
  E : Option Addr
  Y : List (List Value)
  d : Nat
def Upd.cells (u : Upd) : Array Value := #[.slice u.A u.X.length u.c, .int .i64 u.a, .int .i64 u.b, .int .i64 u.m, .string u.s, .slice u.E u.Y.length u.d]
/-- The update's rows lie in the world so. -/
structure Upd.In (u : Upd) (w : World) : Prop where
  hA : Sl w u.A 32 u.X
  hE : Sl w u.E 111 u.Y
  hX : ∀ x ∈ u.X, leafsOk Try.prog tsH x = true
  hY : ∀ x ∈ u.Y, leafsOk Try.prog tsE x = true
  hX1 : ∀ x ∈ u.X, ∀ v ∈ x, v.oneCell' = true
  hY1 : ∀ x ∈ u.Y, ∀ v ∈ x, v.oneCell' = true
  hm : u.X.length ≤ 1048576
  hn : u.Y.length ≤ 1048576
  lA : ∀ ad, u.A = some ad → ad.block < w.heap.size
  lE : ∀ ad, u.E = some ad → ad.block < w.heap.size
  nA : u.A = none → u.X = [] ∧ u.c = 0
  nE : u.E = none → u.Y = [] ∧ u.d = 0
theorem Upd.In.below {u : Upd} {w w' : World} (h : u.In w) (hb : Below w.heap.size w w') : u.In w' :=
  ⟨h.hA.below hb h.lA, h.hE.below hb h.lE, h.hX, h.hY, h.hX1, h.hY1, h.hm, h.hn, fun ad e => Nat.lt_of_lt_of_le (h.lA ad e) hb.size, fun ad e => Nat.lt_of_lt_of_le (h.lE ad e) hb.size, h.nA, h.nE⟩
def eqU (u v : Upd) : Bool := u.a == v.a && (u.b == v.b && (u.m == v.m && (u.s.toList == v.s.toList && (leqL u.X v.X && eqEL u.Y v.Y))))
set_option maxHeartbeats 4000000 in
theorem same8 (u v : Upd) (w : World) (hu : u.In w) (hv : v.In w) :
    Calls Try.prog 8 #[.agg u.cells, .agg v.cells] w fun e w' => e = .returned (.bool (eqU u v)) ∧ Below w.heap.size w w' := by
  obtain ⟨A, X, c, a, b, m, s, E, Y, d⟩ := u
  obtain ⟨A', X', c', a', b', m', s', E', Y', d'⟩ := v
  have h0 : Below w.heap.size w ((w.alloc (.cells #[.slice A X.length c, .int .i64 a, .int .i64 b, .int .i64 m, .string s, .slice E Y.length d] 30)).alloc (.cells #[.slice A' X'.length c', .int .i64 a', .int .i64 b', .int .i64 m', .string s', .slice E' Y'.length d'] 30)) :=
    ((Below.refl _ _).alloc (Nat.le_refl _) _).alloc (by simp) _
  have H0 := Lib.hid h0
  have HU := Lib.hid (hu.below h0)
  have HV := Lib.hid (hv.below h0)
  clear hu hv h0
  unfold Upd.cells eqU
  simp only
  cases h1 : (a == a')
  · go_enter Try.func8, Try.ntmps8
    go_wp2
    go_ret
    exact ⟨rfl, H0.out⟩
  cases h2 : (b == b')
  · go_enter Try.func8, Try.ntmps8
    go_wp2
    go_ret
    exact ⟨rfl, H0.out⟩
  cases h3 : (m == m')
  · go_enter Try.func8, Try.ntmps8
    go_wp2
    go_ret
    exact ⟨rfl, H0.out⟩
  cases h4 : (s.toList == s'.toList)
  · go_enter Try.func8, Try.ntmps8
    go_wp2
    go_ret
    exact ⟨rfl, H0.out⟩
  cases h5 : leqL X X'
  · have HE := Lib.hid h5
    clear h5
    go_enter Try.func8, Try.ntmps8
    go_wp2_with (go_at_call 14; refine (equalH _ _ _ _ _ _ _ HU.out.hA HV.out.hA HU.out.hX HV.out.hX HU.out.hm HV.out.hm).mono ?_; rintro e w1 ⟨rfl, q, rfl⟩; rw [HE.out])
    go_ret
    exact ⟨rfl, below_drewN H0.out _⟩
  · have HE := Lib.hid h5
    clear h5
    go_enter Try.func8, Try.ntmps8
    go_wp2_with (first | (go_at_call 14; refine (equalH _ _ _ _ _ _ _ HU.out.hA HV.out.hA HU.out.hX HV.out.hX HU.out.hm HV.out.hm).mono ?_; rintro e w1 ⟨rfl, q, rfl⟩; rw [HE.out]) | (go_at_call 15; refine (equalFunc _ _ _ _ _ _ _ (HU.out.below (below_drewN (Below.refl _ _) _)).hE (HV.out.below (below_drewN (Below.refl _ _) _)).hE HU.out.hY HV.out.hY HU.out.hn HV.out.hn HU.out.hY1 HV.out.hY1 HU.out.lE HV.out.lE).mono ?_; rintro e w1 ⟨rfl, hb1⟩; have HB1 := Lib.hid hb1; clear hb1))
    go_ret
    exact ⟨rfl, (below_drewN H0.out _).trans (HB1.out.mono (below_drewN H0.out _).size)⟩
end Go.Proofs.Ythpnebmolaaapaa.upd
