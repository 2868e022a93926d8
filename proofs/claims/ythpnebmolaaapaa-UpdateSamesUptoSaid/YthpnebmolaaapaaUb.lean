import Derived.Test.YthpnebmolaaapaaUa
namespace Go.Proofs.Ythpnebmolaaapaa.upd
open Go.RowKit eqv chunks
attribute [local go_sem ↓] to34 toOp34
attribute [local go_sem] ld34 neq34 guard34 cellsAt_drewN okAt_drewN
theorem eqU_leq_false {u v : Upd} (h : leqL u.X v.X = false) : eqU u v = false := by simp [eqU, h]
theorem eqU_leq {u v : Upd} (h : leqL u.X v.X = true) : eqU u v = (u.a == v.a && (u.b == v.b && (u.m == v.m && (u.s.toList == v.s.toList && eqEL u.Y v.Y)))) := by simp [eqU, h]
set_option maxHeartbeats 4000000 in
theorem same9 (u v : Upd) (w : World) (hu : u.In w) (hv : v.In w) :
    Calls Try.prog 9 #[.agg u.cells, .agg v.cells] w fun e w' => e = .returned (.bool (eqU u v)) ∧ Below w.heap.size w w' := by
  obtain ⟨A, X, c, a, b, m, s, E, Y, d⟩ := u
  obtain ⟨A', X', c', a', b', m', s', E', Y', d'⟩ := v
  have h0 : Below w.heap.size w ((w.alloc (.cells #[.slice A X.length c, .int .i64 a, .int .i64 b, .int .i64 m, .string s, .slice E Y.length d] 30)).alloc (.cells #[.slice A' X'.length c', .int .i64 a', .int .i64 b', .int .i64 m', .string s', .slice E' Y'.length d'] 30)) :=
    ((Below.refl _ _).alloc (Nat.le_refl _) _).alloc (by simp) _
  have H0 := Lib.hid h0
  have HU := Lib.hid (hu.below h0)
  have HV := Lib.hid (hv.below h0)
  clear hu hv h0
  have hm := HU.out.hm
  have hm' := HV.out.hm
  simp only at hm hm'
  unfold Upd.cells
  simp only
  by_cases hl : X.length = X'.length
  · have hl1 : ((X.length : Int) != (X'.length : Int)) = false := by rw [hl]; simp
    have HL := Lib.hid hl
    clear hl
    go_enter Try.func9, Try.ntmps9
    go_wp2
    go_loopw [5] (fun i wr => ∃ k q : Nat, k ≤ X.length ∧ i = .int .i64 k ∧ Upto X X' k ∧ wr = ((w.alloc (.cells #[.slice A X.length c, .int .i64 a, .int .i64 b, .int .i64 m, .string s, .slice E Y.length d] 30)).alloc (.cells #[.slice A' X'.length c', .int .i64 a', .int .i64 b', .int .i64 m', .string s', .slice E' Y'.length d'] 30)).drewN q) (fun i _ => X.length - (intOf i).toNat)
    case atStart => exact ⟨0, 0, Nat.zero_le _, rfl, Upto.zero _ _, rfl⟩
    case round =>
      obtain ⟨k, q, hk, rfl, hu, rfl⟩ := hrel
      by_cases hlt : k < X.length
      · obtain ⟨ad, hA1, hx⟩ := HU.out.hA.at_ hlt
        obtain ⟨bd, hB1, hy⟩ := HV.out.hA.at_ (k := k) (by have := HL.out; simp only; omega)
        simp only at hA1 hB1
        subst hA1 hB1
        have hlt' : k < X'.length := by have := HL.out; omega
        obtain ⟨x1, x2⟩ := hx k hlt
        obtain ⟨y1, y2⟩ := hy k hlt'
        have lx := HU.out.hX _ (ch_mem hlt)
        have ly := HV.out.hX _ (ch_mem hlt')
        simp only at x2 y2 lx ly
        clear hx hy
        cases he : leqs (ch X k) (ch X' k)
        · have HE := Lib.hid he
          go_wp2
          go_quiet (fail)
          clear lx ly x1 x2 y1 y2
          go_wp2
          go_ret
          exact ⟨by rw [eqU_leq_false (leqL_not hlt HE.out)]; rfl, below_drewN (below_drewN H0.out _) _⟩
        · have HU2 := Lib.hid hu
          have HE := Lib.hid he
          clear hu
          go_wp2
          go_quiet (fail)
          clear lx ly x1 x2 y1 y2
          go_wp2
          go_roundw
          case rel => exact ⟨k + 1, q + nq, by omega, by go_num, HU2.out.succ HE.out, rfl⟩
          case measure => simp [intOf]; omega
      · have e : k = X.length := by omega
        have hle := leqL_of HL.out (e ▸ hu)
        have HLE := Lib.hid hle
        clear hu hle e
        have eU : eqU ⟨A, X, c, a, b, m, s, E, Y, d⟩ ⟨A', X', c', a', b', m', s', E', Y', d'⟩ = (a == a' && (b == b' && (m == m' && (s.toList == s'.toList && eqEL Y Y')))) := eqU_leq (u := ⟨A, X, c, a, b, m, s, E, Y, d⟩) (v := ⟨A', X', c', a', b', m', s', E', Y', d'⟩) HLE.out
        have HEU := Lib.hid eU
        clear eU
        cases h1 : (a == a')
        · go_wp2
          go_ret
          exact ⟨by rw [HEU.out]; simp only [h1]; rfl, below_drewN H0.out _⟩
        cases h2 : (b == b')
        · go_wp2
          go_ret
          exact ⟨by rw [HEU.out]; simp only [h1, h2]; rfl, below_drewN H0.out _⟩
        cases h3 : (m == m')
        · go_wp2
          go_ret
          exact ⟨by rw [HEU.out]; simp only [h1, h2, h3]; rfl, below_drewN H0.out _⟩
        cases h4 : (s.toList == s'.toList)
        · go_wp2
          go_ret
          exact ⟨by rw [HEU.out]; simp only [h1, h2, h3, h4]; rfl, below_drewN H0.out _⟩
        · go_wp2_with (go_at_call 16; refine (sameEdits _ _ _ _ _ _ _ (HU.out.below (below_drewN (Below.refl _ _) _)).hE (HV.out.below (below_drewN (Below.refl _ _) _)).hE HU.out.hY HV.out.hY HU.out.hn HV.out.hn HU.out.lE HV.out.lE).mono ?_; rintro e w1 ⟨rfl, hb1⟩; have HB1 := Lib.hid hb1; clear hb1)
          go_ret
          exact ⟨by rw [HEU.out]; simp only [h1, h2, h3, h4]; rfl, (below_drewN H0.out _).trans (HB1.out.mono (below_drewN H0.out _).size)⟩
  · have hl1 : ((X.length : Int) != (X'.length : Int)) = true := by simp; omega
    have HL := Lib.hid hl
    clear hl
    go_enter Try.func9, Try.ntmps9
    go_wp2
    go_ret
    exact ⟨by rw [eqU_leq_false (leqL_ne HL.out)]; rfl, H0.out⟩
end Go.Proofs.Ythpnebmolaaapaa.upd
