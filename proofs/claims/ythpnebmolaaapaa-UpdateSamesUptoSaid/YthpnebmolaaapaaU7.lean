import Derived.Test.YthpnebmolaaapaaU6
import Derived.Deep.Cut
namespace Go.Proofs.Ythpnebmolaaapaa.upd
open Go.RowKit eqv chunks
attribute [local go_sem ↓] to44 toOp44
attribute [local go_sem] ld44 eql44 guard44 cellsAt_drewN okAt_drewN okAt_drew cellsAt_drew run_store_float float64bits
/-- An edit without its float. -/
def noF (xs : List Value) : List Value := xs.set 107 (.float .f64 0)
theorem noF_length (xs : List Value) : (noF xs).length = xs.length := by simp [noF]
theorem noF_ok {xs : List Value} (h : leafsOk Try.prog tsE xs = true) : leafsOk Try.prog tsE (noF xs) = true := by
  unfold noF
  exact leafsOk_set (t := 40) (by simp [leafOk, Try.underlying40]) h (by kernel_rfl)
theorem boxed2 (w : World) (xs ys : List Value) (t : TypeId) (n : Nat) :
    Blk (((w.alloc (Obj.cells xs.toArray t)).alloc (Obj.cells ys.toArray t)).drewN n) w.heap.size t xs ∧
    Blk (((w.alloc (Obj.cells xs.toArray t)).alloc (Obj.cells ys.toArray t)).drewN n) (w.heap.size + 1) t ys ∧
    Below w.heap.size w (((w.alloc (Obj.cells xs.toArray t)).alloc (Obj.cells ys.toArray t)).drewN n) := by
  have b1 := Blk.new w t xs
  have b2 := Blk.new (w.alloc (Obj.cells xs.toArray t)) t ys
  simp at b2
  exact ⟨(b1.alloc _).drewN _, b2.drewN _, below_drewN ((((Below.refl _ _).alloc (Nat.le_refl _) _).alloc (by simp) _)) n⟩
theorem cleared2 {w W : World} {a b t : Nat} {xs ys : List Value} (h : Blk W a t xs ∧ Blk W b t ys ∧ Below w.heap.size w W)
    (n : a ≠ b ∧ w.heap.size ≤ a ∧ w.heap.size ≤ b) : ∀ V, ((W.setCell ⟨a, 107, none⟩ (.float .f64 0)).setCell ⟨b, 107, none⟩ (.float .f64 0)) = V →
    Blk V a t (noF xs) ∧ Blk V b t (noF ys) ∧ Below w.heap.size w V := by
  obtain ⟨h1, h2, h5⟩ := h
  obtain ⟨n1, n6, n7⟩ := n
  rintro V rfl
  exact ⟨h1.setCell.setCell_other (by omega), (h2.setCell_other (by omega)).setCell, (h5.setCell (p := ⟨a, 107, none⟩) n6 _).setCell (p := ⟨b, 107, none⟩) n7 _⟩
set_option maxHeartbeats 1000000 in
theorem sameOne (xs ys : List Value) (f f' : Nat) (w : World) (hx : leafsOk Try.prog tsE xs = true) (hy : leafsOk Try.prog tsE ys = true)
    (hxv : xs[107]? = some (.float .f64 f)) (hyv : ys[107]? = some (.float .f64 f')) :
    Calls Try.prog 12 #[.agg xs.toArray, .agg ys.toArray] w
      fun e w' => e = .returned (.bool (leqs (noF xs) (noF ys) && ((f : Int) == (f' : Int)))) ∧ Below w.heap.size w w' := by
  have hxl := (leafsOk_length hx).trans tsE_length
  have hyl := (leafsOk_length hy).trans tsE_length
  have nx := noF_ok hx
  have ny := noF_ok hy
  clear hx hy
  have HXL := Lib.hid hxl
  have HYL := Lib.hid hyl
  have HXV := Lib.hid hxv
  have HYV := Lib.hid hyv
  clear hxl hyl
  cases he : leqs (noF xs) (noF ys)
  all_goals
    have HE := Lib.hid he
    clear he
    have HN := Lib.hid (And.intro nx ny)
    clear nx ny
    go_enter Try.func12, Try.ntmps12
    go_wp2
    go_quiet (fail)
    clear hxv hyv
    have hb0 := boxed2 w xs ys 44
    generalize hW : World.drewN _ _ = W
    have hb := hb0 nq
    rw [hW] at hb
    clear hW hb0
    have hc := cleared2 hb (by omega)
    have f0 := hb.1.frozen 107
    have f1 := hb.2.1.frozen 107
    have k1 := cell_of hb.1 HXV.out
    have k5 := cell_of hb.2.1 HYV.out
    have HC := Lib.hid hc
    clear hc hb
    go_upto_region 3 with fail
    clear k1 k5 f0 f1
    generalize hV : World.setCell _ _ _ = V
    have hd := HC.out V hV
    clear HC hV
    obtain ⟨d0, d1, hbel⟩ := hd
    have a0 := d0.all
    have a1 := d1.all
    rw [noF_length, HXL.out] at a0
    rw [noF_length, HYL.out] at a1
    obtain ⟨a0, e0⟩ := a0
    obtain ⟨a1, e1⟩ := a1
    have n0 := HN.out.1
    have n1 := HN.out.2
    have e2 := HE.out
    clear d0 d1
    have HB := Lib.hid hbel
    clear hbel
    go_wp2
    go_ret
    exact ⟨rfl, HB.out⟩
/-- The bits of an edit's float. -/
def fb (xs : List Value) : Int := match (xs[107]? : Option Value) with | some (Value.float _ f) => (f : Int) | _ => 0
/-- Two edits are the same. -/
def eqE (xs ys : List Value) : Bool := leqs (noF xs) (noF ys) && (fb xs == fb ys)
theorem eqE12 (xs ys : List Value) (w : World) (hx : leafsOk Try.prog tsE xs = true) (hy : leafsOk Try.prog tsE ys = true) :
    Calls Try.prog 12 #[.agg xs.toArray, .agg ys.toArray] w fun e w' => e = .returned (.bool (eqE xs ys)) ∧ Below w.heap.size w w' := by
  obtain ⟨_, k, n, f, s, _, _, h, _⟩ := edit_at hx
  obtain ⟨_, k', n', f', s', _, _, h', _⟩ := edit_at hy
  have := sameOne xs ys f f' w hx hy h h'
  unfold eqE fb
  rw [h, h']
  exact this
theorem beq_bytes (s s' : ByteArray) : (s == s') = (s.toList == s'.toList) := beq_toListBytes s s'
theorem eqE18 (xs ys : List Value) (w : World) (hx : leafsOk Try.prog tsE xs = true) (hy : leafsOk Try.prog tsE ys = true) :
    Calls Try.prog 18 #[.agg xs.toArray, .agg ys.toArray] w fun e w' => e = .returned (.bool (eqE xs ys)) ∧ Below w.heap.size w w' := by
  obtain ⟨_, k, n, f, s, h1, h2, h3, h4⟩ := edit_at hx
  obtain ⟨_, k', n', f', s', h1', h2', h3', h4'⟩ := edit_at hy
  have := sameEdit xs ys k k' n n' f f' s s' w hx hy ⟨h1, h2, h3, h4⟩ ⟨h1', h2', h3', h4'⟩
  have e : eqE xs ys = (leqs (noVal xs) (noVal ys) && (k == k' && (n == n' && ((f : Int) == (f' : Int) && s.toList == s'.toList)))) := by
    unfold eqE fb
    rw [h3, h3']
    have g1 : (noF xs)[105]? = some (.int .u8 k) ∧ (noF ys)[105]? = some (.int .u8 k') := by simp [noF, h1, h1']
    have g2 : ((noF xs).set 105 (.int .u8 0))[106]? = some (.int .i64 n) ∧ ((noF ys).set 105 (.int .u8 0))[106]? = some (.int .i64 n') := by simp [noF, h2, h2']
    have g3 : (((noF xs).set 105 (.int .u8 0)).set 106 (.int .i64 0))[108]? = some (.string s) ∧ (((noF ys).set 105 (.int .u8 0)).set 106 (.int .i64 0))[108]? = some (.string s') := by simp [noF, h4, h4']
    rw [leqs_set (z := .int .u8 0) (by simp [leq]) g1.1 g1.2, leqs_set (z := .int .i64 0) (by simp [leq]) g2.1 g2.2, leqs_set (z := .string ⟨#[]⟩) (by rw [leq, beq_toListBytes]; simp) g3.1 g3.2]
    have v : ∀ l : List Value, (((noF l).set 105 (.int .u8 0)).set 106 (.int .i64 0)).set 108 (.string ⟨#[]⟩) = noVal l := fun l => by
      unfold noF noVal
      rw [List.set_comm _ _ (show 107 ≠ 105 by decide), List.set_comm _ _ (show 107 ≠ 106 by decide)]
    rw [v, v, ← beq_bytes]
    simp only [leq]
    cases leqs (noVal xs) (noVal ys) <;> cases (k == k') <;> cases (n == n') <;> cases (s == s') <;> simp
  rw [e]
  exact this
end Go.Proofs.Ythpnebmolaaapaa.upd
