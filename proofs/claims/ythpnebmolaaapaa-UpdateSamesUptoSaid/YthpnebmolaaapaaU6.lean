import Derived.Test.YthpnebmolaaapaaU5
import Derived.Deep.Cut
namespace Go.Proofs.Ythpnebmolaaapaa.upd
open Go.RowKit eqv chunks
attribute [local go_sem] run_store_float
theorem to44 (a : Addr) : loadVar 44 a = bigLoad 44 a := rfl
theorem ld44 {w : World} {a : Addr} (h : okAt w a 111) : Sem.run Try.prog (bigLoad 44 a) w = .ok (.agg (cellsAt w a 111).toArray) w := run_bigLoad (by kernel_rfl) ⟨_, Try.underlying44, rfl⟩ h
theorem toOp44 (op : BinOp) (x y : Value) : binOp op 44 x y = bigOp op 44 x y := rfl
theorem eql44 {w : World} {xs ys : List Value} (hx : leafsOk Try.prog tsE xs = true) (hy : leafsOk Try.prog tsE ys = true) :
    (bigOp .eql 44 (.agg xs.toArray) (.agg ys.toArray)).run Try.prog w = .ok (.bool (leqs xs ys)) w := run_eql leafsE (by kernel_rfl) hx hy
theorem guard44 (op : BinOp) (x y : Operand) (xs ys : Array Value) (w : World) : (eqGuard op 44 x y (.agg xs) (.agg ys)).run Try.prog w = .ok () w := run_eqGuard_agg w op 44 x y xs ys Try.eqGuardType44
attribute [local go_sem ↓] to44 toOp44
attribute [local go_sem] ld44 eql44 guard44 cellsAt_drewN okAt_drewN
theorem okAt_drew (w : World) (a : Addr) (k : Nat) : okAt w.drew a k ↔ okAt w a k := ⟨fun h => h, fun h => h⟩
theorem cellsAt_drew (w : World) (a : Addr) (k : Nat) : cellsAt w.drew a k = cellsAt w a k := rfl
attribute [local go_sem] okAt_drew cellsAt_drew
theorem build42 (w : World) : (Instr.build 42 #[]).run Try.prog w = .ok (.agg #[.int .u8 0, .int .i64 0, .float .f64 0, .string ⟨#[]⟩]) w := run_build w 42 #[] _ (by kernel_rfl)
attribute [local go_sem ↓] build42
/-- An edit without its value. -/
def noVal (xs : List Value) : List Value := (((xs.set 105 (.int .u8 0)).set 106 (.int .i64 0)).set 107 (.float .f64 0)).set 108 (.string ⟨#[]⟩)
theorem noVal_length (xs : List Value) : (noVal xs).length = xs.length := by simp [noVal]
theorem noVal_ok {xs : List Value} (h : leafsOk Try.prog tsE xs = true) : leafsOk Try.prog tsE (noVal xs) = true := by
  unfold noVal
  refine leafsOk_set (t := 9) (by simp [leafOk, Try.underlying9]) (leafsOk_set (t := 40) (by simp [leafOk, Try.underlying40]) (leafsOk_set (t := 2) (by simp [leafOk, Try.underlying2]) (leafsOk_set (t := 39) (by simp [leafOk, Try.underlying39]) h ?_) ?_) ?_) ?_ <;> kernel_rfl
theorem _root_.Go.Proofs.Ythpnebmolaaapaa.chunks.Blk.new (w : World) (t : TypeId) (cs : List Value) : Blk (w.alloc (Obj.cells cs.toArray t)) w.heap.size t cs := heap_alloc_new w _
theorem boxed (w : World) (xs ys : List Value) (t : TypeId) (u : TypeId) (c1 c2 : List Value) :
    Blk ((((w.alloc (Obj.cells xs.toArray t)).alloc (Obj.cells ys.toArray t)).alloc (Obj.cells c1.toArray u)).alloc (Obj.cells c2.toArray u)).drew w.heap.size t xs ∧
    Blk ((((w.alloc (Obj.cells xs.toArray t)).alloc (Obj.cells ys.toArray t)).alloc (Obj.cells c1.toArray u)).alloc (Obj.cells c2.toArray u)).drew (w.heap.size + 1) t ys ∧
    Blk ((((w.alloc (Obj.cells xs.toArray t)).alloc (Obj.cells ys.toArray t)).alloc (Obj.cells c1.toArray u)).alloc (Obj.cells c2.toArray u)).drew (w.heap.size + 1 + 1) u c1 ∧
    Blk ((((w.alloc (Obj.cells xs.toArray t)).alloc (Obj.cells ys.toArray t)).alloc (Obj.cells c1.toArray u)).alloc (Obj.cells c2.toArray u)).drew (w.heap.size + 1 + 1 + 1) u c2 ∧
    Below w.heap.size w ((((w.alloc (Obj.cells xs.toArray t)).alloc (Obj.cells ys.toArray t)).alloc (Obj.cells c1.toArray u)).alloc (Obj.cells c2.toArray u)).drew := by
  have b1 := Blk.new w t xs
  have b2 := Blk.new (w.alloc (Obj.cells xs.toArray t)) t ys
  have b3 := Blk.new ((w.alloc (Obj.cells xs.toArray t)).alloc (Obj.cells ys.toArray t)) u c1
  have b4 := Blk.new (((w.alloc (Obj.cells xs.toArray t)).alloc (Obj.cells ys.toArray t)).alloc (Obj.cells c1.toArray u)) u c2
  simp at b2 b3 b4
  exact ⟨((b1.alloc _).alloc _).alloc _, (b2.alloc _).alloc _, b3.alloc _, b4,
    below_drewN (((((Below.refl _ _).alloc (Nat.le_refl _) _).alloc (by simp) _).alloc (by simp; omega) _).alloc (by simp; omega) _) 1⟩
theorem cleared {w W : World} {a b c d t u : Nat} {xs ys c1 c2 : List Value} (h : Blk W a t xs ∧ Blk W b t ys ∧ Blk W c u c1 ∧ Blk W d u c2 ∧ Below w.heap.size w W)
    (n : a ≠ b ∧ a ≠ c ∧ a ≠ d ∧ b ≠ c ∧ b ≠ d ∧ w.heap.size ≤ a ∧ w.heap.size ≤ b) : ∀ V, ((((((((W.setCell ⟨a, 105, none⟩ (.int .u8 0)).setCell ⟨a, 106, none⟩ (.int .i64 0)).setCell ⟨a, 107, none⟩ (.float .f64 0)).setCell ⟨a, 108, none⟩ (.string ⟨#[]⟩)).setCell ⟨b, 105, none⟩ (.int .u8 0)).setCell ⟨b, 106, none⟩ (.int .i64 0)).setCell ⟨b, 107, none⟩ (.float .f64 0)).setCell ⟨b, 108, none⟩ (.string ⟨#[]⟩)) = V →
    Blk V a t (noVal xs) ∧ Blk V b t (noVal ys) ∧ Blk V c u c1 ∧ Blk V d u c2 ∧ Below w.heap.size w V := by
  obtain ⟨h1, h2, h3, h4, h5⟩ := h
  obtain ⟨n1, n2, n3, n4, n5, n6, n7⟩ := n
  rintro V rfl
  refine ⟨?_, ?_, ?_, ?_, ?_⟩
  · exact ((((((((h1.setCell).setCell).setCell).setCell).setCell_other (by omega)).setCell_other (by omega)).setCell_other (by omega)).setCell_other (by omega))
  · exact ((((((((h2.setCell_other (by omega)).setCell_other (by omega)).setCell_other (by omega)).setCell_other (by omega)).setCell).setCell).setCell).setCell)
  · exact ((((((((h3.setCell_other (by omega)).setCell_other (by omega)).setCell_other (by omega)).setCell_other (by omega)).setCell_other (by omega)).setCell_other (by omega)).setCell_other (by omega)).setCell_other (by omega))
  · exact ((((((((h4.setCell_other (by omega)).setCell_other (by omega)).setCell_other (by omega)).setCell_other (by omega)).setCell_other (by omega)).setCell_other (by omega)).setCell_other (by omega)).setCell_other (by omega))
  · exact ((((((((h5.setCell (p := ⟨a, 105, none⟩) n6 _).setCell (p := ⟨a, 106, none⟩) n6 _).setCell (p := ⟨a, 107, none⟩) n6 _).setCell (p := ⟨a, 108, none⟩) n6 _).setCell (p := ⟨b, 105, none⟩) n7 _).setCell (p := ⟨b, 106, none⟩) n7 _).setCell (p := ⟨b, 107, none⟩) n7 _).setCell (p := ⟨b, 108, none⟩) n7 _)
theorem cell_of {W : World} {a t o : Nat} {xs : List Value} {v : Value} (h : Blk W a t xs) (hv : xs[o]? = some v) : W.cell? ⟨a, o, none⟩ = some v := by rw [h.cell]; exact hv
set_option maxHeartbeats 4000000 in
theorem sameEdit (xs ys : List Value) (k k' n n' : Int) (f f' : Nat) (s s' : ByteArray) (w : World) (hx : leafsOk Try.prog tsE xs = true) (hy : leafsOk Try.prog tsE ys = true)
    (hxv : xs[105]? = some (.int .u8 k) ∧ xs[106]? = some (.int .i64 n) ∧ xs[107]? = some (.float .f64 f) ∧ xs[108]? = some (.string s))
    (hyv : ys[105]? = some (.int .u8 k') ∧ ys[106]? = some (.int .i64 n') ∧ ys[107]? = some (.float .f64 f') ∧ ys[108]? = some (.string s')) :
    Calls Try.prog 18 #[.agg xs.toArray, .agg ys.toArray] w
      fun e w' => e = .returned (.bool (leqs (noVal xs) (noVal ys) && (k == k' && (n == n' && ((f : Int) == (f' : Int) && s.toList == s'.toList))))) ∧ Below w.heap.size w w' := by
  have hxl := (leafsOk_length hx).trans tsE_length
  have hyl := (leafsOk_length hy).trans tsE_length
  have nx := noVal_ok hx
  have ny := noVal_ok hy
  clear hx hy
  have HXL := Lib.hid hxl
  have HYL := Lib.hid hyl
  have hxv0 := hxv
  have hyv0 := hyv
  have HXV := Lib.hid hxv0
  have HYV := Lib.hid hyv0
  obtain ⟨x1, x2, x3, x4⟩ := hxv
  obtain ⟨y1, y2, y3, y4⟩ := hyv
  clear hxl hyl hxv0 hyv0
  cases he : leqs (noVal xs) (noVal ys)
  all_goals
    have HE := Lib.hid he
    clear he
    have HN := Lib.hid (And.intro nx ny)
    clear nx ny
    go_enter Try.func18, Try.ntmps18
    go_wp2
    go_region
    all_goals clear x1 x2 x3 x4 y1 y2 y3 y4
    all_goals generalize hW : World.drew _ = W
    all_goals
      first
      | (have hb := boxed w xs ys 44 42 [.int .u8 k, .int .i64 n, .float .f64 f, .string s] [.int .u8 k', .int .i64 n', .float .f64 f', .string s']; rw [hW] at hb; clear hW; have hc := cleared hb (by omega))
      | (have hb := boxed w xs ys 44 42 [.int .u8 k', .int .i64 n', .float .f64 f', .string s'] [.int .u8 k, .int .i64 n, .float .f64 f, .string s]; rw [hW] at hb; clear hW; have hc := cleared hb (by omega))
      have f0105 := hb.1.frozen 105
      have f0106 := hb.1.frozen 106
      have f0107 := hb.1.frozen 107
      have f0108 := hb.1.frozen 108
      have f1105 := hb.2.1.frozen 105
      have f1106 := hb.2.1.frozen 106
      have f1107 := hb.2.1.frozen 107
      have f1108 := hb.2.1.frozen 108
      have k1 := cell_of hb.1 HXV.out.1
      have k2 := cell_of hb.1 HXV.out.2.1
      have k3 := cell_of hb.1 HXV.out.2.2.1
      have k4 := cell_of hb.1 HXV.out.2.2.2
      have k5 := cell_of hb.2.1 HYV.out.1
      have k6 := cell_of hb.2.1 HYV.out.2.1
      have k7 := cell_of hb.2.1 HYV.out.2.2.1
      have k8 := cell_of hb.2.1 HYV.out.2.2.2
      have HC := Lib.hid hc
      clear hc hb
      go_upto_region 3 with fail
      clear k1 k2 k3 k4 k5 k6 k7 k8 f0105 f0106 f0107 f0108 f1105 f1106 f1107 f1108
      generalize hV : World.setCell _ _ _ = V
      have hd := HC.out V hV
      clear HC hV
      obtain ⟨d0, d1, d2, d3, hbel⟩ := hd
      have a0 := d0.all
      have a1 := d1.all
      rw [noVal_length, HXL.out] at a0
      rw [noVal_length, HYL.out] at a1
      obtain ⟨a0, e0⟩ := a0
      obtain ⟨a1, e1⟩ := a1
      have l20 := d2.cell 0
      have l21 := d2.cell 1
      have l22 := d2.cell 2
      have l23 := d2.cell 3
      have l30 := d3.cell 0
      have l31 := d3.cell 1
      have l32 := d3.cell 2
      have l33 := d3.cell 3
      simp only [List.getElem?_cons_zero, List.getElem?_cons_succ] at l20 l21 l22 l23 l30 l31 l32 l33
      have n0 := HN.out.1
      have n1 := HN.out.2
      have e2 := HE.out
      clear d0 d1 d2 d3
      have HB := Lib.hid hbel
      clear hbel
      go_wp2_with (go_at_call 20; refine (valSame _ _ _ _ _ _ _ _ _).mono ?_; rintro e w1 ⟨rfl, hb1⟩; have HB1 := Lib.hid hb1; clear hb1)
      go_ret
      exact ⟨rfl, by first | exact HB.out | exact HB.out.trans (HB1.out.mono HB.out.size)⟩
end Go.Proofs.Ythpnebmolaaapaa.upd
