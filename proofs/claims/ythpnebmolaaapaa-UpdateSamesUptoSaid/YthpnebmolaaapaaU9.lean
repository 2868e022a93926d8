import Derived.Test.YthpnebmolaaapaaU8
import Derived.Deep.WholeRow
namespace Go.Proofs.Ythpnebmolaaapaa.upd
open Go.RowKit eqv chunks
attribute [local go_sem ↓] to44 toOp44
attribute [local go_sem] ld44 eql44 guard44 cellsAt_drewN okAt_drewN okAt_drew cellsAt_drew
theorem toSt44 (a : Addr) (v : Value) : storeVar 44 a v = bigStore 44 a v := rfl
theorem hsz (w : World) (o : Obj) : (w.alloc o).heap.size = w.heap.size + 1 := by simp
noncomputable def zE : List Value := (((Try.prog.info? 44).bind (·.zero)).map (fun v => v.cells.toList)).getD []
theorem zero44 (w : World) : (zeroValue 44).run Try.prog w = .ok (.agg zE.toArray) w := by kernel_rfl
theorem zE_length : zE.length = 111 := by kernel_rfl
def OneC (cs : List Value) : Prop := ∀ v ∈ cs, v.oneCell' = true
theorem stNew44 {w : World} {cs : List Value} {g : Nat} (hg : w.heap.size = g) (hl : cs.length = 111) (h1 : OneC cs) :
    Sem.run Try.prog (bigStore 44 ⟨g, 0, none⟩ (.agg cs.toArray)) (w.alloc (.cells zE.toArray 44)) = .ok () (w.alloc (.cells cs.toArray 44)) := by
  subst hg
  have hb := Blk.new w 44 zE
  rw [run_bigStore (k := 111) (by kernel_rfl) hl ⟨zE, 44, hb, by rw [zE_length, hl]; omega, h1⟩]
  congr 1
  have e : putAt (w.alloc (.cells zE.toArray 44)) w.heap.size 0 cs = (w.alloc (.cells zE.toArray 44)).setRow w.heap.size cs.toArray := by
    unfold putAt
    unfold Blk at hb
    rw [hb]
    simp [hl, List.drop_eq_nil_of_le, zE_length]
  rw [e, World.setRow_alloc_new]
attribute [local go_sem ↓] toSt44
attribute [local go_sem] stNew44 zero44
set_option maxHeartbeats 1000000 in
theorem equalFunc (A B : Option Addr) (X Y : List (List Value)) (c d : Nat) (w : World) (hA : Sl w A 111 X) (hB : Sl w B 111 Y) (hX : ∀ x ∈ X, leafsOk Try.prog tsE x = true) (hY : ∀ y ∈ Y, leafsOk Try.prog tsE y = true) (hm : X.length ≤ 1048576) (_hn : Y.length ≤ 1048576)
    (hX1 : ∀ x ∈ X, ∀ v ∈ x, v.oneCell' = true) (hY1 : ∀ x ∈ Y, ∀ v ∈ x, v.oneCell' = true)
    (hlA : ∀ ad, A = some ad → ad.block < w.heap.size) (hlB : ∀ ad, B = some ad → ad.block < w.heap.size) :
    Calls Try.prog 15 #[.slice A X.length c, .slice B Y.length d, .func (.func 12) #[] #[]] w fun e w' => e = .returned (.bool (eqEL X Y)) ∧ Below w.heap.size w w' := by
  by_cases hl : X.length = Y.length
  · have hl1 : ((X.length : Int) != (Y.length : Int)) = false := by rw [hl]; simp
    have HL := Lib.hid hl
    clear hl
    go_enter Try.func15, Try.ntmps15
    go_wp2
    go_loopw [17] (fun i wr => ∃ k : Nat, k ≤ X.length ∧ i = .int .i64 k ∧ UptoE X Y k ∧ Below w.heap.size w wr) (fun i _ => X.length - (intOf i).toNat)
    case atStart => exact ⟨0, Nat.zero_le _, rfl, UptoE.zero _ _, Below.refl _ _⟩
    case round =>
      obtain ⟨k, hk, rfl, hu, hbel⟩ := hrel
      by_cases hlt : k < X.length
      · obtain ⟨ad, rfl, hx⟩ := (hA.below hbel hlA).at_ hlt
        obtain ⟨bd, rfl, hy⟩ := (hB.below hbel hlB).at_ (k := k) (by have := HL.out; omega)
        have hlt' : k < Y.length := by have := HL.out; omega
        obtain ⟨x1, x2⟩ := hx k hlt
        obtain ⟨y1, y2⟩ := hy k hlt'
        have lx := hX _ (ch_mem hlt)
        have ly := hY _ (ch_mem (X := Y) (k := k) hlt')
        have ox : OneC (ch X k) := hX1 _ (ch_mem hlt)
        have oy : OneC (ch Y k) := hY1 _ (ch_mem (X := Y) (k := k) hlt')
        have cx := ch_length hA.1 hlt
        have cy := ch_length hB.1 hlt'
        have y34 : okAt (wr.alloc (.cells (ch X k).toArray 44)) (bd.add (k * 111)) 111 ∧ cellsAt (wr.alloc (.cells (ch X k).toArray 44)) (bd.add (k * 111)) 111 = ch Y k := by
          obtain ⟨bd', e, h⟩ := (hB.below (hbel.alloc hbel.size (.cells (ch X k).toArray 44)) hlB).at_ (k := k) hlt'
          cases e
          exact h k hlt'
        obtain ⟨y3, y4⟩ := y34
        have hbel2 := (hbel.alloc hbel.size (.cells (ch X k).toArray 44)).alloc (by rw [hsz]; have := hbel.size; omega) (.cells (ch Y k).toArray 44)
        have p1 := ((Blk.new wr 44 (ch X k)).alloc (.cells (ch Y k).toArray 44)).all
        have p2 := (Blk.new (wr.alloc (.cells (ch X k).toArray 44)) 44 (ch Y k)).all
        rw [cx] at p1
        rw [cy] at p2
        simp only [hsz] at p2
        obtain ⟨p1, q1⟩ := p1
        obtain ⟨p2, q2⟩ := p2
        have HLX := Lib.hid lx
        have HLY := Lib.hid ly
        have HBel := Lib.hid hbel2
        have HU := Lib.hid hu
        clear hx hy hA hB hlA hlB hu hbel hbel2 lx ly hX hY hX1 hY1
        cases he : eqE (ch X k) (ch Y k)
        · have HE := Lib.hid he
          go_wp2_with (go_at_call 12; refine (eqE12 _ _ _ HLX.out HLY.out).mono ?_; rintro e w1 ⟨rfl, hb1⟩; have HB1 := Lib.hid hb1; clear hb1)
          go_ret
          exact ⟨by rw [eqEL_not hlt HE.out]; rfl, HBel.out.trans (HB1.out.mono HBel.out.size)⟩
        · have HE := Lib.hid he
          go_wp2_with (go_at_call 12; refine (eqE12 _ _ _ HLX.out HLY.out).mono ?_; rintro e w1 ⟨rfl, hb1⟩; have HB1 := Lib.hid hb1; clear hb1)
          go_roundw
          case rel => exact ⟨k + 1, by omega, by go_num, HU.out.succ HE.out, HBel.out.trans (HB1.out.mono HBel.out.size)⟩
          case measure => simp [intOf]; omega
      · have HU := Lib.hid hu
        have HBel := Lib.hid hbel
        clear hu hbel hX hY hA hB hlA hlB hX1 hY1
        go_wp2
        go_ret
        have e : k = X.length := by omega
        exact ⟨by rw [eqEL_of HL.out (e ▸ HU.out)]; rfl, HBel.out⟩
  · have hl1 : ((X.length : Int) != (Y.length : Int)) = true := by simp; omega
    have HL := Lib.hid hl
    clear hl hX hY hA hB hX1 hY1
    go_enter Try.func15, Try.ntmps15
    go_wp2
    go_ret
    exact ⟨by rw [eqEL_ne HL.out]; rfl, Below.refl _ _⟩
end Go.Proofs.Ythpnebmolaaapaa.upd
