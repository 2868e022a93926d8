import Derived.Test.YthpnebmolaaapaaCh
import Derived.WalkKit
import Derived.WalkLawsBesides
import Derived.WalkSpells
import Derived.BigQuiet
import Derived.Deep.LoopGhost
import Derived.Lib.Hide
import Derived.Outline
namespace Go.Proofs.Ythpnebmolaaapaa.upd
open Go.RowKit eqv chunks
def tsH : List TypeId := List.replicate 32 5
theorem leafsH : leafs Try.prog 9 34 = some tsH := by kernel_rfl
theorem to34 (a : Addr) : loadVar 34 a = bigLoad 34 a := rfl
theorem ld34 {w : World} {a : Addr} (h : okAt w a 32) : Sem.run Try.prog (bigLoad 34 a) w = .ok (.agg (cellsAt w a 32).toArray) w := run_bigLoad (by kernel_rfl) ⟨_, Try.underlying34, rfl⟩ h
theorem toOp34 (op : BinOp) (x y : Value) : binOp op 34 x y = bigOp op 34 x y := rfl
theorem neq34 {w : World} {xs ys : List Value} (hx : leafsOk Try.prog tsH xs = true) (hy : leafsOk Try.prog tsH ys = true) :
    (bigOp .neq 34 (.agg xs.toArray) (.agg ys.toArray)).run Try.prog w = .ok (.bool (!leqs xs ys)) w := run_neq leafsH (by kernel_rfl) hx hy
theorem guard34 (op : BinOp) (x y : Operand) (xs ys : Array Value) (w : World) : (eqGuard op 34 x y (.agg xs) (.agg ys)).run Try.prog w = .ok () w := run_eqGuard_agg w op 34 x y xs ys Try.eqGuardType34
attribute [local go_sem ↓] to34 toOp34
attribute [local go_sem] ld34 neq34 guard34 cellsAt_drewN okAt_drewN

theorem sameHashes (A B : Option Addr) (X Y : List (List Value)) (c d : Nat) (w : World) (hA : Sl w A 32 X) (hB : Sl w B 32 Y) (hX : ∀ x ∈ X, leafsOk Try.prog tsH x = true) (hY : ∀ y ∈ Y, leafsOk Try.prog tsH y = true) (hm : X.length ≤ 1048576) (_hn : Y.length ≤ 1048576) :
    Calls Try.prog 19 #[.slice A X.length c, .slice B Y.length d] w fun e w' => e = .returned (.bool (leqL X Y)) ∧ ∃ q, w' = w.drewN q := by
  by_cases hl : X.length = Y.length
  · have hl1 : ((X.length : Int) != (Y.length : Int)) = false := by rw [hl]; simp
    have HL := Lib.hid hl
    clear hl
    go_enter Try.func19, Try.ntmps19
    go_wp2
    go_loopw [5] (fun i wr => ∃ k q : Nat, k ≤ X.length ∧ i = .int .i64 k ∧ Upto X Y k ∧ wr = w.drewN q) (fun i _ => X.length - (intOf i).toNat)
    case atStart => exact ⟨0, 0, Nat.zero_le _, rfl, Upto.zero _ _, rfl⟩
    case round =>
      obtain ⟨k, q, hk, rfl, hu, rfl⟩ := hrel
      by_cases hlt : k < X.length
      · obtain ⟨ad, rfl, hx⟩ := hA.at_ hlt
        obtain ⟨bd, rfl, hy⟩ := hB.at_ (k := k) (by have := HL.out; omega)
        obtain ⟨x1, x2⟩ := hx k hlt
        obtain ⟨y1, y2⟩ := hy k (by have := HL.out; omega)
        have lx := hX _ (ch_mem hlt)
        have ly := hY _ (ch_mem (X := Y) (k := k) (by have := HL.out; omega))
        have hlt' : k < Y.length := by have := HL.out; omega
        clear hx hy hA hB
        cases he : leqs (ch X k) (ch Y k)
        · have HE := Lib.hid he
          go_wp2
          go_quiet (fail)
          clear hX hY lx ly x1 x2 y1 y2
          go_wp2
          go_ret
          exact ⟨by rw [leqL_not hlt HE.out]; rfl, q + nq, World.drewN_drewN _ _ _⟩
        · have HU := Lib.hid hu
          have HE := Lib.hid he
          clear hu
          go_wp2
          go_quiet (fail)
          clear hX hY lx ly x1 x2 y1 y2
          go_wp2
          go_roundw
          case rel => exact ⟨k + 1, q + nq, by omega, by go_num, HU.out.succ HE.out, rfl⟩
          case measure => simp [intOf]; omega
      · have HU := Lib.hid hu
        clear hu hX hY hA hB
        go_wp2
        go_ret
        have e : k = X.length := by omega
        exact ⟨by rw [leqL_of HL.out (e ▸ HU.out)]; rfl, q, rfl⟩
  · have hl1 : ((X.length : Int) != (Y.length : Int)) = true := by simp; omega
    have HL := Lib.hid hl
    clear hl hX hY hA hB
    go_enter Try.func19, Try.ntmps19
    go_wp2
    go_ret
    exact ⟨by rw [leqL_ne HL.out]; rfl, 0, rfl⟩
theorem equalH (A B : Option Addr) (X Y : List (List Value)) (c d : Nat) (w : World) (hA : Sl w A 32 X) (hB : Sl w B 32 Y) (hX : ∀ x ∈ X, leafsOk Try.prog tsH x = true) (hY : ∀ y ∈ Y, leafsOk Try.prog tsH y = true) (hm : X.length ≤ 1048576) (_hn : Y.length ≤ 1048576) :
    Calls Try.prog 14 #[.slice A X.length c, .slice B Y.length d] w fun e w' => e = .returned (.bool (leqL X Y)) ∧ ∃ q, w' = w.drewN q := by
  by_cases hl : X.length = Y.length
  · have hl1 : ((X.length : Int) != (Y.length : Int)) = false := by rw [hl]; simp
    have HL := Lib.hid hl
    clear hl
    go_enter Try.func14, Try.ntmps14
    go_wp2
    go_loopw [13] (fun i wr => ∃ k q : Nat, k ≤ X.length ∧ i = .int .i64 k ∧ Upto X Y k ∧ wr = w.drewN q) (fun i _ => X.length - (intOf i).toNat)
    case atStart => exact ⟨0, 0, Nat.zero_le _, rfl, Upto.zero _ _, rfl⟩
    case round =>
      obtain ⟨k, q, hk, rfl, hu, rfl⟩ := hrel
      by_cases hlt : k < X.length
      · obtain ⟨ad, rfl, hx⟩ := hA.at_ hlt
        obtain ⟨bd, rfl, hy⟩ := hB.at_ (k := k) (by have := HL.out; omega)
        obtain ⟨x1, x2⟩ := hx k hlt
        obtain ⟨y1, y2⟩ := hy k (by have := HL.out; omega)
        have lx := hX _ (ch_mem hlt)
        have ly := hY _ (ch_mem (X := Y) (k := k) (by have := HL.out; omega))
        have hlt' : k < Y.length := by have := HL.out; omega
        clear hx hy hA hB
        cases he : leqs (ch X k) (ch Y k)
        · have HE := Lib.hid he
          go_wp2
          go_quiet (fail)
          clear hX hY lx ly x1 x2 y1 y2
          go_wp2
          go_ret
          exact ⟨by rw [leqL_not hlt HE.out]; rfl, q + nq, World.drewN_drewN _ _ _⟩
        · have HU := Lib.hid hu
          have HE := Lib.hid he
          clear hu
          go_wp2
          go_quiet (fail)
          clear hX hY lx ly x1 x2 y1 y2
          go_wp2
          go_roundw
          case rel => exact ⟨k + 1, q + nq, by omega, by go_num, HU.out.succ HE.out, rfl⟩
          case measure => simp [intOf]; omega
      · have HU := Lib.hid hu
        clear hu hX hY hA hB
        go_wp2
        go_ret
        have e : k = X.length := by omega
        exact ⟨by rw [leqL_of HL.out (e ▸ HU.out)]; rfl, q, rfl⟩
  · have hl1 : ((X.length : Int) != (Y.length : Int)) = true := by simp; omega
    have HL := Lib.hid hl
    clear hl hX hY hA hB
    go_enter Try.func14, Try.ntmps14
    go_wp2
    go_ret
    exact ⟨by rw [leqL_ne HL.out]; rfl, 0, rfl⟩
end Go.Proofs.Ythpnebmolaaapaa.upd
