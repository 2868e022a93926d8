import Derived.Test.YthpnebmolaaapaaU7
import Derived.StillTailTactics
namespace Go.Proofs.Ythpnebmolaaapaa.upd
open Go.RowKit eqv chunks
attribute [local go_sem ↓] to44 toOp44
attribute [local go_sem] ld44 eql44 guard44 cellsAt_drewN okAt_drewN okAt_drew cellsAt_drew
def eqEL : List (List Value) → List (List Value) → Bool
  | [], [] => true
  | x :: X, y :: Y => eqE x y && eqEL X Y
  | _, _ => false
theorem eqEL_ne {X Y : List (List Value)} (h : X.length ≠ Y.length) : eqEL X Y = false := by
  induction X generalizing Y with
  | nil => cases Y with
    | nil => simp at h
    | cons y Y => rfl
  | cons x X ih => cases Y with
    | nil => rfl
    | cons y Y => simp only [eqEL, ih (by simpa using h), Bool.and_false]
def UptoE (X Y : List (List Value)) (k : Nat) : Prop := ∀ i, i < k → eqE (ch X i) (ch Y i) = true
theorem UptoE.zero (X Y : List (List Value)) : UptoE X Y 0 := fun i h => by omega
theorem UptoE.succ {X Y : List (List Value)} {k : Nat} (h : UptoE X Y k) (hk : eqE (ch X k) (ch Y k) = true) : UptoE X Y (k + 1) := fun i hi => by
  rcases Nat.lt_or_ge i k with h1 | h1
  · exact h i h1
  · obtain rfl : i = k := by omega
    exact hk
theorem eqEL_of {X Y : List (List Value)} (hl : X.length = Y.length) (h : UptoE X Y X.length) : eqEL X Y = true := by
  induction X generalizing Y with
  | nil => cases Y with
    | nil => rfl
    | cons y Y => simp at hl
  | cons x X ih => cases Y with
    | nil => simp at hl
    | cons y Y =>
      simp only [eqEL, Bool.and_eq_true]
      exact ⟨by simpa [ch] using h 0 (by simp), ih (by simpa using hl) fun i hi => by simpa [ch] using h (i + 1) (by simp; omega)⟩
theorem eqEL_not {X Y : List (List Value)} {k : Nat} (hk : k < X.length) (h : eqE (ch X k) (ch Y k) = false) : eqEL X Y = false := by
  induction X generalizing Y k with
  | nil => simp at hk
  | cons x X ih => cases Y with
    | nil => rfl
    | cons y Y =>
      cases k with
      | zero => simp [eqEL, show eqE x y = false by simpa [ch] using h]
      | succ k => simp [eqEL, ih (k := k) (by simpa using hk) (by simpa [ch] using h)]
set_option maxHeartbeats 1000000 in
theorem sameEdits (A B : Option Addr) (X Y : List (List Value)) (c d : Nat) (w : World) (hA : Sl w A 111 X) (hB : Sl w B 111 Y) (hX : ∀ x ∈ X, leafsOk Try.prog tsE x = true) (hY : ∀ y ∈ Y, leafsOk Try.prog tsE y = true) (hm : X.length ≤ 1048576) (_hn : Y.length ≤ 1048576)
    (hlA : ∀ ad, A = some ad → ad.block < w.heap.size) (hlB : ∀ ad, B = some ad → ad.block < w.heap.size) :
    Calls Try.prog 16 #[.slice A X.length c, .slice B Y.length d] w fun e w' => e = .returned (.bool (eqEL X Y)) ∧ Below w.heap.size w w' := by
  by_cases hl : X.length = Y.length
  · have hl1 : ((X.length : Int) != (Y.length : Int)) = false := by rw [hl]; simp
    have HL := Lib.hid hl
    clear hl
    go_enter Try.func16, Try.ntmps16
    go_wp2
    go_loopw [5] (fun i wr => ∃ k : Nat, k ≤ X.length ∧ i = .int .i64 k ∧ UptoE X Y k ∧ Below w.heap.size w wr) (fun i _ => X.length - (intOf i).toNat)
    case atStart => exact ⟨0, Nat.zero_le _, rfl, UptoE.zero _ _, Below.refl _ _⟩
    case round =>
      obtain ⟨k, hk, rfl, hu, hbel⟩ := hrel
      by_cases hlt : k < X.length
      · obtain ⟨ad, rfl, hx⟩ := (hA.below hbel hlA).at_ hlt
        obtain ⟨bd, rfl, hy⟩ := (hB.below hbel hlB).at_ (k := k) (by have := HL.out; omega)
        obtain ⟨x1, x2⟩ := hx k hlt
        obtain ⟨y1, y2⟩ := hy k (by have := HL.out; omega)
        have lx := hX _ (ch_mem hlt)
        have ly := hY _ (ch_mem (X := Y) (k := k) (by have := HL.out; omega))
        have hlt' : k < Y.length := by have := HL.out; omega
        have HLX := Lib.hid lx
        have HLY := Lib.hid ly
        have HBel := Lib.hid hbel
        have HU := Lib.hid hu
        clear hx hy hA hB hlA hlB hu hbel lx ly
        go_wp2
        go_still_tail 8, (by kernel_rfl)
        clear x1 x2 y1 y2
        have hbd : Below w.heap.size w wr.drew := HBel.out.drew
        have HBd := Lib.hid hbd
        clear hbd HBel
        change wpList _ _ _ _ _ wr.drew
        generalize wr.drew = w2 at HBd ⊢
        cases he : eqE (ch X k) (ch Y k)
        · have HE := Lib.hid he
          go_wp2_with (go_at_call 18; refine (eqE18 _ _ _ HLX.out HLY.out).mono ?_; rintro e w1 ⟨rfl, hb1⟩; have HB1 := Lib.hid hb1; clear hb1)
          go_ret
          exact ⟨by rw [eqEL_not hlt HE.out]; rfl, HBd.out.trans (HB1.out.mono HBd.out.size)⟩
        · have HE := Lib.hid he
          go_wp2_with (go_at_call 18; refine (eqE18 _ _ _ HLX.out HLY.out).mono ?_; rintro e w1 ⟨rfl, hb1⟩; have HB1 := Lib.hid hb1; clear hb1)
          go_roundw
          case rel => exact ⟨k + 1, by omega, by go_num, HU.out.succ HE.out, HBd.out.trans (HB1.out.mono HBd.out.size)⟩
          case measure => simp [intOf]; omega
      · have HU := Lib.hid hu
        have HBel := Lib.hid hbel
        clear hu hbel hX hY hA hB hlA hlB
        go_wp2
        go_ret
        have e : k = X.length := by omega
        exact ⟨by rw [eqEL_of HL.out (e ▸ HU.out)]; rfl, HBel.out⟩
  · have hl1 : ((X.length : Int) != (Y.length : Int)) = true := by simp; omega
    have HL := Lib.hid hl
    clear hl hX hY hA hB
    go_enter Try.func16, Try.ntmps16
    go_wp2
    go_ret
    exact ⟨by rw [eqEL_ne HL.out]; rfl, Below.refl _ _⟩
end Go.Proofs.Ythpnebmolaaapaa.upd
