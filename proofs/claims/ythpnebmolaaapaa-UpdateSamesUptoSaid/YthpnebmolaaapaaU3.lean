import Derived.Test.YthpnebmolaaapaaU2
namespace Go.Proofs.Ythpnebmolaaapaa.upd
open Go.RowKit eqv chunks
attribute [local go_sem ↓] to34 toOp34 toSt34
attribute [local go_sem] ld34 neq34 guard34 cellsAt_drewN okAt_drewN st34 addSub
theorem markOk (j : Nat) : leafsOk Try.prog tsH [.int .u8 160, .int .u8 (j : Int), .int .u8 0, .int .u8 0, .int .u8 0, .int .u8 0, .int .u8 0, .int .u8 0, .int .u8 0, .int .u8 0, .int .u8 0, .int .u8 0, .int .u8 0, .int .u8 0, .int .u8 0, .int .u8 0, .int .u8 0, .int .u8 0, .int .u8 0, .int .u8 0, .int .u8 0, .int .u8 0, .int .u8 0, .int .u8 0, .int .u8 0, .int .u8 0, .int .u8 0, .int .u8 0, .int .u8 0, .int .u8 0, .int .u8 0, .int .u8 0] = true := by
  simp [leafsOk, tsH, List.replicate_succ, leaf5]
theorem keptHashes (A B : Option Addr) (X Y : List (List Value)) (d : Nat) (w : World) (hA : Sl w A 32 (X ++ marks)) (hB : Sl w B 32 Y) (hX : ∀ x ∈ X, leafsOk Try.prog tsH x = true) (hY : ∀ y ∈ Y, leafsOk Try.prog tsH y = true) (hm : X.length ≤ 1048576) (hn : Y.length ≤ 1048576) :
    Calls Try.prog 17 #[.slice A X.length (X.length + 9), .slice B Y.length d] w fun e w' => e = .returned (.bool (leqL X Y)) ∧ ∃ q, w' = w.drewN q := by
  have HA := Lib.hid hA
  have hS := sameHashes A B X Y (X.length + 9) d w hA.left hB hX hY hm hn
  have HS := Lib.hid hS
  clear hA hB hX hY hS
  cases he : leqL X Y
  · have HE := Lib.hid he
    clear he
    go_enter Try.func17, Try.ntmps17
    go_wp2_with (go_at_call 19; refine HS.out.mono ?_; rintro e w1 ⟨rfl, q, rfl⟩; rw [HE.out])
    go_ret
    exact ⟨rfl, q, rfl⟩
  · have HE := Lib.hid he
    have hl := leqL_length he
    clear he
    have HL := Lib.hid hl
    have hle : Y.length ≤ X.length := by omega
    clear hl
    go_enter Try.func17, Try.ntmps17
    go_wp2_with (go_at_call 19; refine HS.out.mono ?_; rintro e w1 ⟨rfl, q, rfl⟩; rw [HE.out])
    go_loopw [6] (fun i wr => ∃ j : Nat, j ≤ 9 ∧ i = .int .i64 ((Y.length : Int) + (j : Int)) ∧ wr = w.drewN q) (fun i _ => Y.length + 9 - (intOf i).toNat)
    case atStart => exact ⟨0, by omega, by go_num, rfl⟩
    case round =>
      obtain ⟨j, hj, rfl, rfl⟩ := hrel
      by_cases hj1 : j < 9
      · obtain ⟨ad, rfl, hx⟩ := HA.out.at_ (k := Y.length + j) (by rw [List.length_append, marks_length]; omega)
        obtain ⟨x1, x2⟩ := hx (Y.length + j) (by rw [List.length_append, marks_length]; omega)
        have e1 : Y.length + j = X.length + j := by rw [HL.out]
        have e2 : ch (X ++ marks) (Y.length + j) = .int .u8 160 :: .int .u8 (j : Int) :: List.replicate 30 (.int .u8 0) := by rw [e1, ch_append_right, ch_marks hj1]
        rw [e2] at x2
        simp only [List.replicate_succ, List.replicate_zero] at x2
        have lo := markOk j
        have le : leqs [.int .u8 160, .int .u8 (j : Int), .int .u8 0, .int .u8 0, .int .u8 0, .int .u8 0, .int .u8 0, .int .u8 0, .int .u8 0, .int .u8 0, .int .u8 0, .int .u8 0, .int .u8 0, .int .u8 0, .int .u8 0, .int .u8 0, .int .u8 0, .int .u8 0, .int .u8 0, .int .u8 0, .int .u8 0, .int .u8 0, .int .u8 0, .int .u8 0, .int .u8 0, .int .u8 0, .int .u8 0, .int .u8 0, .int .u8 0, .int .u8 0, .int .u8 0, .int .u8 0] [.int .u8 160, .int .u8 (j : Int), .int .u8 0, .int .u8 0, .int .u8 0, .int .u8 0, .int .u8 0, .int .u8 0, .int .u8 0, .int .u8 0, .int .u8 0, .int .u8 0, .int .u8 0, .int .u8 0, .int .u8 0, .int .u8 0, .int .u8 0, .int .u8 0, .int .u8 0, .int .u8 0, .int .u8 0, .int .u8 0, .int .u8 0, .int .u8 0, .int .u8 0, .int .u8 0, .int .u8 0, .int .u8 0, .int .u8 0, .int .u8 0, .int .u8 0, .int .u8 0] = true := by
          simp [leqs, leq]
        clear hx e1 e2
        go_wp2
        clear lo le x1 x2
        go_roundw
        case rel => exact ⟨j + 1, by omega, by go_num, trivial⟩
        case measure => simp [intOf]; omega
      · go_wp2
        go_ret
        exact ⟨rfl, q, rfl⟩
end Go.Proofs.Ythpnebmolaaapaa.upd
