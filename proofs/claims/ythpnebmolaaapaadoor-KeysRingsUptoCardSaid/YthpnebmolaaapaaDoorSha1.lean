/- Rotations. No condition. -/
import Derived.Test.YthpnebmolaaapaaDoorShp
namespace Go.Proofs.YthpnebmolaaapaaDoor.sha
open Go.RowKit
attribute [local go_sem ↓] add_U xor_U or_U and_U shl_U shr_U not_U store_U c8 c32 stU'
theorem turned (x : W32) (n : Int) (w : World) (h0 : 0 ≤ n) (h1 : n ≤ 32) :
    Calls Tryd.prog 17 #[U x, .int .i64 n] w fun e w' => e = .returned (U (rot x n.toNat)) ∧ ∃ q, w' = w.drewN q := by
  have h2 : 0 ≤ 32 - n := by omega
  have h3 : (32 - n).toNat = 32 - n.toNat := by omega
  go_enter Tryd.func17, Tryd.ntmps17
  go_wp2
  go_quiet (fail)
  go_wp2
  go_ret
  refine ⟨?_, nq, rfl⟩
  unfold rot
  rfl
theorem rotl (x : W32) (n : Int) (s : Nat) (w : World) (hs : (n, s) ∈ ([(-7, 25), (-18, 14), (-17, 15), (-19, 13), (-6, 26), (-11, 21), (-25, 7), (-2, 30), (-13, 19), (-22, 10)] : List (Int × Nat))) :
    Calls Tryd.prog 18 #[U x, .int .i64 n] w fun e w' => e = .returned (U (rot x (32 - s))) ∧ w' = w := by
  simp only [List.mem_cons, Prod.mk.injEq, List.mem_nil_iff, or_false] at hs
  have e : bits .and .u64 (IntKind.u64.wrap n) 31 = (s : Int) := by
    rcases hs with ⟨rfl, rfl⟩ | ⟨rfl, rfl⟩ | ⟨rfl, rfl⟩ | ⟨rfl, rfl⟩ | ⟨rfl, rfl⟩ | ⟨rfl, rfl⟩ | ⟨rfl, rfl⟩ | ⟨rfl, rfl⟩ | ⟨rfl, rfl⟩ | ⟨rfl, rfl⟩ <;> decide
  rcases hs with ⟨rfl, rfl⟩ | ⟨rfl, rfl⟩ | ⟨rfl, rfl⟩ | ⟨rfl, rfl⟩ | ⟨rfl, rfl⟩ | ⟨rfl, rfl⟩ | ⟨rfl, rfl⟩ | ⟨rfl, rfl⟩ | ⟨rfl, rfl⟩ | ⟨rfl, rfl⟩
  all_goals
    go_enter Tryd.func18, Tryd.ntmps18
    go_wp2
    go_ret
    refine ⟨?_, rfl⟩
    unfold rot
    simp [BitVec.or_comm]
theorem rotr (x : W32) (n : Int) (m : Nat) (w : World) (hs : (n, m) ∈ ([(-7, 7), (-18, 18), (-17, 17), (-19, 19), (-6, 6), (-11, 11), (-25, 25), (-2, 2), (-13, 13), (-22, 22)] : List (Int × Nat))) :
    Calls Tryd.prog 18 #[U x, .int .i64 n] w fun e w' => e = .returned (U (rot x m)) ∧ w' = w := by
  have h : (n, 32 - m) ∈ ([(-7, 25), (-18, 14), (-17, 15), (-19, 13), (-6, 26), (-11, 21), (-25, 7), (-2, 30), (-13, 19), (-22, 10)] : List (Int × Nat)) ∧ 32 - (32 - m) = m := by
    simp only [List.mem_cons, Prod.mk.injEq, List.mem_nil_iff, or_false] at hs
    rcases hs with ⟨rfl, rfl⟩ | ⟨rfl, rfl⟩ | ⟨rfl, rfl⟩ | ⟨rfl, rfl⟩ | ⟨rfl, rfl⟩ | ⟨rfl, rfl⟩ | ⟨rfl, rfl⟩ | ⟨rfl, rfl⟩ | ⟨rfl, rfl⟩ | ⟨rfl, rfl⟩ <;> decide
  have := rotl x n (32 - m) w h.1
  rw [h.2] at this
  exact this
end Go.Proofs.YthpnebmolaaapaaDoor.sha
