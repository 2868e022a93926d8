/- What has been written so far, in plain Lean. No condition. -/
import Derived.Test.YthpnebmolaaapaaDoorShp
namespace Go.Proofs.YthpnebmolaaapaaDoor.sha
open Go.RowKit
theorem tail64_length (l : List Int) : (tail64 l).length = l.length % 64 := by
  unfold tail64
  rw [List.length_drop]
  omega
/-- A whole block behind whole blocks. -/
theorem whole_step {l r : List Int} (h : l.length % 64 = 0) (hr : 64 ≤ r.length) : absorb iv (l ++ r.take 64) = mixV (absorb iv l) (fun i => r.getD i 0) ∧ tail64 (l ++ r.take 64) = [] := by
  constructor
  · rw [absorb_block iv (l.length / 64) l (r.take 64) (by omega) (by rw [List.length_take]; omega)]
    refine mixV_congr _ fun i hi => ?_
    simp only [List.getD_eq_getElem?_getD]
    rw [List.getElem?_take, if_pos hi]
  · apply List.eq_nil_of_length_eq_zero
    rw [tail64_length, List.length_append, List.length_take]
    omega
theorem split64 (l : List Int) : l.take (64 * (l.length / 64)) ++ tail64 l = l := List.take_append_drop _ _
theorem tail_step {l t : List Int} (h : l.length % 64 + t.length < 64) : absorb iv (l ++ t) = absorb iv l ∧ tail64 (l ++ t) = tail64 l ++ t := by
  constructor
  · rw [absorb_whole iv l]
    conv => lhs; rw [← split64 l, List.append_assoc]
    exact absorb_tail iv (l.length / 64) _ _ (by rw [List.length_take]; omega) (by rw [List.length_append, tail64_length]; omega)
  · unfold tail64
    have e : (l ++ t).length / 64 = l.length / 64 := by rw [List.length_append]; omega
    rw [e, List.drop_append_of_le_length (by omega)]
theorem full_step {l t : List Int} (h : l.length % 64 + t.length = 64) : absorb iv (l ++ t) = mixV (absorb iv l) (fun i => (tail64 l ++ t).getD i 0) ∧ tail64 (l ++ t) = [] := by
  constructor
  · rw [absorb_whole iv l]
    conv => lhs; rw [← split64 l, List.append_assoc]
    exact absorb_block iv (l.length / 64) _ _ (by rw [List.length_take]; omega) (by rw [List.length_append, tail64_length]; omega)
  · apply List.eq_nil_of_length_eq_zero
    rw [tail64_length, List.length_append]
    omega
end Go.Proofs.YthpnebmolaaapaaDoor.sha
