import Derived.Test.YthpnebmolaaapaaU3
namespace Go.Proofs.Ythpnebmolaaapaa.upd
open Go.RowKit eqv chunks
theorem float64bits (b : Nat) (w : World) : (callFunc 13 #[.float .f64 b]).run Try.prog w = .ok (.value (.int .u64 (b : Int))) w := by kernel_rfl
attribute [local go_sem] float64bits
/-- Two values' cells, bit by bit. -/
def beq (x y : Value) : Bool :=
  match x, y with
  | .bool a, .bool b => a == b
  | .int _ a, .int _ b => a == b
  | .float _ a, .float _ b => a == b
  | .string a, .string b => a == b
  | _, _ => false
theorem valSame (k k' n n' : Int) (f f' : Nat) (s s' : ByteArray) (w : World) :
    Calls Try.prog 20 #[.agg #[.int .u8 k, .int .i64 n, .float .f64 f, .string s], .agg #[.int .u8 k', .int .i64 n', .float .f64 f', .string s']] w
      fun e w' => e = .returned (.bool (k == k' && (n == n' && ((f : Int) == (f' : Int) && s.toList == s'.toList)))) ∧ Below w.heap.size w w' := by
  have fin : ∀ q : Nat, Below w.heap.size w (((w.alloc (Obj.cells #[Value.int IntKind.u8 k, Value.int IntKind.i64 n, Value.float FloatKind.f64 f, Value.string s] 42)).alloc
      (Obj.cells #[Value.int IntKind.u8 k', Value.int IntKind.i64 n', Value.float FloatKind.f64 f', Value.string s'] 42)).drewN q) := fun q =>
    below_drewN (((Below.refl _ _).alloc (Nat.le_refl _) _).alloc (by simp) _) q
  have FIN := Lib.hid fin
  clear fin
  cases h1 : (k == k')
  · go_enter Try.func20, Try.ntmps20
    go_wp2
    go_quiet (fail)
    go_wp2
    go_ret
    exact ⟨rfl, FIN.out _⟩
  cases h2 : (n == n')
  · go_enter Try.func20, Try.ntmps20
    go_wp2
    go_quiet (fail)
    go_wp2
    go_ret
    exact ⟨rfl, FIN.out _⟩
  cases h3 : ((f : Int) == (f' : Int))
  · go_enter Try.func20, Try.ntmps20
    go_wp2
    go_quiet (fail)
    go_wp2
    go_ret
    exact ⟨rfl, FIN.out _⟩
  cases h4 : (s.toList == s'.toList)
  all_goals
    go_enter Try.func20, Try.ntmps20
    go_wp2
    go_quiet (fail)
    go_wp2
    go_ret
    exact ⟨rfl, FIN.out _⟩
end Go.Proofs.Ythpnebmolaaapaa.upd
