/- Numbers of 32 bits kept whole: what the walk does with them. No condition. -/
import Derived.Test.YthpnebmolaaapaaDoorRows
import Derived.WalkKit
import Derived.WalkLawsBesides
import Derived.WalkSpells
import Derived.BigQuiet
import Derived.Deep.LoopGhost
import Derived.Lib.Hide
import Derived.Outline
import Derived.StillTailTactics
import Derived.Deep.RegionHeld3
namespace Go.Proofs.YthpnebmolaaapaaDoor.sha
open Go.RowKit
abbrev W32 := BitVec 32
/-- A uint32's value. -/
def U (x : W32) : Value := .int .u32 (x.toNat : Int)
theorem wrapU (n : Int) : IntKind.u32.wrap n = ((BitVec.ofInt 32 n).toNat : Int) := by
  rw [BitVec.toNat_ofInt]
  simp only [IntKind.wrap, IntKind.bits, IntKind.signed, Bool.false_and, Bool.false_eq_true, if_false]
  omega
theorem ofInt_toNat (x : W32) : BitVec.ofInt 32 (x.toNat : Int) = x := by
  apply BitVec.eq_of_toNat_eq
  rw [BitVec.toNat_ofInt]
  have := x.isLt
  omega
theorem intU (n : Int) : Value.int .u32 (IntKind.u32.wrap n) = U (BitVec.ofInt 32 n) := by rw [U, wrapU]
theorem add_U (t : TypeId) (x y : W32) : binOp .add t (U x) (U y) = pure (U (x + y)) := by
  show (pure (Value.int .u32 (IntKind.u32.wrap ((x.toNat : Int) + (y.toNat : Int)))) : Sem Value) = _
  rw [intU, BitVec.ofInt_add, ofInt_toNat, ofInt_toNat]
theorem bits_U (r : W32) : Value.int .u32 (IntKind.u32.wrap (r.toNat : Int)) = U r := by rw [intU, ofInt_toNat]
theorem xor_U (t : TypeId) (x y : W32) : binOp .xor t (U x) (U y) = pure (U (x ^^^ y)) := by
  show (pure (Value.int .u32 (IntKind.u32.wrap (((BitVec.ofInt 32 (x.toNat : Int)) ^^^ (BitVec.ofInt 32 (y.toNat : Int))).toNat : Int))) : Sem Value) = _
  rw [bits_U, ofInt_toNat, ofInt_toNat]
theorem or_U (t : TypeId) (x y : W32) : binOp .or t (U x) (U y) = pure (U (x ||| y)) := by
  show (pure (Value.int .u32 (IntKind.u32.wrap (((BitVec.ofInt 32 (x.toNat : Int)) ||| (BitVec.ofInt 32 (y.toNat : Int))).toNat : Int))) : Sem Value) = _
  rw [bits_U, ofInt_toNat, ofInt_toNat]
theorem and_U (t : TypeId) (x y : W32) : binOp .and t (U x) (U y) = pure (U (x &&& y)) := by
  show (pure (Value.int .u32 (IntKind.u32.wrap (((BitVec.ofInt 32 (x.toNat : Int)) &&& (BitVec.ofInt 32 (y.toNat : Int))).toNat : Int))) : Sem Value) = _
  rw [bits_U, ofInt_toNat, ofInt_toNat]
theorem shl_U (t : TypeId) (x : W32) (k : IntKind) (n : Int) (h : 0 ≤ n) : binOp .shl t (U x) (.int k n) = pure (U (x <<< n.toNat)) := by
  have h0 : ¬ n < 0 := by omega
  have e : binOp .shl t (U x) (.int k n) = (pure (.int .u32 (IntKind.u32.wrap ((x.toNat : Int) * 2 ^ (min n.toNat 32)))) : Sem Value) := by
    show Op.shift .shl .u32 (x.toNat : Int) k n = _
    simp [Op.shift, h0, IntKind.bits]
  rw [e, intU]
  congr 2
  apply BitVec.eq_of_toNat_eq
  rw [BitVec.toNat_ofInt, BitVec.toNat_shiftLeft, Nat.shiftLeft_eq]
  have hx := x.isLt
  rcases Nat.lt_or_ge n.toNat 32 with h1 | h1
  · rw [Nat.min_eq_left (by omega)]
    have : ((x.toNat : Int) * 2 ^ n.toNat) = ((x.toNat * 2 ^ n.toNat : Nat) : Int) := by simp
    rw [this]
    omega
  · rw [Nat.min_eq_right h1]
    have : ((x.toNat : Int) * 2 ^ 32) = ((x.toNat * 2 ^ 32 : Nat) : Int) := by simp
    rw [this]
    obtain ⟨m, hm⟩ : ∃ m, n.toNat = 32 + m := ⟨n.toNat - 32, by omega⟩
    rw [hm, Nat.pow_add, ← Nat.mul_assoc, Nat.mul_right_comm, Nat.mul_mod_left]
    omega
theorem shr_U (t : TypeId) (x : W32) (k : IntKind) (n : Int) (h : 0 ≤ n) : binOp .shr t (U x) (.int k n) = pure (U (x >>> n.toNat)) := by
  have h0 : ¬ n < 0 := by omega
  have e : binOp .shr t (U x) (.int k n) = (pure (.int .u32 ((x.toNat : Int).fdiv (2 ^ (min n.toNat 32)))) : Sem Value) := by
    show Op.shift .shr .u32 (x.toNat : Int) k n = _
    simp [Op.shift, h0, IntKind.bits]
  rw [e, U]
  congr 2
  rw [BitVec.toNat_ushiftRight, Nat.shiftRight_eq_div_pow]
  have hx := x.isLt
  have hp : ∀ m : Nat, ((x.toNat : Int).fdiv (2 ^ m)) = ((x.toNat / 2 ^ m : Nat) : Int) := fun m => by
    rw [Int.fdiv_eq_ediv_of_nonneg _ (by exact_mod_cast Nat.zero_le (2 ^ m))]
    simp
  rw [hp]
  rcases Nat.lt_or_ge n.toNat 32 with h1 | h1
  · rw [Nat.min_eq_left (by omega)]
  · rw [Nat.min_eq_right h1]
    have e1 : x.toNat / 2 ^ 32 = 0 := Nat.div_eq_of_lt hx
    have e2 : x.toNat / 2 ^ n.toNat = 0 := Nat.div_eq_of_lt (Nat.lt_of_lt_of_le hx (Nat.pow_le_pow_right (by omega) h1))
    rw [e1, e2]
theorem not_U (x : W32) : Op.unary .xor (U x) = pure (U (~~~ x)) := by
  have e : Op.unary .xor (U x) = (pure (.int .u32 (IntKind.u32.wrap (((BitVec.ofInt 32 4294967295) ^^^ (BitVec.ofInt 32 (x.toNat : Int))).toNat : Int))) : Sem Value) := rfl
  rw [e, bits_U, ofInt_toNat, show BitVec.ofInt 32 4294967295 = BitVec.allOnes 32 from by decide, BitVec.allOnes_xor]
theorem store_U (P : Program) (w : World) (a : Addr) (x : W32) (m : Mode) : (store a (U x) m).run P w = stored P w a (U x) m := run_store P w a _ m rfl
theorem stU {P : Program} {w : World} {a : Addr} {x : W32} {u : Value} (hc : w.cell? a = some u) (hf : w.frozen? a = false) : Sem.run P (storeCells a [U x]) w = .ok () (w.setCell a (U x)) := by
  have e : a.add 0 = a := by simp [Addr.add]
  simp [storeCells, e, store_U, stored, hc, hf]
theorem stU' {P : Program} {w : World} {a : Addr} {x : W32} : Sem.run P (storeCells a [U x]) w = stored P w a (U x) .plain := by
  have e : a.add 0 = a := by simp [Addr.add]
  rw [← store_U]
  simp only [storeCells, e]
  rw [Sem.run_bind]
  generalize (store a (U x)).run P w = r
  cases r <;> rfl
/-- A store of a number. -/
def sU (a : Addr) (v : Value) : Sem Unit := storeVar 51 a v
theorem toSU (a : Addr) (v : Value) : storeVar 51 a v = sU a v := rfl
theorem run_sU {w : World} {a : Addr} {x : W32} : Sem.run Tryd.prog (sU a (U x)) w = stored Tryd.prog w a (U x) .plain := by
  rw [← stU']
  rfl
theorem conv_U {P : Program} {s d : TypeId} (hs : P.underlying s = some (.int .u8)) (hd : P.underlying d = some (.int .u32)) (n : Int) (w : World) : (convert s d (.int .u8 n)).run P w = .ok (U (BitVec.ofInt 32 n)) w := by
  have e : (convert s d (.int .u8 n)).run P w = .ok (.int .u32 (IntKind.u32.wrap n)) w := by
    simp [convert, run_underlying hs, run_underlying hd, Conv.intToInt]
  rw [e, intU]
/-- The low byte. -/
def lo8 (x : W32) : Int := (x.toNat : Int) % 256
theorem conv_U8 {P : Program} {s d : TypeId} (hs : P.underlying s = some (.int .u32)) (hd : P.underlying d = some (.int .u8)) (x : W32) (w : World) : (convert s d (U x)).run P w = .ok (.int .u8 (lo8 x)) w := by
  unfold U lo8
  simp [convert, run_underlying hs, run_underlying hd, Conv.intToInt, IntKind.wrap, IntKind.bits, IntKind.signed]
theorem c8 (n : Int) (w : World) : (convert 5 51 (.int .u8 n)).run Tryd.prog w = .ok (U (BitVec.ofInt 32 n)) w := conv_U Tryd.underlying5 Tryd.underlying51 n w
theorem c32 (x : W32) (w : World) : (convert 51 5 (U x)).run Tryd.prog w = .ok (.int .u8 (lo8 x)) w := conv_U8 Tryd.underlying51 Tryd.underlying5 x w
/-- To the right, in a circle. -/
def rot (x : W32) (n : Nat) : W32 := (x >>> n) ||| (x <<< (32 - n))
end Go.Proofs.YthpnebmolaaapaaDoor.sha
