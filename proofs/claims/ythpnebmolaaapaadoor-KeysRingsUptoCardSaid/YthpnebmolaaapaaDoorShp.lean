/- SHA-256 in plain Lean: what both texts compute. No condition, no program. -/
import Derived.Test.YthpnebmolaaapaaDoorShu
namespace Go.Proofs.YthpnebmolaaapaaDoor.sha
open Go.RowKit
def upd (A : Nat → W32) (i : Nat) (v : W32) : Nat → W32 := fun j => if j = i then v else A j
def word (b : Nat → Int) (t : Nat) : W32 := (BitVec.ofInt 32 (b (4 * t)) <<< 24 ||| BitVec.ofInt 32 (b (4 * t + 1)) <<< 16 ||| BitVec.ofInt 32 (b (4 * t + 2)) <<< 8) ||| BitVec.ofInt 32 (b (4 * t + 3))
def fill (b : Nat → Int) : Nat → (Nat → W32)
  | 0 => fun _ => 0
  | k + 1 => upd (fill b k) k (word b k)
def s0 (x : W32) : W32 := rot x 7 ^^^ rot x 18 ^^^ (x >>> 3)
def s1 (x : W32) : W32 := rot x 17 ^^^ rot x 19 ^^^ (x >>> 10)
def grow (A : Nat → W32) : Nat → (Nat → W32)
  | 0 => A
  | k + 1 => upd (grow A k) (16 + k) (grow A k k + grow A k (k + 9) + s0 (grow A k (k + 1)) + s1 (grow A k (k + 14)))
/-- The 64 words of a block. -/
def sched (b : Nat → Int) : Nat → W32 := grow (fill b 16) 48
structure V8 where
  a : W32
  b : W32
  c : W32
  d : W32
  e : W32
  f : W32
  g : W32
  h : W32
def V8.list (v : V8) : List W32 := [v.a, v.b, v.c, v.d, v.e, v.f, v.g, v.h]
def V8.add (v u : V8) : V8 := ⟨v.a + u.a, v.b + u.b, v.c + u.c, v.d + u.d, v.e + u.e, v.f + u.f, v.g + u.g, v.h + u.h⟩
def cho (e f g : W32) : W32 := (e &&& f) ^^^ (~~~ e &&& g)
def maj (a b c : W32) : W32 := (a &&& b) ^^^ (a &&& c) ^^^ (b &&& c)
theorem cho_or (e f g : W32) : (e &&& f) ||| (~~~ e &&& g) = cho e f g := by
  unfold cho
  apply BitVec.eq_of_getLsbD_eq
  intro i hi
  simp only [BitVec.getLsbD_or, BitVec.getLsbD_and, BitVec.getLsbD_not, BitVec.getLsbD_xor, hi, decide_true, Bool.true_and]
  cases e.getLsbD i <;> cases f.getLsbD i <;> cases g.getLsbD i <;> rfl
theorem maj_or (a b c : W32) : (a &&& b) ||| (a &&& c) ||| (b &&& c) = maj a b c := by
  unfold maj
  apply BitVec.eq_of_getLsbD_eq
  intro i hi
  simp only [BitVec.getLsbD_or, BitVec.getLsbD_and, BitVec.getLsbD_xor]
  cases a.getLsbD i <;> cases b.getLsbD i <;> cases c.getLsbD i <;> rfl
def t1 (v : V8) (k w : W32) : W32 := v.h + (rot v.e 6 ^^^ rot v.e 11 ^^^ rot v.e 25) + cho v.e v.f v.g + k + w
def t2 (v : V8) : W32 := (rot v.a 2 ^^^ rot v.a 13 ^^^ rot v.a 22) + maj v.a v.b v.c
def rnd (v : V8) (k w : W32) : V8 := ⟨t1 v k w + t2 v, v.a, v.b, v.c, v.d + t1 v k w, v.e, v.f, v.g⟩
def rounds (K A : Nat → W32) (v : V8) : Nat → V8
  | 0 => v
  | k + 1 => rnd (rounds K A v k) (K k) (A k)
def cubes : List W32 := [1116352408, 1899447441, 3049323471, 3921009573, 961987163, 1508970993, 2453635748, 2870763221, 3624381080, 310598401, 607225278, 1426881987, 1925078388, 2162078206, 2614888103, 3248222580, 3835390401, 4022224774, 264347078, 604807628, 770255983, 1249150122, 1555081692, 1996064986, 2554220882, 2821834349, 2952996808, 3210313671, 3336571891, 3584528711, 113926993, 338241895, 666307205, 773529912, 1294757372, 1396182291, 1695183700, 1986661051, 2177026350, 2456956037, 2730485921, 2820302411, 3259730800, 3345764771, 3516065817, 3600352804, 4094571909, 275423344, 430227734, 506948616, 659060556, 883997877, 958139571, 1322822218, 1537002063, 1747873779, 1955562222, 2024104815, 2227730452, 2361852424, 2428436474, 2756734187, 3204031479, 3329325298]
def K (i : Nat) : W32 := cubes.getD i 0
def iv : V8 := ⟨1779033703, 3144134277, 1013904242, 2773480762, 1359893119, 2600822924, 528734635, 1541459225⟩
/-- The state behind a block. -/
def mixV (v : V8) (b : Nat → Int) : V8 := v.add (rounds K (sched b) v 64)
/-- The state behind all whole blocks of some bytes. -/
def absorb (v : V8) (l : List Int) : V8 := if l.length < 64 then v else absorb (mixV v (fun i => l.getD i 0)) (l.drop 64)
termination_by l.length
decreasing_by simp; omega
theorem word_congr {b c : Nat → Int} (h : ∀ i, i < 64 → b i = c i) {t : Nat} (ht : t < 16) : word b t = word c t := by
  unfold word
  rw [h _ (by omega), h _ (by omega), h _ (by omega), h _ (by omega)]
theorem fill_congr {b c : Nat → Int} (h : ∀ i, i < 64 → b i = c i) : ∀ {k : Nat}, k ≤ 16 → fill b k = fill c k
  | 0, _ => rfl
  | k + 1, hk => by rw [fill, fill, fill_congr h (by omega), word_congr h (by omega)]
theorem mixV_congr {b c : Nat → Int} (v : V8) (h : ∀ i, i < 64 → b i = c i) : mixV v b = mixV v c := by
  unfold mixV sched
  rw [fill_congr h (Nat.le_refl _)]
theorem absorb_short (v : V8) {l : List Int} (h : l.length < 64) : absorb v l = v := by rw [absorb, if_pos h]
theorem absorb_step (v : V8) {l : List Int} (h : 64 ≤ l.length) : absorb v l = absorb (mixV v (fun i => l.getD i 0)) (l.drop 64) := by rw [absorb, if_neg (by omega)]
theorem absorb_append : ∀ (q : Nat) (v : V8) (l m : List Int), l.length = 64 * q → absorb v (l ++ m) = absorb (absorb v l) m
  | 0, v, l, m, h => by
    have : l = [] := List.eq_nil_of_length_eq_zero (by omega)
    subst this
    rw [absorb_short v (l := []) (by simp)]
    simp
  | q + 1, v, l, m, h => by
    rw [absorb_step v (l := l) (by omega), absorb_step v (l := l ++ m) (by simp; omega), List.drop_append_of_le_length (by omega)]
    have e : mixV v (fun i => (l ++ m).getD i 0) = mixV v (fun i => l.getD i 0) := mixV_congr v fun i hi => by
      simp only [List.getD_eq_getElem?_getD]
      rw [List.getElem?_append_left (by omega)]
    rw [e]
    exact absorb_append q _ _ _ (by simp; omega)
/-- One block more behind whole blocks. -/
theorem absorb_block (v : V8) (q : Nat) (l m : List Int) (h : l.length = 64 * q) (hm : m.length = 64) : absorb v (l ++ m) = mixV (absorb v l) (fun i => m.getD i 0) := by
  rw [absorb_append q v l m h, absorb_step _ (by omega), absorb_short _ (by simp; omega)]
theorem absorb_tail (v : V8) (q : Nat) (l m : List Int) (h : l.length = 64 * q) (hm : m.length < 64) : absorb v (l ++ m) = absorb v l := by
  rw [absorb_append q v l m h, absorb_short _ hm]
/-- The bytes behind the last whole block. -/
def tail64 (l : List Int) : List Int := l.drop (64 * (l.length / 64))
theorem absorb_whole (v : V8) (l : List Int) : absorb v l = absorb v (l.take (64 * (l.length / 64))) := by
  conv => lhs; rw [← List.take_append_drop (64 * (l.length / 64)) l]
  exact absorb_tail v (l.length / 64) _ _ (by rw [List.length_take]; omega) (by rw [List.length_drop]; omega)
/-- The padding. -/
def be8 (n : Nat) : List Int := (List.range 8).map fun i => ((n * 8 / 2 ^ (56 - 8 * i) % 256 : Nat) : Int)
def pad (l : List Int) : List Int := l ++ [128] ++ List.replicate ((55 + 64 - l.length % 64) % 64) 0 ++ be8 l.length
theorem be8_length (n : Nat) : (be8 n).length = 8 := by simp [be8]
theorem pad_length (l : List Int) : (pad l).length % 64 = 0 := by
  simp only [pad, List.length_append, List.length_cons, List.length_nil, List.length_replicate, be8_length]
  omega
/-- A hash's bytes. -/
def out (v : V8) : List Int := v.list.flatMap fun (x : W32) => [lo8 (x >>> 24), lo8 (x >>> 16), lo8 (x >>> 8), lo8 x]
/-- The SHA-256 of bytes. -/
def hash (l : List Int) : List Int := out (absorb iv (pad l))
theorem out_length (v : V8) : (out v).length = 32 := rfl
end Go.Proofs.YthpnebmolaaapaaDoor.sha
