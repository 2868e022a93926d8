/- The program's Hasher: Sum. No condition. -/
import Derived.Test.YthpnebmolaaapaaDoorSha7
namespace Go.Proofs.YthpnebmolaaapaaDoor.sha
open Go.RowKit eqv chunks
def z32 : List Int := List.replicate 32 0
theorem z64_length : z64.length = 64 := rfl
theorem u8s_one (l : List Int) : ∀ v ∈ u8s l, v.oneCell' = true := fun v hv => by
  unfold u8s at hv
  obtain ⟨z, _, rfl⟩ := List.mem_map.1 hv
  rfl
theorem hv_length (v : V8) (r : List Int) (n : Int) (h : r.length = 64) : (hv v r n).length = 73 := by
  simp [hv, vals, u8s_length, h]
theorem hv_one (v : V8) (r : List Int) (n : Int) : ∀ x ∈ hv v r n, x.oneCell' = true := by
  intro x hx
  unfold hv at hx
  rcases List.mem_append.1 hx with h | h
  · exact vals_one v x h
  · rcases List.mem_append.1 h with h | h
    · exact u8s_one r x h
    · simp at h; subst h; rfl
theorem zero43 (w : World) : (zeroValue 43).run Tryd.prog w = .ok (.agg (u8s z32).toArray) w := by kernel_rfl
theorem zeroS (w : World) : (zeroValue 56).run Tryd.prog w = .ok (.agg (hv ⟨0, 0, 0, 0, 0, 0, 0, 0⟩ z64 0).toArray) w := by kernel_rfl
theorem toLdS (a : Addr) : loadVar 56 a = bigLoad 56 a := rfl
theorem ldS {w : World} {a : Addr} (h : okAt w a 73) : Sem.run Tryd.prog (bigLoad 56 a) w = .ok (.agg (cellsAt w a 73).toArray) w := run_bigLoad (by kernel_rfl) ⟨_, Tryd.underlying56, rfl⟩ h
theorem toStS (a : Addr) (v : Value) : storeVar 56 a v = bigStore 56 a v := rfl
theorem stNewS {w : World} {g : Nat} {v v' : V8} {r r' : List Int} {n n' : Int} (hg : w.heap.size = g) (hr : r.length = 64) (hr' : r'.length = 64) : Sem.run Tryd.prog (bigStore 56 ⟨g, 0, none⟩ (.agg (hv v r n).toArray)) (w.alloc (.cells (hv v' r' n').toArray 56)) = .ok () (w.alloc (.cells (hv v r n).toArray 56)) :=
  run_stNew (by kernel_rfl) hg (hv_length _ _ _ hr') (hv_length _ _ _ hr) (hv_one _ _ _)
def bls8 (n : Nat) (parts : Array (Nat × Value)) : Sem Value := Instr.buildSlice 45 n parts
theorem toBls8 (n : Nat) (parts : Array (Nat × Value)) : Instr.buildSlice 45 n parts = bls8 n parts := rfl
theorem run_bls8 (z : Int) (w : World) : (bls8 1 #[(0, .int .u8 z)]).run Tryd.prog w = .ok (.slice (some ⟨w.heap.size, 0, none⟩) 1 1) (w.alloc (.cells (u8s [z]).toArray 5)) := by kernel_rfl
theorem bs_new (w : World) (l : List Int) (t : TypeId) : Bs (w.alloc (.cells (u8s l).toArray t)) (some ⟨w.heap.size, 0, none⟩) l := fun _ => ⟨_, rfl, fun i z hz => by
  rw [add_zero_lit, (Blk.new w t (u8s l)).cell]
  unfold u8s
  rw [List.getElem?_map, hz]
  rfl⟩
/-- The world while a sum is made. -/
structure St (w : World) (L : List Int) (wr : World) : Prop where
  has : HasH wr (w.heap.size + 1 + 1) L
  b0 : Blk wr w.heap.size 43 (u8s z32)
  b1 : Blk wr (w.heap.size + 1) 43 (u8s z32)
  bel : Below w.heap.size w wr
theorem HasH.keep {w w' : World} {g : Nat} {l : List Int} (h : HasH w g l) (hk : w'.heap[g]? = w.heap[g]?) : HasH w' g l := by
  obtain ⟨r, h1, h2, h3⟩ := h
  exact ⟨r, h1, hk.trans h2, h3⟩
theorem HasH.lt {w : World} {g : Nat} {l : List Int} (h : HasH w g l) : g < w.heap.size := by
  obtain ⟨r, _, h2, _⟩ := h
  exact h2.lt
theorem St.size {w wr : World} {L : List Int} (h : St w L wr) : w.heap.size + 1 + 1 < wr.heap.size := h.has.lt
theorem St.alloc {w wr : World} {L : List Int} (h : St w L wr) (o : Obj) : St w L (wr.alloc o) :=
  ⟨h.has.keep (Below.heap_alloc _ _ _ h.has.lt), h.b0.alloc _, h.b1.alloc _, h.bel.alloc h.bel.size _⟩
theorem St.below2 {w wr W V : World} {L : List Int} {T : Nat} (h : St w L wr) (hb : Below T wr W) (hv : Below T W V) (hT : w.heap.size + 1 + 1 < T) : St w L V := by
  have k := hb.trans hv
  exact ⟨h.has.keep (k.block _ (by omega)), h.b0.below k (by omega), h.b1.below k (by omega), h.bel.trans (k.mono (by omega))⟩
theorem toLd43 (a : Addr) : loadVar 43 a = bigLoad 43 a := rfl
theorem ld43 {w : World} {a : Addr} (h : okAt w a 32) : Sem.run Tryd.prog (bigLoad 43 a) w = .ok (.agg (cellsAt w a 32).toArray) w := run_bigLoad (by kernel_rfl) ⟨_, Tryd.underlying43, rfl⟩ h
theorem toSt43 (a : Addr) (v : Value) : storeVar 43 a v = bigStore 43 a v := rfl
theorem st43 {w : World} {g o : Nat} {cs : List Value} (hl : cs.length = 32) (h : mayPut w g o cs) : Sem.run Tryd.prog (bigStore 43 ⟨g, o, none⟩ (.agg cs.toArray)) w = .ok () (putAt w g o cs) := run_bigStore (by kernel_rfl) hl h
theorem St.wrote {w wr w' : World} {L m : List Int} (h : St w L wr) (hH : HasH w' (w.heap.size + 1 + 1) (L ++ m)) (hg : wr.grownBy w' (some (w.heap.size + 1 + 1))) : St w (L ++ m) w' :=
  ⟨hH, blk_grown h.b0 hg (by simp only [ne_eq, Option.some.injEq]; omega), blk_grown h.b1 hg (by simp only [ne_eq, Option.some.injEq]; omega), h.bel.grown hg h.bel.size (fun k e => by cases e; omega)⟩
theorem writeSt {w wr : World} {L m : List Int} (h : St w L wr) (A : Addr) (hb : Bs wr (some A) m) (hlt : A.block < wr.heap.size ∧ A.block ≠ w.heap.size + 1 + 1) (c : Nat) (hc : m.length ≤ c) (hN : L.length + m.length ≤ 1000000000) (hK : Tab w 3) :
    Calls Tryd.prog 12 #[.pointer (some ⟨w.heap.size + 1 + 1, 0, none⟩), .slice (some A) m.length c] wr fun e w' => e = .returned (.tuple #[]) ∧ St w (L ++ m) w' :=
  (write (w.heap.size + 1 + 1) L m (some A) c wr h.has hb (fun x e => by cases e; exact hlt) hc hN (hK.below h.bel hK.1) (by have := hK.1; omega)).mono fun _ _ q => ⟨q.1, h.wrote q.2.1 q.2.2⟩
theorem writeOne {w wr : World} {L : List Int} (h : St w L wr) (z : Int) (hN : L.length ≤ 999999999) (hK : Tab w 3) :
    Calls Tryd.prog 12 #[.pointer (some ⟨w.heap.size + 1 + 1, 0, none⟩), .slice (some ⟨wr.heap.size, 0, none⟩) 1 1] (wr.alloc (.cells (u8s [z]).toArray 5)) fun e w' => e = .returned (.tuple #[]) ∧ St w (L ++ [z]) w' :=
  writeSt (m := [z]) (h.alloc _) ⟨wr.heap.size, 0, none⟩ (bs_new wr [z] _) ⟨by simp only [hsz]; omega, by have := h.size; simp only [ne_eq]; omega⟩ 1 (Nat.le_refl _) (by simp; omega) hK
theorem St.n {w wr : World} {L : List Int} (h : St w L wr) : wr.cell? ⟨w.heap.size + 1 + 1, 72, none⟩ = some (.int .i64 (L.length : Int)) := by
  obtain ⟨r, h1, h2, _⟩ := h.has
  exact has_n h2 h1
/-- The zeros behind the one. -/
def zs (l : List Int) : Nat := (55 + 64 - l.length % 64) % 64
def padK (l : List Int) (j : Nat) : List Int := l ++ [128] ++ List.replicate j 0
theorem padK_length (l : List Int) (j : Nat) : (padK l j).length = l.length + 1 + j := by simp [padK]; omega
theorem padK_zero (l : List Int) : padK l 0 = l ++ [128] := by simp [padK]
theorem padK_next (l : List Int) (j : Nat) : padK l j ++ [0] = padK l (j + 1) := by
  unfold padK
  rw [List.append_assoc, List.replicate_succ']
/-- The length's bytes as far as k. -/
def tb (n k : Nat) : List Int := (be8 n).take k ++ List.replicate (8 - k) 0
theorem tb_length (n k : Nat) (hk : k ≤ 8) : (tb n k).length = 8 := by
  simp [tb, be8_length]
  omega
theorem be8_at (n k : Nat) (hk : k < 8) : (be8 n)[k]? = some ((n * 8 / 2 ^ (56 - 8 * k) % 256 : Nat) : Int) := by
  simp [be8, List.getElem?_range hk]
theorem tb_set (n k : Nat) (hk : k < 8) : (u8s (tb n k)).set k (.int .u8 ((n * 8 / 2 ^ (56 - 8 * k) % 256 : Nat) : Int)) = u8s (tb n (k + 1)) := by
  have hl : ((be8 n).take k).length = k := by rw [List.length_take, be8_length]; omega
  have h2 : (be8 n).take (k + 1) = (be8 n).take k ++ [((n * 8 / 2 ^ (56 - 8 * k) % 256 : Nat) : Int)] := by
    rw [List.take_add_one, be8_at n k hk]
    rfl
  have h3 : List.replicate (8 - k) (0 : Int) = 0 :: List.replicate (8 - (k + 1)) 0 := by
    rw [show 8 - k = (8 - (k + 1)) + 1 by omega, List.replicate_succ]
  unfold tb
  rw [h2, h3]
  generalize ha : (be8 n).take k = a at hl
  subst hl
  simp [u8s]
def sl8a (x : Value) (lo hi mx : Option Value) : Sem Value := Instr.sliceAt 57 x lo hi mx
theorem toSl8a (x : Value) (lo hi mx : Option Value) : Instr.sliceAt 57 x lo hi mx = sl8a x lo hi mx := rfl
theorem arr8a : Tryd.prog.underlying 57 = some (.array (Tryd.prog.arrayLen 57) (Tryd.prog.elem 57)) := by kernel_rfl
theorem len8a : Tryd.prog.arrayLen 57 = 8 := by kernel_rfl
theorem size8a (w : World) : (sizeOf (Tryd.prog.elem 57)).run Tryd.prog w = .ok 1 w := by kernel_rfl
theorem sl8a_all {g o : Nat} (w : World) : (sl8a (.pointer (some ⟨g, o, none⟩)) none none none).run Tryd.prog w = .ok (.slice (some ⟨g, o, none⟩) 8 8) w := by
  unfold sl8a
  rw [run_sliceAt_array_all (ht := arr8a), size8a, len8a]
  simp [Result.andThen, slicedAt, Addr.add]
theorem bs_of {w : World} {g t : Nat} {l : List Int} (h : Blk w g t (u8s l)) : Bs w (some ⟨g, 0, none⟩) l := fun _ => ⟨_, rfl, fun i z hz => by
  rw [add_zero_lit, h.cell]
  unfold u8s
  rw [List.getElem?_map, hz]
  rfl⟩
theorem tb_all (n : Nat) : tb n 8 = be8 n := by simp [tb, be8_length, List.take_of_length_le]
theorem pad_eq (l : List Int) : padK l (zs l) ++ be8 l.length = pad l := rfl
def ix8 (x i : Value) : Sem Value := Instr.index 52 x i
theorem toIx8 (x i : Value) : Instr.index 52 x i = ix8 x i := rfl
theorem run_ix8 (v : V8) (k : Int) (w : World) (h0 : 0 ≤ k) (h1 : k < 8) : (ix8 (.agg (vals v).toArray) (.int .i64 k)).run Tryd.prog w = .ok (U (vget v k.toNat)) w := by
  have h : k = 0 ∨ k = 1 ∨ k = 2 ∨ k = 3 ∨ k = 4 ∨ k = 5 ∨ k = 6 ∨ k = 7 := by omega
  clear h0 h1
  rcases h with rfl | rfl | rfl | rfl | rfl | rfl | rfl | rfl <;> (show _ = _; kernel_rfl)
/-- A hash's bytes as far as number k. -/
def ob (v : V8) (k : Nat) : List Int := (out v).take (4 * k) ++ List.replicate (32 - 4 * k) 0
theorem ob_length (v : V8) (k : Nat) (hk : k ≤ 8) : (ob v k).length = 32 := by
  simp [ob, out_length]
  omega
theorem ob_set (v : V8) (k : Nat) (hk : k < 8) : ((((u8s (ob v k)).set (4 * k) (.int .u8 (lo8 (vget v k >>> 24)))).set (4 * k + 1) (.int .u8 (lo8 (vget v k >>> 16)))).set (4 * k + 2) (.int .u8 (lo8 (vget v k >>> 8)))).set (4 * k + 3) (.int .u8 (lo8 (vget v k))) = u8s (ob v (k + 1)) := by
  have h : k = 0 ∨ k = 1 ∨ k = 2 ∨ k = 3 ∨ k = 4 ∨ k = 5 ∨ k = 6 ∨ k = 7 := by omega
  rcases h with rfl | rfl | rfl | rfl | rfl | rfl | rfl | rfl <;> rfl
theorem ob_none (v : V8) : ob v 0 = z32 := rfl
theorem ob_all (v : V8) : ob v 8 = out v := rfl
theorem three {w W : World} {xs ys zs : List Value} {t u v : TypeId} (h : ((w.alloc (.cells xs.toArray t)).alloc (.cells ys.toArray u)).alloc (.cells zs.toArray v) = W) :
    Blk W w.heap.size t xs ∧ Blk W (w.heap.size + 1) u ys ∧ Blk W (w.heap.size + 1 + 1) v zs ∧ Below w.heap.size w W ∧ W.heap.size = w.heap.size + 1 + 1 + 1 := by
  subst h
  have b1 := Blk.new w t xs
  have b2 := Blk.new (w.alloc (.cells xs.toArray t)) u ys
  have b3 := Blk.new ((w.alloc (.cells xs.toArray t)).alloc (.cells ys.toArray u)) v zs
  simp only [hsz] at b2 b3
  exact ⟨(b1.alloc _).alloc _, b2.alloc _, b3, (((Below.refl _ _).alloc (Nat.le_refl _) _).alloc (by simp) _).alloc (by simp only [hsz]; omega) _, by simp only [hsz]⟩
end Go.Proofs.YthpnebmolaaapaaDoor.sha
