import Derived.Test.YthpnebmolaaapaaU1
import Derived.Laws.MakeOwn
import Derived.OwnWalk
namespace Go.Proofs.Ythpnebmolaaapaa.upd
open Go.RowKit eqv chunks
attribute [local go_sem ↓] to34 toOp34
attribute [local go_sem] ld34 neq34 guard34 cellsAt_drewN okAt_drewN
theorem toSt34 (a : Addr) (v : Value) : storeVar 34 a v = bigStore 34 a v := rfl
theorem st34 {w : World} {g o : Nat} {cs : List Value} (hl : cs.length = 32) (h : mayPut w g o cs) : Sem.run Try.prog (bigStore 34 ⟨g, o, none⟩ (.agg cs.toArray)) w = .ok () (putAt w g o cs) := run_bigStore (by kernel_rfl) hl h
attribute [local go_sem ↓] toSt34
theorem addSub (a b : Int) : a + b - a = b := by omega
attribute [local go_sem] st34 addSub
def marks : List (List Value) := (List.range 9).map fun (i : Nat) => .int .u8 160 :: .int .u8 (i : Int) :: List.replicate 30 (.int .u8 0)
theorem marks_length : marks.length = 9 := rfl
theorem marks_len : ∀ x ∈ marks, x.length = 32 := by
  intro x hx
  unfold marks at hx
  obtain ⟨i, _, rfl⟩ := List.mem_map.1 hx
  rfl
theorem marks_one : ∀ x ∈ marks, ∀ v ∈ x, v.oneCell' = true := by
  intro x hx v hv
  unfold marks at hx
  obtain ⟨i, _, rfl⟩ := List.mem_map.1 hx
  simp only [List.mem_cons, List.mem_replicate] at hv
  rcases hv with rfl | rfl | ⟨_, rfl⟩ <;> rfl
theorem leaf5 (n : Int) : leafOk Try.prog 5 (.int .u8 n) = true := by simp [leafOk, Try.underlying5]
theorem marks_leafs : ∀ x ∈ marks, leafsOk Try.prog tsH x = true := by
  intro x hx
  unfold marks at hx
  obtain ⟨i, _, rfl⟩ := List.mem_map.1 hx
  simp [leafsOk, tsH, List.replicate_succ, leaf5]
theorem ch_marks {j : Nat} (hj : j < 9) : ch marks j = .int .u8 160 :: .int .u8 (j : Int) :: List.replicate 30 (.int .u8 0) := by
  unfold ch marks
  rw [List.getD_eq_getElem?_getD, List.getElem?_map, List.getElem?_range hj]
  rfl
theorem made (n : Nat) : madeCells (Array.replicate 32 (.int .u8 0)) (n * 32) = (List.replicate (n * 32) (Value.int .u8 0)).toArray := by
  unfold madeCells
  apply Array.ext
  · simp
  · intro i h1 h2
    rw [Array.getElem_map]
    have h : ∀ x : Nat, (Array.replicate 32 (Value.int .u8 0))[x % (Array.replicate 32 (Value.int .u8 0)).size]! = Value.int .u8 0 := fun x => by
      have hlt : x % (Array.replicate 32 (Value.int .u8 0)).size < (Array.replicate 32 (Value.int .u8 0)).size := Nat.mod_lt _ (by simp)
      rw [getElem!_pos (Array.replicate 32 (Value.int .u8 0)) _ hlt, Array.getElem_replicate]
    rw [h]
    simp
theorem info34 : (Try.prog.info? 34).map (fun i => (i.zero, i.size, i.bytes)) = some (some (.agg (Array.replicate 32 (.int .u8 0))), 32, 32) := by kernel_rfl
theorem handHashes (A : Option Addr) (X : List (List Value)) (c : Nat) (w : World) (hA : Sl w A 32 X) (h1 : ∀ x ∈ X, ∀ v ∈ x, v.oneCell' = true) (hm : X.length ≤ 1048576) (hlt : ∀ ad, A = some ad → ad.block < w.heap.size) :
    Calls Try.prog 11 #[.slice A X.length c] w fun e w' => e = .returned (.slice (some ⟨w.heap.size, 0, none⟩) X.length (X.length + 9)) ∧
      Blk w' w.heap.size 34 (X ++ marks).flatten ∧ Below w.heap.size w w' ∧ w'.heap.size = w.heap.size + 1 := by
  have hlen : (X ++ marks).length = X.length + 9 := by simp [marks_length]
  have hL : ∀ x ∈ X ++ marks, x.length = 32 := fun x hx => (List.mem_append.1 hx).elim (hA.1 x) (marks_len x)
  have hO : ∀ x ∈ X ++ marks, ∀ v ∈ x, v.oneCell' = true := fun x hx => (List.mem_append.1 hx).elim (h1 x) (marks_one x)
  have hmk : ∀ W : World, (Instr.makeSlice 27 (.int .i64 ((X.length : Int) + 9)) (.int .i64 ((X.length : Int) + 9))).run Try.prog W =
      .ok (.slice (some ⟨W.heap.size, 0, none⟩) (X.length + 9) (X.length + 9)) (W.alloc (.cells (filled (X ++ marks) 32 (.int .u8 0) 0).toArray 34)) := fun W => by
    obtain ⟨i, hi, hz, hs, hby⟩ := info_parts info34
    have h := run_make (P := Try.prog) W 27 34 i _ Try.underlying27 hi hz .i64 .i64 ((X.length : Int) + 9) ((X.length : Int) + 9) (by omega) (Int.le_refl _) (by rw [hby]; omega) (by omega)
    have e : ((X.length : Int) + 9).toNat = X.length + 9 := by omega
    rw [e, hs] at h
    rw [h, filled_none, hlen]
    simp only [Value.cells, made]
  have HL := Lib.hid hL
  have HO := Lib.hid hO
  have HN := Lib.hid hlen
  clear hL hO hlen
  go_enter Try.func11, Try.ntmps11
  go_wp2
  go_loopw [4] (fun i wr => ∃ k : Nat, k ≤ X.length ∧ i = .int .i64 k ∧ Blk wr w.heap.size 34 (filled (X ++ marks) 32 (.int .u8 0) k) ∧ Below w.heap.size w wr ∧ wr.heap.size = w.heap.size + 1) (fun i _ => X.length - (intOf i).toNat)
  case atStart => exact ⟨0, Nat.zero_le _, rfl, heap_alloc_new _ _, (Below.refl _ _).alloc (Nat.le_refl _) _, by simp⟩
  case round =>
    clear hmk
    obtain ⟨k, hk, rfl, hb, hbel, hsz⟩ := hrel
    have HB := Lib.hid hb
    have HS := Lib.hid hsz
    clear hb hsz
    by_cases hk1 : k < X.length
    · obtain ⟨ad, rfl, hx⟩ := (hA.below hbel hlt).at_ hk1
      obtain ⟨x1, x2⟩ := hx k hk1
      have hk2 : k < (X ++ marks).length := by rw [HN.out]; omega
      have hp := mayFill HB.out HL.out HO.out hk2
      have hl : (ch X k).length = 32 := ch_length hA.1 hk1
      have hnext := fillNext HB.out HL.out hk2
      rw [ch_append_left hk1] at hp hnext
      have HX := Lib.hid hnext
      clear hx hA h1 hlt hk2 hnext
      go_wp2
      go_roundw
      case rel => exact ⟨k + 1, by omega, by go_num, HX.out.1, hbel.trans (HX.out.2.2 _ (Nat.le_refl _)), HX.out.2.1.trans HS.out⟩
      case measure => simp [intOf]; omega
    · have hk3 : k = X.length := by omega
      subst hk3
      clear hA h1 hlt
      go_wp2
      go_loopw [5] (fun i wr => ∃ j : Nat, j ≤ 9 ∧ i = .int .i64 ((X.length : Int) + (j : Int)) ∧ Blk wr w.heap.size 34 (filled (X ++ marks) 32 (.int .u8 0) (X.length + j)) ∧ Below w.heap.size w wr ∧ wr.heap.size = w.heap.size + 1) (fun i _ => X.length + 9 - (intOf i).toNat)
      case atStart => exact ⟨0, by omega, by go_num, HB.out, hbel, HS.out⟩
      case round =>
        obtain ⟨j, hj, rfl, hb2, hbel2, hsz2⟩ := hrel
        have HB2 := Lib.hid hb2
        have HS2 := Lib.hid hsz2
        clear hb2 hsz2
        by_cases hj1 : j < 9
        · have hk2 : X.length + j < (X ++ marks).length := by rw [HN.out]; omega
          have hp := mayFill HB2.out HL.out HO.out hk2
          have hnext := fillNext HB2.out HL.out hk2
          rw [ch_append_right, ch_marks hj1] at hp hnext
          simp only [List.replicate_succ, List.replicate_zero] at hp hnext
          have HX := Lib.hid hnext
          clear hk2 hnext
          go_wp2
          go_roundw
          case rel => exact ⟨j + 1, by omega, by go_num, HX.out.1, hbel2.trans (HX.out.2.2 _ (Nat.le_refl _)), HX.out.2.1.trans HS2.out⟩
          case measure => simp [intOf]; omega
        · go_wp2
          go_ret
          have hj9 : j = 9 := by omega
          subst hj9
          have hall := HB2.out
          rw [← HN.out, filled_all] at hall
          exact ⟨rfl, hall, hbel2, HS2.out⟩
end Go.Proofs.Ythpnebmolaaapaa.upd
