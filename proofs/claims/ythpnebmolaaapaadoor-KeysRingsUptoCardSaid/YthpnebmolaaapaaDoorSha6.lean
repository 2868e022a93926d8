/- The program's Hasher: Write. No condition. -/
import Derived.Test.YthpnebmolaaapaaDoorSha5
import Derived.Test.YthpnebmolaaapaaDoorShq
import Derived.Test.YthpnebmolaaapaaDoorByt
namespace Go.Proofs.YthpnebmolaaapaaDoor.sha
open Go.RowKit eqv chunks
def u8s (l : List Int) : List Value := l.map (Value.int .u8)
/-- The bytes l have been written. -/
def HasH (w : World) (g : Nat) (l : List Int) : Prop := ∃ rest : List Int, rest.length = 64 ∧ Blk w g 56 (vals (absorb iv l) ++ (u8s rest ++ [.int .i64 (l.length : Int)])) ∧ rest.take (l.length % 64) = tail64 l
theorem Tab.grown {w w' : World} {g r : Nat} (h : Tab w g) (hb : w.grownBy w' (some r)) (hne : g ≠ r) : Tab w' g :=
  ⟨Nat.lt_of_lt_of_le h.1 hb.size, fun i hi => (World.cell?_of_block (hb.block g h.1 (by simpa using hne))).trans (h.2 i hi)⟩
theorem u8s_length (l : List Int) : (u8s l).length = l.length := by simp [u8s]
theorem has_n {w : World} {g : Nat} {v : V8} {rest : List Int} {n : Int} (h : Blk w g 56 (vals v ++ (u8s rest ++ [.int .i64 n]))) (hl : rest.length = 64) : w.cell? ⟨g, 72, none⟩ = some (.int .i64 n) := by
  rw [h.cell, List.getElem?_append_right (by simp [vals]), List.getElem?_append_right (by simp [vals, u8s_length, hl])]
  simp [vals, u8s_length, hl]
theorem has_rest {w : World} {g : Nat} {v : V8} {rest : List Int} {n : Int} (h : Blk w g 56 (vals v ++ (u8s rest ++ [.int .i64 n]))) (hl : rest.length = 64) : Bytes w ⟨g, 8, none⟩ (fun i => rest.getD i 0) := by
  intro i hi
  have e : (⟨g, 8, none⟩ : Addr).add i = ⟨g, 8 + i, none⟩ := by
    unfold Addr.add
    split <;> simp_all
  rw [e, h.cell, List.getElem?_append_right (by simp [vals]), List.getElem?_append_left (by simp [vals, u8s_length, hl]; omega)]
  simp [vals, u8s, hl, hi]
theorem has_set {w : World} {g : Nat} {v : V8} {rest : List Int} {n n' : Int} (h : Blk w g 56 (vals v ++ (u8s rest ++ [.int .i64 n]))) (hl : rest.length = 64) : Blk (w.setCell ⟨g, 72, none⟩ (.int .i64 n')) g 56 (vals v ++ (u8s rest ++ [.int .i64 n'])) := by
  have h2 := h.setCell (o := 72) (v := .int .i64 n')
  have e : (vals v ++ (u8s rest ++ [Value.int .i64 n])).set 72 (.int .i64 n') = vals v ++ (u8s rest ++ [.int .i64 n']) := by
    rw [List.set_append_right _ _ (by simp [vals]), List.set_append_right _ _ (by simp [vals, u8s_length, hl])]
    simp [vals, u8s_length, hl]
  rw [e] at h2
  exact h2
theorem has_splice (v : V8) (rest t : List Int) (n : Int) (a : Nat) (hl : rest.length = 64) (ha : a + t.length ≤ 64) :
    splice (vals v ++ (u8s rest ++ [Value.int .i64 n])) (8 + a) (u8s t) = vals v ++ (u8s (rest.take a ++ t ++ rest.drop (a + t.length)) ++ [.int .i64 n]) := by
  have h8 : (vals v).length = 8 := rfl
  have hu : (u8s rest).length = 64 := by rw [u8s_length, hl]
  unfold splice
  have hd : (vals v).drop (8 + a + (u8s t).length) = [] := List.drop_eq_nil_of_le (by rw [h8, u8s_length]; omega)
  rw [List.take_append, List.take_append, List.drop_append, List.drop_append, List.take_of_length_le (by rw [h8]; omega), hd]
  rw [h8, hu, u8s_length, show 8 + a - 8 = a by omega, show 8 + a + t.length - 8 = a + t.length by omega, show a - 64 = 0 by omega, show a + t.length - 64 = 0 by omega]
  simp only [u8s, List.map_append, List.map_take, List.map_drop, List.take_zero, List.append_nil, List.drop_zero, List.nil_append, List.append_assoc]
def sl64 (x : Value) (lo hi mx : Option Value) : Sem Value := Instr.sliceAt 54 x lo hi mx
theorem toSl64 (x : Value) (lo hi mx : Option Value) : Instr.sliceAt 54 x lo hi mx = sl64 x lo hi mx := rfl
theorem arr64 : Tryd.prog.underlying 54 = some (.array (Tryd.prog.arrayLen 54) (Tryd.prog.elem 54)) := by kernel_rfl
theorem len64 : Tryd.prog.arrayLen 54 = 64 := by kernel_rfl
theorem size64 (w : World) : (sizeOf (Tryd.prog.elem 54)).run Tryd.prog w = .ok 1 w := by kernel_rfl
theorem sl64_l {g o : Nat} {k : IntKind} {l : Int} (h0 : 0 ≤ l) (h1 : l < 64) (w : World) : (sl64 (.pointer (some ⟨g, o, none⟩)) (some (.int k l)) none none).run Tryd.prog w = .ok (.slice (some ⟨g, o + l.toNat, none⟩) (64 - l.toNat) (64 - l.toNat)) w := by
  have e : (⟨g, o, none⟩ : Addr).add (l.toNat * 1) = ⟨g, o + l.toNat, none⟩ := by
    unfold Addr.add
    split <;> simp_all
  unfold sl64
  rw [run_sliceAt_array_l (ht := arr64) (h0 := h0) (h1 := by rw [len64]; omega), size64, len64]
  simp only [Result.andThen, slicedAt, e]
  rw [if_neg (by omega)]
theorem sl64_all {g o : Nat} (w : World) : (sl64 (.pointer (some ⟨g, o, none⟩)) none none none).run Tryd.prog w = .ok (.slice (some ⟨g, o, none⟩) 64 64) w := by
  unfold sl64
  rw [run_sliceAt_array_all (ht := arr64), size64, len64]
  simp [Result.andThen, slicedAt, Addr.add]
theorem bytes_of {w : World} {ad : Addr} {r : List Int} (h : ∀ i z, r[i]? = some z → w.cell? (ad.add i) = some (.int .u8 z)) (hl : 64 ≤ r.length) : Bytes w ad (fun i => r.getD i 0) := by
  intro i hi
  rw [h i _ (List.getElem?_eq_getElem (by omega))]
  simp [List.getElem?_eq_getElem (show i < r.length by omega)]
theorem rel_step {w W wr : World} {g c' mn : Nat} {L r l m rest' : List Int} {ad : Addr} {v : V8} (hv : v = absorb iv (L ++ r.take mn)) (hm1 : mn ≤ r.length) (hL : L ++ r = l ++ m) (hb : Blk W g 56 (vals v ++ (u8s rest' ++ [.int .i64 ((L.length : Int) + (mn : Int))]))) (hrl : rest'.length = 64)
    (ht : rest'.take ((L ++ r.take mn).length % 64) = tail64 (L ++ r.take mn))
    (hr : Bs wr (some ad) r) (hA : ∀ x, some ad = some x → x.block < w.heap.size ∧ x.block ≠ g) (hc : r.length ≤ c') (hg0 : w.grownBy wr (some g)) (hg1 : wr.grownBy W (some g)) (hg2 : w.grownBy W (some g)) :
    ∃ (L1 r1 : List Int) (A1 : Option Addr) (c1 : Nat), L1 ++ r1 = l ++ m ∧ Value.slice (cutA (some ad) c' mn) (r.length - mn) (c' - mn) = .slice A1 r1.length c1 ∧ HasH W g L1 ∧ Bs W A1 r1 ∧ (∀ x, A1 = some x → x.block < w.heap.size ∧ x.block ≠ g) ∧ r1.length ≤ c1 ∧ w.grownBy W (some g) := by
  have hblk : ∀ x, cutA (some ad) c' mn = some x → x.block = ad.block := fun x hx => by
    obtain ⟨x', e, hb⟩ := cutA_block hx
    cases e
    exact hb
  have had := hA ad rfl
  refine ⟨L ++ r.take mn, r.drop mn, cutA (some ad) c' mn, c' - mn, by rw [List.append_assoc, List.take_append_drop]; exact hL, by rw [List.length_drop], ⟨rest', hrl, ?_, ht⟩, ?_, ?_, by rw [List.length_drop]; omega, hg2⟩
  · rw [← hv]
    have e : ((L ++ r.take mn).length : Int) = (L.length : Int) + (mn : Int) := by rw [List.length_append, List.length_take]; omega
    rw [e]
    exact hb
  · refine (hr.cut (k := mn) hc).grown hg1 fun x hx => ?_
    rw [hblk x hx]
    exact ⟨Nat.lt_of_lt_of_le had.1 hg0.size, by simpa using had.2⟩
  · intro x hx
    rw [hblk x hx]
    exact had
theorem rel_part {w W wr : World} {g c' mn a : Nat} {L r l m rest : List Int} {ad : Addr} (hfin : ¬ a + mn = 64) (ha : a < 64) (hm1 : mn ≤ r.length) (hm2 : mn ≤ 64 - a) (haa : L.length % 64 = a) (hL : L ++ r = l ++ m) (htk : rest.take a = tail64 L) (hrl : rest.length = 64)
    (hb : Blk W g 56 (vals (absorb iv L) ++ (u8s (rest.take a ++ r.take mn ++ rest.drop (a + mn)) ++ [.int .i64 ((L.length : Int) + (mn : Int))]))) (hrl2 : (rest.take a ++ r.take mn ++ rest.drop (a + mn)).length = 64)
    (hr : Bs wr (some ad) r) (hA : ∀ x, some ad = some x → x.block < w.heap.size ∧ x.block ≠ g) (hc : r.length ≤ c') (hg0 : w.grownBy wr (some g)) (hg1 : wr.grownBy W (some g)) (hg2 : w.grownBy W (some g)) :
    ∃ (L1 r1 : List Int) (A1 : Option Addr) (c1 : Nat), L1 ++ r1 = l ++ m ∧ Value.slice (cutA (some ad) c' mn) (r.length - mn) (c' - mn) = .slice A1 r1.length c1 ∧ HasH W g L1 ∧ Bs W A1 r1 ∧ (∀ x, A1 = some x → x.block < w.heap.size ∧ x.block ≠ g) ∧ r1.length ≤ c1 ∧ w.grownBy W (some g) := by
  have htl : (r.take mn).length = mn := by rw [List.length_take]; omega
  obtain ⟨s1, s2⟩ := tail_step (l := L) (t := r.take mn) (by rw [haa, htl]; omega)
  refine rel_step s1.symm hm1 hL hb hrl2 ?_ hr hA hc hg0 hg1 hg2
  rw [s2, ← htk]
  have e : (L ++ r.take mn).length % 64 = a + mn := by rw [List.length_append, htl]; omega
  rw [e, List.take_append_of_le_length (by rw [List.length_append, List.length_take, hrl, htl]; omega), List.take_of_length_le (by rw [List.length_append, List.length_take, hrl, htl]; omega)]
theorem rel_full {w W wr : World} {g c' mn a : Nat} {L r l m rest : List Int} {ad : Addr} (hfin : a + mn = 64) (hm1 : mn ≤ r.length) (haa : L.length % 64 = a) (hL : L ++ r = l ++ m) (htk : rest.take a = tail64 L) (hrl : rest.length = 64)
    (hb : Blk W g 56 (vals (mixV (absorb iv L) (fun i => (rest.take a ++ r.take mn ++ rest.drop (a + mn)).getD i 0)) ++ (u8s (rest.take a ++ r.take mn ++ rest.drop (a + mn)) ++ [.int .i64 ((L.length : Int) + (mn : Int))]))) (hrl2 : (rest.take a ++ r.take mn ++ rest.drop (a + mn)).length = 64)
    (hr : Bs wr (some ad) r) (hA : ∀ x, some ad = some x → x.block < w.heap.size ∧ x.block ≠ g) (hc : r.length ≤ c') (hg0 : w.grownBy wr (some g)) (hg1 : wr.grownBy W (some g)) (hg2 : w.grownBy W (some g)) :
    ∃ (L1 r1 : List Int) (A1 : Option Addr) (c1 : Nat), L1 ++ r1 = l ++ m ∧ Value.slice (cutA (some ad) c' mn) (r.length - mn) (c' - mn) = .slice A1 r1.length c1 ∧ HasH W g L1 ∧ Bs W A1 r1 ∧ (∀ x, A1 = some x → x.block < w.heap.size ∧ x.block ≠ g) ∧ r1.length ≤ c1 ∧ w.grownBy W (some g) := by
  have htl : (r.take mn).length = mn := by rw [List.length_take]; omega
  obtain ⟨s1, s2⟩ := full_step (l := L) (t := r.take mn) (by rw [haa, htl]; omega)
  have hd : rest.drop (a + mn) = [] := List.drop_eq_nil_of_le (by omega)
  refine rel_step (v := mixV (absorb iv L) (fun i => (rest.take a ++ r.take mn ++ rest.drop (a + mn)).getD i 0)) ?_ hm1 hL hb hrl2 ?_ hr hA hc hg0 hg1 hg2
  · rw [s1, hd, List.append_nil, htk]
  · rw [s2]
    have e : (L ++ r.take mn).length % 64 = 0 := by rw [List.length_append, htl]; omega
    rw [e]
    rfl
attribute [local go_sem ↓] toSl8 toSl64
attribute [local go_sem] sl8_l sl8_h sl8_lh sl8_all sl64_l sl64_all
set_option maxRecDepth 100000 in
set_option maxHeartbeats 2000000 in
theorem write (g : Nat) (l m : List Int) (A : Option Addr) (c : Nat) (w : World) (hH : HasH w g l) (hb : Bs w A m) (hlt : ∀ ad, A = some ad → ad.block < w.heap.size ∧ ad.block ≠ g) (hc : m.length ≤ c) (hN : l.length + m.length ≤ 1000000000)
    (hK : Tab w 3) (hgK : 3 ≠ g) :
    Calls Tryd.prog 12 #[.pointer (some ⟨g, 0, none⟩), .slice A m.length c] w fun e w' => e = .returned (.tuple #[]) ∧ HasH w' g (l ++ m) ∧ w.grownBy w' (some g) := by
  have HB := Lib.hid (And.intro hH (And.intro hb (And.intro hlt (And.intro hc (And.intro hN (And.intro hK hgK))))))
  clear hH hb hlt hc hN hK hgK
  go_enter Tryd.func12, Tryd.ntmps12
  go_wp2
  go_loopw [1, 4, 5] (fun v _ _ wr => ∃ (L r : List Int) (A' : Option Addr) (c' : Nat), L ++ r = l ++ m ∧ v = .slice A' r.length c' ∧ HasH wr g L ∧ Bs wr A' r ∧ (∀ ad, A' = some ad → ad.block < w.heap.size ∧ ad.block ≠ g) ∧ r.length ≤ c' ∧ w.grownBy wr (some g)) (fun v _ _ _ => match v with | .slice _ n _ => n | _ => 0)
  case atStart => exact ⟨l, m, A, c, rfl, rfl, HB.out.1, HB.out.2.1, HB.out.2.2.1, HB.out.2.2.2.1, World.grownBy.refl w _⟩
  case round =>
    obtain ⟨L, r, A', c', hL, rfl, ⟨rest, hrl, hblk, hrest⟩, hr, hA, hc', hgr⟩ := hrel
    have hlen : L.length + r.length = l.length + m.length := by rw [← List.length_append, hL, List.length_append]
    have hsum : L.length + r.length ≤ 1000000000 := by rw [hlen]; exact HB.out.2.2.2.2.1
    by_cases hr0 : 0 < r.length
    · have n0 := has_n hblk hrl
      by_cases hfull : L.length % 64 = 0 ∧ 64 ≤ r.length
      · obtain ⟨ha, hw⟩ := hfull
        · have h1 : decide ((64 : Int) ≤ (r.length : Int)) = true := by simp; omega
          have h2 : ((L.length : Int) % 64 == 0) = true := by simp; omega
          have h3 : (64 : Int) ≤ (r.length : Int) := by omega
          have h4 : (64 : Int) ≤ (c' : Int) := by omega
          have HI := Lib.hid (And.intro hL (And.intro hrl (And.intro hblk (And.intro hrest (And.intro hr (And.intro hA (And.intro hc' (And.intro hgr hlen))))))))
          clear hL hblk hrest hr hA hc' hgr hlen
          go_wp2_with fail
          obtain ⟨ad, hA1, hcell⟩ := HI.out.2.2.2.2.1 hr0
          subst hA1
          have hadr := HI.out.2.2.2.2.2.1 ad rfl
          have hwr := HI.out.2.2.2.2.2.2.2.1.size
          refine (mix (absorb iv L) (u8s rest ++ [.int .i64 (L.length : Int)]) (fun i => r.getD i 0) g ad c' wr HI.out.2.2.1 (bytes_of hcell hw) (by omega) (HB.out.2.2.2.2.2.1.grown HI.out.2.2.2.2.2.2.2.1 HB.out.2.2.2.2.2.2) HB.out.2.2.2.2.2.2).mono ?_
          rintro e w1 ⟨rfl, hb1, hg1⟩
          have n1 := has_n hb1 hrl
          have f1 := hb1.frozen 72
          have hs1 := whole_step ha hw
          have HJ := Lib.hid (And.intro hb1 (And.intro hg1 (And.intro hs1 (And.intro hcell (And.intro hadr hwr)))))
          clear hb1 hg1 hs1 hcell hadr hwr
          go_wp2
          clear n1 f1
          go_roundw
          case rel =>
            refine ⟨L ++ r.take 64, r.drop 64, cutA (some ad) c' 64, c' - 64, ?_, ?_, ⟨rest, hrl, ?_, ?_⟩, ?_, ?_, ?_, ?_⟩
            · rw [List.append_assoc, List.take_append_drop]; exact HI.out.1
            · rw [List.length_drop]
            · rw [HJ.out.2.2.1.1]
              have hq := has_set (n' := (L.length : Int) + 64) HJ.out.1 hrl
              have e : ((L ++ r.take 64).length : Int) = (L.length : Int) + 64 := by rw [List.length_append, List.length_take]; omega
              rw [e]
              exact hq
            · rw [HJ.out.2.2.1.2]
              have e : (L ++ r.take 64).length % 64 = 0 := by rw [List.length_append, List.length_take]; omega
              rw [e]
              rfl
            · refine ((HI.out.2.2.2.2.1.cut (k := 64) HI.out.2.2.2.2.2.2.1).grown (w' := _) (grown_setCell HJ.out.2.1 (.inl rfl) _) ?_)
              intro x hx
              obtain ⟨x', e, hb⟩ := cutA_block hx
              cases e
              exact ⟨by rw [hb]; have := HJ.out.2.2.2.2; omega, by rw [hb]; simpa using HJ.out.2.2.2.2.1.2⟩
            · intro x hx
              obtain ⟨x', e, hb⟩ := cutA_block hx
              cases e
              rw [hb]
              exact HJ.out.2.2.2.2.1
            · rw [List.length_drop]; have := HI.out.2.2.2.2.2.2.1; omega
            · exact grown_then HI.out.2.2.2.2.2.2.2.1 (grown_setCell HJ.out.2.1 (.inl rfl) _)
          case measure => simp; omega
      · generalize haa : L.length % 64 = a
        have hai : (L.length : Int) % 64 = (a : Int) := by omega
        have h3 : (0 : Int) ≤ (a : Int) := by omega
        have h4 : (a : Int) < 64 := by omega
        have h2 : ((a : Int) == 0) = false ∨ (((a : Int) == 0) = true ∧ decide ((64 : Int) ≤ (r.length : Int)) = false) := by
          by_cases h : a = 0
          · exact .inr ⟨by simp [h], by simp; omega⟩
          · exact .inl (by simp [h])
        obtain ⟨ad, hA1, hcell⟩ := hr hr0
        subst hA1
        have hadr := hA ad rfl
        obtain ⟨mn, hmn⟩ : ∃ mn, mn = Nat.min r.length (64 - a) := ⟨_, rfl⟩
        have hm1 : mn ≤ r.length := by rw [hmn]; exact Nat.min_le_left _ _
        have hm2 : mn ≤ 64 - a := by rw [hmn]; exact Nat.min_le_right _ _
        have hm4 : 0 < mn := by
          rcases Nat.le_total r.length (64 - a) with h | h
          · rw [hmn, show Nat.min r.length (64 - a) = r.length from Nat.min_eq_left h]; exact hr0
          · rw [hmn, show Nat.min r.length (64 - a) = 64 - a from Nat.min_eq_right h]; omega
        have htl : (r.take mn).length = mn := by rw [List.length_take]; omega
        have hcp := run_copy_blk (P := Tryd.prog) (w := wr) 45 45 3 5 Tryd.underlying45 (by kernel_rfl) g (8 + a) (64 - a) (64 - a) ad r.length c' _ _ hblk (u8s (r.take mn))
          (by rw [u8s_length, htl]; exact hmn) (fun j v hv => by
            unfold u8s at hv
            rw [List.getElem?_map, List.getElem?_take] at hv
            obtain ⟨z, hz, rfl⟩ := Option.map_eq_some_iff.1 hv
            split at hz
            · exact hcell j z hz
            · cases hz) (by simp only [List.length_append, u8s_length, hrl, htl]; simp [vals]; omega) (fun v hv => by
            unfold u8s at hv
            obtain ⟨z, _, rfl⟩ := List.mem_map.1 hv
            rfl)
        obtain ⟨w1, hcp, hb1, hg1⟩ := hcp
        rw [has_splice _ _ _ _ _ hrl (by rw [htl]; omega)] at hb1
        rw [u8s_length, htl] at hcp
        rw [htl] at hb1
        have hrl2 : (rest.take a ++ r.take mn ++ rest.drop (a + mn)).length = 64 := by rw [List.length_append, List.length_append, List.length_take, List.length_drop, hrl, htl]; omega
        have htake : rest.take a = tail64 L := by rw [← haa]; exact hrest
        have n1 := has_n hb1 hrl2
        have f1 := hb1.frozen 72
        have k1 : (0 : Int) ≤ (mn : Int) := by omega
        have k2 : (mn : Int) ≤ (r.length : Int) := by omega
        have k3 : (L.length : Int) + (mn : Int) ≤ 1000000000 := by omega
        have ha4 : a < 64 := by omega
        have HI := Lib.hid (And.intro hL (And.intro hrl (And.intro hblk (And.intro htake (And.intro hr (And.intro hA (And.intro hc' (And.intro hgr (And.intro hlen (And.intro haa (And.intro hb1 (And.intro hg1 (And.intro htl hrl2)))))))))))))
        clear hL hrl hblk hrest hr hA hc' hgr hlen haa hb1 hg1 htl hrl2 hcell hadr hfull hmn htake
        rcases h2 with h2 | ⟨h2, h5⟩
        all_goals
          go_upto_region 3 with fail
          rw [hai]
          clear hai
          go_upto_region 10 with fail
          clear n1 f1 hcp n0
          have hq := has_set (n' := (L.length : Int) + (mn : Int)) HI.out.2.2.2.2.2.2.2.2.2.2.1 HI.out.2.2.2.2.2.2.2.2.2.2.2.2.2
          have hg2 := grown_setCell (p := ⟨g, 72, none⟩) HI.out.2.2.2.2.2.2.2.2.2.2.2.1 (.inl rfl) (.int .i64 ((L.length : Int) + (mn : Int)))
          generalize w1.setCell ⟨g, 72, none⟩ (.int .i64 ((L.length : Int) + (mn : Int))) = W at hq hg2 ⊢
          have n1 := has_n hq HI.out.2.2.2.2.2.2.2.2.2.2.2.2.2
          have haa := HI.out.2.2.2.2.2.2.2.2.2.1
          have hgr := grown_then HI.out.2.2.2.2.2.2.2.1 hg2
          have HQ := Lib.hid (And.intro hq (And.intro hg2 hgr))
          clear hq hg2 hgr
          by_cases hfin : a + mn = 64
          · have h6 : (((L.length : Int) + (mn : Int)) % 64 == 0) = true := by simp; omega
            have HF := Lib.hid hfin
            clear hfin haa
            go_wp2_with fail
            have hlow : g < w.heap.size := by obtain ⟨_, _, hb, _⟩ := HB.out.1; exact hb.lt
            refine (mix (absorb iv L) (u8s (rest.take a ++ r.take mn ++ rest.drop (a + mn)) ++ [.int .i64 ((L.length : Int) + (mn : Int))]) (fun i => (rest.take a ++ r.take mn ++ rest.drop (a + mn)).getD i 0) g ⟨g, 8, none⟩ 64 W HQ.out.1 (has_rest HQ.out.1 HI.out.2.2.2.2.2.2.2.2.2.2.2.2.2) HQ.out.1.lt (HB.out.2.2.2.2.2.1.grown HQ.out.2.2 HB.out.2.2.2.2.2.2) HB.out.2.2.2.2.2.2).mono ?_
            rintro e w2 ⟨rfl, hb2, hg2⟩
            have HJ := Lib.hid (And.intro hb2 hg2)
            clear hb2 hg2 n1
            go_wp2
            go_roundw
            case rel =>
              exact rel_full HF.out hm1 HI.out.2.2.2.2.2.2.2.2.2.1 HI.out.1 HI.out.2.2.2.1 HI.out.2.1 HJ.out.1 HI.out.2.2.2.2.2.2.2.2.2.2.2.2.2 HI.out.2.2.2.2.1 HI.out.2.2.2.2.2.1 HI.out.2.2.2.2.2.2.1 HI.out.2.2.2.2.2.2.2.1 (grown_then HQ.out.2.1 HJ.out.2) (grown_then HQ.out.2.2 HJ.out.2)
            case measure => simp; omega
          · have h6 : (((L.length : Int) + (mn : Int)) % 64 == 0) = false := by simp; omega
            have HF := Lib.hid hfin
            clear hfin haa
            go_wp2
            clear n1
            go_roundw
            case rel =>
              exact rel_part HF.out ha4 hm1 hm2 HI.out.2.2.2.2.2.2.2.2.2.1 HI.out.1 HI.out.2.2.2.1 HI.out.2.1 HQ.out.1 HI.out.2.2.2.2.2.2.2.2.2.2.2.2.2 HI.out.2.2.2.2.1 HI.out.2.2.2.2.2.1 HI.out.2.2.2.2.2.2.1 HI.out.2.2.2.2.2.2.2.1 HQ.out.2.1 HQ.out.2.2
            case measure => simp; omega
    · have hr1 : r = [] := List.eq_nil_of_length_eq_zero (by omega)
      subst hr1
      rw [List.append_nil] at hL
      have HI := Lib.hid (And.intro hL (And.intro hrl (And.intro hblk (And.intro hrest hgr))))
      clear hL hrl hblk hrest hgr hr hA hc' hlen hsum
      go_wp2
      go_end0
      exact ⟨rfl, by rw [← HI.out.1]; exact ⟨rest, HI.out.2.1, HI.out.2.2.1, HI.out.2.2.2.1⟩, HI.out.2.2.2.2⟩
end Go.Proofs.YthpnebmolaaapaaDoor.sha
