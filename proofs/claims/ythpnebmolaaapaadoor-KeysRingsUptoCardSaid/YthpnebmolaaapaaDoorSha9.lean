/- The program's Hasher: Sum. No condition. -/
import Derived.Test.YthpnebmolaaapaaDoorSha8
namespace Go.Proofs.YthpnebmolaaapaaDoor.sha
open Go.RowKit eqv chunks
attribute [local go_sem ↓] toLd8 toSt8 toLdS toStS toLd43 toSt43 zero43 zeroS toBls8 toSl8a toIx8 add_U xor_U or_U and_U shl_U shr_U not_U c8 c32
attribute [local go_sem] ld8 ldS stNewS run_bls8 z64_length hsz sl8a_all run_ix8 ld43 st43
set_option maxRecDepth 100000 in
set_option maxHeartbeats 2000000 in
theorem sumH (g : Nat) (l : List Int) (w : World) (hH : HasH w g l) (hN : l.length ≤ 999999000) (hK : Tab w 3) :
    Calls Tryd.prog 13 #[.pointer (some ⟨g, 0, none⟩)] w fun e w' => e = .returned (.agg (u8s (hash l)).toArray) ∧ Below w.heap.size w w' := by
  have HB := Lib.hid (And.intro hH hK)
  obtain ⟨rest, hrl, hblk, hrest⟩ := hH
  have hgw := hblk.lt
  go_enter Tryd.func13, Tryd.ntmps13
  go_upto_region 4 with fail
  have hb2 : Blk ((w.alloc (.cells (u8s z32).toArray 43)).alloc (.cells (u8s z32).toArray 43)) g 56 (hv (absorb iv l) rest (l.length : Int)) := (hblk.alloc _).alloc _
  have q := hb2.all
  rw [hv_length _ _ _ hrl] at q
  obtain ⟨q1, q2⟩ := q
  have HR := Lib.hid (And.intro hrest (And.intro hblk hb2))
  clear hrest hblk hb2 hK
  go_upto_region 5 with fail
  rw [stNewS (by simp) hrl z64_length]
  go_upto_region 5 with fail
  clear q1 q2
  generalize hW : World.alloc _ _ = W0
  have h3 := three (xs := u8s z32) (ys := u8s z32) (zs := hv (absorb iv l) rest (l.length : Int)) hW
  clear hW
  have hst : St w l W0 := ⟨⟨rest, hrl, h3.2.2.1, HR.out.1⟩, h3.1, h3.2.1, h3.2.2.2.1⟩
  have n0 := has_n (HR.out.2.1.below h3.2.2.2.1 hgw) hrl
  have HS := Lib.hid (And.intro hst h3.2.2.2.2)
  clear h3 hst HR hrl
  have hw1 := writeOne HS.out.1 128 (by omega) HB.out.2
  have HW := Lib.hid hw1
  clear hw1
  go_upto_region 6 with fail
  go_wp2_with (go_at_call 12; refine HW.out.mono ?_; rintro e w1 ⟨rfl, hs1⟩; have HS1 := Lib.hid hs1; clear hs1 n0)
  go_loopg [] (zs l) (fun k wr => ∃ j : Nat, j + k = zs l ∧ St w (padK l j) wr)
  case atStart => exact ⟨0, Nat.zero_add _, by have := HS1.out; simpa [padK] using this⟩
  case round =>
    obtain ⟨j, hj, hst⟩ := hrel
    have n0 := hst.n
    rw [padK_length] at n0
    have hzs : zs l < 64 := Nat.mod_lt _ (by omega)
    by_cases hk : gk = 0
    · have h56 : (((l.length : Int) + 1 + (j : Int)) % 64 != 56) = false := by subst hk; unfold zs at hj; simp; omega
      have HT := Lib.hid (And.intro hst (And.intro hj hk))
      clear hst hj hk
      go_wp2
      generalize hW : World.alloc _ _ = W1
      have h1 := one (cs := u8s (tb l.length 0)) hW
      generalize hT : wr.heap.size = T
      rw [hT] at h1
      clear hW
      have HV := Lib.hid (And.intro h1 hT)
      clear h1 hT n0 h56
      go_loopw [7, 30] (fun _ i wx => ∃ k : Nat, k ≤ 8 ∧ i = .int .i64 k ∧ Blk wx T 57 (u8s (tb l.length k)) ∧ Below T W1 wx) (fun _ i _ => 8 - (intOf i).toNat)
      case atStart => exact ⟨0, Nat.zero_le _, rfl, HV.out.1.1, Below.refl _ _⟩
      case round =>
        obtain ⟨k, hk, rfl, b, hbel⟩ := hrel
        by_cases hk8 : k < 8
        · have f0 := b.frozen k
          have x0 : ∃ u, wr.cell? ⟨T, k, none⟩ = some u := by
            rw [b.cell]
            exact ⟨_, List.getElem?_eq_getElem (by rw [u8s_length, tb_length _ _ hk]; exact hk8)⟩
          obtain ⟨u, x0⟩ := x0
          have ik : (0 : Int) ≤ (k : Int) := by omega
          have jk : (k : Int) < 8 := by omega
          have s1 : (0 : Int) ≤ 56 - 8 * (k : Int) := by omega
          have s2 : 56 - 8 * (k : Int) < 64 := by omega
          have HJ := Lib.hid (And.intro b hbel)
          clear b hbel
          go_wp2
          go_roundw
          case rel =>
            have h := HJ.out.1.setCell (o := k) (v := .int .u8 ((l.length * 8 / 2 ^ (56 - 8 * k) % 256 : Nat) : Int))
            rw [tb_set _ _ hk8] at h
            have e : ((l.length * 8 / 2 ^ (56 - 8 * k) % 256 : Nat) : Int) = (l.length : Int) * 8 / 2 ^ (56 - 8 * k) % 256 := by simp
            rw [e] at h
            exact ⟨k + 1, by omega, by go_num, h, HJ.out.2.setCell (Nat.le_refl _) _⟩
          case measure => simp [intOf]; omega
        · have hk8' : k = 8 := by omega
          subst hk8'
          rw [show ((8 : Nat) : Int) = 8 from rfl]
          rw [tb_all] at b
          have hsz0 := HT.out.1.size
          have hstT : St w (padK l j) wr := HT.out.1.below2 HV.out.1.2.1 hbel (by have := HV.out.2; omega)
          have hjz : j = zs l := by have := HT.out.2.1; have := HT.out.2.2; omega
          have hw3 := writeSt hstT ⟨T, 0, none⟩ (bs_of b) ⟨b.lt, by have := HV.out.2; simp only [ne_eq]; omega⟩ 8 (by rw [be8_length]; exact Nat.le_refl _) (by rw [padK_length, be8_length]; omega) HB.out.2
          rw [be8_length] at hw3
          rw [hjz, pad_eq] at hw3
          have HW3 := Lib.hid hw3
          clear hw3 hstT b hbel hk8 hk hjz hsz0
          go_wp2_with (go_at_call 12; refine HW3.out.mono ?_; rintro e w3 ⟨rfl, hs3⟩; have HS3 := Lib.hid hs3; obtain ⟨r3, q0, q1, _⟩ := hs3.has; obtain ⟨q2, q3⟩ := vals_part q1; clear hs3 q0 q1)
          clear q2 q3
          go_loopw [8, 9, 46] (fun _ _ i wx => ∃ k : Nat, k ≤ 8 ∧ i = .int .i64 k ∧ Blk wx (w.heap.size + 1) 43 (u8s (ob (absorb iv (pad l)) k)) ∧ Blk wx w.heap.size 43 (u8s z32) ∧ Below w.heap.size w wx) (fun _ _ i _ => 8 - (intOf i).toNat)
          case atStart => exact ⟨0, Nat.zero_le _, rfl, HS3.out.b1, HS3.out.b0, HS3.out.bel⟩
          case round =>
            obtain ⟨k, hk, rfl, b1, b0, hbel⟩ := hrel
            by_cases hk8 : k < 8
            · have hcell : ∀ i, i < 32 → ∃ u, wr.cell? ⟨w.heap.size + 1, i, none⟩ = some u := fun i hi => by
                rw [b1.cell]
                exact ⟨_, List.getElem?_eq_getElem (by rw [u8s_length, ob_length _ _ hk]; exact hi)⟩
              obtain ⟨u0, x0⟩ := hcell (4 * k) (by omega)
              obtain ⟨u1, x1⟩ := hcell (4 * k + 1) (by omega)
              obtain ⟨u2, x2⟩ := hcell (4 * k + 2) (by omega)
              obtain ⟨u3, x3⟩ := hcell (4 * k + 3) (by omega)
              have f0 := b1.frozen (4 * k)
              have f1 := b1.frozen (4 * k + 1)
              have f2 := b1.frozen (4 * k + 2)
              have f3 := b1.frozen (4 * k + 3)
              have ik : (0 : Int) ≤ (k : Int) := by omega
              have jk : (k : Int) < 8 := by omega
              have HJ := Lib.hid (And.intro b1 (And.intro b0 hbel))
              clear b1 b0 hbel hcell
              go_wp2
              go_roundw
              case rel =>
                have h := (((HJ.out.1.setCell (o := 4 * k) (v := .int .u8 (lo8 (vget (absorb iv (pad l)) k >>> 24)))).setCell (o := 4 * k + 1) (v := .int .u8 (lo8 (vget (absorb iv (pad l)) k >>> 16)))).setCell (o := 4 * k + 2) (v := .int .u8 (lo8 (vget (absorb iv (pad l)) k >>> 8)))).setCell (o := 4 * k + 3) (v := .int .u8 (lo8 (vget (absorb iv (pad l)) k)))
                rw [ob_set _ _ hk8] at h
                refine ⟨k + 1, by omega, by go_num, h, ?_, ?_⟩
                · exact (((HJ.out.2.1.setCell_other (by omega)).setCell_other (by omega)).setCell_other (by omega)).setCell_other (by omega)
                · exact (((HJ.out.2.2.setCell (by simp only; omega) _).setCell (by simp only; omega) _).setCell (by simp only; omega) _).setCell (by simp only; omega) _
              case measure => simp [intOf]; omega
            · have hk8' : k = 8 := by omega
              subst hk8'
              rw [show ((8 : Nat) : Int) = 8 from rfl]
              rw [ob_all] at b1
              have a1 := b1.all
              rw [u8s_length, out_length] at a1
              obtain ⟨a1, a2⟩ := a1
              have hp : mayPut wr w.heap.size 0 (u8s (out (absorb iv (pad l)))) := ⟨_, _, b0, by rw [u8s_length, u8s_length, out_length]; exact Nat.le_refl _, u8s_one _⟩
              have hl : (u8s (out (absorb iv (pad l)))).length = 32 := by rw [u8s_length, out_length]
              have HE := Lib.hid (And.intro b0 (And.intro hbel hl))
              clear b1 b0 hbel hk8 hk
              go_wp2
              have hq := HE.out.1.put (o := 0) (cs := u8s (out (absorb iv (pad l))))
              rw [put_all (cs := u8s z32) (ds := u8s (out (absorb iv (pad l)))) (by rw [HE.out.2.2]; rfl)] at hq
              refine bodyPost_ret (v := .agg (u8s (hash l)).toArray) (ret_blk rfl rfl (by kernel_rfl) ⟨_, Tryd.underlying43, rfl⟩ hq.1 HE.out.2.2) rfl ⟨rfl, HE.out.2.1.trans (hq.2.2 _ (Nat.le_refl _))⟩
    · have h56 : (((l.length : Int) + 1 + (j : Int)) % 64 != 56) = true := by unfold zs at hj hzs; simp; omega
      have hw2 := writeOne hst 0 (by rw [padK_length]; omega) HB.out.2
      have HT := Lib.hid (And.intro hst (And.intro hj (And.intro hk hw2)))
      clear hst hj hk hw2
      go_wp2_with (go_at_call 12; refine HT.out.2.2.2.mono ?_; rintro e w2 ⟨rfl, hs2⟩; have HS2 := Lib.hid hs2; clear hs2 n0)
      go_roundg (gk - 1)
      case measure => have := HT.out.2.2.1; omega
      case rel => exact ⟨j + 1, by have := HT.out.2.1; have := HT.out.2.2.1; omega, by rw [← padK_next]; exact HS2.out⟩
end Go.Proofs.YthpnebmolaaapaaDoor.sha
