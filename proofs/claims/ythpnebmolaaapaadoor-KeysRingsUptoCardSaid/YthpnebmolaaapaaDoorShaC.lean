/- The document's Sum. No condition. -/
import Derived.Test.YthpnebmolaaapaaDoorShaB
namespace Go.Proofs.YthpnebmolaaapaaDoor.sha
open Go.RowKit eqv chunks
attribute [local go_sem ↓] toLd8 toSt8 toLd43 toSt43 zero43 zero8 toBls8 toSl8 toApp8 shr_U c32
attribute [local go_sem] ld8 st8 stNew8 ld43 st43 run_bls8 sl8_lh hsz okAt_drew cellsAt_drew okAt_drewN cellsAt_drewN
set_option maxRecDepth 100000 in
set_option maxHeartbeats 2000000 in
theorem refSum (m : List Int) (A : Option Addr) (c : Nat) (w : World) (hb : Bs w A m) (hnil : A = none → m = [] ∧ c = 0) (hlt : ∀ ad, A = some ad → ad.block < w.heap.size) (hN : m.length ≤ 999999000) (hI : Iv w 0) (hK : Tab w 2) :
    Calls Tryd.prog 10 #[.slice A m.length c] w fun e w' => e = .returned (.agg (u8s (hash m)).toArray) ∧ Below w.heap.size w w' := by
  have HB := Lib.hid (And.intro hb (And.intro hnil (And.intro hlt (And.intro hI hK))))
  clear hb hnil hlt hI hK
  go_enter Tryd.func10, Tryd.ntmps10
  go_upto_region 1 with fail
  generalize hW : World.alloc _ _ = W0
  have h1 := one (cs := u8s z32) hW
  clear hW
  have hap := Al.app (w := w) (L := []) (m := m) (World.ownsRow_nil W0 (w.heap.size + 1) 5 1) h1.1 h1.2.1 (HB.out.1.below h1.2.1 HB.out.2.2.1) HB.out.2.1 (by omega) (by simp)
  obtain ⟨A1, c1, w1, hap, A2, c2, e2, ho, hz, hbel⟩ := hap
  have h0 : ([] : List Int).length = 0 := rfl
  rw [h0, Nat.zero_add] at hap e2
  rw [List.nil_append] at ho e2
  cases e2
  have hap2 := Al.one ho hz hbel 128 (by omega)
  obtain ⟨A3, c3, w2, hap2, A4, c4, e4, ho2, hz2, hbel2⟩ := hap2
  have hl1 : (m ++ [128]).length = m.length + 1 := by simp
  rw [hl1] at e4 ho2
  cases e4
  have HA := Lib.hid (And.intro ho2 (And.intro hz2 hbel2))
  clear ho hz hbel ho2 hz2 hbel2 h1 h0 hl1
  go_upto_region 3 with fail
  clear hap
  go_wp2
  clear hap2
  go_loopg [3] (zs m) (fun k v wr => ∃ j : Nat, j + k = zs m ∧ Al w (padK m j) v wr)
  case atStart => exact ⟨0, Nat.zero_add _, A3, c3, by rw [padK_length], by rw [padK_length, padK_zero]; exact HA.out.1, HA.out.2.1, HA.out.2.2⟩
  case round =>
    obtain ⟨j, hj, A5, c5, rfl, ho, hz, hbel⟩ := hrel
    have hzs : zs m < 64 := Nat.mod_lt _ (by omega)
    have hap := Al.one ho hz hbel 0 (by rw [padK_length]; omega)
    obtain ⟨A6, c6, w6, hap, hal⟩ := hap
    rw [padK_next] at hal
    rw [padK_length] at hap hal ho
    rw [padK_length]
    have HI := Lib.hid (And.intro ho (And.intro hz (And.intro hbel (And.intro hal hj))))
    clear ho hz hbel hal
    by_cases hk : gk = 0
    · have h56 : (((m.length : Int) + 1 + (j : Int)) % 64 != 56) = false := by subst hk; unfold zs at hj; simp; omega
      have hjz : j = zs m := by omega
      clear hj hk hap
      subst hjz
      go_wp2
      go_loopw [3, 5] (fun v i wr => ∃ k : Nat, k ≤ 8 ∧ i = .int .i64 k ∧ Al w (padK m (zs m) ++ (be8 m.length).take k) v wr) (fun _ i _ => 8 - (intOf i).toNat)
      case atStart => exact ⟨0, Nat.zero_le _, rfl, A5, c5, by rw [tk_length _ _ (by omega)]; rfl, by rw [tk_length _ _ (by omega), List.take_zero, List.append_nil]; exact HI.out.1, HI.out.2.1, HI.out.2.2.1⟩
      case round =>
        obtain ⟨k, hk, rfl, A7, c7, rfl, ho, hz, hbel⟩ := hrel
        have hlen := tk_length m k hk
        by_cases hk8 : k < 8
        · have hap := Al.one ho hz hbel ((m.length * 8 / 2 ^ (56 - 8 * k) % 256 : Nat) : Int) (by omega)
          rw [List.append_assoc, be8_next _ _ hk8, hlen] at hap
          obtain ⟨A8, c8, w8, hap, hal⟩ := hap
          have e : ((m.length * 8 / 2 ^ (56 - 8 * k) % 256 : Nat) : Int) = (m.length : Int) * 8 / 2 ^ (56 - 8 * k) % 256 := by simp
          rw [e] at hap
          rw [hlen]
          have ik : (0 : Int) ≤ (k : Int) := by omega
          have jk : (k : Int) < 8 := by omega
          have s1 : (0 : Int) ≤ 56 - 8 * (k : Int) := by omega
          have s2 : 56 - 8 * (k : Int) < 64 := by omega
          have HJ := Lib.hid (And.intro hal hlen)
          clear ho hz hbel hal e hlen
          go_wp2
          clear hap
          go_roundw
          case rel => exact ⟨k + 1, by omega, by go_num, HJ.out.1⟩
          case measure => simp [intOf]; omega
        · have hk8' : k = 8 := by omega
          subst hk8'
          rw [hlen]
          have hP : padK m (zs m) ++ (be8 m.length).take 8 = pad m := pad_eq m
          rw [hP] at ho hlen
          have hge := pad_pos m
          have hmod := pad_length m
          obtain ⟨ga, cap, eA, hga, hglt⟩ := ho.form (by omega)
          cases eA
          have hcap : (pad m).length ≤ c7 := by
            rcases ho.2 with ⟨h, _⟩ | ⟨g', cap', cur, h, _, _, hnc, _⟩
            · cases h
            · cases h; exact hnc
          have hIv := HB.out.2.2.2.1.below hbel HB.out.2.2.2.1.1
          obtain ⟨_, i1, i2⟩ := hIv
          rw [hlen] at ho
          have HJ := Lib.hid (And.intro ho (And.intro hz (And.intro hbel (And.intro hlen (And.intro hge (And.intro hmod (And.intro hga (And.intro hglt hcap))))))))
          clear ho hz hbel hlen hge hmod hga hglt hcap hk8 hk hP HI HA
          rw [show ((8 : Nat) : Int) = 8 from rfl]
          go_upto_region 12 with fail
          clear i1 i2
          generalize hW : World.alloc _ _ = W1
          have h1 := one (cs := vals iv) hW
          generalize hV : wr.heap.size = V
          rw [hV] at h1
          clear hW
          have HV := Lib.hid (And.intro h1 hV)
          clear h1 hV
          go_wp2
          go_loopw [7] (fun i wx => ∃ q : Nat, 64 * q ≤ (pad m).length ∧ i = .int .i64 (64 * (q : Int)) ∧ Blk wx V 52 (vals (absorb iv ((pad m).take (64 * q)))) ∧ Below V W1 wx) (fun i _ => (pad m).length - (intOf i).toNat)
          case atStart => exact ⟨0, Nat.zero_le _, by go_num, by rw [Nat.mul_zero, List.take_zero, absorb_short iv (by simp)]; exact HV.out.1.1, Below.refl _ _⟩
          case round =>
            obtain ⟨q, hq, rfl, b, hbelV⟩ := hrel
            have hlen := HJ.out.2.2.2.1
            have hmod := HJ.out.2.2.2.2.2.1
            have hcap := HJ.out.2.2.2.2.2.2.2.2
            by_cases hq1 : 64 * q + 64 ≤ (pad m).length
            · have hro := own_block HJ.out.1 ((hbelV.block ga (by have := HJ.out.2.2.2.2.2.2.2.1; have := HV.out.2; omega)).trans (HV.out.1.2.1.block ga (by have := HJ.out.2.2.2.2.2.2.2.1; have := HV.out.2; omega)))
              have hby := row_bytes (c := c7) hro hlen.symm q hq1
              have hcut : cutA (some ⟨ga, 0, none⟩) c7 (64 * q) = some ⟨ga, 64 * q, none⟩ := cut_at (by omega)
              have t1 : Below w.heap.size w W1 := HJ.out.2.2.1.trans (HV.out.1.2.1.mono (by have := HV.out.2; have := HJ.out.2.1.lt; omega))
              have t2 : Below w.heap.size w wr := t1.trans (hbelV.mono (by have := HV.out.2; have := HJ.out.2.1.lt; omega))
              have hmx := mixed (absorb iv ((pad m).take (64 * q))) _ ⟨ga, 64 * q, none⟩ (c7 - 64 * q) wr.drew hby (by have := HJ.out.2.2.2.2.2.2.2.1; have := HV.out.2; have := hbelV.size; have := HV.out.1.2.2; simp only [World.drew]; omega) (HB.out.2.2.2.2.below t2.drew HB.out.2.2.2.2.1)
              rw [← pad_take _ _ hq1] at hmx
              have qa := b.all
              obtain ⟨qa, qb⟩ := qa
              have qa : okAt wr ⟨V, 0, none⟩ 8 := qa
              have qb : cellsAt wr ⟨V, 0, none⟩ 8 = vals (absorb iv ((pad m).take (64 * q))) := qb
              have i0 : (0 : Int) ≤ 64 * (q : Int) := by omega
              have i1 : 64 * (q : Int) ≤ 64 * (q : Int) + 64 := by omega
              have i2 : 64 * (q : Int) + 64 ≤ (c7 : Int) := by omega
              have i3 : (0 : Int) ≤ 64 * (q : Int) + 64 := by omega
              have e1 : IntKind.i64.wrap (64 * (q : Int) + 64) = 64 * (q : Int) + 64 := IntWalk.i64_in _ (by omega)
              have k0 : (64 * (q : Int)).toNat = 64 * q := by omega
              have k1 : (64 * (q : Int) + 64).toNat = 64 * q + 64 := by omega
              have k2 : 64 * q + 64 - 64 * q = 64 := by omega
              have hd : decide (64 * (q : Int) < (m.length : Int) + 1 + (zs m : Int) + 8) = true := by simp; omega
              have HQ := Lib.hid (And.intro b (And.intro hbelV (And.intro hmx hq1)))
              clear b hbelV hmx hro hby t1 t2 hlen hmod hcap hq hq1
              go_wp2
              go_still_tail 6, (by kernel_rfl)
              clear qa qb
              go_wp2_with fail
              refine HQ.out.2.2.1.mono ?_
              rintro e w8 ⟨rfl, hb8⟩
              have b8 : Blk w8 V 52 (vals (absorb iv ((pad m).take (64 * q)))) := Blk.below (w := wr.drew) HQ.out.1 hb8 HQ.out.1.lt
              have c8' : Below V W1 w8 := HQ.out.2.1.drew.trans (hb8.mono (by have := HQ.out.1.lt; simp only [World.drew]; omega))
              have hp : mayPut w8 V 0 (vals (absorb iv ((pad m).take (64 * (q + 1))))) := ⟨_, _, b8, Nat.le_refl _, vals_one _⟩
              have hl8 : (vals (absorb iv ((pad m).take (64 * (q + 1))))).length = 8 := rfl
              have HZ := Lib.hid (And.intro b8 c8')
              clear b8 c8' hb8
              go_wp2
              clear hp hl8
              go_roundw
              case rel =>
                have hz := HZ.out.1.put (o := 0) (cs := vals (absorb iv ((pad m).take (64 * (q + 1)))))
                rw [put_all (cs := vals (absorb iv ((pad m).take (64 * q)))) (ds := vals (absorb iv ((pad m).take (64 * (q + 1))))) rfl] at hz
                exact ⟨q + 1, by have := HQ.out.2.2.2; omega, by go_num, hz.1, HZ.out.2.trans (hz.2.2 V (Nat.le_refl _))⟩
              case measure => have := HQ.out.2.2.2; simp [intOf]; omega
            · have hq2 : 64 * q = (pad m).length := by omega
              rw [hq2, List.take_length] at b
              have hd : decide (64 * (q : Int) < (m.length : Int) + 1 + (zs m : Int) + 8) = false := by simp; omega
              have t1 : Below w.heap.size w W1 := HJ.out.2.2.1.trans (HV.out.1.2.1.mono (by have := HV.out.2; have := HJ.out.2.1.lt; omega))
              have t2 : Below w.heap.size w wr := t1.trans (hbelV.mono (by have := HV.out.2; have := HJ.out.2.1.lt; omega))
              have z2 : Blk wr w.heap.size 43 (u8s z32) := (HJ.out.2.1.below HV.out.1.2.1 (by have := HV.out.2; have := HJ.out.2.1.lt; omega)).below hbelV (by have := HV.out.2; have := HJ.out.2.1.lt; omega)
              have hVlt : w.heap.size < V := by have := HV.out.2; have := HJ.out.2.1.lt; omega
              have HQ := Lib.hid (And.intro b (And.intro hbelV (And.intro t2 (And.intro z2 hVlt))))
              clear b hbelV t1 t2 z2 hlen hmod hcap hq hq1 hq2 hVlt
              go_upto_region 17 with fail
              generalize hW : World.alloc _ _ = W3
              have h3 := one (cs := u8s (oc (hashV m) 0)) hW
              generalize hO : wr.heap.size = O
              rw [hO] at h3
              clear hW
              have H3 := Lib.hid (And.intro h3 hO)
              clear h3 hO
              go_wp2
              go_loopw [9] (fun i wx => ∃ k : Nat, k ≤ 32 ∧ i = .int .i64 k ∧ Blk wx O 43 (u8s (oc (hashV m) k)) ∧ Below O W3 wx) (fun i _ => 32 - (intOf i).toNat)
              case atStart => exact ⟨0, Nat.zero_le _, rfl, H3.out.1.1, Below.refl _ _⟩
              case round =>
                obtain ⟨k, hk, rfl, b1, hbelO⟩ := hrel
                have bV := (HQ.out.1.below H3.out.1.2.1 (by have := HQ.out.1.lt; have := H3.out.2; omega)).below hbelO (by have := HQ.out.1.lt; have := H3.out.2; omega)
                have bz := (HQ.out.2.2.2.1.below H3.out.1.2.1 (by have := HQ.out.2.2.2.1.lt; have := H3.out.2; omega)).below hbelO (by have := HQ.out.2.2.2.1.lt; have := H3.out.2; omega)
                have t3 : Below w.heap.size w wr := HQ.out.2.2.1.trans ((H3.out.1.2.1.mono (by have := HQ.out.2.2.2.1.lt; have := H3.out.2; omega)).trans (hbelO.mono (by have := HQ.out.2.2.2.1.lt; have := H3.out.2; omega)))
                by_cases hk32 : k < 32
                · have x0 : ∃ u, wr.cell? ⟨O, k, none⟩ = some u := by
                    rw [b1.cell]
                    exact ⟨_, List.getElem?_eq_getElem (by rw [u8s_length, oc_length _ _ hk]; exact hk32)⟩
                  obtain ⟨u0, x0⟩ := x0
                  have f0 := b1.frozen k
                  have y0 := cell_of (o := k / 4) bV (cs_get (A := vget (hashV m)) (i := k / 4) (n := 8) (by omega))
                  have ik : (0 : Int) ≤ (k : Int) := by omega
                  have jk : (k : Int) < 32 := by omega
                  have i1 : (0 : Int) ≤ (k : Int) / 4 := by omega
                  have i2 : (k : Int) / 4 < 8 := by omega
                  have k1 : ((k : Int) / 4).toNat = k / 4 := by omega
                  have i3 : (0 : Int) ≤ 24 - 8 * ((k : Int) % 4) := by omega
                  have i4 : (0 : Int) ≤ (k : Int) % 4 := by omega
                  have i6 : 8 * ((k : Int) % 4) ≤ 24 := by omega
                  have i5 : (k : Int) % 4 < 4 := by omega
                  have k2 : (24 - 8 * ((k : Int) % 4)).toNat = 24 - 8 * (k % 4) := by omega
                  have HK := Lib.hid (And.intro b1 hbelO)
                  clear b1 hbelO bV bz t3
                  go_wp2
                  go_roundw
                  case rel =>
                    have h := HK.out.1.setCell (o := k) (v := .int .u8 (lo8 (vget (hashV m) (k / 4) >>> (24 - 8 * (k % 4)))))
                    rw [oc_set _ _ hk32] at h
                    exact ⟨k + 1, by omega, by go_num, h, HK.out.2.setCell (Nat.le_refl _) _⟩
                  case measure => simp [intOf]; omega
                · have hk32' : k = 32 := by omega
                  subst hk32'
                  rw [show ((32 : Nat) : Int) = 32 from rfl]
                  rw [oc_all] at b1
                  have a1 := b1.all
                  rw [u8s_length, out_length] at a1
                  obtain ⟨a1, a2⟩ := a1
                  have hp : mayPut wr w.heap.size 0 (u8s (out (hashV m))) := ⟨_, _, bz, by rw [u8s_length, u8s_length, out_length]; exact Nat.le_refl _, u8s_one _⟩
                  have hl : (u8s (out (hashV m))).length = 32 := by rw [u8s_length, out_length]
                  have HE := Lib.hid (And.intro bz (And.intro t3 hl))
                  clear b1 hbelO bV bz t3 hk32 hk
                  go_wp2
                  have hq := HE.out.1.put (o := 0) (cs := u8s (out (hashV m)))
                  rw [put_all (cs := u8s z32) (ds := u8s (out (hashV m))) (by rw [HE.out.2.2]; rfl)] at hq
                  refine bodyPost_ret (v := .agg (u8s (hash m)).toArray) (ret_blk rfl rfl (by kernel_rfl) ⟨_, Tryd.underlying43, rfl⟩ hq.1 HE.out.2.2) rfl ⟨rfl, HE.out.2.1.trans (hq.2.2 _ (Nat.le_refl _))⟩
    · have h56 : (((m.length : Int) + 1 + (j : Int)) % 64 != 56) = true := by unfold zs at hj hzs; simp; omega
      have HT := Lib.hid hk
      clear hj hk hzs
      go_wp2
      clear hap
      go_roundg (gk - 1)
      case measure => have := HT.out; omega
      case rel => exact ⟨j + 1, by have := HI.out.2.2.2.2; have := HT.out; omega, HI.out.2.2.2.1⟩
end Go.Proofs.YthpnebmolaaapaaDoor.sha
