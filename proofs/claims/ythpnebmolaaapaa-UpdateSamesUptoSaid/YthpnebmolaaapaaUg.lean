import Derived.Test.YthpnebmolaaapaaUg1
namespace Go.Proofs.Ythpnebmolaaapaa.upd
open Go.RowKit eqv chunks
attribute [local go_sem ↓] to30 toBld toBls toBldH toBlsH
attribute [local go_sem] below_drew build34 blsH1 build44z bls1z
set_option maxHeartbeats 4000000 in
theorem updateSames (u v : Upd) (w : World) (hu : u.In w) (hv : v.In w) (hK : ∀ y ∈ u.Y, ∀ s, y[103]? = some (.string s) → s.size ≤ 1048576) :
    Calls Try.prog 4 #[.agg u.cells, .agg v.cells] w fun e w' => e = .returned (.bool true) ∧ Below w.heap.size w w' := by
  have HU := Lib.hid (And.intro hu hv)
  have HKey := Lib.hid hK
  clear hu hv hK
  generalize hcu : u.cells = cu
  generalize hcv : v.cells = cv
  have HC := Lib.hid (And.intro hcu hcv)
  have hcu' : cu = #[.slice u.A u.X.length u.c, .int .i64 u.a, .int .i64 u.b, .int .i64 u.m, .string u.s, .slice u.E u.Y.length u.d] := hcu.symm
  have hcv' : cv = #[.slice v.A v.X.length v.c, .int .i64 v.a, .int .i64 v.b, .int .i64 v.m, .string v.s, .slice v.E v.Y.length v.d] := hcv.symm
  clear hcu hcv
  subst hcu' hcv'
  go_enter Try.func4, Try.ntmps4
  go_upto_region 1 with fail
  generalize hW : World.alloc _ _ = W0
  have h2 := two (cs := [.slice u.A u.X.length u.c, .int .i64 u.a, .int .i64 u.b, .int .i64 u.m, .string u.s, .slice u.E u.Y.length u.d]) (zs := [.slice v.A v.X.length v.c, .int .i64 v.a, .int .i64 v.b, .int .i64 v.m, .string v.s, .slice v.E v.Y.length v.d]) hW
  clear hW
  have H2 := Lib.hid h2
  clear h2
  have d0 : Sem.run Try.prog (bigLoad 30 ⟨w.heap.size, 0, none⟩) W0 = .ok (.agg #[.slice u.A u.X.length u.c, .int .i64 u.a, .int .i64 u.b, .int .i64 u.m, .string u.s, .slice u.E u.Y.length u.d]) W0 := ld30 H2.out.1 rfl
  go_wp2_with fail
  clear d0
  refine (lent u W0 (HU.out.1.below H2.out.2.2.1)).mono ?_
  rintro e w1 ⟨A3, c3, rfl, hb1, ho1, hbel1⟩
  have HO := own_In HU.out.1 hb1 ho1
  have H3 := Lib.hid (And.intro hbel1 HO)
  clear hb1 ho1 hbel1 HO
  go_upto_region 2 with fail
  generalize hW : World.alloc _ _ = W1
  have h4 := one (cs := [.slice (some ⟨W0.heap.size + 1 + 1 + 1, 0, none⟩) u.X.length (u.X.length + 9), .int .i64 u.a, .int .i64 u.b, .int .i64 u.m, .string u.s, .slice A3 u.Y.length c3]) hW
  clear hW
  have H4 := Lib.hid (And.intro h4 (H3.out.2.1.below (h4.2.1)))
  clear h4
  have d0 : Sem.run Try.prog (bigLoad 30 ⟨w1.heap.size, 0, none⟩) W1 = .ok (.agg #[.slice (some ⟨W0.heap.size + 1 + 1 + 1, 0, none⟩) u.X.length (u.X.length + 9), .int .i64 u.a, .int .i64 u.b, .int .i64 u.m, .string u.s, .slice A3 u.Y.length c3]) W1 := ld30 H4.out.1.1 rfl
  go_wp2_with fail
  clear d0
  refine (copy (own u (W0.heap.size + 1 + 1 + 1) A3 c3) W1 H4.out.2).mono ?_
  rintro e w2 ⟨A1, c1, A2, c2, he, hr1, hr2, hbel2⟩
  have he' : e = .returned (.agg #[.slice A1 u.X.length c1, .int .i64 u.a, .int .i64 u.b, .int .i64 u.m, .string u.s, .slice A2 u.Y.length c2]) := he
  clear he
  subst he'
  have hr3 : Own w2 W1.heap.size 34 32 (.slice A1 u.X.length c1) u.X := hr1
  have hr4 : Own w2 W1.heap.size 44 111 (.slice A2 u.Y.length c2) u.Y := hr2
  have H5 := Lib.hid (And.intro hr3 (And.intro hr4 hbel2))
  clear hr1 hr2 hr3 hr4 hbel2
  go_upto_region 3 with fail
  generalize hW : World.alloc _ _ = W3
  have h6 := one (cs := [.slice A1 u.X.length c1, .int .i64 u.a, .int .i64 u.b, .int .i64 u.m, .string u.s, .slice A2 u.Y.length c2]) hW
  clear hW
  have H6 := Lib.hid h6
  clear h6
  have z1 := H2.out.2.2.2
  have z2 := H3.out.1.size
  have z3 := H4.out.1.2.2
  have z4 := H5.out.2.2.size
  have z5 := H6.out.2.2
  have t1 : Below w.heap.size w w1 := H2.out.2.2.1.trans (H3.out.1.mono H2.out.2.2.1.size)
  have t2 : Below w.heap.size w W1 := t1.trans (H4.out.1.2.1.mono t1.size)
  have t3 : Below w.heap.size w w2 := t2.trans (H5.out.2.2.mono t2.size)
  have t4 : Below w.heap.size w W3 := t3.trans (H6.out.2.1.mono t3.size)
  have t5 : Below W1.heap.size W1 W3 := H5.out.2.2.trans (H6.out.2.1.mono H5.out.2.2.size)
  have iu : u.In W3 := HU.out.1.below t4
  have iv : v.In W3 := HU.out.2.below t4
  have io : (own u (W0.heap.size + 1 + 1 + 1) A3 c3).In W3 := H4.out.2.below t5
  have ro1 := own_below H5.out.1.1 H6.out.2.1
  have ro2 := own_below H5.out.2.1.1 H6.out.2.1
  have ic : (cop u A1 c1 A2 c2).In W3 := cop_In HU.out.1 ⟨ro1, H5.out.1.2⟩ ⟨ro2, H5.out.2.1.2⟩
  have n1 := ((H2.out.1.below H3.out.1 (by omega)).below H4.out.1.2.1 (by omega)).below t5 (by omega)
  have n2 := ((H2.out.2.1.below H3.out.1 (by omega)).below H4.out.1.2.1 (by omega)).below t5 (by omega)
  have n3 := H4.out.1.1.below t5 (by omega)
  have n4 := H6.out.1
  have HI := Lib.hid (And.intro iu (And.intro iv (And.intro io (And.intro ic (And.intro ro1 (And.intro ro2 (And.intro t4 (And.intro t5 (And.intro n1 (And.intro n3 (And.intro n4 z5)))))))))))
  have d1 : ∀ W, Below W3.heap.size W3 W → Sem.run Try.prog (bigLoad 30 ⟨w.heap.size, 0, none⟩) W = .ok (.agg #[.slice u.A u.X.length u.c, .int .i64 u.a, .int .i64 u.b, .int .i64 u.m, .string u.s, .slice u.E u.Y.length u.d]) W := fun W hb => ld30 (n1.below hb n1.lt) rfl
  have d2 : ∀ W, Below W3.heap.size W3 W → Sem.run Try.prog (bigLoad 30 ⟨w.heap.size + 1, 0, none⟩) W = .ok (.agg #[.slice v.A v.X.length v.c, .int .i64 v.a, .int .i64 v.b, .int .i64 v.m, .string v.s, .slice v.E v.Y.length v.d]) W := fun W hb => ld30 (n2.below hb n2.lt) rfl
  have d3 : ∀ W, Below W3.heap.size W3 W → Sem.run Try.prog (bigLoad 30 ⟨w1.heap.size, 0, none⟩) W = .ok (.agg #[.slice (some ⟨W0.heap.size + 1 + 1 + 1, 0, none⟩) u.X.length (u.X.length + 9), .int .i64 u.a, .int .i64 u.b, .int .i64 u.m, .string u.s, .slice A3 u.Y.length c3]) W := fun W hb => ld30 (n3.below hb n3.lt) rfl
  have d4 : ∀ W, Below W3.heap.size W3 W → Sem.run Try.prog (bigLoad 30 ⟨w2.heap.size, 0, none⟩) W = .ok (.agg #[.slice A1 u.X.length c1, .int .i64 u.a, .int .i64 u.b, .int .i64 u.m, .string u.s, .slice A2 u.Y.length c2]) W := fun W hb => ld30 (n4.below hb n4.lt) rfl
  clear t1 t2 t3 t4 t5 iu iv io ro1 ro2 ic n1 n2 n3 n4 z1 z2 z3 z4 z5
  generalize ht : eqU u v = t
  have ht2 := ht
  have ht3 : eqU (own u (W0.heap.size + 1 + 1 + 1) A3 c3) v = _ := ht
  have k1 := fun W hb => k8 (W := W) HI.out.2.2.1 HI.out.2.1 ht3 hb
  have k2 := fun W hb => k9 (W := W) HI.out.1 HI.out.2.1 ht2 hb
  have k3 := fun W hb => k9 (W := W) HI.out.2.2.2.1 HI.out.1 (eqU_self HI.out.1 ⟨rfl, rfl, rfl, rfl, rfl, rfl⟩) hb
  have k4 := fun W hb => k8 (W := W) HI.out.2.2.1 HI.out.2.2.2.1 (eqU_self HI.out.2.2.2.1 ⟨rfl, rfl, rfl, rfl, rfl, rfl⟩) hb
  have k5 := fun W hb => k8 (W := W) HI.out.1 HI.out.1 (eqU_self HI.out.1 ⟨rfl, rfl, rfl, rfl, rfl, rfl⟩) hb
  simp only [Upd.cells, own, cop] at k1 k2 k3 k4 k5
  have K1 := Lib.hid k1
  have K2 := Lib.hid k2
  have K3 := Lib.hid k3
  have K4 := Lib.hid k4
  have K5 := Lib.hid k5
  clear k1 k2 k3 k4 k5
  clear ht ht2 ht3
  have hs : Below W3.heap.size W3 W3 := Below.refl _ _
  go_region_held3 (fun w' => Below W3.heap.size W3 w') (first | assumption | exact Below.drew (by assumption) | exact Below.drew (Below.refl _ _)) (first | (go_at_call 9; first | ((with_reducible refine (K2.out _ (by assumption)).mono ?_); rintro e w' ⟨rfl, hb⟩) | ((with_reducible refine (K3.out _ (by assumption)).mono ?_); rintro e w' ⟨rfl, hb⟩)) | (go_at_call 8; first | ((with_reducible refine (K1.out _ (by assumption)).mono ?_); rintro e w' ⟨rfl, hb⟩) | ((with_reducible refine (K4.out _ (by assumption)).mono ?_); rintro e w' ⟨rfl, hb⟩) | ((with_reducible refine (K5.out _ (by assumption)).mono ?_); rintro e w' ⟨rfl, hb⟩)))
  clear K1 K2 K3 K4 K5 d1 d2 d3 d4
  go_upto_region 5 with fail
  have hbl : Below W3.heap.size W3 w' := by assumption
  have hinv : Inv W1 w2.heap.size [.slice A1 u.X.length c1, .int .i64 u.a, .int .i64 u.b, .int .i64 u.m, .string u.s, .slice A2 u.Y.length c2] A1 c1 u.X.length A2 c2 u.Y.length 0 w' :=
    Inv.start HU.out.1 HKey.out (HI.out.2.2.2.2.2.2.2.1.trans (hbl.mono HI.out.2.2.2.2.2.2.2.1.size)) (HI.out.2.2.2.2.2.2.2.2.2.2.1.below hbl HI.out.2.2.2.2.2.2.2.2.2.2.1.lt) (own_below HI.out.2.2.2.2.1 hbl) (own_below HI.out.2.2.2.2.2.1 hbl)
  have hm := HU.out.1.hm
  have hn := HU.out.1.hn
  have HV := Lib.hid hinv
  clear hs hbl hinv
  go_wp2
  go_loopw [7] (fun i wr => ∃ k : Nat, k ≤ u.X.length ∧ i = .int .i64 k ∧ Inv W1 w2.heap.size [.slice A1 u.X.length c1, .int .i64 u.a, .int .i64 u.b, .int .i64 u.m, .string u.s, .slice A2 u.Y.length c2] A1 c1 u.X.length A2 c2 u.Y.length 0 wr) (fun i _ => u.X.length - (intOf i).toNat)
  case atStart => exact ⟨0, Nat.zero_le _, rfl, HV.out⟩
  case round =>
    obtain ⟨k, hk, rfl, hi⟩ := hrel
    have k0 := cell_of (o := 0) hi.blk rfl
    by_cases hlt : k < u.X.length
    · obtain ⟨ga, rfl, z, c1', f1, hst⟩ := hi.at34 hlt
      have HST := Lib.hid hst
      clear hst hi
      go_wp2
      go_region
      go_wp2
      go_roundw
      case rel => exact ⟨k + 1, by omega, by go_num, (HST.out _).drew⟩
      case measure => simp [intOf]; omega
    · have HIV := Lib.hid hi
      clear hi
      go_wp2
      go_loopw [8] (fun i wr => ∃ k : Nat, k ≤ u.Y.length ∧ i = .int .i64 k ∧ Inv W1 w2.heap.size [.slice A1 u.X.length c1, .int .i64 u.a, .int .i64 u.b, .int .i64 u.m, .string u.s, .slice A2 u.Y.length c2] A1 c1 u.X.length A2 c2 u.Y.length k wr) (fun i _ => u.Y.length - (intOf i).toNat)
      case atStart => exact ⟨0, Nat.zero_le _, rfl, HIV.out⟩
      case round =>
        clear k0
        obtain ⟨j, hj, rfl, hi⟩ := hrel
        have k5 := cell_of (o := 5) hi.blk rfl
        by_cases hlt2 : j < u.Y.length
        · obtain ⟨ga, rfl, z, c1', hz, f1, hst⟩ := hi.at44 hlt2
          have HST := Lib.hid hst
          clear hst hi
          go_wp2
          go_roundw
          case rel => exact ⟨j + 1, by omega, by go_num, HST.out _⟩
          case measure => simp [intOf]; omega
        · have HIE := Lib.hid hi
          clear hi HV HIV
          go_upto_region 13 with fail
          clear k5
          have k0 := cell_of (o := 0) HIE.out.blk rfl
          obtain ⟨xs, ho1, _⟩ := HIE.out.row
          have HO1 := Lib.hid ho1
          have hgB : W1.heap.size ≤ w2.heap.size := H5.out.2.2.size
          clear ho1
          obtain ⟨i4, hi4⟩ := info44
          obtain ⟨i3, hi3, hz3, hs3, hb3⟩ := info_parts info34
          have HI4 := Lib.hid hi4
          have HI3 := Lib.hid (show Try.prog.info? 34 = some i3 ∧ i3.zero = some _ ∧ i3.size = 32 ∧ i3.bytes ≤ 1000 from ⟨hi3, hz3, hs3, by omega⟩)
          clear hi4 hi3 hz3 hs3 hb3
          go_upto_region 14 with (at_builtin; go_loud (refine wpList_one rfl (.tmp 71) (.tmp 73) 27 rfl W1.heap.size 34 i3 _ 32 Try.underlying27 HI3.out (by simp [Value.cells]) (by omega) rfl rfl HO1.out rfl rfl zH_one (by omega) HIE.out.bel.size ?_); intro A4 c4 w4 hown4 hg4; have hG := HIE.out.app34 hg4 hgB (.slice A4 (u.X.length + 1) c4); clear hown4 hg4; have HG := Lib.hid hG; clear hG k0; have k0 := cell_of (o := 0) HG.out.2.1 rfl; have f0 := HG.out.2.1.frozen 0)
          clear k0 f0
          generalize hW5 : w4.setCell ⟨w2.heap.size, 0, none⟩ (.slice A4 (u.X.length + 1) c4) = W5 at HG ⊢
          clear hW5
          obtain ⟨ys, ho2⟩ := HG.out.2.2.2
          have HO2 := Lib.hid ho2
          clear ho2
          have k5 := cell_of (o := 5) HG.out.2.2.1 rfl
          go_upto_region 15 with (at_builtin; go_loud (refine wpList_one rfl (.tmp 77) (.tmp 79) 28 rfl W1.heap.size 44 i4 _ 111 Try.underlying28 HI4.out (by simp [Value.cells, zE_length]) (by omega) rfl rfl HO2.out rfl zE_length zE_one (by omega) HG.out.1.size ?_); intro A5 c5 w5 hown5 hg5; have hG := app44 HG.out.1 HG.out.2.2.1 HO2.out hg5 hgB (.slice A5 (u.Y.length + 1) c5); clear hown5 hg5; have HG2 := Lib.hid hG; clear hG k5; have k5 := cell_of (o := 5) HG2.out.2 rfl; have f0 := HG2.out.2.frozen 5)
          clear k5 f0
          generalize hW6 : w5.setCell ⟨w2.heap.size, 5, none⟩ (.slice A5 (u.Y.length + 1) c5) = W6 at HG2 ⊢
          clear hW6
          have z1 := H2.out.2.2.2
          have z2 := H3.out.1.size
          have z3 := H4.out.1.2.2
          have bel6 := HG2.out.1
          have n3 := H4.out.1.1.below bel6 (by omega)
          have n1 := ((H2.out.1.below H3.out.1 (by omega)).below H4.out.1.2.1 (by omega)).below bel6 (by omega)
          have d3 : Sem.run Try.prog (bigLoad 30 ⟨w1.heap.size, 0, none⟩) W6 = .ok (.agg #[.slice (some ⟨W0.heap.size + 1 + 1 + 1, 0, none⟩) u.X.length (u.X.length + 9), .int .i64 u.a, .int .i64 u.b, .int .i64 u.m, .string u.s, .slice A3 u.Y.length c3]) W6 := ld30 n3 rfl
          have d1 : Sem.run Try.prog (bigLoad 30 ⟨w.heap.size, 0, none⟩) W6 = .ok (.agg #[.slice u.A u.X.length u.c, .int .i64 u.a, .int .i64 u.b, .int .i64 u.m, .string u.s, .slice u.E u.Y.length u.d]) W6 := ld30 n1 rfl
          have t1 : Below w.heap.size w w1 := H2.out.2.2.1.trans (H3.out.1.mono H2.out.2.2.1.size)
          have t2 : Below w.heap.size w W1 := t1.trans (H4.out.1.2.1.mono t1.size)
          have t6 : Below w.heap.size w W6 := t2.trans (bel6.mono t2.size)
          have tk : Below w1.heap.size w1 W6 := H4.out.1.2.1.trans (bel6.mono (by omega))
          have hk10 := kept10 (own u (W0.heap.size + 1 + 1 + 1) A3 c3) u W6 (H4.out.2.below bel6) (HU.out.1.below t6) ⟨rfl, rfl, rfl, rfl, rfl, rfl⟩ rfl (H3.out.2.2.1.below tk (H3.out.2.1.lA)) (H3.out.2.2.2.1.below tk (H3.out.2.1.lE)) H3.out.2.2.2.2
          simp only [Upd.cells, own] at hk10
          have HK := Lib.hid hk10
          have HT := Lib.hid t6
          clear z1 z2 z3 bel6 n3 n1 t1 t2 t6 tk hk10
          go_wp2_with fail
          ((with_reducible refine HK.out.mono ?_); rintro e w7 ⟨rfl, hb7⟩)
          have HB7 := Lib.hid hb7
          clear hb7 d1 d3
          go_wp2
          go_ret
          exact ⟨rfl, HT.out.trans (HB7.out.mono HT.out.size)⟩
end Go.Proofs.Ythpnebmolaaapaa.upd
