/- The words of a block, as the document's text makes them. No condition. -/
import Derived.Test.YthpnebmolaaapaaDoorSha2
import Derived.IntWalk
namespace Go.Proofs.YthpnebmolaaapaaDoor.sha
open Go.RowKit eqv chunks
attribute [local go_sem ↓] add_U xor_U or_U and_U shl_U shr_U not_U toSU c8 c32 toLd64 toSt64
attribute [local go_sem] zero64 ld64 st64 run_sU
set_option maxHeartbeats 1000000 in
theorem words (p : Nat → Int) (ad : Addr) (c : Nat) (w : World) (hb : Bytes w ad p) (hlt : ad.block < w.heap.size) :
    Calls Tryd.prog 16 #[.slice (some ad) 64 c] w fun e w' => e = .returned (.agg (cs 64 (sched p)).toArray) ∧ Below w.heap.size w w' := by
  have HB := Lib.hid hb
  clear hb
  go_enter Tryd.func16, Tryd.ntmps16
  go_upto_region 2 with fail
  generalize hW : World.alloc _ _ = W0
  have h2 := two (cs := cs 64 fun _ => 0) (zs := cs 64 fun _ => 0) hW
  clear hW
  have H2 := Lib.hid h2
  clear h2
  go_wp2
  go_loopw [4] (fun i wr => ∃ k : Nat, k ≤ 16 ∧ i = .int .i64 k ∧ Blk wr w.heap.size 59 (cs 64 fun _ => 0) ∧ Blk wr (w.heap.size + 1) 59 (cs 64 (fill p k)) ∧ Below w.heap.size w wr) (fun i _ => 16 - (intOf i).toNat)
  case atStart => exact ⟨0, Nat.zero_le _, rfl, H2.out.1, H2.out.2.1, H2.out.2.2.1⟩
  case round =>
    obtain ⟨k, hk, rfl, b1, b2, hbel⟩ := hrel
    have hby := HB.out.below hbel hlt
    by_cases hlt1 : k < 16
    · have x0 := hby (4 * k) (by omega)
      have x1 : wr.cell? ⟨ad.block, ad.off + (4 * k + 1), none⟩ = some (.int .u8 (p (4 * k + 1))) := by simpa [Addr.add] using hby (4 * k + 1) (by omega)
      have x2 : wr.cell? ⟨ad.block, ad.off + (4 * k + 2), none⟩ = some (.int .u8 (p (4 * k + 2))) := by simpa [Addr.add] using hby (4 * k + 2) (by omega)
      have x3 : wr.cell? ⟨ad.block, ad.off + (4 * k + 3), none⟩ = some (.int .u8 (p (4 * k + 3))) := by simpa [Addr.add] using hby (4 * k + 3) (by omega)
      have y0 := cell_of b2 (cs_get (i := k) (by omega))
      have y1 := b2.frozen k
      have ik : (0 : Int) ≤ (k : Int) := by omega
      have jk : (k : Int) < 64 := by omega
      have i0 : (0 : Int) ≤ 4 * (k : Int) := by omega
      have j0 : 4 * (k : Int) < 64 := by omega
      have i1 : (0 : Int) ≤ 4 * (k : Int) + 1 := by omega
      have j1 : 4 * (k : Int) + 1 < 64 := by omega
      have i2 : (0 : Int) ≤ 4 * (k : Int) + 2 := by omega
      have j2 : 4 * (k : Int) + 2 < 64 := by omega
      have i3 : (0 : Int) ≤ 4 * (k : Int) + 3 := by omega
      have j3 : 4 * (k : Int) + 3 < 64 := by omega
      have t0 : (4 * (k : Int)).toNat = 4 * k := by omega
      have t1 : (4 * (k : Int) + 1).toNat = 4 * k + 1 := by omega
      have t2 : (4 * (k : Int) + 2).toNat = 4 * k + 2 := by omega
      have t3 : (4 * (k : Int) + 3).toNat = 4 * k + 3 := by omega
      have e0 : IntKind.i64.wrap (4 * (k : Int)) = 4 * (k : Int) := IntWalk.i64_in _ (by omega)
      have e1 : IntKind.i64.wrap (4 * (k : Int) + 1) = 4 * (k : Int) + 1 := IntWalk.i64_in _ (by omega)
      have e2 : IntKind.i64.wrap (4 * (k : Int) + 2) = 4 * (k : Int) + 2 := IntWalk.i64_in _ (by omega)
      have e3 : IntKind.i64.wrap (4 * (k : Int) + 3) = 4 * (k : Int) + 3 := IntWalk.i64_in _ (by omega)
      have HI := Lib.hid (And.intro b1 (And.intro b2 hbel))
      clear b1 b2 hbel hby
      go_wp2
      go_still_tail 35, (by kernel_rfl)
      clear x0 x1 x2 x3 i0 j0 i1 j1 i2 j2 i3 j3 t0 t1 t2 t3 e0 e1 e2 e3
      go_wp2
      clear y0 y1
      go_roundw
      case rel =>
        refine ⟨k + 1, by omega, by go_num, HI.out.1.setCell_other (by omega), ?_, (HI.out.2.2.setCell (by simp only; omega) _).drew⟩
        have h := HI.out.2.1.setCell (o := k) (v := U (word p k))
        rw [cs_set] at h
        exact h
      case measure => simp [intOf]; omega
    · have hk16 : k = 16 := by omega
      subst hk16
      have HI := Lib.hid (And.intro b1 (And.intro b2 hbel))
      clear b1 b2 hbel hby hlt1
      rw [show ((16 : Nat) : Int) = 16 from rfl]
      go_wp2
      go_loopw [5, 6, 7, 8, 9] (fun i _ _ _ _ wr => ∃ k : Nat, k ≤ 48 ∧ i = .int .i64 (16 + (k : Int)) ∧ Blk wr w.heap.size 59 (cs 64 fun _ => 0) ∧ Blk wr (w.heap.size + 1) 59 (cs 64 (grow (fill p 16) k)) ∧ Below w.heap.size w wr) (fun i _ _ _ _ _ => 64 - (intOf i).toNat)
      case atStart => exact ⟨0, Nat.zero_le _, by go_num, HI.out.1, HI.out.2.1, HI.out.2.2⟩
      case round =>
        clear HI
        obtain ⟨k, hk, rfl, b1, b2, hbel⟩ := hrel
        by_cases hlt1 : k < 48
        · have y0 := cell_of b2 (cs_get (i := k) (by omega))
          have y1 := cell_of b2 (cs_get (i := k + 1) (by omega))
          have y9 := cell_of b2 (cs_get (i := k + 9) (by omega))
          have y14 := cell_of b2 (cs_get (i := k + 14) (by omega))
          have y16 := cell_of b2 (cs_get (i := 16 + k) (by omega))
          have f16 := b2.frozen (16 + k)
          have e1 : IntKind.i64.wrap (16 + (k : Int) - 15) = (k : Int) + 1 := (IntWalk.i64_in _ (by omega)).trans (by omega)
          have e2 : IntKind.i64.wrap (16 + (k : Int) - 2) = (k : Int) + 14 := (IntWalk.i64_in _ (by omega)).trans (by omega)
          have e7 : IntKind.i64.wrap (16 + (k : Int) - 7) = (k : Int) + 9 := (IntWalk.i64_in _ (by omega)).trans (by omega)
          have e16 : IntKind.i64.wrap (16 + (k : Int) - 16) = (k : Int) := (IntWalk.i64_in _ (by omega)).trans (by omega)
          have hd : decide (16 + (k : Int) < 64) = true := by simp; omega
          have i0 : (0 : Int) ≤ 16 + (k : Int) := by omega
          have j0 : 16 + (k : Int) < 64 := by omega
          have i9 : (0 : Int) ≤ (k : Int) + 9 := by omega
          have j9 : (k : Int) + 9 < 64 := by omega
          have ik : (0 : Int) ≤ (k : Int) := by omega
          have jk : (k : Int) < 64 := by omega
          have t0 : (16 + (k : Int)).toNat = 16 + k := by omega
          have t9 : ((k : Int) + 9).toNat = k + 9 := by omega
          have HI := Lib.hid (And.intro b1 (And.intro b2 hbel))
          clear b1 b2 hbel
          go_upto_region 13 with (go_at_call 17; refine (turned _ _ _ (by omega) (by omega)).mono ?_; rintro e w' ⟨rfl, q, rfl⟩)
          clear y0 y1 y9 y14 y16 f16
          generalize hW : World.drewN wr _ = W
          have b1 : Blk W w.heap.size 59 (cs 64 fun _ => 0) := by rw [← hW]; exact HI.out.1.drewN _
          have b2 : Blk W (w.heap.size + 1) 59 (cs 64 (grow (fill p 16) k)) := by rw [← hW]; exact HI.out.2.1.drewN _
          have hbel : Below w.heap.size w W := by rw [← hW]; exact below_drewN HI.out.2.2 _
          have y0 := cell_of b2 (cs_get (i := k) (by omega))
          have y9 := cell_of b2 (cs_get (i := k + 9) (by omega))
          have y16 := cell_of b2 (cs_get (i := 16 + k) (by omega))
          have f16 := b2.frozen (16 + k)
          clear hW HI
          have HI := Lib.hid (And.intro b1 (And.intro b2 hbel))
          clear b1 b2 hbel
          go_still_tail 15, (by kernel_rfl)
          go_wp2
          clear y0 y9 y16 f16
          go_roundw
          case rel =>
            refine ⟨k + 1, by omega, by go_num, HI.out.1.setCell_other (by omega), ?_, (HI.out.2.2.setCell (by simp only; omega) _).drew⟩
            have h := HI.out.2.1.setCell (o := 16 + k) (v := U (s1 (grow (fill p 16) k (k + 14)) + grow (fill p 16) k (k + 9) + s0 (grow (fill p 16) k (k + 1)) + grow (fill p 16) k k))
            rw [cs_set, grow_ref] at h
            exact h
          case measure => simp [intOf]; omega
        · have hk48 : k = 48 := by omega
          subst hk48
          have a1 := b2.all
          rw [cs_length] at a1
          obtain ⟨a1, a2⟩ := a1
          have hp : mayPut wr w.heap.size 0 (cs 64 (grow (fill p 16) 48)) := ⟨_, _, b1, by simp [cs_length], cs_one _ _⟩
          have hl := cs_length 64 (grow (fill p 16) 48)
          have HI := Lib.hid (And.intro b1 hbel)
          clear b1 b2 hbel
          rw [show ((48 : Nat) : Int) = 48 from rfl]
          go_wp2
          have hq := HI.out.1.put (o := 0) (cs := cs 64 (grow (fill p 16) 48))
          rw [put_all (by rw [cs_length, cs_length])] at hq
          refine bodyPost_ret (v := .agg (cs 64 (grow (fill p 16) 48)).toArray) (ret_blk rfl rfl (by kernel_rfl) ⟨_, Tryd.underlying59, rfl⟩ hq.1 (cs_length _ _)) rfl ⟨rfl, HI.out.2.trans (hq.2.2 _ (Nat.le_refl _))⟩
end Go.Proofs.YthpnebmolaaapaaDoor.sha
