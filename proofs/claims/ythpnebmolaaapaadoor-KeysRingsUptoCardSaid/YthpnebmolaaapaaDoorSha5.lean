/- One block taken in by the program. No condition. -/
import Derived.Test.YthpnebmolaaapaaDoorSha4
namespace Go.Proofs.YthpnebmolaaapaaDoor.sha
open Go.RowKit eqv chunks
attribute [local go_sem ↓] add_U xor_U or_U and_U shl_U shr_U not_U toSU c8 c32 toLd64 toSt64 toLd8 toSt8 toBld8 zero64 zero8
attribute [local go_sem] ld64 st64 ld8 st8 run_sU stNew64 stNew8 run_bld8
def vget (v : V8) (k : Nat) : W32 := v.list.getD k 0
def part (v r : V8) (k : Nat) : Nat → W32 := fun j => if j < k then vget v j + vget r j else vget v j
theorem part_at (v r : V8) (k : Nat) : part v r k k = vget v k := by simp [part]
theorem part_next (v r : V8) (k : Nat) : upd (part v r k) k (vget v k + vget r k) = part v r (k + 1) := by
  funext j
  unfold upd part
  rcases Nat.lt_trichotomy j k with h | h | h
  · rw [if_neg (by omega), if_pos h, if_pos (by omega)]
  · subst h
    rw [if_pos rfl, if_pos (by omega)]
  · rw [if_neg (by omega), if_neg (by omega), if_neg (by omega)]
theorem part_all (v r : V8) : cs 8 (part v r 8) = vals (v.add r) := rfl
theorem quiet_add_same {P : Program} {f : FuncId} {args : Array Value} {w : World} {a n : Nat} {v : Value}
    (h : Calls P f args (w.drewN (a + n)) fun e w' => e = .returned v ∧ w' = w.drewN (a + n)) :
    Calls P f args (w.drewN (a + n)) fun e w'' => e = .returned v ∧ ∃ m, w'' = w.drewN (a + m) :=
  h.mono fun _ _ ⟨he, hm⟩ => ⟨he, n, hm⟩
set_option maxRecDepth 100000 in
set_option maxHeartbeats 2000000 in
theorem mix (v : V8) (rest : List Value) (p : Nat → Int) (g : Nat) (ad : Addr) (c : Nat) (w : World) (hg : Blk w g 56 (vals v ++ rest)) (hb : Bytes w ad p) (hlt : ad.block < w.heap.size) (hK : Tab w 3) (hgK : 3 ≠ g) :
    Calls Tryd.prog 15 #[.pointer (some ⟨g, 0, none⟩), .slice (some ad) 64 c] w fun e w' => e = .returned (.tuple #[]) ∧ Blk w' g 56 (vals (mixV v p) ++ rest) ∧ w.grownBy w' (some g) := by
  have HB := Lib.hid (And.intro hb (And.intro hK (And.intro hg hgK)))
  clear hb hK hg hgK
  go_enter Tryd.func15, Tryd.ntmps15
  go_upto_region 1 with fail
  generalize hW : World.alloc _ _ = W0
  have h2 := one (cs := cs 64 fun _ => 0) hW
  clear hW
  have H2 := Lib.hid h2
  clear h2
  go_wp2
  go_loopw [5, 16] (fun _ i wr => ∃ k : Nat, k ≤ 16 ∧ i = .int .i64 k ∧ Blk wr w.heap.size 59 (cs 64 (fill p k)) ∧ Below w.heap.size w wr) (fun _ i _ => 16 - (intOf i).toNat)
  case atStart => exact ⟨0, Nat.zero_le _, rfl, H2.out.1, H2.out.2.1⟩
  case round =>
    obtain ⟨k, hk, rfl, b2, hbel⟩ := hrel
    have hby := HB.out.1.below hbel hlt
    by_cases hlt1 : k < 16
    · have x0 := hby (4 * k) (by omega)
      have x1 : wr.cell? ⟨ad.block, ad.off + (4 * k + 1), none⟩ = some (.int .u8 (p (4 * k + 1))) := by simpa [Addr.add] using hby (4 * k + 1) (by omega)
      have x2 : wr.cell? ⟨ad.block, ad.off + (4 * k + 2), none⟩ = some (.int .u8 (p (4 * k + 2))) := by simpa [Addr.add] using hby (4 * k + 2) (by omega)
      have x3 : wr.cell? ⟨ad.block, ad.off + (4 * k + 3), none⟩ = some (.int .u8 (p (4 * k + 3))) := by simpa [Addr.add] using hby (4 * k + 3) (by omega)
      have y0 := cell_of b2 (cs_get (i := k) (by omega))
      have y1 := b2.frozen k
      have ik : (0 : Int) ≤ (k : Int) := by omega
      have jk : (k : Int) < 64 := by omega
      have i0 : (0 : Int) ≤ 4 * (k : Int) := by omega
      have j0 : 4 * (k : Int) < 64 := by omega
      have i1 : (0 : Int) ≤ 4 * (k : Int) + 1 := by omega
      have j1 : 4 * (k : Int) + 1 < 64 := by omega
      have i2 : (0 : Int) ≤ 4 * (k : Int) + 2 := by omega
      have j2 : 4 * (k : Int) + 2 < 64 := by omega
      have i3 : (0 : Int) ≤ 4 * (k : Int) + 3 := by omega
      have j3 : 4 * (k : Int) + 3 < 64 := by omega
      have t0 : (4 * (k : Int)).toNat = 4 * k := by omega
      have t1 : (4 * (k : Int) + 1).toNat = 4 * k + 1 := by omega
      have t2 : (4 * (k : Int) + 2).toNat = 4 * k + 2 := by omega
      have t3 : (4 * (k : Int) + 3).toNat = 4 * k + 3 := by omega
      have e0 : IntKind.i64.wrap (4 * (k : Int)) = 4 * (k : Int) := IntWalk.i64_in _ (by omega)
      have e1 : IntKind.i64.wrap (4 * (k : Int) + 1) = 4 * (k : Int) + 1 := IntWalk.i64_in _ (by omega)
      have e2 : IntKind.i64.wrap (4 * (k : Int) + 2) = 4 * (k : Int) + 2 := IntWalk.i64_in _ (by omega)
      have e3 : IntKind.i64.wrap (4 * (k : Int) + 3) = 4 * (k : Int) + 3 := IntWalk.i64_in _ (by omega)
      have HI := Lib.hid (And.intro b2 hbel)
      clear b2 hbel hby
      go_wp2
      go_still_tail 35, (by kernel_rfl)
      clear x0 x1 x2 x3 i0 j0 i1 j1 i2 j2 i3 j3 t0 t1 t2 t3 e0 e1 e2 e3
      go_wp2
      clear y0 y1
      go_roundw
      case rel =>
        refine ⟨k + 1, by omega, by go_num, ?_, (HI.out.2.setCell (by simp only; omega) _).drew⟩
        have h := HI.out.1.setCell (o := k) (v := U (word p k))
        rw [cs_set] at h
        exact h
      case measure => simp [intOf]; omega
    · have hk16 : k = 16 := by omega
      subst hk16
      have HI := Lib.hid (And.intro b2 hbel)
      clear b2 hbel hby hlt1
      rw [show ((16 : Nat) : Int) = 16 from rfl]
      go_wp2
      go_loopw [6, 7, 8] (fun i _ _ wr => ∃ k : Nat, k ≤ 48 ∧ i = .int .i64 (16 + (k : Int)) ∧ Blk wr w.heap.size 59 (cs 64 (grow (fill p 16) k)) ∧ Below w.heap.size w wr) (fun i _ _ _ => 64 - (intOf i).toNat)
      case atStart => exact ⟨0, Nat.zero_le _, by go_num, HI.out.1, HI.out.2⟩
      case round =>
        clear HI
        obtain ⟨k, hk, rfl, b2, hbel⟩ := hrel
        by_cases hlt1 : k < 48
        · have y0 := cell_of b2 (cs_get (i := k) (by omega))
          have y1 := cell_of b2 (cs_get (i := k + 1) (by omega))
          have y9 := cell_of b2 (cs_get (i := k + 9) (by omega))
          have y14 := cell_of b2 (cs_get (i := k + 14) (by omega))
          have y16 := cell_of b2 (cs_get (i := 16 + k) (by omega))
          have f16 := b2.frozen (16 + k)
          have e1 : IntKind.i64.wrap (16 + (k : Int) - 15) = (k : Int) + 1 := (IntWalk.i64_in _ (by omega)).trans (by omega)
          have e2 : IntKind.i64.wrap (16 + (k : Int) - 2) = (k : Int) + 14 := (IntWalk.i64_in _ (by omega)).trans (by omega)
          have e7 : IntKind.i64.wrap (16 + (k : Int) - 7) = (k : Int) + 9 := (IntWalk.i64_in _ (by omega)).trans (by omega)
          have e16 : IntKind.i64.wrap (16 + (k : Int) - 16) = (k : Int) := (IntWalk.i64_in _ (by omega)).trans (by omega)
          have hd : decide (16 + (k : Int) < 64) = true := by simp; omega
          have i0 : (0 : Int) ≤ 16 + (k : Int) := by omega
          have j0 : 16 + (k : Int) < 64 := by omega
          have i1 : (0 : Int) ≤ (k : Int) + 1 := by omega
          have j1 : (k : Int) + 1 < 64 := by omega
          have i9 : (0 : Int) ≤ (k : Int) + 9 := by omega
          have j9 : (k : Int) + 9 < 64 := by omega
          have i14 : (0 : Int) ≤ (k : Int) + 14 := by omega
          have j14 : (k : Int) + 14 < 64 := by omega
          have ik : (0 : Int) ≤ (k : Int) := by omega
          have jk : (k : Int) < 64 := by omega
          have t0 : (16 + (k : Int)).toNat = 16 + k := by omega
          have t1 : ((k : Int) + 1).toNat = k + 1 := by omega
          have t9 : ((k : Int) + 9).toNat = k + 9 := by omega
          have t14 : ((k : Int) + 14).toNat = k + 14 := by omega
          have HI := Lib.hid (And.intro b2 hbel)
          clear b2 hbel
          go_upto_region 9 with fail
          go_quiet (fail)
          go_upto_region 10 with fail
          clear y0 y1 y9 y14 y16 f16
          generalize hW : World.drewN wr _ = W
          have b2 : Blk W w.heap.size 59 (cs 64 (grow (fill p 16) k)) := by rw [← hW]; exact HI.out.1.drewN _
          have hbel : Below w.heap.size w W := by rw [← hW]; exact below_drewN HI.out.2 _
          have y0 := cell_of b2 (cs_get (i := k) (by omega))
          have y9 := cell_of b2 (cs_get (i := k + 9) (by omega))
          have y16 := cell_of b2 (cs_get (i := 16 + k) (by omega))
          have f16 := b2.frozen (16 + k)
          clear hW HI
          have HI := Lib.hid (And.intro b2 hbel)
          clear b2 hbel
          go_still_tail 29, (by kernel_rfl)
          still_call (rotr _ _ 7 _ (by decide))
          repeat still_step
          still_call (rotr _ _ 18 _ (by decide))
          repeat still_step
          still_call (rotr _ _ 17 _ (by decide))
          repeat still_step
          still_call (rotr _ _ 19 _ (by decide))
          repeat still_step
          refine wpStill_nil ?_
          go_wp2
          clear y0 y9 y16 f16
          go_roundw
          case rel =>
            refine ⟨k + 1, by omega, by go_num, ?_, (HI.out.2.setCell (by simp only; omega) _).drew⟩
            have h := HI.out.1.setCell (o := 16 + k) (v := U (grow (fill p 16) k k + grow (fill p 16) k (k + 9) + s0 (grow (fill p 16) k (k + 1)) + s1 (grow (fill p 16) k (k + 14))))
            rw [cs_set] at h
            exact h
          case measure => simp [intOf]; omega
        · have hk48 : k = 48 := by omega
          subst hk48
          rw [show ((48 : Nat) : Int) = 48 from rfl, show (16 + 48 : Int) = 64 from rfl]
          have hg2 := HB.out.2.2.1.below hbel HB.out.2.2.1.lt
          obtain ⟨q1, q2⟩ := vals_part hg2
          have HI := Lib.hid (And.intro b2 (And.intro hbel hg2))
          clear b2 hbel hg2
          go_upto_region 12 with fail
          clear q1 q2
          have hws := HI.out.2.1.size
          generalize hS : wr.heap.size = s
          generalize hW : World.alloc _ _ = W1
          have h3 := one (cs := vals v) hW
          rw [hS] at h3
          have a1 : Blk W1 w.heap.size 59 (cs 64 (sched p)) := HI.out.1.below h3.2.1 (by have := HI.out.1.lt; omega)
          have a2 := HI.out.2.2.below h3.2.1 (by have := HI.out.2.2.lt; omega)
          have a3 : Below w.heap.size w W1 := HI.out.2.1.trans (h3.2.1.mono (by omega))
          have a4 := HB.out.2.1.below a3 HB.out.2.1.1
          have a5 : w.heap.size < s := by have := HI.out.1.lt; omega
          have a6 : g < w.heap.size := HB.out.2.2.1.lt
          have HV := Lib.hid (And.intro h3 (And.intro a1 (And.intro a2 (And.intro a3 (And.intro a4 (And.intro a5 a6))))))
          clear hW h3 a1 a2 a3 a4 a5 a6 hS hws HI hlt1 hk
          go_wp2
          go_loopw [10, 11, 12, 13, 14, 100] (fun _ _ _ _ _ i wr => ∃ k : Nat, k ≤ 64 ∧ i = .int .i64 k ∧ Blk wr s 52 (vals (rounds K (sched p) v k)) ∧ Below s W1 wr) (fun _ _ _ _ _ i _ => 64 - (intOf i).toNat)
          case atStart => exact ⟨0, Nat.zero_le _, rfl, HV.out.1.1, Below.refl _ _⟩
          case round =>
            obtain ⟨k, hk, rfl, b, hbel⟩ := hrel
            generalize hr : rounds K (sched p) v k = r
            rw [hr] at b
            by_cases hlt1 : k < 64
            · have x0 := cell_of (o := 0) b rfl
              have x1 := cell_of (o := 1) b rfl
              have x2 := cell_of (o := 2) b rfl
              have x3 := cell_of (o := 3) b rfl
              have x4 := cell_of (o := 4) b rfl
              have x5 := cell_of (o := 5) b rfl
              have x6 := cell_of (o := 6) b rfl
              have x7 := cell_of (o := 7) b rfl
              have y0 := cell_of (HV.out.2.1.below hbel HV.out.2.2.2.2.2.1) (cs_get (i := k) hlt1)
              have y1 := (HV.out.2.2.2.2.1.below hbel (by have := HV.out.2.2.2.2.2.1; have := HB.out.2.1.1; omega)).2 k hlt1
              have ik : (0 : Int) ≤ (k : Int) := by omega
              have jk : (k : Int) < 64 := by omega
              have HI := Lib.hid (And.intro b (And.intro hbel hr))
              clear b hbel hr
              go_wp2
              go_quiet (fail)
              go_upto_region 16 with fail
              go_quiet ((go_at_call 18; first | exact quiet_add_same (rotr _ _ 6 _ (by decide)) | exact quiet_add_same (rotr _ _ 11 _ (by decide)) | exact quiet_add_same (rotr _ _ 25 _ (by decide))))
              go_upto_region 17 with fail
              go_quiet ((go_at_call 18; first | exact quiet_add_same (rotr _ _ 2 _ (by decide)) | exact quiet_add_same (rotr _ _ 13 _ (by decide)) | exact quiet_add_same (rotr _ _ 22 _ (by decide))))
              clear x0 x1 x2 x3 x4 x5 x6 x7 y0 y1
              simp only [World.drewN_drewN]
              generalize hW : World.drewN wr _ = W
              have b : Blk W s 52 (vals r) := by rw [← hW]; exact HI.out.1.drewN _
              have hbel : Below s W1 W := by rw [← hW]; exact below_drewN HI.out.2.1 _
              clear hW
              have x1 := cell_of (o := 1) b rfl
              have x2 := cell_of (o := 2) b rfl
              have x3 := cell_of (o := 3) b rfl
              have x5 := cell_of (o := 5) b rfl
              have x6 := cell_of (o := 6) b rfl
              have hp : mayPut W s 0 (vals (rnd r (K k) (sched p k))) := ⟨_, _, b, Nat.le_refl _, vals_one _⟩
              simp only [vals, rnd, t1, t2, cho, maj] at hp
              have HI2 := Lib.hid (And.intro b hbel)
              clear b hbel
              go_wp2
              clear x1 x2 x3 x5 x6 hp
              go_roundw
              case rel =>
                have hq := HI2.out.1.put (o := 0) (cs := vals (rnd r (K k) (sched p k)))
                rw [put_all (cs := vals r) (ds := vals (rnd r (K k) (sched p k))) rfl] at hq
                exact ⟨k + 1, by omega, by go_num, by rw [rounds_next HI.out.2.2]; exact hq.1, HI2.out.2.trans (hq.2.2 s (Nat.le_refl _))⟩
              case measure => simp [intOf]; omega
            · have hk64 : k = 64 := by omega
              subst hk64
              rw [show ((64 : Nat) : Int) = 64 from rfl]
              have hm := mixV_of hr
              have c1 := HV.out.2.2.1.below hbel (by have := HV.out.2.2.2.2.2; omega)
              have hbel2 := HV.out.2.2.2.1.trans (hbel.mono (by have := HV.out.2.2.2.2.2; omega))
              have HI := Lib.hid (And.intro b (And.intro hbel2 (And.intro hm c1)))
              clear b hbel hr hm c1 hbel2 hlt1 hk
              go_wp2
              go_loopw [15, 180] (fun _ i w' => ∃ k : Nat, k ≤ 8 ∧ i = .int .i64 k ∧ Blk w' g 56 (cs 8 (part v r k) ++ rest) ∧ Blk w' s 52 (vals r) ∧ w.grownBy w' (some g)) (fun _ i _ => 8 - (intOf i).toNat)
              case atStart => exact ⟨0, Nat.zero_le _, rfl, HI.out.2.2.2, HI.out.1, grown_below HI.out.2.1⟩
              case round =>
                obtain ⟨k, hk, rfl, b, c, hgr⟩ := hrel
                by_cases hlt1 : k < 8
                · have x0 := cell_of (o := k) b (by rw [List.getElem?_append_left (by rw [cs_length]; exact hlt1)]; exact cs_get hlt1)
                  have f0 := b.frozen k
                  have y0 := cell_of (o := k) c (cs_get (A := vget r) hlt1)
                  have ik : (0 : Int) ≤ (k : Int) := by omega
                  have jk : (k : Int) < 8 := by omega
                  rw [part_at] at x0
                  have HJ := Lib.hid (And.intro b (And.intro c hgr))
                  clear b c hgr
                  go_wp2
                  go_still_tail 13, (by kernel_rfl)
                  go_wp2
                  clear x0 y0 f0
                  go_roundw
                  case rel =>
                    refine ⟨k + 1, by omega, by go_num, ?_, (HJ.out.2.1.setCell_other (by have := HV.out.2.2.2.2.2; omega)).drew, grown_drew (grown_setCell HJ.out.2.2 (.inl rfl) _)⟩
                    have h := HJ.out.1.setCell (o := k) (v := U (vget v k + vget r k))
                    rw [List.set_append_left _ _ (by rw [cs_length]; exact hlt1), cs_set, part_next] at h
                    exact h
                  case measure => simp [intOf]; omega
                · have hk8 : k = 8 := by omega
                  subst hk8
                  have HJ := Lib.hid (And.intro b hgr)
                  clear b c hgr
                  go_wp2
                  go_end0
                  exact ⟨rfl, by rw [HI.out.2.2.1, ← part_all]; exact HJ.out.1, HJ.out.2⟩
end Go.Proofs.YthpnebmolaaapaaDoor.sha
