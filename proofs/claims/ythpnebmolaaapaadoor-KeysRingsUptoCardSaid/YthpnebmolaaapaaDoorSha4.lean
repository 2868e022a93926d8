/- One block taken in, as the document's text does it. No condition. -/
import Derived.Test.YthpnebmolaaapaaDoorSha3
namespace Go.Proofs.YthpnebmolaaapaaDoor.sha
open Go.RowKit eqv chunks
attribute [local go_sem ↓] add_U xor_U or_U and_U shl_U shr_U not_U toSU c8 c32 toLd64 toSt64 toLd8 toSt8
attribute [local go_sem ↓] zero64 zero8
attribute [local go_sem] ld64 st64 ld8 st8 run_sU stNew64 cho_or maj_or
theorem quiet_add {P : Program} {f : FuncId} {args : Array Value} {w : World} {a n : Nat} {v : Value}
    (h : Calls P f args (w.drewN (a + n)) fun e w' => e = .returned v ∧ ∃ m, w' = (w.drewN (a + n)).drewN m) :
    Calls P f args (w.drewN (a + n)) fun e w'' => e = .returned v ∧ ∃ m, w'' = w.drewN (a + m) :=
  h.mono fun _ _ ⟨he, m, hm⟩ => ⟨he, n + m, by rw [hm, World.drewN_drewN, Nat.add_assoc]⟩
def vals (v : V8) : List Value := [U v.a, U v.b, U v.c, U v.d, U v.e, U v.f, U v.g, U v.h]
theorem vals_one (v : V8) : ∀ x ∈ vals v, x.oneCell' = true := by
  intro x hx
  simp only [vals, List.mem_cons, List.mem_nil_iff, or_false] at hx
  rcases hx with rfl | rfl | rfl | rfl | rfl | rfl | rfl | rfl <;> rfl
theorem stNew8 {w : World} {g : Nat} {v : V8} {B : Nat → W32} (hg : w.heap.size = g) : Sem.run Tryd.prog (bigStore 52 ⟨g, 0, none⟩ (.agg (vals v).toArray)) (w.alloc (.cells (cs 8 B).toArray 52)) = .ok () (w.alloc (.cells (vals v).toArray 52)) :=
  run_stNew (by kernel_rfl) hg (cs_length _ _) rfl (vals_one _)
theorem vals_part {w : World} {g t : Nat} {v : V8} {rest : List Value} (h : Blk w g t (vals v ++ rest)) : okAt w ⟨g, 0, none⟩ 8 ∧ cellsAt w ⟨g, 0, none⟩ 8 = vals v := Blk.part (pre := []) h
/-- The table of numbers lies there. -/
def Tab (w : World) (g : Nat) : Prop := g < w.heap.size ∧ ∀ i, i < 64 → w.cell? ⟨g, i, none⟩ = some (U (K i))
theorem Tab.below {w w' : World} {g B : Nat} (h : Tab w g) (hb : Below B w w') (hg : g < B) : Tab w' g :=
  ⟨Nat.lt_of_lt_of_le h.1 hb.size, fun i hi => (hb.cell (p := ⟨g, i, none⟩) hg).trans (h.2 i hi)⟩
def bld8 (parts : Array (Nat × Value)) : Sem Value := Instr.build 52 parts
theorem toBld8 (parts : Array (Nat × Value)) : Instr.build 52 parts = bld8 parts := rfl
theorem run_bld8 (a b c d e f g h : W32) (w : World) : (bld8 #[(0, U a), (1, U b), (2, U c), (3, U d), (4, U e), (5, U f), (6, U g), (7, U h)]).run Tryd.prog w = .ok (.agg #[U a, U b, U c, U d, U e, U f, U g, U h]) w := run_build w 52 _ _ (by kernel_rfl)
attribute [local go_sem ↓] toBld8
attribute [local go_sem] run_bld8
theorem rounds_next {K A : Nat → W32} {v r : V8} {k : Nat} (h : rounds K A v k = r) : rounds K A v (k + 1) = rnd r (K k) (A k) := by rw [rounds, h]
theorem mixV_of {v r : V8} {p : Nat → Int} (h : rounds K (sched p) v 64 = r) : mixV v p = v.add r := by rw [mixV, h]
set_option maxRecDepth 100000 in
set_option maxHeartbeats 2000000 in
theorem mixed (v : V8) (p : Nat → Int) (ad : Addr) (c : Nat) (w : World) (hb : Bytes w ad p) (hlt : ad.block < w.heap.size) (hK : Tab w 2) :
    Calls Tryd.prog 14 #[.agg (vals v).toArray, .slice (some ad) 64 c] w fun e w' => e = .returned (.agg (vals (mixV v p)).toArray) ∧ Below w.heap.size w w' := by
  have HB := Lib.hid (And.intro hb hK)
  clear hb hK
  go_enter Tryd.func14, Tryd.ntmps14
  go_upto_region 1 with fail
  generalize hW : World.alloc _ _ = W0
  have h2 := two (cs := vals v) (zs := cs 8 fun _ => 0) hW
  clear hW
  have H2 := Lib.hid (And.intro h2 (HB.out.1.below h2.2.2.1 hlt))
  clear h2
  have hz : ad.block < W0.heap.size := by have := H2.out.1.2.2.2; omega
  go_wp2_with (go_at_call 16; refine (words p ad c W0 H2.out.2 hz).mono ?_; rintro e w1 ⟨rfl, hb1⟩; have HB1 := Lib.hid hb1; clear hb1)
  generalize hW : World.alloc _ _ = W2
  have h1 := one (cs := cs 64 (sched p)) hW
  clear hW
  have z0 := H2.out.1.2.2.2
  have z1 := HB1.out.size
  have n0 := (H2.out.1.1.below HB1.out (by omega)).below h1.2.1 (by omega)
  have n1 := (H2.out.1.2.1.below HB1.out (by omega)).below h1.2.1 (by omega)
  have t1 : Below w.heap.size w w1 := H2.out.1.2.2.1.trans (HB1.out.mono (by omega))
  have t2 : Below w.heap.size w W2 := t1.trans (h1.2.1.mono t1.size)
  have x0 := cell_of (o := 0) n0 rfl
  have x1 := cell_of (o := 1) n0 rfl
  have x2 := cell_of (o := 2) n0 rfl
  have x3 := cell_of (o := 3) n0 rfl
  have x4 := cell_of (o := 4) n0 rfl
  have x5 := cell_of (o := 5) n0 rfl
  have x6 := cell_of (o := 6) n0 rfl
  have x7 := cell_of (o := 7) n0 rfl
  have HN := Lib.hid (And.intro n0 (And.intro n1 (And.intro h1.1 (And.intro t2 (And.intro z0 (And.intro z1 h1.2.2))))))
  clear z0 z1 n0 n1 t1 t2 h1
  go_quiet (fail)
  clear x0 x1 x2 x3 x4 x5 x6 x7
  generalize hW : World.drewN W2 _ = W3
  have n0 : Blk W3 w.heap.size 52 (vals v) := by rw [← hW]; exact HN.out.1.drewN _
  have n1 : Blk W3 (w.heap.size + 1) 52 (cs 8 fun _ => 0) := by rw [← hW]; exact HN.out.2.1.drewN _
  have n2 : Blk W3 w1.heap.size 59 (cs 64 (sched p)) := by rw [← hW]; exact HN.out.2.2.1.drewN _
  have nb : Below w.heap.size w W3 := by rw [← hW]; exact below_drewN HN.out.2.2.2.1 _
  clear hW
  have HN2 := Lib.hid (And.intro n0 (And.intro n1 (And.intro n2 nb)))
  clear n0 n1 n2 nb
  go_wp2
  go_loopw [6, 7, 8, 9, 10, 11, 12, 13, 14, 15, 16] (fun a b c d e f g h i _ _ wr => ∃ k n : Nat, k ≤ 64 ∧ i = .int .i64 k ∧ a = U (rounds K (sched p) v k).a ∧ b = U (rounds K (sched p) v k).b ∧ c = U (rounds K (sched p) v k).c ∧ d = U (rounds K (sched p) v k).d ∧ e = U (rounds K (sched p) v k).e ∧ f = U (rounds K (sched p) v k).f ∧ g = U (rounds K (sched p) v k).g ∧ h = U (rounds K (sched p) v k).h ∧ wr = W3.drewN n) (fun _ _ _ _ _ _ _ _ i _ _ _ => 64 - (intOf i).toNat)
  case atStart => exact ⟨0, 0, Nat.zero_le _, rfl, rfl, rfl, rfl, rfl, rfl, rfl, rfl, rfl, rfl⟩
  case round =>
    obtain ⟨k, n, hk, rfl, rfl, rfl, rfl, rfl, rfl, rfl, rfl, rfl, rfl⟩ := hrel
    generalize hr : rounds K (sched p) v k = r
    have HR := Lib.hid hr
    clear hr
    by_cases hlt1 : k < 64
    · have y0 := cell_of HN2.out.2.2.1 (cs_get (i := k) (by omega))
      have y1 := (HB.out.2.below HN2.out.2.2.2 HB.out.2.1).2 k hlt1
      have ik : (0 : Int) ≤ (k : Int) := by omega
      have jk : (k : Int) < 64 := by omega
      go_wp2
      go_quiet ((go_at_call 17; exact quiet_add (turned _ _ _ (by omega) (by omega))))
      clear y0 y1
      go_wp2_with (go_at_call 17; refine (turned _ _ _ (by omega) (by omega)).mono ?_; rintro e w' ⟨rfl, q, rfl⟩)
      go_roundw
      case rel =>
        have hr := rounds_next HR.out
        refine ⟨k + 1, _, by omega, by go_num, ?_, ?_, ?_, ?_, ?_, ?_, ?_, ?_, rfl⟩ <;> rw [hr] <;> rfl
      case measure => simp [intOf]; omega
    · have hk64 : k = 64 := by omega
      subst hk64
      have hm := mixV_of HR.out
      have HM := Lib.hid hm
      clear hm HR
      generalize hW : World.drewN W3 n = W4
      have n0 : Blk W4 w.heap.size 52 (vals v) := by rw [← hW]; exact HN2.out.1.drewN _
      have n1 : Blk W4 (w.heap.size + 1) 52 (cs 8 fun _ => 0) := by rw [← hW]; exact HN2.out.2.1.drewN _
      have nb : Below w.heap.size w W4 := by rw [← hW]; exact below_drewN HN2.out.2.2.2 _
      have x0 := cell_of (o := 0) n0 rfl
      have x1 := cell_of (o := 1) n0 rfl
      have x2 := cell_of (o := 2) n0 rfl
      have x3 := cell_of (o := 3) n0 rfl
      have x4 := cell_of (o := 4) n0 rfl
      have x5 := cell_of (o := 5) n0 rfl
      have x6 := cell_of (o := 6) n0 rfl
      have x7 := cell_of (o := 7) n0 rfl
      have HN3 := Lib.hid (And.intro n1 nb)
      have hp : mayPut W4 (w.heap.size + 1) 0 [U (v.a + r.a), U (v.b + r.b), U (v.c + r.c), U (v.d + r.d), U (v.e + r.e), U (v.f + r.f), U (v.g + r.g), U (v.h + r.h)] := ⟨_, _, n1, by simp [cs_length], vals_one (v.add r)⟩
      clear n0 n1 nb hW hlt1 hk
      rw [show ((64 : Nat) : Int) = 64 from rfl]
      go_wp2
      clear x0 x1 x2 x3 x4 x5 x6 x7 hp
      have hq := HN3.out.1.put (o := 0) (cs := vals (v.add r))
      rw [put_all (by rw [cs_length]; rfl)] at hq
      refine bodyPost_ret (v := .agg (vals (v.add r)).toArray) (ret_blk rfl rfl (by kernel_rfl) ⟨_, Tryd.underlying52, rfl⟩ hq.1 rfl) rfl ⟨by rw [HM.out], HN3.out.2.trans (hq.2.2 _ (by omega))⟩
end Go.Proofs.YthpnebmolaaapaaDoor.sha
