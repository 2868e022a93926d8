/- The program's digest.Sum. No condition. -/
import Derived.Test.YthpnebmolaaapaaDoorSha9
namespace Go.Proofs.YthpnebmolaaapaaDoor.sha
open Go.RowKit eqv chunks
attribute [local go_sem ↓] toLd43 toSt43 zero43
attribute [local go_sem] ld43 st43
set_option maxHeartbeats 1000000 in
theorem digestSum (m : List Int) (A : Option Addr) (c : Nat) (w : World) (hb : Bs w A m) (hlt : ∀ ad, A = some ad → ad.block < w.heap.size) (hc : m.length ≤ c) (hN : m.length ≤ 999999000) (hI : Iv w 1) (hK : Tab w 3) :
    Calls Tryd.prog 9 #[.slice A m.length c] w fun e w' => e = .returned (.agg (u8s (hash m)).toArray) ∧ Below w.heap.size w w' := by
  have HB := Lib.hid (And.intro hb (And.intro hlt (And.intro hc (And.intro hN (And.intro hI hK)))))
  clear hb hlt hc hN hI hK
  go_enter Tryd.func9, Tryd.ntmps9
  go_upto_region 1 with fail
  generalize hW : World.alloc _ _ = W0
  have h1 := one (cs := u8s z32) hW
  clear hW
  have H1 := Lib.hid h1
  clear h1
  have hn := new W0 (HB.out.2.2.2.2.1.below H1.out.2.1 HB.out.2.2.2.2.1.1)
  have HN := Lib.hid hn
  clear hn
  go_wp2_with fail
  refine HN.out.mono ?_
  rintro e w1 ⟨rfl, hh, hbel, hs⟩
  have t1 : Below w.heap.size w w1 := H1.out.2.1.trans (hbel.mono H1.out.2.1.size)
  have hw := write W0.heap.size [] m A c w1 hh (HB.out.1.below t1 HB.out.2.1) (fun ad e => by
    have := HB.out.2.1 ad e
    have := H1.out.2.2
    omega) HB.out.2.2.1 (by simp; have := HB.out.2.2.2.1; omega) (HB.out.2.2.2.2.2.below t1 HB.out.2.2.2.2.2.1) (by have := HB.out.2.2.2.2.2.1; have := H1.out.2.2; omega)
  rw [List.nil_append] at hw
  have HW := Lib.hid (And.intro hw (And.intro hbel (And.intro hs t1)))
  clear hw hh hbel hs t1
  go_wp2_with fail
  refine HW.out.1.mono ?_
  rintro e w2 ⟨rfl, hh, hg⟩
  have t2 : Below w.heap.size w w2 := HW.out.2.2.2.grown hg HW.out.2.2.2.size (fun k e => by cases e; have := H1.out.2.2; omega)
  have b0 := (H1.out.1.below HW.out.2.1 (by have := H1.out.2.2; omega))
  have b1 := blk_grown b0 hg (by simp only [ne_eq, Option.some.injEq]; have := H1.out.2.2; omega)
  have hsum := sumH W0.heap.size m w2 hh HB.out.2.2.2.1 (HB.out.2.2.2.2.2.below t2 HB.out.2.2.2.2.2.1)
  have HS := Lib.hid (And.intro hsum (And.intro t2 b1))
  clear hsum hh hg t2 b0 b1
  go_wp2_with fail
  refine HS.out.1.mono ?_
  rintro e w3 ⟨rfl, hb3⟩
  have t3 := HS.out.2.1.trans (hb3.mono HS.out.2.1.size)
  have b3 := HS.out.2.2.below hb3 HS.out.2.2.lt
  have hl : (u8s (hash m)).length = 32 := by rw [u8s_length]; rfl
  have hp : mayPut w3 w.heap.size 0 (u8s (hash m)) := ⟨_, _, b3, by rw [hl, u8s_length]; exact Nat.le_refl _, u8s_one _⟩
  have HE := Lib.hid (And.intro t3 (And.intro b3 hl))
  clear t3 b3 hb3
  go_wp2
  have hq := HE.out.2.1.put (o := 0) (cs := u8s (hash m))
  rw [put_all (cs := u8s z32) (ds := u8s (hash m)) (by rw [HE.out.2.2]; rfl)] at hq
  refine bodyPost_ret (v := .agg (u8s (hash m)).toArray) (ret_blk rfl rfl (by kernel_rfl) ⟨_, Tryd.underlying43, rfl⟩ hq.1 HE.out.2.2) rfl ⟨rfl, HE.out.1.trans (hq.2.2 _ (Nat.le_refl _))⟩
end Go.Proofs.YthpnebmolaaapaaDoor.sha
