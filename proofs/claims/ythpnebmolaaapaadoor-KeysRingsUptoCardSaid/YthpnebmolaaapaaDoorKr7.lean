/- KeysRings: the law's walk. No condition. -/
import Derived.Test.YthpnebmolaaapaaDoorKr6
namespace Go.Proofs.YthpnebmolaaapaaDoor.ring
open Go.RowKit eqv chunks sha
attribute [local go_sem ↓] toLdH toAppH toBlsH toBldH toOpH toOpK
attribute [local go_sem] ldH blsH0 blsH1 run_bldH neqH eqlK eqGuardK hsz
set_option maxHeartbeats 2000000 in
theorem law (s : ByteArray) (X : List (List Value)) (A : Option Addr) (c : Nat) (w : World) (hs : s.size ≤ 1048576) (hS : Sl w A 33 X) (hO : ∀ x ∈ X, leafsOk Tryd.prog tsHd x = true) (hH : ∀ x ∈ X, Hd x) (hA : A = none → X = [] ∧ c = 0) (hlt : ∀ ad, A = some ad → ad.block < w.heap.size) (hN : X.length ≤ 1048576)
    (hI : Iv w 1) (hK : Tab w 3) (hI' : Iv w 0) (hK' : Tab w 2) :
    Calls Tryd.prog 3 #[.string s, .slice A X.length c] w fun e w' => e = .returned (.bool true) ∧ Below w.heap.size w w' := by
  have HB := Lib.hid (And.intro hS (And.intro hO (And.intro hH (And.intro hlt (And.intro hI (And.intro hK (And.intro hI' hK')))))))
  clear hO hI hK hI' hK'
  -- the first statement's two appends
  have e0 : Below w.heap.size w (w.alloc (.cells #[] 26)) := (Below.refl _ _).alloc (Nat.le_refl _) _
  obtain ⟨A1, c1, w1, hap1, ho1, hg1⟩ := run_appH (w := w.alloc (.cells #[] 26)) w.heap.size (own0 (Blk.new w 26 []) (Nat.le_refl _)) (hS.keep fun p ⟨ad, e, hp⟩ => e0.cell (by rw [hp]; exact hlt ad e)) hA hH hN (by omega) (by simp)
  rw [Nat.zero_add] at hap1 ho1
  have b1 : Below w.heap.size w w1 := e0.grown hg1 (by simp) (fun k e => by have h := Option.some.inj e; simp only at h; omega)
  obtain ⟨A2, c2, w2, hap2, ho2, hg2⟩ := run_appH (w := w1.alloc (.cells markH.toArray 26)) w.heap.size (ho1.alloc _) (c := 1) (slMark w1) (fun e => by cases e) (fun x h => by simp at h; subst h; exact markH_hd) (by simp) (by omega) (by have := b1.size; simp; omega)
  rw [List.length_singleton] at hap2 ho2
  have b2 : Below w.heap.size w w2 := (b1.alloc b1.size _).grown hg2 (by have := b1.size; simp; omega) (fun k e => (ho1.lt k e).1)
  have hcap := own_cap ho2
  have hL : ∀ x ∈ X ++ [markH], Hd x := fun x hx => (List.mem_append.1 hx).elim (hH x) (fun h => by simp at h; subst h; exact markH_hd)
  have hS2 : Sl w2 A2 33 (X ++ [markH]) := sl_of_own (c := c2) (base := w.heap.size) (e := 26) (by simpa using ho2) (fun x hx => (hL x hx).length)
  have hlt2 : ∀ ad, A2 = some ad → ad.block < w2.heap.size := fun ad e => by
    obtain ⟨g, cap, eA, _, hlt⟩ := ho2.form (by omega)
    cases eA; cases e; exact hlt
  have hlt2' : ∀ ad, A2 = some ad → w.heap.size ≤ ad.block := fun ad e => by
    obtain ⟨g, cap, eA, hg, _⟩ := ho2.form (by omega)
    cases eA; cases e; exact hg
  have hc1 : (X.length : Int) ≤ (c2 : Int) := by omega
  have hc2 : (X.length : Int) + 1 ≤ (c2 : Int) := by omega
  have hc3 : (0 : Int) ≤ (X.length : Int) := by omega
  have hml := markH_length
  have H1 := Lib.hid (And.intro b2 (And.intro hS2 (And.intro hlt2 (And.intro hL hcap))))
  clear e0 ho1 hg1 b1 ho2 hg2 b2 hS2 hlt2 hL hcap hS hH hlt
  go_enter Tryd.func3, Tryd.ntmps3
  go_upto_region 2 with fail
  clear hap1 hap2
  have hp4 := progNew X A2 c2 w2 (sl_front H1.out.2.1) HB.out.2.2.1 H1.out.2.2.1 hN
  have HP := Lib.hid hp4
  clear hp4
  go_wp2_with fail
  refine HP.out.mono ?_
  rintro e w3 ⟨⟨p, hp, rfl⟩, hb3⟩
  have b3 : Below w.heap.size w w3 := H1.out.1.trans (hb3.mono H1.out.1.size)
  have hp5 := refNew X A c w3 (HB.out.1.keep fun q ⟨ad, e, hp⟩ => b3.cell (by rw [hp]; exact HB.out.2.2.2.1 ad e)) HB.out.2.2.1 (fun ad e => Nat.lt_of_lt_of_le (HB.out.2.2.2.1 ad e) b3.size) hN
  have HQ := Lib.hid (And.intro hp5 (And.intro hb3 (And.intro b3 hp)))
  clear hp5 hb3 b3 hp HP
  go_wp2_with fail
  refine HQ.out.1.mono ?_
  rintro e w4 ⟨⟨q, hq, rfl⟩, hb4⟩
  have b4 : Below w.heap.size w w4 := HQ.out.2.2.1.trans (hb4.mono HQ.out.2.2.1.size)
  have s4 : Sl w4 A2 33 (X ++ [markH]) := H1.out.2.1.keep fun r ⟨ad, e, hr⟩ => (hb4.cell (by rw [hr]; exact Nat.lt_of_lt_of_le (H1.out.2.2.1 ad e) HQ.out.2.1.size)).trans (HQ.out.2.1.cell (by rw [hr]; exact H1.out.2.2.1 ad e))
  have l4 : ∀ ad, A2 = some ad → ad.block < w4.heap.size := fun ad e => Nat.lt_of_lt_of_le (H1.out.2.2.1 ad e) (Nat.le_trans HQ.out.2.1.size hb4.size)
  have HC := Lib.hid (And.intro b4 (And.intro s4 (And.intro HQ.out.2.2.2 (And.intro hq (And.intro trivial l4)))))
  clear b4 s4 hq hb4 HQ l4
  go_wp2
  go_loopw [10] (fun i wr => ∃ k : Nat, k ≤ X.length ∧ i = .int .i64 k ∧ Below w4.heap.size w4 wr) (fun i _ => X.length - (intOf i).toNat)
  case atStart => exact ⟨0, Nat.zero_le _, rfl, Below.refl _ _⟩
  case round =>
    obtain ⟨k, hk, rfl, hbr⟩ := hrel
    have t1 : Below w.heap.size w wr := HC.out.1.trans (hbr.mono HC.out.1.size)
    have r1 : Sl wr A2 33 (X ++ [markH]) := HC.out.2.1.keep fun r ⟨ad, e, hr⟩ => hbr.cell (by rw [hr]; exact HC.out.2.2.2.2.2 ad e)
    have r2 : Sl wr A 33 X := HB.out.1.keep fun r ⟨ad, e, hr⟩ => t1.cell (by rw [hr]; exact HB.out.2.2.2.1 ad e)
    by_cases hkl : k < X.length
    · obtain ⟨ad, rfl, _, ok1, ce1, _, _⟩ := holder_at r2 HB.out.2.2.1 hkl
      obtain ⟨ad2, rfl, _, ok2, ce2, _, _⟩ := holder_at (sl_front r1) HB.out.2.2.1 hkl
      have hl1 := ldH (w := wr.drew) (a := ad.add (k * 33)) ok1
      have hl2 := ldH (w := wr.drew) (a := ad2.add (k * 33)) ok2
      rw [show cellsAt wr.drew (ad.add (k * 33)) 33 = ch X k from ce1] at hl1
      rw [show cellsAt wr.drew (ad2.add (k * 33)) 33 = ch X k from ce2] at hl2
      have hok := HB.out.2.1 _ (ch_mem hkl)
      have HR := Lib.hid (And.intro hbr t1)
      clear ok1 ce1 ok2 ce2 r1 r2 hbr t1
      go_wp2
      go_region
      go_wp2
      exact ⟨⟨k + 1, by omega, by go_num, HR.out.1.drew⟩, by simp [intOf]; omega⟩
    · have : k = X.length := by omega
      subst this
      have hat := holder_at (k := X.length) r1 H1.out.2.2.2.1 (by simp)
      obtain ⟨ad2, rfl, hm, _, _, _, _⟩ := hat
      rw [ch_last, markH_au] at hm
      have hd1 := derive s (by omega) wr (HB.out.2.2.2.2.1.below t1 HB.out.2.2.2.2.1.1) (HB.out.2.2.2.2.2.1.below t1 HB.out.2.2.2.2.2.1.1)
      have HD := Lib.hid (And.intro hd1 (And.intro hm (And.intro hbr t1)))
      clear hd1 hm hbr t1 r1 r2
      go_wp2_with fail
      refine HD.out.1.mono ?_
      rintro e w5 ⟨rfl, hb5⟩
      have t5 : Below w.heap.size w w5 := HD.out.2.2.2.trans (hb5.mono HD.out.2.2.2.size)
      have hd2 := derive' s (by omega) w5 (HB.out.2.2.2.2.2.2.1.below t5 HB.out.2.2.2.2.2.2.1.1) (HB.out.2.2.2.2.2.2.2.below t5 HB.out.2.2.2.2.2.2.2.1)
      have HE := Lib.hid (And.intro hd2 (And.intro hb5 t5))
      clear hd2 hb5 t5
      go_wp2_with fail
      refine HE.out.1.mono ?_
      rintro e w6 ⟨rfl, hb6⟩
      have t6 : Below w.heap.size w w6 := HE.out.2.2.trans (hb6.mono HE.out.2.2.size)
      have hl2 : ad2.block < wr.heap.size := Nat.lt_of_lt_of_le (HC.out.2.2.2.2.2 ad2 rfl) HD.out.2.2.1.size
      have hm : w6.cell? (ad2.add (X.length * 33)) = some (.int .i64 77) := by
        rw [hb6.cell (by rw [block_add]; exact Nat.lt_of_lt_of_le hl2 HE.out.2.1.size), HE.out.2.1.cell (by rw [block_add]; exact hl2)]
        exact HD.out.2.1
      have hpk : PtrOk p X := HC.out.2.2.1
      have HF := Lib.hid t6
      clear t6 hb6 hl2 HE HD HC
      by_cases h0 : ringErr X = 0
      · obtain ⟨pa, rfl⟩ : ∃ pa, p = some pa := by
          cases p with
          | none => exact absurd h0 (hpk.1 rfl)
          | some pa => exact ⟨pa, rfl⟩
        clear hpk
        go_wp2
        go_ret
        exact ⟨rfl, HF.out⟩
      · obtain rfl : p = none := hpk.2 h0
        clear hpk
        have hq0 : (ringErr X == 0) = false := by simpa using h0
        go_wp2
        go_ret
        exact ⟨rfl, HF.out⟩
end Go.Proofs.YthpnebmolaaapaaDoor.ring
