/- KeysRings: the document's NewRing. No condition. -/
import Derived.Test.YthpnebmolaaapaaDoorKr3
namespace Go.Proofs.YthpnebmolaaapaaDoor.ring
open Go.RowKit eqv chunks sha
attribute [local go_sem ↓] toLdK toStK zeroK toLdH toStH zeroH toAppH toBlsH
attribute [local go_sem] ldK stK ldH stNewH stNewK blsH0 blsH1 hsz
/-- The document's ring of the first k holders. -/
def Rg (B : Nat) (w : World) (X : List (List Value)) (k : Nat) (wr : World) : Prop :=
  ∃ A c, Blk wr B 41 [.slice A k c] ∧ wr.ownsRow (B + 1) 26 33 (.slice A k c) k (X.take k).flatten ∧ Below B w wr
/-- There is a ring just if nothing was refused. -/
def PtrOk (p : Option Addr) (X : List (List Value)) : Prop := p = none ↔ ringErr X ≠ 0
theorem ptr_bad {X : List (List Value)} (h : ringErr X ≠ 0) : PtrOk none X := ⟨fun _ => h, fun _ => rfl⟩
theorem ptr_ok {X : List (List Value)} (h : ringErr X = 0) (a : Addr) : PtrOk (some a) X := ⟨fun e => by (cases e), fun e => absurd h e⟩
theorem rg_sl {B : Nat} {wr : World} {X : List (List Value)} {k : Nat} {A : Option Addr} {c : Nat} (hk : k ≤ X.length) (hX : ∀ x ∈ X, Hd x) (h : wr.ownsRow (B + 1) 26 33 (.slice A k c) k (X.take k).flatten) : Sl wr A 33 (X.take k) := by
  refine sl_of_own (base := B + 1) (e := 26) (c := c) ?_ fun x hx => (hX x (List.mem_of_mem_take hx)).length
  rw [List.length_take, Nat.min_eq_left hk]
  exact h
theorem take_ch {X : List (List Value)} {k : Nat} (hk : k < X.length) : X.take k ++ [ch X k] = X.take (k + 1) := by
  rw [List.take_add_one, List.getElem?_eq_getElem hk]
  unfold ch
  rw [List.getD_eq_getElem?_getD, List.getElem?_eq_getElem hk]
  rfl
set_option maxHeartbeats 1000000 in
theorem refNew (X : List (List Value)) (A : Option Addr) (c : Nat) (w : World) (hS : Sl w A 33 X) (hH : ∀ x ∈ X, Hd x) (hlt : ∀ ad, A = some ad → ad.block < w.heap.size) (hN : X.length ≤ 1048576) :
    Calls Tryd.prog 5 #[.slice A X.length c] w fun e w' => (∃ p, PtrOk p X ∧ e = .returned (.tuple #[.pointer p, .int .i64 (ringErr X)])) ∧ Below w.heap.size w w' := by
  have HB := Lib.hid (And.intro hS (And.intro hH hlt))
  clear hS hH hlt
  go_enter Tryd.func5, Tryd.ntmps5
  go_upto_region 2 with fail
  generalize hW : World.alloc _ _ = W0
  have h1 := one (cs := [.slice none 0 0]) hW
  clear hW
  have H1 := Lib.hid h1
  clear h1
  go_wp2
  go_loopw [5] (fun i wr => ∃ k : Nat, k ≤ X.length ∧ i = .int .i64 k ∧ (∀ j, j < k → bad (ch X j) = false) ∧ Blk wr w.heap.size 41 [.slice none 0 0] ∧ Below w.heap.size w wr) (fun i _ => X.length - (intOf i).toNat)
  case atStart => exact ⟨0, Nat.zero_le _, rfl, fun j h => by omega, H1.out.1, H1.out.2.1⟩
  case round =>
    obtain ⟨k, hk, rfl, hno, hb, hbel⟩ := hrel
    by_cases hkl : k < X.length
    · have hS2 : Sl wr A 33 X := HB.out.1.keep fun p ⟨ad, e, hp⟩ => hbel.cell (by rw [hp]; exact HB.out.2.2 ad e)
      have hat := holder_at hS2 HB.out.2.1 hkl
      obtain ⟨ad, rfl, hca, _, _, _, _⟩ := hat
      have hq := Lib.hid (And.intro hno (And.intro hb hbel))
      clear hno hb hbel hS2
      by_cases h1 : au (ch X k) < 1
      · have hbad : bad (ch X k) = true := by unfold bad; simp [h1]
        go_wp2
        have he := err_bad (bad_any hkl hbad)
        exact bodyPost_ret (v := .tuple #[.pointer none, .int .i64 51]) (by simp [results, Tryd.results5, go_sem]) rfl ⟨⟨none, ptr_bad (by rw [he]; decide), by rw [he]⟩, hq.out.2.2⟩
      · by_cases h2 : au (ch X k) > 4294967295
        · have hbad : bad (ch X k) = true := by unfold bad; simp; omega
          go_wp2
          have he := err_bad (bad_any hkl hbad)
          exact bodyPost_ret (v := .tuple #[.pointer none, .int .i64 51]) (by simp [results, Tryd.results5, go_sem]) rfl ⟨⟨none, ptr_bad (by rw [he]; decide), by rw [he]⟩, hq.out.2.2⟩
        · have hbad : bad (ch X k) = false := by unfold bad; simp; omega
          go_wp2
          refine ⟨⟨k + 1, by omega, by go_num, fun j hj => ?_, hq.out.2.1, hq.out.2.2⟩, by simp [intOf]; omega⟩
          rcases Nat.lt_or_ge j k with h | h
          · exact hq.out.1 j h
          · obtain rfl : j = k := by omega
            exact hbad
    · have : k = X.length := by omega
      subst this
      have hgood := bad_none hno
      have hq := Lib.hid (And.intro hgood (And.intro hb hbel))
      clear hno hb hbel hgood
      go_wp2
      go_loopw [6] (fun i wx => ∃ k : Nat, k ≤ X.length ∧ i = .int .i64 k ∧ (∀ j, j < k → dupAt X j = false) ∧ Rg w.heap.size w X k wx) (fun i _ => X.length - (intOf i).toNat)
      case atStart => exact ⟨0, Nat.zero_le _, rfl, fun j h => by omega, none, 0, hq.out.2.1, World.ownsRow_nil _ _ _ _, hq.out.2.2⟩
      case round =>
        obtain ⟨k, hk, rfl, hno, A1, c1, hb, ho, hbel⟩ := hrel
        by_cases hkl : k < X.length
        · have hS2 : Sl wr A 33 X := HB.out.1.keep fun p ⟨ad, e, hp⟩ => hbel.cell (by rw [hp]; exact HB.out.2.2 ad e)
          have hat := holder_at hS2 HB.out.2.1 hkl
          obtain ⟨ad, rfl, hca, _, _, _, _⟩ := hat
          have hlook := look w.heap.size A1 (X.take k) c1 (au (ch X k)) wr (by rw [List.length_take, Nat.min_eq_left hk]; exact hb) (rg_sl hk HB.out.2.1 ho) (fun x hx => HB.out.2.1 x (List.mem_of_mem_take hx)) (fun ad e => by
            rcases Nat.eq_zero_or_pos k with h0 | h0
            · subst h0
              rcases ho.2 with ⟨h1, _⟩ | ⟨g, cap, cur, h1, _, hh, _⟩
              · cases h1; cases e
              · cases h1; cases e; exact (Array.getElem?_eq_some_iff.1 hh).1
            · obtain ⟨g, cap, eA, _, hlt⟩ := ho.form h0
              cases eA; cases e; exact hlt) (by rw [List.length_take]; omega)
          have hr := Lib.hid (And.intro hno (And.intro hb (And.intro ho (And.intro hbel hlook))))
          clear hno hb hbel hS2 ho hlook
          go_wp2_with fail
          refine hr.out.2.2.2.2.mono ?_
          rintro e w1 ⟨⟨ks, hks, hk1, rfl⟩, hb1⟩
          have hkk : K32 ks := ⟨hks, hk1⟩
          clear hks hk1
          have t1 := hr.out.2.2.2.1.trans (hb1.mono hr.out.2.2.2.1.size)
          have b1 := hr.out.2.1.below hb1 hr.out.2.1.lt
          have o1 := own_below hr.out.2.2.1 hb1
          have hr1 := Lib.hid (And.intro t1 (And.intro b1 o1))
          clear t1 b1 o1 hb1
          cases hd : (X.take k).any (fun x => au x == au (ch X k))
          · go_wp2
            generalize hV : World.alloc w1 _ = V
            have h1 := one hV
            have hb := hr1.out.2.1.below h1.2.1 hr1.out.2.1.lt
            have ho := own_below hr1.out.2.2 h1.2.1
            have hbel := hr1.out.1.trans (h1.2.1.mono hr1.out.1.size)
            clear hV h1 hr1
            have hS2 : Sl V (some ad) 33 X := HB.out.1.keep fun p ⟨ad, e, hp⟩ => hbel.cell (by rw [hp]; exact HB.out.2.2 ad e)
            obtain ⟨ad', e, _, hok, hce, _, _⟩ := holder_at hS2 HB.out.2.1 hkl
            cases e
            have hx := HB.out.2.1 _ (ch_mem hkl)
            have hxl := hx.length
            have hap := run_appH (w := (V.alloc (.cells (ch X k).toArray 26)).drew) (w.heap.size + 1) ((ho.alloc _).drew) (A := some ⟨V.heap.size, 0, none⟩) (X := [ch X k]) (c := 1) (Blk.sl (rest := []) (t := 26) (by simpa using (Blk.new V 26 (ch X k)).drew) (fun x hx => by simp at hx; subst hx; exact hxl)) (fun e => by cases e) (fun x h => by simp at h; subst h; exact hx) (by simp) (by omega) (by have := hb.lt; simp; omega)
            obtain ⟨A2, c2, w2, hap, ho2, hg2⟩ := hap
            rw [List.length_singleton] at hap ho2
            have hld := ldH (w := V.drew) (a := ad.add (k * 33)) hok
            rw [cellsAt_drew, hce] at hld
            clear hok hce
            have c0 := cell_of (o := 0) hb.drew rfl
            have c1' := cell_of (o := 0) ((hb.alloc (.cells (ch X k).toArray 26)).drew) rfl
            have hb2 := blk_grown ((hb.alloc (.cells (ch X k).toArray 26)).drew) hg2 (own_ne_blk (ho.alloc (.cells (ch X k).toArray 26)).drew ((hb.alloc (.cells (ch X k).toArray 26)).drew) (by decide))
            have c2' := cell_of (o := 0) hb2 rfl
            have f2 := hb2.frozen 0
            have hs := Lib.hid (And.intro hb (And.intro ho (And.intro hbel (And.intro hb2 (And.intro ho2 hg2)))))
            clear hb ho hbel hS2 hb2 ho2 hg2 hx
            go_region
            go_wp2
            have hq1 := hs.out.2.2.2.1.setCell (o := 0) (v := .slice A2 (k + 1) c2)
            have hq2 := ownsRow_setCell_below hs.out.2.2.2.2.1 (a := ⟨w.heap.size, 0, none⟩) (Nat.lt_succ_self _) (.slice A2 (k + 1) c2)
            rw [← List.flatten_append, take_ch hkl] at hq2
            have hq3 : Below w.heap.size w (w2.setCell ⟨w.heap.size, 0, none⟩ (.slice A2 (k + 1) c2)) :=
              (((hs.out.2.2.1.alloc hs.out.2.2.1.size _).drew).grown hs.out.2.2.2.2.2 (by have := hs.out.2.2.1.size; simp; omega) (fun j e => by have := (hs.out.2.1.lt j e).1; omega)).setCell (Nat.le_refl _) _
            refine ⟨⟨k + 1, by omega, by go_num, fun j hj => ?_, A2, c2, hq1, hq2, hq3⟩, by simp [intOf]; omega⟩
            rcases Nat.lt_or_ge j k with h | h
            · exact hr.out.1 j h
            · obtain rfl : j = k := by omega
              exact hd
          · go_wp2
            have he := err_dup hq.out.1 (dup_of hkl hd)
            refine bodyPost_ret (v := .tuple #[.pointer none, .int .i64 5]) (by simp [results, Tryd.results5, go_sem]) rfl ⟨⟨none, ptr_bad (by rw [he]; decide), by rw [he]⟩, hr1.out.1.alloc hr1.out.1.size _⟩
        · have : k = X.length := by omega
          subst this
          have he := err_ok hq.out.1 (dup_none hno)
          have hr := Lib.hid (And.intro hbel he)
          clear hno hb hbel ho he
          go_wp2
          exact bodyPost_ret (v := .tuple #[.pointer (some ⟨w.heap.size, 0, none⟩), .int .i64 0]) (by simp [results, Tryd.results5, go_sem]) rfl ⟨⟨_, ptr_ok hr.out.2 _, by rw [hr.out.2]⟩, hr.out.1⟩
end Go.Proofs.YthpnebmolaaapaaDoor.ring
