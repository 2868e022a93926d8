/- KeysRings: holders, and the document's look for an author. No condition. -/
import Derived.Test.YthpnebmolaaapaaDoorKr1
import Derived.Laws.ResultCell
namespace Go.Proofs.YthpnebmolaaapaaDoor.ring
open Go.RowKit eqv chunks sha
/-- A holder's cells. -/
def Hd (x : List Value) : Prop := ∃ a ks, x = .int .i64 a :: ks ∧ ks.length = 32 ∧ (∀ v ∈ ks, v.oneCell' = true) ∧ (Lit.int .i64 a).wf = true
def au (x : List Value) : Int := intOf (x.headD undef)
theorem Hd.form {x : List Value} (h : Hd x) : x = .int .i64 (au x) :: x.tail ∧ x.tail.length = 32 ∧ (∀ v ∈ x.tail, v.oneCell' = true) ∧ (Lit.int .i64 (au x)).wf = true := by
  obtain ⟨a, ks, rfl, h1, h2, h3⟩ := h
  exact ⟨rfl, h1, h2, h3⟩
theorem Hd.length {x : List Value} (h : Hd x) : x.length = 33 := by
  obtain ⟨a, ks, rfl, h1, _⟩ := h
  simp [h1]
/-- What a place of a slice of holders holds. -/
theorem holder_at {w : World} {A : Option Addr} {X : List (List Value)} (h : Sl w A 33 X) (hH : ∀ x ∈ X, Hd x) {k : Nat} (hk : k < X.length) :
    ∃ ad, A = some ad ∧ w.cell? (ad.add (k * 33)) = some (.int .i64 (au (ch X k))) ∧ okAt w (ad.add (k * 33)) 33 ∧ cellsAt w (ad.add (k * 33)) 33 = ch X k ∧ okAt w ⟨(ad.add (k * 33)).block, (ad.add (k * 33)).off + 1, none⟩ 32 ∧ cellsAt w ⟨(ad.add (k * 33)).block, (ad.add (k * 33)).off + 1, none⟩ 32 = (ch X k).tail := by
  obtain ⟨ad, e, hc⟩ := h.2 (by omega)
  have hf := (hH _ (ch_mem hk)).form
  have hcc := hc k hk
  obtain ⟨ad', e', hall⟩ := h.at_ hk
  rw [e] at e'
  cases e'
  refine ⟨ad, e, ?_, (hall k hk).1, (hall k hk).2, ?_⟩
  · have := hcc 0 _ (by rw [hf.1]; rfl)
    rwa [add_add, Nat.add_zero] at this
  · have h1 := at_of (w := w) (a := (ad.add (k * 33)).add 1) (xs := (ch X k).tail) fun j u hu => by
      rw [add_add (ad.add (k * 33))]
      exact hcc (1 + j) u (by rw [hf.1, Nat.add_comm]; exact hu)
    rw [hf.2.1] at h1
    exact h1
theorem ret_kb {fn : Func} {p u : Tmp} {g : Nat} {cs : List Value} {tmps : Array Value} {W : World} {b : Value} (h : fn.results = #[.cell p 24, .tmp u]) (ha : tmps.getD p undef = .pointer (some ⟨g, 0, none⟩)) (hb' : tmps.getD u undef = b)
    (hb : Blk W g 24 cs) (hl : cs.length = 32) : (results fn tmps).run Tryd.prog W = .ok (.tuple #[.agg cs.toArray, b]) W := by
  have h2 := hb.all
  rw [hl] at h2
  have h3 := ldK h2.1
  rw [h2.2, ← toLdK] at h3
  rw [results_cell_tmp h, ha, hb']
  simp [asAddr, h3]
theorem any_false {L : List (List Value)} {a : Int} (h : ∀ j, j < L.length → au (ch L j) ≠ a) : L.any (fun x => au x == a) = false := by
  rw [List.any_eq_false]
  intro x hx
  obtain ⟨j, hj, rfl⟩ := List.getElem_of_mem hx
  have := h j hj
  unfold ch at this
  rw [List.getD_eq_getElem?_getD, List.getElem?_eq_getElem hj] at this
  simpa using this
theorem any_true {L : List (List Value)} {a : Int} {j : Nat} (hj : j < L.length) (h : au (ch L j) = a) : L.any (fun x => au x == a) = true :=
  List.any_eq_true.2 ⟨ch L j, ch_mem hj, by simpa using h⟩
attribute [local go_sem ↓] toLdK toStK zeroK
attribute [local go_sem] ldK stK
set_option maxHeartbeats 1000000 in
theorem look (r : Nat) (A : Option Addr) (L : List (List Value)) (c : Nat) (a : Int) (w : World) (hr : Blk w r 41 [.slice A L.length c]) (hS : Sl w A 33 L) (hH : ∀ x ∈ L, Hd x) (hlt : ∀ ad, A = some ad → ad.block < w.heap.size) (hN : L.length ≤ 1000000000) :
    Calls Tryd.prog 8 #[.pointer (some ⟨r, 0, none⟩), .int .i64 a] w fun e w' => (∃ ks : List Value, ks.length = 32 ∧ (∀ v ∈ ks, v.oneCell' = true) ∧ e = .returned (.tuple #[.agg ks.toArray, .bool (L.any fun x => au x == a)])) ∧ Below w.heap.size w w' := by
  have HB := Lib.hid (And.intro hr (And.intro hS (And.intro hH hlt)))
  clear hr hS hH hlt
  go_enter Tryd.func8, Tryd.ntmps8
  go_upto_region 1 with fail
  generalize hW : World.alloc _ _ = W0
  have h1 := one (cs := u8s z32) hW
  clear hW
  go_wp2
  go_loopw [6] (fun i wr => ∃ k : Nat, k ≤ L.length ∧ i = .int .i64 k ∧ (∀ j, j < k → au (ch L j) ≠ a) ∧ Blk wr w.heap.size 24 (u8s z32) ∧ Below w.heap.size w wr) (fun i _ => L.length - (intOf i).toNat)
  case atStart => exact ⟨0, Nat.zero_le _, rfl, fun j h => by omega, h1.1, h1.2.1⟩
  case round =>
    obtain ⟨k, hk, rfl, hno, hb, hbel⟩ := hrel
    have hc0 := cell_of (o := 0) (HB.out.1.below hbel HB.out.1.lt) rfl
    by_cases hkl : k < L.length
    · have hS2 : Sl wr A 33 L := HB.out.2.1.keep fun p ⟨ad, e, hp⟩ => hbel.cell (by rw [hp]; exact HB.out.2.2.2 ad e)
      have hat := holder_at hS2 HB.out.2.2.1 hkl
      obtain ⟨ad, rfl, hca, _, _, hok, hce⟩ := hat
      have hf := (HB.out.2.2.1 _ (ch_mem hkl)).form
      have htl := hf.2.1
      have hp : mayPut wr w.heap.size 0 (ch L k).tail := ⟨_, _, hb, by rw [htl, u8s_length]; exact Nat.le_refl _, hf.2.2.1⟩
      have hq := Lib.hid (And.intro hno (And.intro hb (And.intro hbel hf)))
      clear hno hb hbel hS2 hf
      by_cases he : au (ch L k) = a
      · go_wp2
        have hput := hq.out.2.1.put (o := 0) (cs := (ch L k).tail)
        rw [put_all (cs := u8s z32) (ds := (ch L k).tail) (by rw [htl]; rfl)] at hput
        exact bodyPost_ret (v := .tuple #[.agg (ch L k).tail.toArray, .bool true]) (ret_kb rfl rfl rfl hput.1 htl) rfl ⟨⟨_, htl, hq.out.2.2.2.2.2.1, by rw [any_true hkl he]⟩, hq.out.2.2.1.trans (hput.2.2 _ (Nat.le_refl _))⟩
      · go_wp2
        refine ⟨⟨k + 1, by omega, by go_num, fun j hj => ?_, hq.out.2.1, hq.out.2.2.1⟩, by simp [intOf]; omega⟩
        rcases Nat.lt_or_ge j k with h | h
        · exact hq.out.1 j h
        · obtain rfl : j = k := by omega
          exact he
    · have : k = L.length := by omega
      subst this
      have hz : (u8s z32).length = 32 := rfl
      have hp : mayPut wr w.heap.size 0 (u8s z32) := ⟨_, _, hb, by rw [hz]; exact Nat.le_refl _, u8s_one _⟩
      have hq := Lib.hid (And.intro hno (And.intro hb hbel))
      clear hno hb hbel
      go_wp2
      have hput := hq.out.2.1.put (o := 0) (cs := u8s z32)
      rw [put_all (cs := u8s z32) (ds := u8s z32) rfl] at hput
      exact bodyPost_ret (v := .tuple #[.agg (u8s z32).toArray, .bool false]) (ret_kb rfl rfl rfl hput.1 rfl) rfl ⟨⟨_, rfl, u8s_one _, by rw [any_false hq.out.1]⟩, hq.out.2.2.trans (hput.2.2 _ (Nat.le_refl _))⟩
end Go.Proofs.YthpnebmolaaapaaDoor.ring
