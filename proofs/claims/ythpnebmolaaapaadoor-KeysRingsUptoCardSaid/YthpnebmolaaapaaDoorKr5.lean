/- KeysRings: the program's NewRing: a map of keys. No condition. -/
import Derived.Test.YthpnebmolaaapaaDoorKr4
import Derived.Maps.OwnSet
import Derived.Maps.Views
import Derived.Carry
namespace Go.Proofs.YthpnebmolaaapaaDoor.ring
open Go.RowKit Go.Maps eqv chunks sha
open Classical in
/-- What a value of the map reads as: nothing but that it is a key. -/
noncomputable def keyR (v : Value) : Option (DataW Unit × List MemPlace) := if ∃ ks, K32 ks ∧ v = .agg ks.toArray then some (.agg [], []) else none
theorem keyR_mk {ks : List Value} (h : K32 ks) : keyR (.agg ks.toArray) = some (.agg [], []) := if_pos ⟨ks, h, rfl⟩
theorem keyR_inv {v : Value} {z : DataW Unit × List MemPlace} (h : keyR v = some z) : ∃ ks, K32 ks ∧ v = .agg ks.toArray := by
  unfold keyR at h
  split at h
  · assumption
  · cases h
theorem zK : K32 (u8s z32) := ⟨rfl, u8s_one _⟩
theorem lawK : Keyed Tryd.prog 3 := int_keyed Tryd.underlying3
def kl (x : List Value) : Lit := .int .i64 (au x)
/-- The map of the first k. -/
def Mk (X : List (List Value)) (k : Nat) : DataW Unit := setOf (.agg []) ((X.take k).map kl)
theorem kl_key (x : List Value) : WideAt.IsKeyLit (kl x) := trivial
theorem has_Mk (X : List (List Value)) (k : Nat) (x : List Value) : Maps.has (Mk X k) (kl x) = (X.take k).any fun y => au y == au x := by
  unfold Mk
  rw [has_setOf _ _ _ (fun y hy => by obtain ⟨z, _, rfl⟩ := List.mem_map.1 hy; exact kl_key z), List.any_map]
  congr 1
  funext y
  simp only [Function.comp, kl, Lit.sameKey, true_and]
  exact (Bool.beq_eq_decide_eq _ _).symm
theorem Mk_next {X : List (List Value)} {k : Nat} (hk : k < X.length) : (Mk X k).put (kl (ch X k)) (.agg []) = Mk X (k + 1) := by
  unfold Mk
  rw [← take_ch hk, List.map_append, List.map_singleton, setOf_snoc]
/-- The element behind a key, in every world that holds the map. -/
theorem look_all {w : World} {b n : Nat} {D : DataW Unit} (h : w.ownsMap Tryd.prog 3 keyR b n D) {a : Int} (ha : (Lit.int .i64 a).wf = true) :
    ∃ ks, K32 ks ∧ ∀ W : World, W.heap[b]? = w.heap[b]? → (Instr.lookup 36 (.map (some b)) (.int .i64 a) true).run Tryd.prog W = .ok (.tuple #[.agg ks.toArray, .bool (Maps.has D (.int .i64 a))]) W := by
  have hkey := keyOf_int_mk (P := Tryd.prog) Tryd.underlying3 ha
  obtain ⟨es, clock, hb, F, _, rfl⟩ := h
  have hun : ∀ x ∈ es.toList, ∀ y ∈ es.toList, x.key = y.key → x = y := fun x hx y hy e => by
    have hp := fit_apart lawK F
    rw [List.pairwise_map] at hp
    obtain ⟨i, hi, rfl⟩ := List.getElem_of_mem hx
    obtain ⟨j, hj, rfl⟩ := List.getElem_of_mem hy
    have hr : (WideElems.rg Tryd.prog 3 keyR es.toList[i]).1 = (WideElems.rg Tryd.prog 3 keyR es.toList[j]).1 := by
      obtain ⟨y1, h1⟩ := F.reads _ hx
      obtain ⟨y2, h2⟩ := F.reads _ hy
      rw [WideElems.rg_of h1, WideElems.rg_of h2]
      have k1 := WideElems.rd_key h1
      have k2 := WideElems.rd_key h2
      rw [e, k2] at k1
      exact (Option.some.inj k1).symm
    have hij : i = j := by
      rcases Nat.lt_trichotomy i j with h | h | h
      · exact absurd hr (List.pairwise_iff_getElem.1 hp i j hi hj h)
      · exact h
      · exact absurd hr.symm (List.pairwise_iff_getElem.1 hp j i hj hi h)
    subst hij
    rfl
  rcases Maps.fit_look true lawK Tryd.underlying36 (zeroK w) hb F hkey with ⟨_, hno, hat⟩ | ⟨e0, y, hm, hk, _, hR, hat, _⟩
  · refine ⟨u8s z32, zK, fun W hW => ?_⟩
    rcases Maps.fit_look true lawK Tryd.underlying36 (zeroK W) (hW.trans hb) F hkey with ⟨hrun, _, _⟩ | ⟨e1, _, hm1, hk1, _⟩
    · rw [Maps.has_false_of_atKey hat]
      exact hrun
    · exact absurd hk1 (hno e1 hm1)
  · obtain ⟨ks, hks, hv⟩ := keyR_inv hR
    refine ⟨ks, hks, fun W hW => ?_⟩
    rcases Maps.fit_look true lawK Tryd.underlying36 (zeroK W) (hW.trans hb) F hkey with ⟨_, hno, _⟩ | ⟨e1, _, hm1, hk1, hrun, _⟩
    · exact absurd hk (hno e0 hm)
    · obtain rfl := hun e1 hm1 e0 hm (hk1.trans hk.symm)
      rw [Maps.has_true_of_atKey hat]
      rw [hv] at hrun
      exact hrun
/-- The program's ring. -/
def Rp (w : World) (X : List (List Value)) (k : Nat) (wr : World) : Prop :=
  wr.ownsMap Tryd.prog 3 keyR w.heap.size k (Mk X k) ∧ Blk wr (w.heap.size + 1) 38 [.map (some w.heap.size)] ∧ Below w.heap.size w wr
theorem Rp.alloc {w wr : World} {X : List (List Value)} {k : Nat} (h : Rp w X k wr) (o : Obj) : Rp w X k (wr.alloc o) := ⟨h.1.alloc o, h.2.1.alloc o, h.2.2.alloc h.2.2.size o⟩
theorem Rp.drew {w wr : World} {X : List (List Value)} {k : Nat} (h : Rp w X k wr) : Rp w X k wr.drew := ⟨h.1.drew, h.2.1.drew, h.2.2.drew⟩
theorem Rp.start {w W : World} {X : List (List Value)} (h : (w.alloc (.map #[] 0)).alloc (.cells #[.map (some w.heap.size)] 38) = W) : Rp w X 0 W := by
  subst h
  have b := Blk.new (w.alloc (.map #[] 0)) 38 [.map (some w.heap.size)]
  rw [hsz] at b
  exact ⟨(World.ownsMap_made _ _ _ _).alloc _, b, ((Below.refl _ _).alloc (Nat.le_refl _) _).alloc (by simp) _⟩
attribute [local go_sem ↓] toLdK toStK zeroK toLdH toStH zeroH
attribute [local go_sem] ldK stK ldH stNewH stNewK hsz
set_option maxHeartbeats 1000000 in
theorem progNew (X : List (List Value)) (A : Option Addr) (c : Nat) (w : World) (hS : Sl w A 33 X) (hH : ∀ x ∈ X, Hd x) (hlt : ∀ ad, A = some ad → ad.block < w.heap.size) (hN : X.length ≤ 1048576) :
    Calls Tryd.prog 4 #[.slice A X.length c] w fun e w' => (∃ p, PtrOk p X ∧ e = .returned (.tuple #[.pointer p, .int .i64 (ringErr X)])) ∧ Below w.heap.size w w' := by
  have HB := Lib.hid (And.intro hS (And.intro hH hlt))
  clear hS hH hlt
  have hmm := @run_makeMap Tryd.prog
  go_enter Tryd.func4, Tryd.ntmps4
  go_upto_region 2 with fail
  generalize hW : World.alloc _ _ = W0
  have h1 := Rp.start (X := X) hW
  clear hW
  have H1 := Lib.hid h1
  clear h1 hmm
  go_wp2
  go_loopw [16] (fun i wr => ∃ k : Nat, k ≤ X.length ∧ i = .int .i64 k ∧ (∀ j, j < k → bad (ch X j) = false) ∧ Rp w X 0 wr) (fun i _ => X.length - (intOf i).toNat)
  case atStart => exact ⟨0, Nat.zero_le _, rfl, fun j h => by omega, H1.out⟩
  case round =>
    obtain ⟨k, hk, rfl, hno, hb⟩ := hrel
    by_cases hkl : k < X.length
    · have hS2 : Sl wr A 33 X := HB.out.1.keep fun p ⟨ad, e, hp⟩ => hb.2.2.cell (by rw [hp]; exact HB.out.2.2 ad e)
      have hat := holder_at hS2 HB.out.2.1 hkl
      obtain ⟨ad, rfl, _, hok, hce, _, _⟩ := hat
      have hx := HB.out.2.1 _ (ch_mem hkl)
      have hq := Lib.hid (And.intro hno hb)
      clear hno hb hS2
      go_upto_region 5 with fail
      generalize hV : World.alloc wr _ = V
      have h1 := one hV
      have hrp : Rp w X 0 V := by rw [← hV]; exact hq.out.2.alloc _
      have hca := cell_of (o := 0) h1.1 (by rw [hx.form.1]; rfl)
      have hp := Lib.hid hrp
      clear h1 hV hrp hok hce
      by_cases h1 : au (ch X k) < 1
      · have hbad : bad (ch X k) = true := by unfold bad; simp [h1]
        go_wp2
        have he := err_bad (bad_any hkl hbad)
        exact bodyPost_ret (v := .tuple #[.pointer none, .int .i64 51]) (by simp [results, Tryd.results4, go_sem]) rfl ⟨⟨none, ptr_bad (by rw [he]; decide), by rw [he]⟩, hp.out.2.2⟩
      · by_cases h2 : 4294967296 ≤ au (ch X k)
        · have hbad : bad (ch X k) = true := by unfold bad; simp; omega
          go_wp2
          have he := err_bad (bad_any hkl hbad)
          exact bodyPost_ret (v := .tuple #[.pointer none, .int .i64 51]) (by simp [results, Tryd.results4, go_sem]) rfl ⟨⟨none, ptr_bad (by rw [he]; decide), by rw [he]⟩, hp.out.2.2⟩
        · have hbad : bad (ch X k) = false := by unfold bad; simp; omega
          go_wp2
          refine ⟨⟨k + 1, by omega, by go_num, fun j hj => ?_, hp.out⟩, by simp [intOf]; omega⟩
          rcases Nat.lt_or_ge j k with h | h
          · exact hq.out.1 j h
          · obtain rfl : j = k := by omega
            exact hbad
    · have : k = X.length := by omega
      subst this
      have hgood := bad_none hno
      have hq := Lib.hid (And.intro hgood hb)
      clear hno hb hgood
      go_wp2
      go_loopw [31] (fun i wx => ∃ k : Nat, k ≤ X.length ∧ i = .int .i64 k ∧ (∀ j, j < k → dupAt X j = false) ∧ Rp w X k wx) (fun i _ => X.length - (intOf i).toNat)
      case atStart => exact ⟨0, Nat.zero_le _, rfl, fun j h => by omega, hq.out.2⟩
      case round =>
        obtain ⟨k, hk, rfl, hno, hb⟩ := hrel
        by_cases hkl : k < X.length
        · have hS2 : Sl wr A 33 X := HB.out.1.keep fun p ⟨ad, e, hp⟩ => hb.2.2.cell (by rw [hp]; exact HB.out.2.2 ad e)
          have hat := holder_at hS2 HB.out.2.1 hkl
          obtain ⟨ad, rfl, _, hok, hce, _, _⟩ := hat
          have hx := HB.out.2.1 _ (ch_mem hkl)
          have hr := Lib.hid (And.intro hno hb)
          clear hno hb hS2
          go_upto_region 11 with fail
          generalize hV : World.alloc wr _ = V
          have h1 := one hV
          have hrp : Rp w X k V := by rw [← hV]; exact hr.out.2.alloc _
          have hf := hx.form
          have hlook := look_all hrp.1 hf.2.2.2
          obtain ⟨ks, hks, hlk⟩ := hlook
          have hh : Maps.has (Mk X k) (.int .i64 (au (ch X k))) = (X.take k).any fun y => au y == au (ch X k) := has_Mk X k (ch X k)
          rw [hh] at hlk
          have l1 := hlk V.drew rfl
          have l2 := hlk (V.alloc (.cells (u8s z32).toArray 24)).drew (Below.heap_alloc V _ _ hrp.1.lt)
          have c1 := cell_of (o := 0) hrp.2.1.drew rfl
          have c2 := cell_of (o := 0) (hrp.2.1.alloc (.cells (u8s z32).toArray 24)).drew rfl
          have d1 := cell_of (o := 0) h1.1.drew (by rw [hf.1]; rfl)
          have d2 := cell_of (o := 0) (h1.1.alloc (.cells (u8s z32).toArray 24)).drew (by rw [hf.1]; rfl)
          have hst : Sem.run Tryd.prog (bigStore 24 ⟨V.heap.size, 0, none⟩ (.agg ks.toArray)) (V.alloc (.cells (u8s z32).toArray 24)).drew = .ok () (V.alloc (.cells ks.toArray 24)).drew := stNewK (w := V.drew) rfl hks
          have hp := Lib.hid (And.intro hrp (And.intro h1 hf))
          clear hV h1 hrp hlk hok hce hh hf hks
          go_region
          generalize hV2 : (V.alloc (.cells ks.toArray 24)).drew = V2
          have r2 : Rp w X k V2 := by rw [← hV2]; exact (hp.out.1.alloc _).drew
          have b2 : Blk V2 wr.heap.size 26 (ch X k) := by rw [← hV2]; exact (hp.out.2.1.1.alloc _).drew
          have hp2 := Lib.hid (And.intro r2 (And.intro b2 hp.out.2.2))
          clear hV2 r2 b2 hp l1 l2 c1 c2 d1 d2 hst
          cases hd : (X.take k).any (fun y => au y == au (ch X k))
          · go_wp2
            have hf := hp2.out.2.2
            have hkey := keyOf_int_mk (P := Tryd.prog) Tryd.underlying3 hf.2.2.2
            have hkk : K32 (ch X k).tail := ⟨hf.2.1, hf.2.2.1⟩
            obtain ⟨w3, hup, hown3, hg3⟩ := hp2.out.1.1.drew.update lawK Tryd.underlying36 (by unfold maxLen; omega) hkey (keyR_mk hkk)
            have c1 := cell_of (o := 0) hp2.out.1.2.1.drew rfl
            have d1 := cell_of (o := 0) hp2.out.2.1.drew (by rw [hf.1]; rfl)
            have hpart : Blk V2 wr.heap.size 26 ([.int .i64 (au (ch X k))] ++ (ch X k).tail ++ []) := by
              rw [List.append_nil]
              show Blk V2 wr.heap.size 26 (.int .i64 (au (ch X k)) :: (ch X k).tail)
              rw [← hf.1]
              exact hp2.out.2.1
            have hpp := hpart.part
            rw [hf.2.1] at hpp
            have hld := ldK (w := V2.drew) (a := ⟨wr.heap.size, 1, none⟩) hpp.1
            rw [cellsAt_drew, show cellsAt V2 ⟨wr.heap.size, 1, none⟩ 32 = (ch X k).tail from hpp.2] at hld
            have e1 : (Mk X k).put (.int .i64 (au (ch X k))) (.agg []) = Mk X (k + 1) := Mk_next hkl
            rw [e1] at hown3
            have hp3 := Lib.hid (And.intro hown3 hg3)
            clear hown3 hg3 hpart hpp hf hkey hkk e1
            go_region
            go_wp2
            have hbl := blk_grown hp2.out.1.2.1.drew hp3.out.2 (by simp only [ne_eq, Option.some.injEq]; omega)
            have hbe := hp2.out.1.2.2.drew.grown hp3.out.2 hp2.out.1.2.2.drew.size (fun j e => by cases e; exact Nat.le_refl _)
            refine ⟨⟨k + 1, by omega, by go_num, fun j hj => ?_, hp3.out.1, hbl, hbe⟩, by simp [intOf]; omega⟩
            rcases Nat.lt_or_ge j k with h | h
            · exact hr.out.1 j h
            · obtain rfl : j = k := by omega
              exact hd
          · go_wp2
            have he := err_dup hq.out.1 (dup_of hkl hd)
            exact bodyPost_ret (v := .tuple #[.pointer none, .int .i64 5]) (by simp [results, Tryd.results4, go_sem]) rfl ⟨⟨none, ptr_bad (by rw [he]; decide), by rw [he]⟩, hp2.out.1.2.2⟩
        · have : k = X.length := by omega
          subst this
          have he := err_ok hq.out.1 (dup_none hno)
          have hr := Lib.hid (And.intro hb he)
          clear hno hb he
          go_wp2
          exact bodyPost_ret (v := .tuple #[.pointer (some ⟨w.heap.size + 1, 0, none⟩), .int .i64 0]) (by simp [results, Tryd.results4, go_sem]) rfl ⟨⟨_, ptr_ok hr.out.2 _, by rw [hr.out.2]⟩, hr.out.1.2.2⟩
end Go.Proofs.YthpnebmolaaapaaDoor.ring
