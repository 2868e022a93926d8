/- KeysRings: the key of a secret. No condition. -/
import Derived.Test.YthpnebmolaaapaaDoorShaC
import Derived.Lib.ConvBytes
namespace Go.Proofs.YthpnebmolaaapaaDoor.ring
open Go.RowKit eqv chunks sha
def bl (s : ByteArray) : List Int := s.data.toList.map fun b => (b.toNat : Int)
theorem bl_length (s : ByteArray) : (bl s).length = s.size := (List.length_map _).trans rfl
/-- '[]byte(s)'. -/
def cv8 (v : Value) : Sem Value := convert 9 45 v
theorem toCv8 (v : Value) : convert 9 45 v = cv8 v := rfl
theorem run_cv8 (w : World) (s : ByteArray) : ∃ c w', (cv8 (.string s)).run Tryd.prog w = .ok (.slice (some ⟨w.heap.size, 0, none⟩) s.size c) w' ∧ s.size ≤ c ∧ Bs w' (some ⟨w.heap.size, 0, none⟩) (bl s) ∧ Below w.heap.size w w' ∧ w.heap.size < w'.heap.size := by
  have hr := Lib.run_convert_string_bytes (P := Tryd.prog) w 9 45 5 s Tryd.underlying9 Tryd.underlying45 Tryd.underlying5
  refine ⟨_, _, hr, ?_, ?_, ?_, ?_⟩
  · exact grownCap_ge _ _ _ _
  · intro _
    refine ⟨_, rfl, fun i z hz => ?_⟩
    unfold bl at hz
    rw [List.getElem?_map] at hz
    obtain ⟨b, hb, rfl⟩ := Option.map_eq_some_iff.1 hz
    rw [add_zero_lit, Lib.bytesWorld_cell w _ s i (List.getElem?_eq_some_iff.1 hb).1]
    simp [List.getD, hb]
  · exact ⟨rfl, rfl, rfl, by rw [Lib.bytesWorld_size]; omega, fun k hk => Lib.bytesWorld_at_old w _ s k hk⟩
  · rw [Lib.bytesWorld_size]; omega
def keyOf (s : ByteArray) : ByteArray := ({ data := #[107, 101, 121, 58] } : ByteArray) ++ s
theorem keyOf_size (s : ByteArray) : (keyOf s).size = s.size + 4 := by unfold keyOf; rw [ByteArray.size_append]; exact Nat.add_comm _ _
/-- A secret's key. -/
def keyL (s : ByteArray) : List Int := bl (keyOf s)
theorem keyL_length (s : ByteArray) : (keyL s).length = s.size + 4 := by unfold keyL; rw [bl_length, keyOf_size]
theorem keyOf_eq (s : ByteArray) : ({ data := #[107, 101, 121, 58] } : ByteArray) ++ s = keyOf s := rfl
theorem run_key (w : World) (s : ByteArray) : ∃ c w', (cv8 (.string (({ data := #[107, 101, 121, 58] } : ByteArray) ++ s))).run Tryd.prog w = .ok (.slice (some ⟨w.heap.size, 0, none⟩) (keyL s).length c) w' ∧ (keyL s).length ≤ c ∧ Bs w' (some ⟨w.heap.size, 0, none⟩) (keyL s) ∧ Below w.heap.size w w' ∧ w.heap.size < w'.heap.size := by
  rw [keyOf_eq, keyL_length, ← keyOf_size]
  exact run_cv8 w (keyOf s)
attribute [irreducible] keyL keyOf
theorem hash_length (m : List Int) : (u8s (sha.hash m)).length = 32 := by rw [u8s_length]; rfl
def keyV (s : ByteArray) : Value := .agg (u8s (sha.hash (keyL s))).toArray
theorem zeroK (w : World) : (zeroValue 24).run Tryd.prog w = .ok (.agg (u8s z32).toArray) w := by kernel_rfl
theorem toLdK (a : Addr) : loadVar 24 a = bigLoad 24 a := rfl
theorem ldK {w : World} {a : Addr} (h : okAt w a 32) : Sem.run Tryd.prog (bigLoad 24 a) w = .ok (.agg (cellsAt w a 32).toArray) w := run_bigLoad (by kernel_rfl) ⟨_, Tryd.underlying24, rfl⟩ h
theorem toStK (a : Addr) (v : Value) : storeVar 24 a v = bigStore 24 a v := rfl
theorem stK {w : World} {g o : Nat} {cs : List Value} (hl : cs.length = 32) (h : mayPut w g o cs) : Sem.run Tryd.prog (bigStore 24 ⟨g, o, none⟩ (.agg cs.toArray)) w = .ok () (putAt w g o cs) := run_bigStore (by kernel_rfl) hl h
attribute [local go_sem ↓] toLdK toStK zeroK toCv8
attribute [local go_sem] ldK stK
set_option maxRecDepth 100000 in
set_option maxHeartbeats 400000 in
theorem derive (s : ByteArray) (hs : s.size ≤ 900000000) (w : World) (hI : Iv w 1) (hK : Tab w 3) :
    Calls Tryd.prog 6 #[.string s] w fun e w' => e = .returned (keyV s) ∧ Below w.heap.size w w' := by
  have HB := Lib.hid (And.intro hI hK)
  clear hI hK
  have hsz : (keyL s).length ≤ 999999000 := by have := keyL_length s; omega
  unfold keyV
  generalize hm : keyL s = m at hsz ⊢
  go_enter Tryd.func6, Tryd.ntmps6
  go_upto_region 1 with fail
  generalize hW : World.alloc _ _ = W0
  have h1 := one (cs := u8s z32) hW
  clear hW
  obtain ⟨c, W1, hcv, hc, hbs, hb1, hgt⟩ := run_key W0 s
  rw [hm] at hcv hc hbs
  have t1 : Below w.heap.size w W1 := h1.2.1.trans (hb1.mono h1.2.1.size)
  have hd := digestSum m (some ⟨W0.heap.size, 0, none⟩) c W1 hbs (fun ad e => by cases e; exact hgt) hc hsz (HB.out.1.below t1 HB.out.1.1) (HB.out.2.below t1 HB.out.2.1)
  have b1 := h1.1.below hb1 (by have := h1.2.2; omega)
  have H1 := Lib.hid (And.intro hd (And.intro t1 b1))
  clear hd t1 b1 h1 hbs hb1 hgt hc
  go_wp2_with fail
  refine H1.out.1.mono ?_
  rintro e w3 ⟨rfl, hb3⟩
  have t3 := H1.out.2.1.trans (hb3.mono H1.out.2.1.size)
  have b3 := H1.out.2.2.below hb3 H1.out.2.2.lt
  have hl := hash_length m
  have hp : mayPut w3 w.heap.size 0 (u8s (sha.hash m)) := ⟨_, _, b3, by rw [hl, u8s_length]; exact Nat.le_refl _, u8s_one _⟩
  have HE := Lib.hid (And.intro t3 (And.intro b3 hl))
  clear t3 b3 hb3
  go_wp2
  have hq := HE.out.2.1.put (o := 0) (cs := u8s (sha.hash m))
  rw [put_all (cs := u8s z32) (ds := u8s (sha.hash m)) (by rw [HE.out.2.2]; rfl)] at hq
  refine bodyPost_ret (v := .agg (u8s (sha.hash m)).toArray) (ret_blk rfl rfl (by kernel_rfl) ⟨_, Tryd.underlying24, rfl⟩ hq.1 HE.out.2.2) rfl ⟨rfl, HE.out.1.trans (hq.2.2 _ (Nat.le_refl _))⟩
set_option maxRecDepth 100000 in
set_option maxHeartbeats 400000 in
theorem derive' (s : ByteArray) (hs : s.size ≤ 900000000) (w : World) (hI : Iv w 0) (hK : Tab w 2) :
    Calls Tryd.prog 7 #[.string s] w fun e w' => e = .returned (keyV s) ∧ Below w.heap.size w w' := by
  have HB := Lib.hid (And.intro hI hK)
  clear hI hK
  have hsz : (keyL s).length ≤ 999999000 := by have := keyL_length s; omega
  unfold keyV
  generalize hm : keyL s = m at hsz ⊢
  go_enter Tryd.func7, Tryd.ntmps7
  go_upto_region 1 with fail
  generalize hW : World.alloc _ _ = W0
  have h1 := one (cs := u8s z32) hW
  clear hW
  obtain ⟨c, W1, hcv, hc, hbs, hb1, hgt⟩ := run_key W0 s
  rw [hm] at hcv hc hbs
  have t1 : Below w.heap.size w W1 := h1.2.1.trans (hb1.mono h1.2.1.size)
  have hd := refSum m (some ⟨W0.heap.size, 0, none⟩) c W1 hbs (fun e => by cases e) (fun ad e => by cases e; exact hgt) hsz (HB.out.1.below t1 HB.out.1.1) (HB.out.2.below t1 HB.out.2.1)
  have b1 := h1.1.below hb1 (by have := h1.2.2; omega)
  have H1 := Lib.hid (And.intro hd (And.intro t1 b1))
  clear hd t1 b1 h1 hbs hb1 hgt hc
  go_wp2_with fail
  refine H1.out.1.mono ?_
  rintro e w3 ⟨rfl, hb3⟩
  have t3 := H1.out.2.1.trans (hb3.mono H1.out.2.1.size)
  have b3 := H1.out.2.2.below hb3 H1.out.2.2.lt
  have hl := hash_length m
  have hp : mayPut w3 w.heap.size 0 (u8s (sha.hash m)) := ⟨_, _, b3, by rw [hl, u8s_length]; exact Nat.le_refl _, u8s_one _⟩
  have HE := Lib.hid (And.intro t3 (And.intro b3 hl))
  clear t3 b3 hb3
  go_wp2
  have hq := HE.out.2.1.put (o := 0) (cs := u8s (sha.hash m))
  rw [put_all (cs := u8s z32) (ds := u8s (sha.hash m)) (by rw [HE.out.2.2]; rfl)] at hq
  refine bodyPost_ret (v := .agg (u8s (sha.hash m)).toArray) (ret_blk rfl rfl (by kernel_rfl) ⟨_, Tryd.underlying24, rfl⟩ hq.1 HE.out.2.2) rfl ⟨rfl, HE.out.1.trans (hq.2.2 _ (Nat.le_refl _))⟩
end Go.Proofs.YthpnebmolaaapaaDoor.ring
