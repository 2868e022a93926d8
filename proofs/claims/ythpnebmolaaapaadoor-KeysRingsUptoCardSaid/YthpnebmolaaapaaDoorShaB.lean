/- The document's Sum: small laws. No condition. -/
import Derived.Test.YthpnebmolaaapaaDoorShaA
import Derived.Maps.AppendAt
namespace Go.Proofs.YthpnebmolaaapaaDoor.sha
open Go.RowKit eqv chunks
theorem info8 : (Tryd.prog.info? 5).map (fun i => (i.zero, i.size, i.bytes)) = some (some (.int .u8 0), 1, 1) := by kernel_rfl
/-- 'append' of bytes. -/
def app8 (ty : TypeId) (args : Array Value) : Sem Value := Builtin.append_ #[45, 45] ty args
theorem toApp8 (ty : TypeId) (args : Array Value) : Builtin.append_ #[45, 45] ty args = app8 ty args := rfl
/-- 'append' of bytes onto a row of bytes. -/
theorem run_app8 {w : World} (ty : TypeId) (base : Nat) {v : Value} {n : Nat} {xs : List Value} (hown : w.ownsRow base 5 1 v n xs) {A : Option Addr} {m : List Int} {c : Nat} (hA : Bs w A m) (hn : A = none → m = [] ∧ c = 0)
    (hm : m.length ≤ 1000000000) (hn' : n ≤ 1000000000) (hbase : base ≤ w.heap.size) :
    ∃ A1 c1 w', (app8 ty #[v, .slice A m.length c]).run Tryd.prog w = .ok (.slice A1 (n + m.length) c1) w' ∧ w'.ownsRow base 5 1 (.slice A1 (n + m.length) c1) (n + m.length) (xs ++ u8s m) ∧ w.grownBy w' v.ownBlock := by
  obtain ⟨i, hi, hz, hs, hby⟩ := info_parts info8
  rcases A with _ | ad
  · obtain ⟨rfl, rfl⟩ := hn rfl
    obtain ⟨A1, c1, rfl, _, _⟩ := own_slice hown
    exact ⟨A1, c1, w, run_append_owned_none w base _ ty _ i 1 Tryd.underlying45 hi _ n xs hown, by simpa [u8s] using hown, World.grownBy.refl w _⟩
  · have hc : ∀ j u, (u8s m)[j]? = some u → w.cell? (ad.add j) = some u := fun j u hu => by
      unfold u8s at hu
      rw [List.getElem?_map] at hu
      obtain ⟨z, hz, rfl⟩ := Option.map_eq_some_iff.1 hu
      obtain ⟨ad', e, hcell⟩ := hA (by have := (List.getElem?_eq_some_iff.1 hz).1; omega)
      cases e
      exact hcell j z hz
    obtain ⟨v', w', hr, h2, h3, _, _⟩ := run_append_own_at (P := Tryd.prog) w base 45 ty 5 i (.int .u8 0) 1 1 Tryd.underlying45 hi hz hs hby rfl (by omega) v n xs hown ad m.length c (u8s m) (by rw [u8s_length, Nat.mul_one]) hc (u8s_one m) (by simp only [maxLen]; omega) (by omega) hbase
    obtain ⟨A1, c1, rfl, _, _⟩ := own_slice h2
    exact ⟨A1, c1, w', hr, h2, h3⟩
/-- The document's bytes so far. -/
def Al (w : World) (L : List Int) (v : Value) (wr : World) : Prop := ∃ A' c', v = .slice A' L.length c' ∧ wr.ownsRow (w.heap.size + 1) 5 1 (.slice A' L.length c') L.length (u8s L) ∧ Blk wr w.heap.size 43 (u8s z32) ∧ Below w.heap.size w wr
theorem Al.app {w wr : World} {L m : List Int} {A' : Option Addr} {c' : Nat} (h : wr.ownsRow (w.heap.size + 1) 5 1 (.slice A' L.length c') L.length (u8s L)) (hb : Blk wr w.heap.size 43 (u8s z32)) (hbel : Below w.heap.size w wr)
    {A : Option Addr} {c : Nat} (hA : Bs wr A m) (hn : A = none → m = [] ∧ c = 0) (hm : m.length ≤ 1000000000) (hL : L.length ≤ 1000000000) :
    ∃ A1 c1 w', (app8 45 #[.slice A' L.length c', .slice A m.length c]).run Tryd.prog wr = .ok (.slice A1 (L.length + m.length) c1) w' ∧ Al w (L ++ m) (.slice A1 (L.length + m.length) c1) w' := by
  obtain ⟨A1, c1, w', h1, h2, h3⟩ := run_app8 45 (w.heap.size + 1) h hA hn hm hL (by have := hb.lt; omega)
  refine ⟨A1, c1, w', h1, A1, c1, by rw [List.length_append], ?_, blk_grown hb h3 (own_ne_blk h hb (by decide)), hbel.grown h3 hbel.size (fun k e => by have := (h.lt k e).1; omega)⟩
  rw [List.length_append]
  unfold u8s at h2 ⊢
  rw [List.map_append]
  exact h2
theorem Al.one {w wr : World} {L : List Int} {A' : Option Addr} {c' : Nat} (h : wr.ownsRow (w.heap.size + 1) 5 1 (.slice A' L.length c') L.length (u8s L)) (hb : Blk wr w.heap.size 43 (u8s z32)) (hbel : Below w.heap.size w wr) (z : Int) (hL : L.length ≤ 1000000000) :
    ∃ A1 c1 w', (app8 45 #[.slice A' L.length c', .slice (some ⟨wr.heap.size, 0, none⟩) 1 1]).run Tryd.prog (wr.alloc (.cells (u8s [z]).toArray 5)) = .ok (.slice A1 (L.length + 1) c1) w' ∧ Al w (L ++ [z]) (.slice A1 (L.length + 1) c1) w' :=
  Al.app (m := [z]) (h.alloc _) (hb.alloc _) (hbel.alloc hbel.size _) (bs_new wr [z] _) (fun h => by cases h) (by simp) hL
theorem be8_next (n k : Nat) (hk : k < 8) : (be8 n).take k ++ [((n * 8 / 2 ^ (56 - 8 * k) % 256 : Nat) : Int)] = (be8 n).take (k + 1) := by
  rw [List.take_add_one, be8_at n k hk]
  rfl
theorem tk_length (m : List Int) (k : Nat) (hk : k ≤ 8) : (padK m (zs m) ++ (be8 m.length).take k).length = m.length + 1 + zs m + k := by
  rw [List.length_append, padK_length, List.length_take, be8_length]
  omega
theorem row_bytes {w : World} {base g c n : Nat} {P : List Int} (h : w.ownsRow base 5 1 (.slice (some ⟨g, 0, none⟩) n c) n (u8s P)) (hn : n = P.length) (j : Nat) (hj : 64 * j + 64 ≤ P.length) : Bytes w ⟨g, 64 * j, none⟩ (fun i => (P.drop (64 * j)).getD i 0) := by
  intro i hi
  have e : (⟨g, 64 * j, none⟩ : Addr).add i = ⟨g, 64 * j + i, none⟩ := by
    unfold Addr.add
    split <;> simp_all
  rw [e, h.cellAt _ (by omega)]
  unfold u8s
  rw [List.getElem?_map, List.getElem?_eq_getElem (by omega)]
  simp [List.getElem?_drop, List.getElem?_eq_getElem (show 64 * j + i < P.length by omega)]
theorem cut_at {g c k : Nat} (h : k < c) : cutA (some ⟨g, 0, none⟩) c k = some ⟨g, k, none⟩ := by
  unfold cutA
  rw [if_neg (by omega)]
  simp only [Option.map_some, add_zero_lit]
theorem pad_pos (m : List Int) : 64 ≤ (pad m).length := by
  have h1 := pad_length m
  have h2 : 0 < (pad m).length := by rw [← pad_eq, List.length_append, be8_length]; omega
  omega
theorem pad_len (m : List Int) : (pad m).length = m.length + 1 + zs m + 8 := by rw [← pad_eq, List.length_append, be8_length, padK_length]
def oc (v : V8) (k : Nat) : List Int := (out v).take k ++ List.replicate (32 - k) 0
/-- The state behind all. -/
def hashV (m : List Int) : V8 := absorb iv (pad m)
theorem oc_length (v : V8) (k : Nat) (hk : k ≤ 32) : (oc v k).length = 32 := by
  simp [oc, out_length]
  omega
theorem oc_all (v : V8) : oc v 32 = out v := rfl
theorem oc_set (v : V8) (k : Nat) (hk : k < 32) : (u8s (oc v k)).set k (.int .u8 (lo8 (vget v (k / 4) >>> (24 - 8 * (k % 4))))) = u8s (oc v (k + 1)) := by
  have h : ∀ i : Fin 32, (u8s (oc v i.1)).set i.1 (.int .u8 (lo8 (vget v (i.1 / 4) >>> (24 - 8 * (i.1 % 4))))) = u8s (oc v (i.1 + 1)) := by
    intro i
    match i with
    | 0 => rfl | 1 => rfl | 2 => rfl | 3 => rfl | 4 => rfl | 5 => rfl | 6 => rfl | 7 => rfl | 8 => rfl | 9 => rfl | 10 => rfl | 11 => rfl | 12 => rfl | 13 => rfl | 14 => rfl | 15 => rfl
    | 16 => rfl | 17 => rfl | 18 => rfl | 19 => rfl | 20 => rfl | 21 => rfl | 22 => rfl | 23 => rfl | 24 => rfl | 25 => rfl | 26 => rfl | 27 => rfl | 28 => rfl | 29 => rfl | 30 => rfl | 31 => rfl
    | ⟨n + 32, h⟩ => exact absurd h (by omega)
  exact h ⟨k, hk⟩
theorem pad_take (P : List Int) (j : Nat) (h : 64 * j + 64 ≤ P.length) : absorb iv (P.take (64 * (j + 1))) = mixV (absorb iv (P.take (64 * j))) (fun i => (P.drop (64 * j)).getD i 0) := by
  have h1 := (whole_step (l := P.take (64 * j)) (r := P.drop (64 * j)) (by rw [List.length_take]; omega) (by rw [List.length_drop]; omega)).1
  rw [← h1]
  congr 1
  rw [show 64 * (j + 1) = 64 * j + 64 by omega, List.take_add]
end Go.Proofs.YthpnebmolaaapaaDoor.sha
