/- KeysRings: holders compared; the mark behind the length. No condition. -/
import Derived.Test.YthpnebmolaaapaaDoorKr5
namespace Go.Proofs.YthpnebmolaaapaaDoor.ring
open Go.RowKit eqv chunks sha
theorem leqs_refl : ∀ {xs : List Value}, (∀ v ∈ xs, leq v v = true) → leqs xs xs = true
  | [], _ => rfl
  | x :: xs, h => by
    have h2 : leqs xs xs = true := leqs_refl fun v hv => h v (List.mem_cons_of_mem _ hv)
    simp [leqs, h x List.mem_cons_self, h2]
def intT (P : Program) (t : TypeId) : Bool := match P.underlying t with | some (.int _) => true | _ => false
theorem int_leaf {P : Program} {t : TypeId} {v : Value} (h : leafOk P t v = true) (hn : intT P t = true) : ∃ k a, P.underlying t = some (.int k) ∧ v = .int k a := by
  unfold intT at hn
  unfold leafOk at h
  cases hu : P.underlying t with
  | none => simp [hu] at hn
  | some d =>
    cases d <;> simp [hu] at hn
    rename_i k
    rw [hu] at h
    cases v <;> simp at h
    rename_i k' a
    exact ⟨k, a, rfl, by rw [h]⟩
theorem leafsOk_get {P : Program} : ∀ {ts : List TypeId} {xs : List Value} {i : Nat} {v : Value}, leafsOk P ts xs = true → xs[i]? = some v → ∃ t, ts[i]? = some t ∧ leafOk P t v = true
  | [], [], i, v, _, h => by simp at h
  | [], _ :: _, i, v, h, _ => by simp [leafsOk] at h
  | _ :: _, [], i, v, h, _ => by simp [leafsOk] at h
  | a :: ts, b :: xs, 0, v, h, h' => by
    simp only [List.getElem?_cons_zero, Option.some.injEq] at h'
    subst h'
    simp only [leafsOk, Bool.and_eq_true] at h
    exact ⟨a, rfl, h.1⟩
  | a :: ts, b :: xs, i + 1, v, h, h' => by
    simp only [leafsOk, Bool.and_eq_true] at h
    simpa using leafsOk_get h.2 (by simpa using h')
theorem ints_refl {P : Program} {ts : List TypeId} {xs : List Value} (h : leafsOk P ts xs = true) (hi : ts.all (intT P) = true) : leqs xs xs = true := leqs_refl fun v hv => by
  obtain ⟨i, hi'⟩ := List.getElem?_of_mem hv
  obtain ⟨t, ht, hl⟩ := leafsOk_get h hi'
  obtain ⟨k, a, _, rfl⟩ := int_leaf hl (List.all_eq_true.1 hi t (List.mem_of_getElem? ht))
  simp [leq]
def tsK : List TypeId := List.replicate 32 5
def tsHd : List TypeId := 3 :: tsK
theorem leafsK : leafs Tryd.prog 9 24 = some tsK := by kernel_rfl
theorem leafsHd : leafs Tryd.prog 9 26 = some tsHd := by kernel_rfl
theorem intsK : tsK.all (intT Tryd.prog) = true := by kernel_rfl
theorem intsHd : tsHd.all (intT Tryd.prog) = true := by kernel_rfl
theorem okU8 : ∀ l : List Int, leafsOk Tryd.prog (List.replicate l.length 5) (u8s l) = true
  | [] => rfl
  | z :: l => by
    have h := okU8 l
    have h0 : leafOk Tryd.prog 5 (.int .u8 z) = true := by
      unfold leafOk
      rw [Tryd.underlying5]
      rfl
    simp only [List.length_cons, List.replicate_succ, u8s, List.map_cons, leafsOk, Bool.and_eq_true]
    exact ⟨h0, h⟩
theorem okHash (m : List Int) : leafsOk Tryd.prog tsK (u8s (sha.hash m)) = true := okU8 (sha.hash m)
/-- A holder out of its leafs. -/
theorem hd_of {x : List Value} (h : leafsOk Tryd.prog tsHd x = true) (h1 : ∀ v ∈ x, v.oneCell' = true) (h2 : ∀ v ∈ x, ∀ k n, v = .int k n → (Lit.int k n).wf = true) : Hd x := by
  have hl := leafsOk_length h
  match x, h, h1, h2, hl with
  | [], _, _, _, hl => cases hl
  | v :: ks, h, h1, h2, hl =>
    simp only [tsHd, leafsOk, Bool.and_eq_true] at h
    obtain ⟨k, a, hk, rfl⟩ := int_leaf h.1 (by kernel_rfl)
    rw [Tryd.underlying3] at hk
    cases hk
    exact ⟨a, ks, rfl, leafsOk_length h.2, fun v hv => h1 v (List.mem_cons_of_mem _ hv), h2 _ List.mem_cons_self _ _ rfl⟩
theorem toOpH (op : BinOp) (x y : Value) : binOp op 26 x y = bigOp op 26 x y := rfl
theorem toOpK (op : BinOp) (x y : Value) : binOp op 24 x y = bigOp op 24 x y := rfl
theorem neqH {x : List Value} {w : World} (h : leafsOk Tryd.prog tsHd x = true) : (bigOp .neq 26 (.agg x.toArray) (.agg x.toArray)).run Tryd.prog w = .ok (.bool false) w := by
  rw [run_neq leafsHd (by kernel_rfl) h h, ints_refl h intsHd]
  rfl
theorem eqlK (s : ByteArray) (w : World) : (bigOp .eql 24 (keyV s) (keyV s)).run Tryd.prog w = .ok (.bool true) w := by
  unfold keyV
  rw [run_eql leafsK (by kernel_rfl) (okHash _) (okHash _), ints_refl (okHash _) intsK]
theorem eqGuardK (a b : Operand) (s : ByteArray) (w : World) : (eqGuard .eql 24 a b (keyV s) (keyV s)).run Tryd.prog w = .ok () w := by
  unfold keyV
  generalize sha.hash (keyL s) = m
  simp [eqGuard]
/-- The mark that the law lays behind the length. -/
def markH : List Value := .int .i64 77 :: u8s z32
theorem markH_hd : Hd markH := ⟨77, _, rfl, rfl, u8s_one _, by decide⟩
theorem markH_length : markH.length = 33 := rfl
theorem markH_au : au markH = 77 := rfl
def bldH (parts : Array (Nat × Value)) : Sem Value := Instr.build 26 parts
theorem toBldH (parts : Array (Nat × Value)) : Instr.build 26 parts = bldH parts := rfl
theorem run_bldH (w : World) : (bldH #[(0, .int .i64 77)]).run Tryd.prog w = .ok (.agg markH.toArray) w := run_build w 26 _ _ (by kernel_rfl)
theorem own0 {W : World} {g base : Nat} (h : Blk W g 26 []) (hb : base ≤ g) : W.ownsRow base 26 33 (.slice (some ⟨g, 0, none⟩) 0 0) 0 [] :=
  ⟨by simp, .inr ⟨g, 0, #[], rfl, hb, h, Nat.le_refl _, Nat.zero_le _, by simp, by simp⟩⟩
theorem slMark (w2 : World) : Sl (w2.alloc (.cells markH.toArray 26)) (some ⟨w2.heap.size, 0, none⟩) 33 [markH] :=
  Blk.sl (rest := []) (t := 26) (by simpa using Blk.new w2 26 markH) (by intro x hx; simp at hx; subst hx; exact markH_length)
theorem sl_front {w : World} {A : Option Addr} {s : Nat} {X Y : List (List Value)} (h : Sl w A s (X ++ Y)) : Sl w A s X := by
  refine ⟨fun x hx => h.1 x (List.mem_append_left _ hx), fun hn => ?_⟩
  obtain ⟨ad, e, hc⟩ := h.2 (by rw [List.length_append]; omega)
  refine ⟨ad, e, fun k hk j u hu => hc k (by rw [List.length_append]; omega) j u ?_⟩
  have : ch (X ++ Y) k = ch X k := by
    unfold ch
    rw [List.getD_eq_getElem?_getD, List.getD_eq_getElem?_getD, List.getElem?_append_left hk]
  rw [this]
  exact hu
theorem ch_last (X : List (List Value)) (y : List Value) : ch (X ++ [y]) X.length = y := by
  unfold ch
  rw [List.getD_eq_getElem?_getD, List.getElem?_append_right (Nat.le_refl _)]
  simp
end Go.Proofs.YthpnebmolaaapaaDoor.ring
