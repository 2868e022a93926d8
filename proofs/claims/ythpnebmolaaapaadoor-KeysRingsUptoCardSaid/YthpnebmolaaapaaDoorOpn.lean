/- What the reading of plain data says of its cells: each of its kind, whole, and no longer than the reading's bulk. No condition. -/
import Derived.Test.YthpnebmolaaapaaDoorCh
import Derived.Test.YthpnebmolaaapaaDoorBulk
import Derived.Deep.Slices
import Derived.OpenShut
import Derived.Carry
namespace Go.Proofs.YthpnebmolaaapaaDoor.opn
open Go.RowKit eqv chunks
variable {H : Type} {enc : TypeId × Value → H} {P : Program} {w : World} {base : Nat} {spare : Nat → Bool} {held : Bool}
/-- A cell of a plain value: whole, in range, and no longer than b. -/
def CellOk (b : Nat) (v : Value) : Prop := v.oneCell' = true ∧ (∀ s, v = .string s → s.size + 1 ≤ b) ∧ ∀ k n, v = .int k n → (Lit.int k n).wf = true
theorem CellOk.mono {b c : Nat} {v : Value} (h : CellOk b v) (hb : b ≤ c) : CellOk c v := ⟨h.1, fun s e => Nat.le_trans (h.2.1 s e) hb, h.2.2⟩
theorem leafsOk_join {P : Program} : ∀ {ts us : List TypeId} {a b : List Value}, leafsOk P ts a = true → leafsOk P us b = true → leafsOk P (ts ++ us) (a ++ b) = true
  | [], us, [], b, _, h => by simpa using h
  | t :: ts, us, v :: a, b, h, h' => by
    simp only [leafsOk, Bool.and_eq_true] at h
    simp [leafsOk, h.1, leafsOk_join h.2 h']
  | [], _, _ :: _, _, h, _ => by simp [leafsOk] at h
  | _ :: _, _, [], _, h, _ => by simp [leafsOk] at h
def PlainAt (enc : TypeId × Value → H) (P : Program) (w : World) (base : Nat) (spare : Nat → Bool) (held : Bool) (d : Nat) : Prop :=
  ∀ (t : TypeId) (ts : List TypeId) (cs : List Value) (fuel : Nat) (x : DataW H × List MemPlace), leafs P d t = some ts → P.cellsOf t = ts.length → DataW.trod enc P w base spare held fuel t cs = some x →
    leafsOk P ts cs = true ∧ ∀ v ∈ cs, CellOk (Rows.uptoBulk x.1) v
theorem cellsOf_of {P : Program} {t : TypeId} {n : Nat} (h : (P.info? t).map (·.size) = some n) : P.cellsOf t = n := by simp [Program.cellsOf, h]
theorem plain_fields {d n : Nat} (ih : PlainAt enc P w base spare held d) (cs : List Value) : ∀ (fs : List Field) (xs : List (DataW H × List MemPlace)) (off : Nat) (ts : List TypeId), leafsGo P (leafs P d) off fs = some ts → cs.length = off + ts.length → xs.length = fs.length →
    (∀ (i : Nat) (f : Field), fs[i]? = some f → DataW.trod enc P w base spare held n f.type ((cs.drop f.offset).take (P.cellsOf f.type)) = xs[i]?) →
    leafsOk P ts (cs.drop off) = true ∧ ∀ v ∈ cs.drop off, CellOk (Rows.uptoBulkAll (xs.map (·.1))) v
  | [], xs, off, ts, h, hl, _, _ => by
    simp only [leafsGo, Option.some.injEq] at h
    subst h
    rw [List.drop_of_length_le (by simp at hl; omega)]
    exact ⟨rfl, fun v hv => by cases hv⟩
  | f :: fs, [], off, ts, _, _, hx, _ => by simp at hx
  | f :: fs, x :: xs, off, ts, h, hl, hx, hg => by
    rw [leafsGo] at h
    split at h
    · cases h
    rename_i hn
    simp only [Bool.or_eq_true, beq_iff_eq, bne_iff_ne, not_or, ne_eq, Decidable.not_not] at hn
    obtain ⟨_, ho⟩ := hn
    cases hlf : leafs P d f.type with
    | none => simp [hlf] at h
    | some us =>
      simp only [hlf, Option.bind_some] at h
      split at h
      · rename_i hsz
        simp only [beq_iff_eq] at hsz
        cases hgo : leafsGo P (leafs P d) (off + us.length) fs with
        | none => simp [hgo] at h
        | some vs =>
          simp only [hgo, Option.map_some, Option.some.injEq] at h
          subst h
          simp only [List.length_append] at hl
          have hc := cellsOf_of hsz
          have h0 := hg 0 f rfl
          rw [ho, hc] at h0
          obtain ⟨a1, a2⟩ := ih f.type us _ n x hlf hc h0
          obtain ⟨b1, b2⟩ := plain_fields ih cs fs xs (off + us.length) vs hgo (by omega) (by simpa using hx) fun i g hi => by simpa using hg (i + 1) g (by simpa using hi)
          have hsplit : cs.drop off = (cs.drop off).take us.length ++ cs.drop (off + us.length) := by rw [← List.drop_drop, List.take_append_drop]
          rw [hsplit]
          refine ⟨leafsOk_join a1 b1, fun v hv => ?_⟩
          simp only [List.map_cons, Rows.uptoBulkAll]
          rcases List.mem_append.1 hv with hv | hv
          · exact (a2 v hv).mono (by omega)
          · exact (b2 v hv).mono (by omega)
      · cases h
theorem plain_items {d n : Nat} (ih : PlainAt enc P w base spare held d) {e : TypeId} {us : List TypeId} (hl : leafs P d e = some us) (hc : P.cellsOf e = us.length) (cs : List Value) : ∀ (m i : Nat) (xs : List (DataW H × List MemPlace)), cs.length = (i + m) * us.length → xs.length = m →
    (∀ j, j < m → DataW.trod enc P w base spare held n e ((cs.drop ((i + j) * us.length)).take us.length) = xs[j]?) →
    leafsOk P (List.replicate m us).flatten (cs.drop (i * us.length)) = true ∧ ∀ v ∈ cs.drop (i * us.length), CellOk (Rows.uptoBulkAll (xs.map (·.1))) v
  | 0, i, xs, h, _, _ => by
    rw [List.drop_of_length_le (by rw [h]; simp)]
    exact ⟨by simp [leafsOk], fun v hv => by cases hv⟩
  | m + 1, i, [], h, hx, _ => by simp at hx
  | m + 1, i, x :: xs, h, hx, hg => by
    have h0 := hg 0 (by omega)
    rw [Nat.add_zero] at h0
    obtain ⟨a1, a2⟩ := ih e us _ n x hl hc h0
    obtain ⟨b1, b2⟩ := plain_items ih hl hc cs m (i + 1) xs (by rw [h]; congr 1; omega) (by simpa using hx) fun j hj => by
      have := hg (j + 1) (by omega)
      rw [show i + (j + 1) = i + 1 + j by omega] at this
      simpa using this
    have hsplit : cs.drop (i * us.length) = (cs.drop (i * us.length)).take us.length ++ cs.drop ((i + 1) * us.length) := by
      rw [Nat.succ_mul, ← List.drop_drop, List.take_append_drop]
    rw [hsplit, List.replicate_succ, List.flatten_cons]
    refine ⟨leafsOk_join a1 b1, fun v hv => ?_⟩
    simp only [List.map_cons, Rows.uptoBulkAll]
    rcases List.mem_append.1 hv with hv | hv
    · exact (a2 v hv).mono (by omega)
    · exact (b2 v hv).mono (by omega)
theorem trod_float {k : FloatKind} {fuel : Nat} {t : TypeId} {cs : List Value} {x : DataW H × List MemPlace} (ht : P.underlying t = some (.float k)) (h : DataW.trod enc P w base spare held fuel t cs = some x) : ∃ b, cs = [.float k b] := by
  cases fuel with
  | zero => simp [DataW.trod] at h
  | succ n =>
    unfold DataW.trod at h
    rw [ht] at h
    split at h <;> simp_all
theorem plain_at : ∀ d, PlainAt enc P w base spare held d
  | 0 => fun t ts cs fuel x h => by simp [leafs] at h
  | d + 1 => fun t ts cs fuel x h hc hx => by
    have ih := plain_at d
    unfold leafs at h
    cases hu : P.underlying t with
    | none => simp [hu] at h
    | some k =>
      rw [hu] at h
      cases k <;> first | (simp at h; done) | skip
      case bool =>
        obtain ⟨b, rfl, rfl⟩ := DataW.trod_bool hu hx
        simp only at h
        split at h <;> simp at h
        subst h
        exact ⟨by simp [leafsOk, leafOk, hu], fun v hv => by simp at hv; subst hv; exact ⟨rfl, (fun s e => by cases e), (fun k n e => by cases e)⟩⟩
      case int k =>
        obtain ⟨n, rfl, rfl, hw⟩ := DataW.trod_int hu hx
        simp only at h
        split at h <;> simp at h
        subst h
        exact ⟨by simp [leafsOk, leafOk, hu], fun v hv => by simp at hv; subst hv; exact ⟨rfl, (fun s e => by cases e), (fun k n e => by cases e; exact hw)⟩⟩
      case float k =>
        obtain ⟨b, rfl⟩ := trod_float hu hx
        simp only at h
        split at h <;> simp at h
        subst h
        exact ⟨by simp [leafsOk, leafOk, hu], fun v hv => by simp at hv; subst hv; exact ⟨rfl, (fun s e => by cases e), (fun k n e => by cases e)⟩⟩
      case string =>
        obtain ⟨s, rfl, rfl, hm⟩ := DataW.trod_string hu hx
        simp only at h
        split at h <;> simp at h
        subst h
        refine ⟨by simp [leafsOk, leafOk, hu], fun v hv => ?_⟩
        simp at hv
        subst hv
        refine ⟨rfl, fun s e => ?_, (fun k n e => by cases e)⟩
        cases e
        rw [bulks.string_eq, Array.length_toList]
        exact Nat.le_refl _
      case array n e =>
        obtain ⟨xs, m, rfl, rfl, hlen, hxl, hg⟩ := DataW.trod_array hu hx
        simp only at h
        cases hl : leafs P d e with
        | none => simp [hl] at h
        | some us =>
          simp only [hl, Option.bind_some] at h
          split at h
          · rename_i hsz
            simp only [beq_iff_eq] at hsz
            simp only [Option.some.injEq] at h
            subst h
            have hce := cellsOf_of hsz
            rw [hc] at hlen
            have := plain_items ih hl hce cs n 0 xs (by rw [hlen]; simp) hxl (fun j hj => by have := hg j hj; rw [hce] at this; simpa using this)
            simp only [Nat.zero_mul, List.drop_zero] at this
            exact ⟨this.1, fun v hv => (this.2 v hv).mono (by simp only [Rows.uptoBulk]; omega)⟩
          · cases h
      case struct fs =>
        simp only at h
        split at h
        · cases h
        · obtain ⟨xs, m, rfl, rfl, hlen, hxl, hg⟩ := DataW.trod_struct hu hx
          rw [hc] at hlen
          have := plain_fields ih cs fs.toList xs 0 ts h (by omega) (by simpa using hxl) (fun i f hf => hg i f (by simpa using hf))
          simp only [List.drop_zero] at this
          exact ⟨this.1, fun v hv => (this.2 v hv).mono (by simp only [Rows.uptoBulk]; omega)⟩
/-- A slice of plain elements, opened. -/
theorem open_plain {t e : TypeId} {ts : List TypeId} {fuel : Nat} {cs : List Value} {x : DataW H × List MemPlace} (ht : P.underlying t = some (.slice e)) (hl : leafs P 9 e = some ts) (hc : P.cellsOf e = ts.length)
    (h : DataW.trod enc P w base (fun _ => true) held fuel t cs = some x) :
    ∃ A X c, cs = [.slice A X.length c] ∧ Sl w A ts.length X ∧ (∀ x ∈ X, leafsOk P ts x = true) ∧ (∀ y ∈ X, ∀ v ∈ y, CellOk (Rows.uptoBulk x.1) v) ∧ (A = none → X = [] ∧ c = 0) ∧ X.length + 1 ≤ Rows.uptoBulk x.1 ∧ X.length ≤ c := by
  rcases DataW.trod_slice ht h with ⟨rfl, rfl⟩ | ⟨a, len, cap, elems, rest, n, rfl, rfl, rfl, hb, hle, hcap, hlen, hel, hsp, _⟩
  · refine ⟨none, [], 0, rfl, ⟨(fun x hx => by cases hx), (fun h => by simp at h)⟩, fun x hx => by (cases hx), fun x hx => by (cases hx), fun _ => ⟨rfl, rfl⟩, ?_, Nat.le_refl _⟩
    simp [Rows.uptoBulk]
  · -- the chunks are the cells at hand
    have hget : ∀ i, i < len → ∃ y z, w.cells? base (a.add (i * P.cellsOf e)) (P.cellsOf e) = some y ∧ DataW.trod enc P w base (fun _ => true) held n e y = some z ∧ elems[i]? = some z := by
      intro i hi
      have h1 := hel i hi
      have h2 : elems[i]? = some elems[i] := List.getElem?_eq_getElem (by omega)
      rw [h2] at h1
      obtain ⟨y, hy, hz⟩ := Option.bind_eq_some_iff.1 h1
      exact ⟨y, _, hy, hz, h2⟩
    let X : List (List Value) := (List.range len).map fun i => (w.cells? base (a.add (i * P.cellsOf e)) (P.cellsOf e)).getD []
    have hXl : X.length = len := by simp [X]
    have hch : ∀ i, i < len → ∃ z, w.cells? base (a.add (i * P.cellsOf e)) (P.cellsOf e) = some (ch X i) ∧ DataW.trod enc P w base (fun _ => true) held n e (ch X i) = some z ∧ elems[i]? = some z := by
      intro i hi
      obtain ⟨y, z, h1, h2, h3⟩ := hget i hi
      have e1 : ch X i = y := by
        unfold ch
        rw [List.getD_eq_getElem?_getD]
        simp [X, List.getElem?_range hi, h1]
      rw [e1]
      exact ⟨z, h1, h2, h3⟩
    have hmem : ∀ y ∈ X, ∃ i, i < len ∧ y = ch X i := by
      intro y hy
      obtain ⟨i, hi⟩ := List.getElem?_of_mem hy
      have hi2 := (List.getElem?_eq_some_iff.1 hi).1
      exact ⟨i, by omega, by simp [ch, hi]⟩
    have hok : ∀ y ∈ X, leafsOk P ts y = true ∧ ∀ v ∈ y, CellOk (Rows.uptoBulk (DataW.slice (elems.map (·.1)) (rest.map (·.1)))) v := by
      intro y hy
      obtain ⟨i, hi, rfl⟩ := hmem y hy
      obtain ⟨z, _, h2, h3⟩ := hch i hi
      obtain ⟨p1, p2⟩ := plain_at 9 e ts _ n z hl hc h2
      refine ⟨p1, fun v hv => (p2 v hv).mono ?_⟩
      have : z.1 ∈ elems.map (·.1) := List.mem_map_of_mem (List.mem_of_getElem? h3)
      have := bulks.part_le this
      simp only [Rows.uptoBulk]
      omega
    have hXs : ∀ y ∈ X, y.length = ts.length := fun y hy => leafsOk_length (hok y hy).1
    refine ⟨some a, X, cap, by rw [hXl], ⟨hXs, fun _ => ⟨a, rfl, fun k hk j u hu => ?_⟩⟩, fun y hy => (hok y hy).1, fun y hy => (hok y hy).2, (fun h => by cases h), ?_, by omega⟩
    · rw [hXl] at hk
      obtain ⟨z, h1, _, _⟩ := hch k hk
      obtain ⟨_, _, hcell⟩ := World.cells?_some h1
      rw [← hc, hcell j (by rw [hc, ← ch_length hXs (by rw [hXl]; exact hk)]; exact (List.getElem?_eq_some_iff.1 hu).1)]
      exact hu
    · have := bulks.slice_le (elems.map (·.1)) (rest.map (·.1))
      simp only [List.length_map] at this
      rw [hXl]
      show len + 1 ≤ Rows.uptoBulk (DataW.slice (elems.map (·.1)) (rest.map (·.1)))
      omega
end Go.Proofs.YthpnebmolaaapaaDoor.opn
