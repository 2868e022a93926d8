/- '==' of two structs or arrays of numbers, bools, floats and strings, cell by cell; loads of such kept whole. No condition. -/
import Derived.Test.YthpnebmolaaapaaDoorRows
import Derived.WalkKit
import Derived.Laws.StructEq
import Derived.Laws.Cells
import Derived.ChangeKeysEq
import Derived.Laws.Rows
namespace Go.Proofs.YthpnebmolaaapaaDoor.eqv
open Go.RowKit

def aggD : TypeDesc → Bool
  | .struct _ | .array _ _ => true
  | _ => false
/-! ### Loads kept whole -/
def cellsAt (w : World) (a : Addr) (k : Nat) : List Value := (List.range k).map fun j => (w.cell? (a.add j)).getD undef
def okAt (w : World) (a : Addr) (k : Nat) : Prop := ∀ j, j < k → (w.cell? (a.add j)).isSome = true
theorem cellsAt_length (w : World) (a : Addr) (k : Nat) : (cellsAt w a k).length = k := by simp [cellsAt]
/-- A load of a whole struct or array. -/
def bigLoad (t : Nat) (a : Addr) : Sem Value := loadVar t a
theorem run_bigLoad {P : Program} {t k : Nat} {w : World} {a : Addr} (hs : (P.info? t).map (·.size) = some k) (hu : ∃ d, P.underlying t = some d ∧ aggD d = true) (h : okAt w a k) :
    Sem.run P (bigLoad t a) w = .ok (.agg (cellsAt w a k).toArray) w := by
  obtain ⟨d, hu, hd⟩ := hu
  have hl : (loadCells a (cellsAt w a k).length).run P w = .ok (cellsAt w a k).toArray w :=
    run_loadCells_list (P := P) w a _ (fun j v hv => by
      unfold cellsAt at hv
      simp only [List.getElem?_map, Option.map_eq_some_iff] at hv
      obtain ⟨i, hi, rfl⟩ := hv
      obtain ⟨hj, hji⟩ := List.getElem?_eq_some_iff.1 hi
      simp only [List.length_range] at hj
      simp only [List.getElem_range] at hji
      subst hji
      have := h j hj
      cases hc : w.cell? (a.add j) with
      | none => rw [hc] at this; cases this
      | some x => rfl)
  rw [cellsAt_length] at hl
  cases hq : P.info? t with
  | none => simp [hq] at hs
  | some i =>
    have hsz : i.size = k := by simpa [hq] using hs
    have hagg : (isAgg t).run P w = .ok true w := by
      unfold isAgg
      rw [Sem.run_bind, run_underlying hu w]
      cases d <;> simp_all [aggD]
    unfold bigLoad
    simp [loadVar, Sem.run_bind, hagg, sizeOf, typeInfo, hq, hsz, hl]

/-! ### Equality -/
def leq : Value → Value → Bool
  | .bool a, .bool b => a == b
  | .int _ a, .int _ b => a == b
  | .float k a, .float _ b => Op.floatEq k a b
  | .string a, .string b => a == b
  | _, _ => false
def leqs : List Value → List Value → Bool
  | [], [] => true
  | x :: xs, y :: ys => leq x y && leqs xs ys
  | _, _ => false
theorem leqs_append : ∀ (a b c d : List Value), a.length = b.length → leqs (a ++ c) (b ++ d) = (leqs a b && leqs c d)
  | [], [], c, d, _ => by simp [leqs]
  | x :: a, y :: b, c, d, h => by
    simp only [List.cons_append, leqs, leqs_append a b c d (by simpa using h), Bool.and_assoc]
  | [], _ :: _, _, _, h => by simp at h
  | _ :: _, [], _, _, h => by simp at h
/-- A leaf's value is of its type. -/
def leafOk (P : Program) (t : TypeId) (v : Value) : Bool :=
  match P.underlying t, v with
  | some .bool, .bool _ => true
  | some (.int k), .int k' _ => decide (k' = k)
  | some (.float k), .float k' _ => decide (k' = k)
  | some .string, .string _ => true
  | _, _ => false
def leafsOk (P : Program) : List TypeId → List Value → Bool
  | [], [] => true
  | t :: ts, v :: vs => leafOk P t v && leafsOk P ts vs
  | _, _ => false
theorem leafsOk_length {P : Program} : ∀ {ts : List TypeId} {vs : List Value}, leafsOk P ts vs = true → vs.length = ts.length
  | [], [], _ => rfl
  | _ :: _, _ :: _, h => by
    simp only [leafsOk, Bool.and_eq_true] at h
    simp [leafsOk_length h.2]
  | [], _ :: _, h => by simp [leafsOk] at h
  | _ :: _, [], h => by simp [leafsOk] at h
theorem leafsOk_append {P : Program} : ∀ {ts us : List TypeId} {vs : List Value}, leafsOk P (ts ++ us) vs = true → leafsOk P ts (vs.take ts.length) = true ∧ leafsOk P us (vs.drop ts.length) = true
  | [], us, vs, h => by simpa [leafsOk] using h
  | t :: ts, us, v :: vs, h => by
    simp only [List.cons_append, leafsOk, Bool.and_eq_true] at h
    obtain ⟨h1, h2⟩ := leafsOk_append h.2
    exact ⟨by simp [leafsOk, h.1, h1], by simpa using h2⟩
  | _ :: _, _, [], h => by simp [leafsOk] at h

def isLeaf (P : Program) (t : TypeId) : Bool := match P.underlying t with | some .bool | some (.int _) | some (.float _) | some .string => true | _ => false
def leafsGo (P : Program) (rec : TypeId → Option (List TypeId)) : Nat → List Field → Option (List TypeId)
  | _, [] => some []
  | off, f :: fs =>
    if f.name == "_" || f.offset != off then none else
    (rec f.type).bind fun ts => if (P.info? f.type).map (·.size) == some ts.length then (leafsGo P rec (off + ts.length) fs).map (ts ++ ·) else none
/-- The cells' types of a type, by parts that lie one behind the other; none where it isn't made of plain cells so. -/
def leafs (P : Program) : Nat → TypeId → Option (List TypeId)
  | 0, _ => none
  | d + 1, t =>
    match P.underlying t with
    | some .bool | some (.int _) | some (.float _) | some .string => if (P.info? t).map (·.size) == some 1 then some [t] else none
    | some (.struct fs) => if P.stoodInHeld t then none else leafsGo P (leafs P d) 0 fs.toList
    | some (.array n e) => (leafs P d e).bind fun ts => if (P.info? e).map (·.size) == some ts.length then some (List.replicate n ts).flatten else none
    | _ => none
/-- A value out of its cells. -/
def mkV (P : Program) (t : TypeId) (cs : List Value) : Value := if isLeaf P t then cs.headD undef else .agg cs.toArray

theorem run_isAgg {P : Program} {t : TypeId} {w : World} {d : TypeDesc} (hu : P.underlying t = some d) : (isAgg t).run P w = .ok (aggD d) w := by
  unfold isAgg
  rw [Sem.run_bind, run_underlying hu w]
  cases d <;> rfl
theorem run_part {P : Program} {t : TypeId} {w : World} {off c : Nat} {xs : List Value} {d : TypeDesc} (hu : P.underlying t = some d)
    (hd : isLeaf P t = true ∨ aggD d = true) (hs : (P.info? t).map (·.size) = some c) (hc : isLeaf P t = true → c = 1) (hl : off + c ≤ xs.length) :
    (part t xs.toArray off).run P w = .ok (mkV P t ((xs.drop off).take c)) w := by
  unfold part mkV
  rw [Sem.run_bind, run_isAgg hu]
  simp only [Result.andThen_ok]
  rcases hd with hd | hd
  · have h1 := hc hd
    subst h1
    have hx : xs[off]? = some xs[off] := List.getElem?_eq_getElem (by omega)
    have ha : aggD d = false := by
      unfold isLeaf at hd
      rw [hu] at hd
      cases d <;> first | rfl | cases hd
    rw [ha, if_pos hd]
    simp only [Bool.false_eq_true, if_false]
    have hx' : xs.toArray[off]? = some xs[off] := by simp
    rw [hx']
    have hdrop : (xs.drop off).take 1 = [xs[off]] := by
      rw [List.drop_eq_getElem_cons (by omega)]
      rfl
    rw [hdrop]
    rfl
  · rw [hd]
    have hnl : ¬ isLeaf P t = true := by
      unfold isLeaf
      rw [hu]
      cases d <;> first | (intro h; cases h; done) | (simp [aggD] at hd; done)
    rw [if_neg hnl]
    simp only [if_true]
    cases hq : P.info? t with
    | none => simp [hq] at hs
    | some i =>
      have hsz : i.size = c := by simpa [hq] using hs
      simp only [Sem.run_bind, sizeOf, typeInfo, hq, hsz, Sem.run_pure, Result.andThen_ok, run_program]
      simp [List.extract, List.take_drop]

/-- What 'leafs' says of a type: its kind and size. -/
theorem leafs_kind {P : Program} {d : Nat} {t : TypeId} {ts : List TypeId} (h : leafs P d t = some ts) :
    ∃ k, P.underlying t = some k ∧ (isLeaf P t = true ∨ aggD k = true) := by
  cases d with
  | zero => simp [leafs] at h
  | succ d =>
    unfold leafs at h
    unfold isLeaf
    cases hu : P.underlying t with
    | none => simp [hu] at h
    | some k => cases k <;> simp_all [aggD]

def EqAt (P : Program) (d : Nat) : Prop := ∀ (t : TypeId) (ts : List TypeId) (xs ys : List Value) (w : World) (D : Nat), leafs P d t = some ts → d ≤ D → leafsOk P ts xs = true → leafsOk P ts ys = true →
  (Op.equalIn D t (mkV P t xs) (mkV P t ys)).run P w = .ok (leqs xs ys) w
theorem eq_leaf {P : Program} {t : TypeId} {x y : Value} {w : World} {D : Nat} (hx : leafOk P t x = true) (hy : leafOk P t y = true) : (Op.equalIn (D + 1) t x y).run P w = .ok (leq x y) w := by
  unfold leafOk at hx hy
  split at hx
  · rename_i a hu
    rw [hu] at hy
    cases y <;> first | (simp at hy; done) | simp [Op.equalIn, run_underlying hu, leq]
  · rename_i k k' a hu
    rw [hu] at hy
    cases y <;> first | (simp at hy; done) | skip
    simp only [decide_eq_true_eq] at hx hy
    subst hx hy
    simp [Op.equalIn, run_underlying hu, leq]
  · rename_i k k' a hu
    rw [hu] at hy
    cases y <;> first | (simp at hy; done) | skip
    simp only [decide_eq_true_eq] at hx hy
    subst hx hy
    simp [Op.equalIn, run_underlying hu, leq]
  · rename_i a hu
    rw [hu] at hy
    cases y <;> first | (simp at hy; done) | simp [Op.equalIn, run_underlying hu, leq]
  · cases hx

theorem eq_fields {P : Program} {d D : Nat} (ih : EqAt P d) (hD : d ≤ D) {w : World} {XS YS : List Value} : ∀ (fs : List Field) (off : Nat) (ts : List TypeId), leafsGo P (leafs P d) off fs = some ts →
    XS.length = off + ts.length → YS.length = off + ts.length → leafsOk P ts (XS.drop off) = true → leafsOk P ts (YS.drop off) = true →
    (Op.eqFields D XS.toArray YS.toArray fs).run P w = .ok (leqs (XS.drop off) (YS.drop off)) w
  | [], off, ts, h, hx, hy, _, _ => by
    simp only [leafsGo, Option.some.injEq] at h
    subst h
    rw [List.drop_of_length_le (by simp at hx; omega), List.drop_of_length_le (by simp at hy; omega)]
    simp [Op.eqFields, leqs]
  | f :: fs, off, ts, h, hx, hy, hox, hoy => by
    rw [leafsGo] at h
    split at h
    · cases h
    rename_i hn
    simp only [Bool.or_eq_true, beq_iff_eq, bne_iff_ne, not_or, ne_eq, Decidable.not_not] at hn
    obtain ⟨hn, ho⟩ := hn
    cases hl : leafs P d f.type with
    | none => simp [hl] at h
    | some us =>
      simp only [hl, Option.bind_some] at h
      split at h
      · rename_i hsz
        simp only [beq_iff_eq] at hsz
        cases hg : leafsGo P (leafs P d) (off + us.length) fs with
        | none => simp [hg] at h
        | some vs =>
          simp only [hg, Option.map_some, Option.some.injEq] at h
          subst h
          simp only [List.length_append] at hx hy
          obtain ⟨k, hu, hk⟩ := leafs_kind hl
          obtain ⟨ax, bx⟩ := leafsOk_append hox
          obtain ⟨ay, by'⟩ := leafsOk_append hoy
          rw [List.drop_drop] at bx by'
          have hone : isLeaf P f.type = true → us.length = 1 := fun hle => by
            cases d with
            | zero => simp [leafs] at hl
            | succ d =>
              unfold leafs at hl
              unfold isLeaf at hle
              cases hu' : P.underlying f.type with
              | none => simp [hu'] at hle
              | some k' =>
                rw [hu'] at hl hle
                cases k' <;> first | (cases hle; done) | skip
                all_goals
                  simp only at hl
                  split at hl
                  · simp only [Option.some.injEq] at hl; subst hl; rfl
                  · cases hl
          have px := run_part (w := w) (xs := XS) (off := f.offset) hu hk hsz hone (by omega)
          have py := run_part (w := w) (xs := YS) (off := f.offset) hu hk hsz hone (by omega)
          have he := ih f.type us _ _ w D hl hD ax ay
          have hr := eq_fields (w := w) ih hD fs (off + us.length) vs hg (by omega) (by omega) bx by'
          have hn' : f.name ≠ "_" := hn
          rw [Op.eqFields]
          rw [ho] at px py
          simp only [if_pos hn', ho, Sem.run_bind, px, py, he, Result.andThen_ok]
          have hsplit : leqs (XS.drop off) (YS.drop off) = (leqs ((XS.drop off).take us.length) ((YS.drop off).take us.length) && leqs (XS.drop (off + us.length)) (YS.drop (off + us.length))) := by
            rw [← List.drop_drop, ← List.drop_drop, ← leqs_append _ _ _ _ (by simp; omega), List.take_append_drop, List.take_append_drop]
          rw [hsplit]
          cases leqs ((XS.drop off).take us.length) ((YS.drop off).take us.length)
          · simp
          · simpa using hr
      · cases h

theorem eq_items {P : Program} {d D : Nat} (ih : EqAt P d) (hD : d ≤ D) {e : TypeId} {us : List TypeId} (hl : leafs P d e = some us) (hsz : (P.info? e).map (·.size) = some us.length) {w : World} {XS YS : List Value} :
    ∀ (m i : Nat), XS.length = (i + m) * us.length → YS.length = (i + m) * us.length →
      leafsOk P (List.replicate m us).flatten (XS.drop (i * us.length)) = true → leafsOk P (List.replicate m us).flatten (YS.drop (i * us.length)) = true →
    (do
      let r ← (forIn (List.range' i m 1) (⟨none, ()⟩ : (Option Bool × Unit)) fun j (_ : (Option Bool × Unit)) => do
        let a ← part e XS.toArray (j * us.length)
        let b ← part e YS.toArray (j * us.length)
        let q ← Op.equalIn D e a b
        if (!q) = true then pure (ForInStep.done ⟨some false, ()⟩) else pure (ForInStep.yield ⟨none, ()⟩) : Sem ((Option Bool × Unit)))
      match r.1 with
      | some a => pure a
      | none => pure true : Sem Bool).run P w = .ok (leqs (XS.drop (i * us.length)) (YS.drop (i * us.length))) w
  | 0, i, hx, hy, _, _ => by
    rw [List.drop_of_length_le (by rw [hx]; simp), List.drop_of_length_le (by rw [hy]; simp)]
    simp [leqs]
  | m + 1, i, hx, hy, ox, oy => by
    rw [List.replicate_succ, List.flatten_cons] at ox oy
    obtain ⟨ax, bx⟩ := leafsOk_append ox
    obtain ⟨ay, by'⟩ := leafsOk_append oy
    have e1 : i * us.length + us.length = (i + 1) * us.length := by rw [Nat.succ_mul]
    rw [List.drop_drop, e1] at bx by'
    obtain ⟨k, hu, hk⟩ := leafs_kind hl
    have hone : isLeaf P e = true → us.length = 1 := fun hle => by
      cases d with
      | zero => simp [leafs] at hl
      | succ d =>
        unfold leafs at hl
        unfold isLeaf at hle
        cases hu' : P.underlying e with
        | none => simp [hu'] at hle
        | some k' =>
          rw [hu'] at hl hle
          cases k' <;> first | (cases hle; done) | skip
          all_goals
            simp only at hl
            split at hl
            · simp only [Option.some.injEq] at hl; subst hl; rfl
            · cases hl
    have hle : i * us.length + us.length ≤ (i + (m + 1)) * us.length := by
      rw [e1]
      exact Nat.mul_le_mul_right _ (by omega)
    have px := run_part (w := w) (xs := XS) (off := i * us.length) hu hk hsz hone (by omega)
    have py := run_part (w := w) (xs := YS) (off := i * us.length) hu hk hsz hone (by omega)
    have he := ih e us _ _ w D hl hD ax ay
    have hr := eq_items (w := w) ih hD hl hsz m (i + 1) (by rw [hx]; congr 1; omega) (by rw [hy]; congr 1; omega) bx by'
    rw [List.range'_succ]
    simp only [List.forIn_cons, Sem.run_bind, px, py, he, Result.andThen_ok]
    have hsplit : leqs (XS.drop (i * us.length)) (YS.drop (i * us.length)) =
        (leqs ((XS.drop (i * us.length)).take us.length) ((YS.drop (i * us.length)).take us.length) && leqs (XS.drop ((i + 1) * us.length)) (YS.drop ((i + 1) * us.length))) := by
      rw [← e1, ← List.drop_drop, ← List.drop_drop, ← leqs_append _ _ _ _ (by simp; omega), List.take_append_drop, List.take_append_drop]
    rw [hsplit]
    cases leqs ((XS.drop (i * us.length)).take us.length) ((YS.drop (i * us.length)).take us.length)
    · simp
    · simp only [Bool.not_true, Bool.false_eq_true, if_false, Sem.run_pure, Result.andThen_ok, Bool.true_and]
      simpa only [Sem.run_bind] using hr

theorem eq_at (P : Program) : ∀ d, EqAt P d
  | 0 => fun t ts xs ys w D h => by simp [leafs] at h
  | d + 1 => fun t ts xs ys w D h hD hx hy => by
    obtain ⟨D, rfl⟩ : ∃ E, D = E + 1 := ⟨D - 1, by omega⟩
    have ih := eq_at P d
    have h0 := h
    unfold leafs at h
    cases hu : P.underlying t with
    | none => simp [hu] at h
    | some k =>
      rw [hu] at h
      have leafCase : isLeaf P t = true → ts = [t] → (Op.equalIn (D + 1) t (mkV P t xs) (mkV P t ys)).run P w = .ok (leqs xs ys) w := fun hl ht => by
        subst ht
        have lx := leafsOk_length hx
        have ly := leafsOk_length hy
        match xs, ys, lx, ly with
        | [x], [y], _, _ =>
          simp only [leafsOk, Bool.and_true] at hx hy
          unfold mkV
          rw [if_pos hl, if_pos hl]
          simp only [List.headD_cons, leqs, Bool.and_true]
          exact eq_leaf hx hy
      cases k <;> first | (simp at h; done) | skip
      case bool => simp only at h; split at h <;> simp at h; exact leafCase (by simp [isLeaf, hu]) h.symm
      case int => simp only at h; split at h <;> simp at h; exact leafCase (by simp [isLeaf, hu]) h.symm
      case float => simp only at h; split at h <;> simp at h; exact leafCase (by simp [isLeaf, hu]) h.symm
      case string => simp only at h; split at h <;> simp at h; exact leafCase (by simp [isLeaf, hu]) h.symm
      case array n e =>
        simp only at h
        cases hl : leafs P d e with
        | none => simp [hl] at h
        | some us =>
          simp only [hl, Option.bind_some] at h
          split at h
          · rename_i hsz
            simp only [beq_iff_eq] at hsz
            simp only [Option.some.injEq] at h
            subst h
            have hnl : ¬ isLeaf P t = true := by simp [isLeaf, hu]
            unfold mkV
            rw [if_neg hnl, if_neg hnl]
            have lx := leafsOk_length hx
            have ly := leafsOk_length hy
            simp only [List.length_flatten, List.map_replicate, List.sum_replicate_nat] at lx ly
            have hr := eq_items (w := w) (XS := xs) (YS := ys) ih (by omega : d ≤ D) hl hsz n 0 (by rw [lx]; simp) (by rw [ly]; simp) (by simpa using hx) (by simpa using hy)
            cases hq : P.info? e with
            | none => simp [hq] at hsz
            | some i =>
              have hs : i.size = us.length := by simpa [hq] using hsz
              simp only [Nat.zero_mul, List.drop_zero] at hr
              rw [← hr]
              simp only [Op.equalIn, Sem.run_bind, run_underlying hu, Result.andThen_ok, sizeOf, typeInfo, hq, hs, Sem.run_pure, run_program, Std.Legacy.Range.forIn_eq_forIn_range', Std.Legacy.Range.size, Nat.sub_zero, Nat.add_sub_cancel, Nat.div_one]
              congr 1
              funext a w'
              obtain ⟨a, _⟩ := a
              cases a <;> rfl
          · cases h
      case struct fs =>
        simp only at h
        split at h
        · cases h
        · rename_i hp
          have hfs : P.fieldsOf t = fs := by simp [Program.fieldsOf, hu]
          have hnl : ¬ isLeaf P t = true := by simp [isLeaf, hu]
          unfold mkV
          rw [if_neg hnl, if_neg hnl]
          have lx := leafsOk_length hx
          have ly := leafsOk_length hy
          rw [run_equalIn_struct (P := P) w D t _ _ (by rw [hfs]; exact hu) (by simpa using hp), hfs]
          have hr := eq_fields (w := w) (XS := xs) (YS := ys) ih (by omega : d ≤ D) fs.toList 0 ts h (by omega) (by omega) (by simpa using hx) (by simpa using hy)
          simpa using hr

/-- '==' and '!=' of two structs or arrays, kept whole till both are known. -/
def bigOp (op : BinOp) (t : Nat) (x y : Value) : Sem Value := binOp op t x y
/-- '==' of two structs or arrays. -/
theorem run_eql {P : Program} {t : TypeId} {ts : List TypeId} {xs ys : List Value} {w : World} (h : leafs P 9 t = some ts) (hnl : isLeaf P t = false) (hx : leafsOk P ts xs = true) (hy : leafsOk P ts ys = true) :
    (bigOp .eql t (.agg xs.toArray) (.agg ys.toArray)).run P w = .ok (.bool (leqs xs ys)) w := by
  unfold bigOp
  have he := eq_at P 9 t ts xs ys w 10000 h (by omega) hx hy
  unfold mkV at he
  rw [if_neg (by simp [hnl]), if_neg (by simp [hnl])] at he
  simp only [binOp]
  simp [Op.equal, Op.maxDepth, he]
theorem run_neq {P : Program} {t : TypeId} {ts : List TypeId} {xs ys : List Value} {w : World} (h : leafs P 9 t = some ts) (hnl : isLeaf P t = false) (hx : leafsOk P ts xs = true) (hy : leafsOk P ts ys = true) :
    (bigOp .neq t (.agg xs.toArray) (.agg ys.toArray)).run P w = .ok (.bool (!leqs xs ys)) w := by
  unfold bigOp
  have he := eq_at P 9 t ts xs ys w 10000 h (by omega) hx hy
  unfold mkV at he
  rw [if_neg (by simp [hnl]), if_neg (by simp [hnl])] at he
  simp only [binOp]
  simp [Op.equal, Op.maxDepth, he]
end Go.Proofs.YthpnebmolaaapaaDoor.eqv
