/- Linear-time checks for the witness of a row that lists great tables: that a world's variables are shaped, and that a great flat table reads as it is listed. No condition. -/
import Derived.Test.YtcooeihpglioeaaGreatDoorRows
import Derived.LaidLaws
import Derived.Deep.DeepLaidRun
import Derived.Deep.DeepWitnessRowRef
import Derived.DataWitness
import Derived.ChangeSlices
import Derived.JoinedCond
import Derived.MakeChecks
namespace Go.Proofs.YtcooeihpglioeaaGreatDoor.wit

def okLin (P : Program) (w : World) : List TypeId → List Value → Bool
  | [], [] => true
  | t :: ts, v :: vs => Cell.okRefB P w t v && okLin P w ts vs
  | _, _ => false
theorem okLin_get {P : Program} {w : World} : ∀ {ts : List TypeId} {vs : List Value}, okLin P w ts vs = true →
    vs.length = ts.length ∧ ∀ (i : Nat) (v : Value), vs[i]? = some v → ∃ u, ts[i]? = some u ∧ Cell.okRefB P w u v = true
  | [], [], _ => ⟨rfl, fun i v h => by simp at h⟩
  | t :: ts, v :: vs, h => by
    simp only [okLin, Bool.and_eq_true] at h
    obtain ⟨hl, hg⟩ := okLin_get h.2
    refine ⟨by simp [hl], fun i x hx => ?_⟩
    cases i with
    | zero =>
      simp only [List.getElem?_cons_zero, Option.some.injEq] at hx
      subst hx
      exact ⟨t, rfl, h.1⟩
    | succ i => exact hg i x hx
  | [], _ :: _, h => by simp [okLin] at h
  | _ :: _, [], h => by simp [okLin] at h
def rowLin (P : Program) (w : World) (t : TypeId) (cs : Array Value) : Bool :=
  match P.cellTypes P.depth t with
  | some ts => okLin P w ts cs.toList
  | none => false
theorem row_of_lin {P : Program} {w : World} {t : TypeId} {cs : Array Value} (h : rowLin P w t cs = true) : Row.ok P w .any 0 t cs := by
  unfold rowLin at h
  split at h
  · rename_i ts hts
    obtain ⟨hl, hg⟩ := okLin_get h
    refine ⟨ts, hts, ⟨1, by rw [Nat.one_mul, ← hl]; simp⟩, fun i v hv => ?_⟩
    have hv' : cs.toList[i]? = some v := by simpa using hv
    obtain ⟨u, hu, hok⟩ := hg i v hv'
    have hi : i < ts.length := (List.getElem?_eq_some_iff.1 hu).1
    exact ⟨u, by rw [Nat.mod_eq_of_lt hi]; exact hu, Cell.ok_of_okRefB hok⟩
  · cases h
def varLin (P : Program) (w : World) (g : Nat) : Bool :=
  match ((begin P (fun _ _ => 0) default).world.heap[g]?).bind Obj.row? with
  | none => true
  | some (zero, t) =>
    match w.heap[g]? with
    | some (.cells cs t' frozen) => decide (t' = t) && decide (frozen = (0, 0)) && (cs.toList.length == zero.toList.length) && (!P.buildable t || rowLin P w t cs)
    | _ => false
theorem shaped_of_lin {P : Program} {w : World} (hv : ∀ g, g < P.globals.size → varLin P w g = true)
    (hr : (w.heap.toList.drop P.globals.size).take ((begin P (fun _ _ => 0) default).world.heap.size - P.globals.size) =
      (begin P (fun _ _ => 0) default).world.heap.toList.drop P.globals.size) : w.Shaped P := by
  refine ⟨fun g zero t hg hz => ?_, fun k h1 h2 => ?_⟩
  · have h := hv g hg
    unfold varLin at h
    rw [hz] at h
    simp only at h
    split at h
    · rename_i cs t' fr hw
      simp only [Bool.and_eq_true, decide_eq_true_eq, beq_iff_eq, Bool.or_eq_true, Bool.not_eq_true'] at h
      obtain ⟨⟨⟨rfl, rfl⟩, hs⟩, hb⟩ := h
      refine ⟨cs, hw, by simpa using hs, fun hbuild => ?_⟩
      rcases hb with hb | hb
      · rw [hbuild] at hb; cases hb
      · exact row_of_lin hb
    · cases h
  · have h := congrArg (·[k - P.globals.size]?) hr
    simp only [List.getElem?_take, List.getElem?_drop, Array.getElem?_toList] at h
    rw [if_pos (by omega), Nat.add_sub_cancel' h1] at h
    exact h

/-! A great flat table: its cells, one behind the other, read as it. -/
def flat : Nat → DataW Unit → List Value
  | 0, _ => []
  | _ + 1, .lit (.bool b) => [.bool b]
  | _ + 1, .lit (.int k n) => [.int k n]
  | _ + 1, .lit (.float k n) => [.float k n]
  | _ + 1, .lit (.string bs) => [.string ⟨bs.toArray⟩]
  | f + 1, .agg ps => ps.flatMap (flat f)
  | _ + 1, _ => []
def fitRow (fit : TypeId → DataW Unit → Bool) (size : TypeId → Nat) : Nat → List Field → List (DataW Unit) → Bool
  | _, [], [] => true
  | off, f :: fs, d :: ds => f.offset == off && fit f.type d && fitRow fit size (off + size f.type) fs ds
  | _, _, _ => false
def fits (P : Program) : Nat → TypeId → DataW Unit → Bool
  | 0, _, _ => false
  | n + 1, t, d =>
    match P.underlying t, d with
    | some (.int k), .lit (.int k' x) => decide (k' = k) && (Lit.int k x).wf && P.cellsOf t == 1
    | some (.array m e), .agg ps => ps.length == m && P.cellsOf t == m * P.cellsOf e && ps.all (fits P n e)
    | some (.struct fs), .agg ps => fitRow (fits P n) P.cellsOf 0 fs.toList ps && P.cellsOf t == ((fs.toList.map fun f => P.cellsOf f.type).sum)
    | _, _ => false

theorem flat_chunks {f c : Nat} : ∀ (ps : List (DataW Unit)), (∀ p ∈ ps, (flat f p).length = c) → (ps.flatMap (flat f)).length = ps.length * c ∧
    ∀ (i : Nat) (p : DataW Unit), ps[i]? = some p → ((ps.flatMap (flat f)).drop (i * c)).take c = flat f p
  | [], _ => ⟨by simp, fun i p h => by simp at h⟩
  | q :: ps, h => by
    have hq := h q (List.mem_cons_self)
    obtain ⟨hl, hg⟩ := flat_chunks ps (fun p hp => h p (List.mem_cons_of_mem _ hp))
    refine ⟨by simp [hq, hl, Nat.succ_mul, Nat.add_comm], fun i p hp => ?_⟩
    cases i with
    | zero =>
      simp only [List.getElem?_cons_zero, Option.some.injEq] at hp
      subst hp
      simp only [List.flatMap_cons, Nat.zero_mul, List.drop_zero]
      rw [← hq, List.take_left']
      rfl
    | succ i =>
      have e : (i + 1) * c = (flat f q).length + i * c := by rw [hq, Nat.succ_mul]; omega
      rw [List.flatMap_cons, e, List.drop_append]
      simp only [Nat.add_sub_cancel_left]
      rw [List.drop_eq_nil_of_le (by omega), List.nil_append]
      exact hg i p hp

theorem flat_row {P : Program} {f n : Nat} {sz : TypeId → Nat} {w : World} : ∀ (fs : List Field) (ps : List (DataW Unit)) (off : Nat) (front : List Value),
    fitRow (fits P n) sz off fs ps = true → front.length = off →
    (∀ t d, fits P n t d = true → (flat f d).length = sz t ∧ DataW.trod (fun _ => ()) P w 0 (fun _ => true) false f t (flat f d) = some (d, [])) →
    (ps.flatMap (flat f)).length = (fs.map fun g => sz g.type).sum ∧
    fs.mapM (fun g => DataW.trod (fun _ => ()) P w 0 (fun _ => true) false f g.type (((front ++ ps.flatMap (flat f)).drop g.offset).take (sz g.type))) = some (ps.map fun d => (d, []))
  | [], [], _, _, _, _, _ => ⟨by simp, by simp⟩
  | g :: fs, d :: ps, off, front, h, hfr, hall => by
    simp only [fitRow, Bool.and_eq_true, beq_iff_eq] at h
    obtain ⟨⟨ho, hf⟩, hr⟩ := h
    obtain ⟨hl, ht⟩ := hall g.type d hf
    obtain ⟨h1, h2⟩ := flat_row fs ps (off + sz g.type) (front ++ flat f d) hr (by simp [hfr, hl]) hall
    refine ⟨by simp [hl, h1], ?_⟩
    have hc : ((front ++ (d :: ps).flatMap (flat f)).drop g.offset).take (sz g.type) = flat f d := by
      rw [List.flatMap_cons, ho, List.drop_append, hfr, Nat.sub_self, List.drop_zero, List.drop_eq_nil_of_le (by omega), List.nil_append, ← hl, List.take_left']
      rfl
    have he : front ++ (d :: ps).flatMap (flat f) = (front ++ flat f d) ++ ps.flatMap (flat f) := by simp
    rw [List.mapM_cons, hc, ht, he, h2]
    rfl
  | [], _ :: _, _, _, h, _, _ => by simp [fitRow] at h
  | _ :: _, [], _, _, h, _, _ => by simp [fitRow] at h

theorem flat_trod {P : Program} {w : World} : ∀ (n : Nat) (t : TypeId) (d : DataW Unit), fits P n t d = true →
    (flat n d).length = P.cellsOf t ∧ DataW.trod (fun _ => ()) P w 0 (fun _ => true) false n t (flat n d) = some (d, [])
  | 0, _, _, h => by simp [fits] at h
  | n + 1, t, d, h => by
    unfold fits at h
    split at h
    · rename_i k k' x hu
      simp only [Bool.and_eq_true, decide_eq_true_eq, beq_iff_eq] at h
      obtain ⟨⟨rfl, hw⟩, hc⟩ := h
      refine ⟨by simp [flat, hc], ?_⟩
      unfold DataW.trod
      simp [hu, flat, hw]
    · rename_i m e ps hu
      simp only [Bool.and_eq_true, beq_iff_eq, List.all_eq_true] at h
      obtain ⟨⟨hm, hc⟩, ha⟩ := h
      have hall := fun p hp => flat_trod (w := w) n e p (ha p hp)
      obtain ⟨hl, hg⟩ := flat_chunks (f := n) (c := P.cellsOf e) ps (fun p hp => (hall p hp).1)
      have hlen : (flat (n + 1) (.agg ps)).length = P.cellsOf t := by rw [flat, hl, hm, hc]
      refine ⟨hlen, ?_⟩
      unfold DataW.trod
      simp only [hu]
      rw [if_pos hlen, flat]
      have hmm : (List.range m).mapM (fun i => DataW.trod (fun _ => ()) P w 0 (fun _ => true) false n e (((ps.flatMap (flat n)).drop (i * P.cellsOf e)).take (P.cellsOf e))) =
          some ((List.range m).map fun i => ((ps.getD i .nil), ([] : List MemPlace))) := by
        refine Go.ChangeShapes.mapM_range_of m fun i hi => ?_
        have hi' : i < ps.length := by omega
        have hx : ps[i]? = some ps[i] := List.getElem?_eq_getElem hi'
        rw [hg i _ hx, (hall _ (List.getElem_mem hi')).2]
        simp [List.getD, hx]
      rw [hmm]
      have e1 : (List.range m).map (fun i => ps.getD i .nil) = ps := by
        apply List.ext_getElem?
        intro i
        simp only [List.getElem?_map]
        by_cases hi : i < m
        · have hi' : i < ps.length := by omega
          simp [List.getElem?_range hi, List.getD, List.getElem?_eq_getElem hi']
        · rw [List.getElem?_eq_none (by simp; omega), List.getElem?_eq_none (by omega)]
          rfl
      simp only [Option.map_some, List.map_map, Function.comp_def, Option.some.injEq, Prod.mk.injEq, DataW.agg.injEq]
      refine ⟨e1, ?_⟩
      simp
    · rename_i fs ps hu
      simp only [Bool.and_eq_true, beq_iff_eq] at h
      obtain ⟨hr, hc⟩ := h
      obtain ⟨h1, h2⟩ := flat_row (P := P) (f := n) (n := n) (sz := P.cellsOf) (w := w) fs.toList ps 0 [] hr rfl (fun t d hf => flat_trod n t d hf)
      have hlen : (flat (n + 1) (.agg ps)).length = P.cellsOf t := by rw [flat, h1, hc]
      refine ⟨hlen, ?_⟩
      unfold DataW.trod
      simp only [hu]
      rw [if_pos hlen, flat]
      simp only [List.nil_append] at h2
      rw [h2]
      simp [Function.comp_def]
    · cases h

theorem laidVars_insert {P : Program} {w : World} {n : String} {d : DataW Unit} {g t fuel : Nat} {cs : Array Value} (h1 : P.globalNamed n = some g) (h2 : (P.globals[g]?).map (·.type) = some t)
    (h3 : w.var? P n = some cs) (h4 : DataW.trod (fun _ => ()) P w 0 (fun _ => true) false fuel t cs.toList = some (d, [])) :
    ∀ (l1 l2 : List (String × DataW Unit)) (ps : List MemPlace), DataW.LaidVars P w (l1 ++ l2) ps →
      ∃ ps', DataW.LaidVars P w (l1 ++ (n, d) :: l2) ps' ∧ ps'.Perm (MemPlace.row ⟨g, 0, none⟩ cs.size ++ ps)
  | [], l2, ps, h => ⟨_, ⟨g, t, cs, fuel, [], ps, h1, h2, h3, h4, h, rfl⟩, by simp⟩
  | (m, x) :: l1, l2, ps, h => by
    obtain ⟨g', t', cs', f', p, q, a1, a2, a3, a4, hr, rfl⟩ := h
    obtain ⟨q', hq, hp⟩ := laidVars_insert h1 h2 h3 h4 l1 l2 q hr
    refine ⟨_, ⟨g', t', cs', f', p, q', a1, a2, a3, a4, hq, rfl⟩, ?_⟩
    refine (List.Perm.append_left _ hp).trans ?_
    rw [← List.append_assoc, ← List.append_assoc]
    exact (List.perm_append_comm (l₁ := MemPlace.row ⟨g', 0, none⟩ cs'.size ++ p)).append_right q
theorem row_nodup (g n : Nat) : (MemPlace.row ⟨g, 0, none⟩ n).Nodup := by
  unfold MemPlace.row
  refine List.Pairwise.map _ (R := fun a b => a ≠ b) (fun a b hne he => hne ?_) List.nodup_range
  simpa using he
def noIface : Value → Bool
  | .iface _ _ => false
  | _ => true
/-- What is listed is met: all but one great table by one run, the table by its shape. -/
theorem laidMet_of_run_but {P : Program} {w : World} {l1 l2 : List (String × DataW Unit)} {n : String} {d : DataW Unit} {g t : Nat} (fuel : Nat)
    (h : (DataW.laidRun P w fuel ((l1 ++ l2).map (·.1))).map (·.1) = some (l1 ++ l2))
    (hr : (DataW.laidRun P w fuel ((l1 ++ l2).map (·.1))).map (fun x => nodupB (x.2.map MemPlace.codeOf) && laidRowsB P w x.2 && x.2.all (fun p => p.block != g)) = some true)
    (h1 : P.globalNamed n = some g) (h2 : (P.globals[g]?).map (·.type) = some t) (h3 : w.var? P n = some (flat 9 d).toArray) (h4 : fits P 9 t d = true)
    (h5 : w.heap[g]? = some (.cells (flat 9 d).toArray t (0, 0))) (h6 : (flat 9 d).all noIface = true) : laidMet P (l1 ++ (n, d) :: l2) w := by
  cases hx : DataW.laidRun P w fuel ((l1 ++ l2).map (·.1)) with
  | none => rw [hx] at h; cases h
  | some x =>
    obtain ⟨l', ps⟩ := x
    simp only [hx, Option.map_some, Option.some.injEq, Bool.and_eq_true] at h hr
    subst h
    obtain ⟨⟨hn, hrow⟩, hb⟩ := hr
    obtain ⟨ps0, hv0, hn0, hc0⟩ := laidMet_of_run fuel hx (decide_eq_true (nodup_of_code hn)) hrow
    have hv : DataW.LaidVars P w (l1 ++ l2) ps := DataW.LaidVars_of_laidRun hx
    obtain ⟨ps', hv', hp⟩ := laidVars_insert h1 h2 h3 (by simpa using (flat_trod (w := w) 9 t d h4).2) l1 l2 ps hv
    have hne : ∀ p ∈ ps, p.block ≠ g := fun p hp => by simpa using List.all_eq_true.1 hb p hp
    refine ⟨ps', hv', hp.nodup_iff.2 (List.nodup_append.2 ⟨row_nodup _ _, nodup_of_code hn, fun a ha b hb' he => ?_⟩), fun b off hin => ?_⟩
    · subst he
      unfold MemPlace.row at ha
      obtain ⟨i, _, rfl⟩ := List.mem_map.1 ha
      exact hne _ hb' rfl
    · rcases List.mem_append.1 (hp.mem_iff.1 hin) with hin | hin
      · unfold MemPlace.row at hin
        obtain ⟨i, hi, he⟩ := List.mem_map.1 hin
        simp only [MemPlace.cell.injEq] at he
        obtain ⟨rfl, rfl⟩ := he
        refine ⟨⟨_, _, h5⟩, fun u v hc => ?_⟩
        simp only [World.cell?, h5] at hc
        have hm : Value.iface u v ∈ flat 9 d := by
          have hc' : (flat 9 d)[i]? = some (Value.iface u v) := by simpa using hc
          exact List.mem_of_getElem? hc'
        have := List.all_eq_true.1 h6 _ hm
        simp [noIface] at this
      · have hrow' := List.all_eq_true.1 hrow _ hin
        simp only [Bool.and_eq_true] at hrow'
        obtain ⟨a1, a2⟩ := hrow'
        refine ⟨?_, fun u v hc => ?_⟩
        · split at a1
          · rename_i c t hh
            exact ⟨c, t, hh⟩
          · cases a1
        · rw [hc] at a2
          exact Value.okWide_of_okWideB a2
/-- There is an input that fits. -/
theorem witness {H : Type} {enc : TypeId × Value → H} {C : Checked} {os : Os} {f : FuncId} {fn : Func} {s : OpenSpec} {conds : List PathCond} {apart : Bool} {laid : List (String × DataW Unit)} (w0 : World) (args : Array Value) (hos : w0.os = os)
    (hsh : (w0.forCall (fun _ _ => 0) ⟨#[], args, []⟩).Shaped C.prog)
    (hok : Input.okWideB C.prog (w0.forCall (fun _ _ => 0) ⟨#[], args, []⟩) f ⟨#[], args, []⟩ = true)
    (hrow : s.preRow enc C.prog fn conds apart laid (w0.forCall (fun _ _ => 0) ⟨#[], args, []⟩).memory args) :
    ∃ (w : World) (tape : Tape) (i : Input), w.os = os ∧ (w.forCall tape i).Shaped C.prog ∧ i.vars = [] ∧ Input.okWide C.prog (w.forCall tape i) .any w.heap.size f i ∧
      s.preRow enc C.prog fn conds apart laid (w.forCall tape i).memory i.args ∧ ({} : Assume).holds C.prog (lone (Frame.enter C.prog f i.args .normal) [] (w.forCall tape i)) :=
  ⟨w0, fun _ _ => 0, ⟨#[], args, []⟩, hos, hsh, (Input.okWide_of_okWideB (base := 0) hok).1, (Input.okWide_of_okWideB hok).2, hrow, by
    simp only [Assume.holds]
    exact ⟨by simp, by simp, fun _ => Modest.zero, by simp, by simp⟩⟩

/-- The closed facts of a row, each by itself: all at once outgrow the kernel's memory. -/
theorem facts_of {P : Program} {f : FuncId} {fn : Func} {s : ChangeSpec} {c : OpenClaim}
    (k0 : c.wf (OpenSpec.ofChange s) = true)
    (k1 : laidOutB P = true)
    (k2 : mapsRowed P = true)
    (k3 : fn.params.all (P.readableRec ·) = true)
    (k4 : namedTie P c.named s.vars = true)
    (k5 : (c.stops == []) = true)
    (k6 : (P.stops == []) = true)
    (k7 : (c.knobs == []) = true)
    (k8 : (P.stopKnobs == []) = true)
    (k9 : (c.inPlace == P.inPlace f) = true)
    (k10 : (c.unfollowed == P.unfollowed f) = true)
    (k11 : (c.recurses == P.recurses f) = true)
    (k12 : (c.named == P.varsNamed f) = true)
    (k13 : (c.maps == (fn.params.toList ++ s.plain.varTypes P).any (P.mapsRec ·)) = true)
    (k14 : (c.ifaces == (fn.params.toList ++ s.plain.varTypes P).any (P.ifacesRec ·)) = true)
    (k15 : (c.mapsOut == P.mapsAmong fn.resultTypes.toList) = true)
    (k16 : (c.loops == (fn.params.toList ++ s.plain.varTypes P).any (P.loopsFrom ·)) = true)
    (k17 : (c.wideKeys == (fn.params.toList ++ s.plain.varTypes P ++ fn.resultTypes.toList).any (P.wideKeysFrom ·)) = true)
    (k18 : s.vars.all (P.varReadable ·) = true)
    (k19 : fn.resultTypes.all (fun t => P.readableRec t && decide (t < P.types.size)) = true)
    (k20 : (c.ifacesOut == fn.resultTypes.toList.any (P.ifacesRec ·)) = true)
    (k21 : (c.loopsOut == fn.resultTypes.toList.any (P.loopsFrom ·)) = true)
    (k22 : (c.plainKeys == P.plainKeys) = true)
    (k23 : c.shortTexts.isNone = true)
    (k24 : P.stopsHeard = true)
    (k25 : P.mayEnter = true)
    (k26 : (c.lifted == P.liftsFinal) = true)
    (k27 : (P.make == some c.make) = true)
    (k28 : (c.kinds == (if c.domain.isEmpty then [] else fn.params.toList.map fun t => match P.underlying t with | some (.int k) => some k | _ => none)) = true)
    (k29 : (c.pinned == c.pinnedBy) = true)
    (k30 : (c.veiled == (fn.params.toList ++ s.plain.varTypes P ++ fn.resultTypes.toList).any (P.veiledRec ·)) = true)
    (k31 : c.veiledFits P fn.params.toList (fn.params.toList ++ s.plain.varTypes P ++ fn.resultTypes.toList) = true) : joinedFacts P f fn s c = true := by
  unfold joinedFacts
  exact Bool.and_eq_true_iff.2 ⟨Bool.and_eq_true_iff.2 ⟨Bool.and_eq_true_iff.2 ⟨Bool.and_eq_true_iff.2 ⟨Bool.and_eq_true_iff.2 ⟨Bool.and_eq_true_iff.2 ⟨Bool.and_eq_true_iff.2 ⟨Bool.and_eq_true_iff.2 ⟨Bool.and_eq_true_iff.2 ⟨Bool.and_eq_true_iff.2 ⟨Bool.and_eq_true_iff.2 ⟨Bool.and_eq_true_iff.2 ⟨Bool.and_eq_true_iff.2 ⟨Bool.and_eq_true_iff.2 ⟨Bool.and_eq_true_iff.2 ⟨Bool.and_eq_true_iff.2 ⟨Bool.and_eq_true_iff.2 ⟨Bool.and_eq_true_iff.2 ⟨Bool.and_eq_true_iff.2 ⟨Bool.and_eq_true_iff.2 ⟨Bool.and_eq_true_iff.2 ⟨Bool.and_eq_true_iff.2 ⟨Bool.and_eq_true_iff.2 ⟨Bool.and_eq_true_iff.2 ⟨Bool.and_eq_true_iff.2 ⟨Bool.and_eq_true_iff.2 ⟨Bool.and_eq_true_iff.2 ⟨Bool.and_eq_true_iff.2 ⟨Bool.and_eq_true_iff.2 ⟨Bool.and_eq_true_iff.2 ⟨Bool.and_eq_true_iff.2 ⟨k0, k1⟩, k2⟩, k3⟩, k4⟩, k5⟩, k6⟩, k7⟩, k8⟩, k9⟩, k10⟩, k11⟩, k12⟩, k13⟩, k14⟩, k15⟩, k16⟩, k17⟩, k18⟩, k19⟩, k20⟩, k21⟩, k22⟩, k23⟩, k24⟩, k25⟩, k26⟩, k27⟩, k28⟩, k29⟩, k30⟩, k31⟩
end Go.Proofs.YtcooeihpglioeaaGreatDoor.wit
