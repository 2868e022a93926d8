/- A nil pool's Put answers ErrNil, its Fork nil, and all else none, zero or false, whatever update and hash; a pool with no room is made. No condition; the row lists package-level variables (tied), which the call does not read. -/
import Derived.Test.YtcooeihpglioeaaGreatDoorCards
import Derived.Test.YtcooeihpglioeaaGreatDoorTie
import Derived.Test.YtcooeihpglioeaaGreatDoorFin
import Derived.Test.YtcooeihpglioeaaGreatDoorLaid
import Derived.WalkKit
import Derived.WalkLawsBesides
import Derived.WalkSpells
import Derived.ProofKit
import Derived.OpenShut
import Derived.Deep.DeepHandedRow
import Derived.Deep.DeepWitnessRowRef
import Derived.Deep.DeepLaidRun
import Derived.MakeChecks
import Derived.Lib.Hide
namespace Go.Proofs.YtcooeihpglioeaaGreatDoor.orphansNil
open Go.ChangeShapes Go.WideShapes Go.ChangeAt Go.RowKit

def cellsAt (w : World) (a : Addr) (k : Nat) : List Value := (List.range k).map fun j => (w.cell? (a.add j)).getD undef
def okAt (w : World) (a : Addr) (k : Nat) : Prop := ∀ j, j < k → (w.cell? (a.add j)).isSome = true
theorem okAt.below {w w' : World} {a : Addr} {k B : Nat} (h : okAt w a k) (hb : Below B w w') (ha : a.block < B) : okAt w' a k := fun j hj => by
  rw [hb.cell (by unfold Addr.add; split <;> exact ha)]
  exact h j hj
/-- A load of a whole struct or array, kept whole. -/
def bigLoad (t : Nat) (a : Addr) : Sem Value := loadVar t a
theorem run_bigLoad {P : Program} {t k : Nat} {w : World} {a : Addr} (hs : (P.info? t).map (·.size) = some k) (hu : ∃ d, P.underlying t = some d ∧ (match d with | .struct _ | .array _ _ => true | _ => false) = true) (h : okAt w a k) :
    Sem.run P (bigLoad t a) w = .ok (.agg (cellsAt w a k).toArray) w := by
  obtain ⟨d, hu, hd⟩ := hu
  have hl : (loadCells a (cellsAt w a k).length).run P w = .ok (cellsAt w a k).toArray w :=
    run_loadCells_list (P := P) w a _ (fun j v hv => by
      unfold cellsAt at hv
      simp only [List.getElem?_map, Option.map_eq_some_iff] at hv
      obtain ⟨i, hi, rfl⟩ := hv
      obtain ⟨hj, hji⟩ := List.getElem?_eq_some_iff.1 hi
      simp only [List.length_range] at hj
      simp only [List.getElem_range] at hji
      subst hji
      have := h j hj
      cases hc : w.cell? (a.add j) with
      | none => rw [hc] at this; cases this
      | some x => rfl)
  have hlen : (cellsAt w a k).length = k := by simp [cellsAt]
  rw [hlen] at hl
  cases hq : P.info? t with
  | none => simp [hq] at hs
  | some i =>
    have hsz : i.size = k := by simpa [hq] using hs
    have hagg : (isAgg t).run P w = .ok true w := by
      unfold isAgg
      rw [Sem.run_bind, run_underlying hu w]
      cases d <;> simp_all
    unfold bigLoad
    simp [loadVar, Sem.run_bind, hagg, sizeOf, typeInfo, hq, hsz, hl]
theorem to27 (a : Addr) : loadVar 27 a = bigLoad 27 a := rfl
theorem to25 (a : Addr) : loadVar 25 a = bigLoad 25 a := rfl
theorem ld27 {w : World} {a : Addr} (h : okAt w a 32) : Sem.run Tryz.prog (bigLoad 27 a) w = .ok (.agg (cellsAt w a 32).toArray) w := run_bigLoad (by kernel_rfl) ⟨_, Tryz.underlying27, rfl⟩ h
theorem ld25 {w : World} {a : Addr} (h : okAt w a 6) : Sem.run Tryz.prog (bigLoad 25 a) w = .ok (.agg (cellsAt w a 6).toArray) w := run_bigLoad (by kernel_rfl) ⟨_, Tryz.underlying25, rfl⟩ h
attribute [local go_sem ↓] to27 to25
attribute [local go_sem] ld27 ld25

theorem put_nil (u : Array Value) (v : Value) (w : World) : Calls Tryz.prog 6 #[.pointer none, .agg u, v] w fun e w' => e = .returned (.int .i64 1) ∧ Below w.heap.size w w' := by
  go_enter Tryz.func6, Tryz.ntmps6
  go_wp2
  go_ret
  exact ⟨rfl, by first | exact Below.refl _ _ | exact (Below.refl _ _).alloc (Nat.le_refl _) _⟩
theorem fork_nil (w : World) : Calls Tryz.prog 7 #[.pointer none] w fun e w' => e = .returned (.pointer none) ∧ Below w.heap.size w w' := by
  go_enter Tryz.func7, Tryz.ntmps7
  go_wp2
  go_ret
  exact ⟨rfl, by first | exact Below.refl _ _ | exact (Below.refl _ _).alloc (Nat.le_refl _) _⟩
theorem come_nil (u : Array Value) (w : World) : Calls Tryz.prog 8 #[.pointer none, .agg u] w fun e w' => e = .returned (.slice none 0 0) ∧ Below w.heap.size w w' := by
  go_enter Tryz.func8, Tryz.ntmps8
  go_wp2
  go_ret
  exact ⟨rfl, by first | exact Below.refl _ _ | exact (Below.refl _ _).alloc (Nat.le_refl _) _⟩
theorem drop_nil (u : Array Value) (w : World) : Calls Tryz.prog 9 #[.pointer none, .agg u] w fun e w' => e = .returned (.slice none 0 0) ∧ Below w.heap.size w w' := by
  go_enter Tryz.func9, Tryz.ntmps9
  go_wp2
  go_ret
  exact ⟨rfl, by first | exact Below.refl _ _ | exact (Below.refl _ _).alloc (Nat.le_refl _) _⟩
theorem len_nil (w : World) : Calls Tryz.prog 10 #[.pointer none] w fun e w' => e = .returned (.int .i64 0) ∧ Below w.heap.size w w' := by
  go_enter Tryz.func10, Tryz.ntmps10
  go_wp2
  go_ret
  exact ⟨rfl, by first | exact Below.refl _ _ | exact (Below.refl _ _).alloc (Nat.le_refl _) _⟩
theorem has_nil (u : Array Value) (w : World) : Calls Tryz.prog 11 #[.pointer none, .agg u] w fun e w' => e = .returned (.bool false) ∧ Below w.heap.size w w' := by
  go_enter Tryz.func11, Tryz.ntmps11
  go_wp2
  go_ret
  exact ⟨rfl, by first | exact Below.refl _ _ | exact (Below.refl _ _).alloc (Nat.le_refl _) _⟩
theorem held_nil (w : World) : Calls Tryz.prog 12 #[.pointer none] w fun e w' => e = .returned (.slice none 0 0) ∧ Below w.heap.size w w' := by
  go_enter Tryz.func12, Tryz.ntmps12
  go_wp2
  go_ret
  exact ⟨rfl, by first | exact Below.refl _ _ | exact (Below.refl _ _).alloc (Nat.le_refl _) _⟩
theorem lacks_nil (u : Array Value) (w : World) : Calls Tryz.prog 13 #[.pointer none, .agg u] w fun e w' => e = .returned (.slice none 0 0) ∧ Below w.heap.size w w' := by
  go_enter Tryz.func13, Tryz.ntmps13
  go_wp2
  go_ret
  exact ⟨rfl, by first | exact Below.refl _ _ | exact (Below.refl _ _).alloc (Nat.le_refl _) _⟩
theorem missing_nil (w : World) : Calls Tryz.prog 14 #[.pointer none] w fun e w' => e = .returned (.slice none 0 0) ∧ Below w.heap.size w w' := by
  go_enter Tryz.func14, Tryz.ntmps14
  go_wp2
  go_ret
  exact ⟨rfl, by first | exact Below.refl _ _ | exact (Below.refl _ _).alloc (Nat.le_refl _) _⟩
theorem new_none (w : World) : Calls Tryz.prog 5 #[.int .i64 0] w fun e w' => (∃ a, e = .returned (.tuple #[.pointer (some a), .int .i64 0])) ∧ Below w.heap.size w w' := by
  have hmm := @run_makeMap Tryz.prog
  go_enter Tryz.func5, Tryz.ntmps5
  go_wp2
  go_ret2
  exact ⟨⟨_, rfl⟩, by repeat (first | exact Below.refl _ _ | refine Below.alloc ?_ (by simp; try omega) _)⟩

theorem walk (c0 c1 c2 c3 c4 c5 : Value) (cs : Array Value) (hcs : cs.size = 32) (w : World) :
    Calls Tryz.prog 3 #[.agg #[c0, c1, c2, c3, c4, c5], .agg cs] w fun e w' => e = .returned (.bool true) ∧ Below w.heap.size w w' := by
  have kb : ∀ w1 : World, Below (w.heap.size + 2) ((w.alloc (.cells #[c0, c1, c2, c3, c4, c5] 25)).alloc (.cells cs 27)) w1 → okAt w1 ⟨w.heap.size + 1, 0, none⟩ 32 := fun w1 hb j hj => by
    have e : (⟨w.heap.size + 1, 0, none⟩ : Addr).add j = ⟨w.heap.size + 1, j, none⟩ := by unfold Addr.add; split <;> simp_all
    rw [e, hb.cell (by simp), cell_of_row _ _ _ cs 27 (0, 0) (heap_alloc2_new _ _ _)]
    simp [hcs, hj]
  have ka : ∀ w1 : World, Below (w.heap.size + 2) ((w.alloc (.cells #[c0, c1, c2, c3, c4, c5] 25)).alloc (.cells cs 27)) w1 → okAt w1 ⟨w.heap.size, 0, none⟩ 6 ∧ w1.cell? ⟨w.heap.size, 0, none⟩ = some c0 := fun w1 hb => by
    have e : ∀ j, (⟨w.heap.size, 0, none⟩ : Addr).add j = ⟨w.heap.size, j, none⟩ := fun j => by unfold Addr.add; split <;> simp_all
    have c : ∀ j, w1.cell? ⟨w.heap.size, j, none⟩ = #[c0, c1, c2, c3, c4, c5][j]? := fun j => by
      rw [hb.cell (by simp), cell_of_row _ _ _ #[c0, c1, c2, c3, c4, c5] 25 (0, 0) (heap_alloc2_old _ _ _)]
    exact ⟨fun j hj => by rw [e, c]; simp [hj], c 0⟩
  have H1 := Lib.hid kb
  have H2 := Lib.hid ka
  clear kb ka
  go_enter Tryz.func3, Tryz.ntmps3
  go_wp2_with (first
    | (go_at_call 5; refine (new_none _).mono ?_; rintro e w1 ⟨⟨a, rfl⟩, hb1⟩; have hb := hb1.mono (B' := w.heap.size + 2) (by simp); clear hb1; have kb1 := H1.out _ hb; obtain ⟨ka1, ka2⟩ := H2.out _ hb)
    | (go_at_call 6; refine (put_nil _ _ _).mono ?_; rintro e w2 ⟨rfl, hb2⟩; have hc2 := hb.trans (hb2.mono (by have := hb.size; simp at this; omega)); clear hb2; have kb2 := H1.out _ hc2)
    | (go_at_call 7; refine (fork_nil _).mono ?_; rintro e w3 ⟨rfl, hb3⟩; have hc3 := hc2.trans (hb3.mono (by have := hc2.size; simp at this; omega)); clear hb3; have kb3 := H1.out _ hc3)
    | (go_at_call 8; refine (come_nil _ _).mono ?_; rintro e w4 ⟨rfl, hb4⟩; have hc4 := hc3.trans (hb4.mono (by have := hc3.size; simp at this; omega)); clear hb4; have kb4 := H1.out _ hc4)
    | (go_at_call 9; refine (drop_nil _ _).mono ?_; rintro e w5 ⟨rfl, hb5⟩; have hc5 := hc4.trans (hb5.mono (by have := hc4.size; simp at this; omega)); clear hb5; have kb5 := H1.out _ hc5)
    | (go_at_call 10; refine (len_nil _).mono ?_; rintro e w6 ⟨rfl, hb6⟩; have hc6 := hc5.trans (hb6.mono (by have := hc5.size; simp at this; omega)); clear hb6; have kb6 := H1.out _ hc6)
    | (go_at_call 11; refine (has_nil _ _).mono ?_; rintro e w7 ⟨rfl, hb7⟩; have hc7 := hc6.trans (hb7.mono (by have := hc6.size; simp at this; omega)); clear hb7; have kb7 := H1.out _ hc7)
    | (go_at_call 12; refine (held_nil _).mono ?_; rintro e w8 ⟨rfl, hb8⟩; have hc8 := hc7.trans (hb8.mono (by have := hc7.size; simp at this; omega)); clear hb8; have kb8 := H1.out _ hc8)
    | (go_at_call 13; refine (lacks_nil _ _).mono ?_; rintro e w9 ⟨rfl, hb9⟩; have hc9 := hc8.trans (hb9.mono (by have := hc8.size; simp at this; omega)); clear hb9; have kb9 := H1.out _ hc9)
    | (go_at_call 14; refine (missing_nil _).mono ?_; rintro e w10 ⟨rfl, hb10⟩; have hc10 := hc9.trans (hb10.mono (by have := hc9.size; simp at this; omega)); clear hb10; have kb10 := H1.out _ hc10))
  go_ret
  refine ⟨rfl, ?_⟩
  exact (((Below.refl _ _).alloc (Nat.le_refl _) _).alloc (by simp) _).trans (hc10.mono (by omega))

theorem own : ownKnob Tryz.prog.godebug = none := by kernel_rfl
theorem rt3 : Tryz.f3.resultTypes = #[4] := by kernel_rfl
theorem rd3 : ∀ t ∈ Tryz.f3.params.toList, Tryz.prog.readableRec t = true ∧ t < Tryz.prog.types.size := by
  rw [Tryz.params3]
  intro t ht
  simp only [List.mem_cons, List.mem_nil_iff, or_false] at ht
  rcases ht with rfl | rfl
  · exact ⟨by kernel_rfl, of_decide_eq_true (by kernel_rfl)⟩
  · exact ⟨by kernel_rfl, of_decide_eq_true (by kernel_rfl)⟩
theorem size25 : Tryz.prog.cellsOf 25 = 6 := by kernel_rfl
theorem size27 : Tryz.prog.cellsOf 27 = 32 := by kernel_rfl
set_option maxRecDepth 100000 in
theorem contract (H : Type) (enc : TypeId × Value → H) (W : World) (base : Nat) (args : Array Value) (ds gs : List (DataW H)) (before : List MemPlace)
    (hval : ∀ (j : Nat) t v, Tryz.f3.params[j]? = some t → args[j]? = some v → Value.okWide Tryz.prog W .any base t v)
    (hW : DataW.Whole enc Tryz.prog Tryz.f3.params.toList Rows.orphansNilSpec.vars false W args.toList ds gs before)
    (_hR : (DataW.weightsEach Tryz.prog (Tryz.f3.params.toList ++ (OpenSpec.ofChange Rows.orphansNilSpec).bare.plain.varTypes Tryz.prog) (ds ++ gs)).all (· ≤ reachBytes) = true)
    (_hL : laidMetH Tryz.prog Rows.orphansNilRow.laid W) (_hS : W.ShapedOpen Tryz.prog) :
    Calls Tryz.prog 3 args W fun e W' => ∃ v, e = .returned v ∧ Rows.orphansNilSpec.post enc Tryz.prog Tryz.f3 false true false false W args v W' := by
  have hW' := hW
  obtain ⟨p, q, hA0, hV, rfl, hfz, hnd⟩ := hW
  obtain ⟨rfl, rfl⟩ := trodVars_none hV
  have hA : DataW.TrodAll enc Tryz.prog W 0 (fun _ => true) true Tryz.f3.params.toList args.toList ds p := hA0
  rw [Tryz.params3] at hA hval
  obtain ⟨v0, vs0, d0, ds0, p0, q0, hargs, rfl, rfl, h0, r0⟩ := trodAll_cons hA
  obtain ⟨v1, vs1, d1, ds1, p1, q1, rfl, rfl, rfl, h1, r1⟩ := trodAll_cons r0
  obtain ⟨rfl, rfl, rfl⟩ := trodAll_nil r1
  obtain rfl : args = #[v0, v1] := by cases args; simp_all
  clear hA0
  obtain ⟨⟨l⟩, rfl, hsz⟩ := okWide_struct Tryz.underlying25 (hval 0 25 v0 rfl rfl)
  rw [size25] at hsz
  obtain ⟨cs, rfl, hsz1⟩ : ∃ cs, v1 = .agg cs ∧ cs.size = Tryz.prog.cellsOf 27 := by
    have h := hval 1 27 v1 rfl rfl
    simp only [Value.okWide, Tryz.underlying27] at h
    obtain ⟨cs, a, b, _⟩ := h
    exact ⟨cs, a, b⟩
  rw [size27] at hsz1
  match l, hsz with
  | [c0, c1, c2, c3, c4, c5], _ =>
    refine (walk c0 c1 c2 c3 c4 c5 cs hsz1 W).mono fun e W' ⟨he, hb⟩ => ?_
    subst he
    exact ⟨_, rfl, fin.law_post hW' rfl rfl rt3 Tryz.underlying4 (by kernel_rfl) rd3 hb⟩

theorem reads (os : Os) {H : Type} (enc : TypeId × Value → H) : ∃ places, DataW.whole enc Tryz.prog ((laids.laidWorld os).forCall (fun _ _ => 0) ⟨#[], #[.agg #[.slice none 0 0, .int .i64 0, .int .i64 0, .int .i64 0, .string .empty, .slice none 0 0], .agg (Array.replicate 32 (.int .u8 0))], []⟩).memory Tryz.f3.params.toList Rows.orphansNilSpec.vars false (#[.agg #[.slice none 0 0, .int .i64 0, .int .i64 0, .int .i64 0, .string .empty, .slice none 0 0], .agg (Array.replicate 32 (.int .u8 0))] : Array Value).toList 8 = some ([.agg [.nil, .lit (.int .i64 0), .lit (.int .i64 0), .lit (.int .i64 0), .lit (.string []), .nil], .agg (List.replicate 32 (.lit (.int .u8 0)))], [], places) :=
  ⟨[], by kernel_rfl⟩

set_option maxRecDepth 100000 in
theorem lifted (os : Os) (started : os.Started) (H : Type) (enc : TypeId × Value → H) (F : Stop.Interp) :
    ReturnsInHanded {} Tryz.checked os 3 .any ((OpenSpec.ofChange Rows.orphansNilSpec).preRow enc Tryz.prog Tryz.f3 Rows.orphansNilRow.domain false Rows.orphansNilRow.laid) (((OpenSpec.ofChange Rows.orphansNilSpec).at F).post enc Tryz.prog Tryz.f3 false true false false) := by
  obtain ⟨places, hx⟩ := reads os enc
  refine returnsInHanded_of_row (C := Tryz.checked) (s := OpenSpec.ofChange Rows.orphansNilSpec) own started (by kernel_rfl) Tryz.func3
    (wit.witness (enc := enc) (C := Tryz.checked) (laids.laidWorld os) #[.agg #[.slice none 0 0, .int .i64 0, .int .i64 0, .int .i64 0, .string .empty, .slice none 0 0], .agg (Array.replicate 32 (.int .u8 0))] rfl (laids.shaped os _) (by kernel_rfl)
      (OpenSpec.preRow_of_cond 8 hx (by kernel_rfl) (fun k hk => by cases hk) (by kernel_rfl) (Eq.mpr (Go.MakeChecks.laidMetH_plain _ _ _ (by kernel_rfl)) (laids.met os _)))) ?_
  intro W base args ds gs before hval hW _ hcond hR hL hS _
  exact contract H enc W base args ds gs before hval hW hR hL hS

set_option maxHeartbeats 40000000 in
theorem closed : joinedFacts Tryz.pinned.checked.prog 3 Tryz.f3 (OpenSpec.ofChange Rows.orphansNilSpec).bare Rows.orphansNilRow = true :=
  wit.facts_of (by as_aux_lemma => kernel_rfl)
    (by as_aux_lemma => kernel_rfl)
    (by as_aux_lemma => kernel_rfl)
    (by as_aux_lemma => kernel_rfl)
    (by as_aux_lemma => kernel_rfl)
    (by as_aux_lemma => kernel_rfl)
    (by as_aux_lemma => kernel_rfl)
    (by as_aux_lemma => kernel_rfl)
    (by as_aux_lemma => kernel_rfl)
    (by as_aux_lemma => kernel_rfl)
    (by as_aux_lemma => kernel_rfl)
    (by as_aux_lemma => kernel_rfl)
    (by as_aux_lemma => kernel_rfl)
    (by as_aux_lemma => kernel_rfl)
    (by as_aux_lemma => kernel_rfl)
    (by as_aux_lemma => kernel_rfl)
    (by as_aux_lemma => kernel_rfl)
    (by as_aux_lemma => kernel_rfl)
    (by as_aux_lemma => kernel_rfl)
    (by as_aux_lemma => kernel_rfl)
    (by as_aux_lemma => kernel_rfl)
    (by as_aux_lemma => kernel_rfl)
    (by as_aux_lemma => kernel_rfl)
    (by as_aux_lemma => kernel_rfl)
    (by as_aux_lemma => kernel_rfl)
    (by as_aux_lemma => kernel_rfl)
    (by as_aux_lemma => kernel_rfl)
    (by as_aux_lemma => kernel_rfl)
    (by as_aux_lemma => kernel_rfl)
    (by as_aux_lemma => kernel_rfl)
    (by as_aux_lemma => kernel_rfl)
    (by as_aux_lemma => kernel_rfl)
set_option maxHeartbeats 40000000 in
theorem said : Rows.OrphansNilSaid :=
  OpenClaim.holds_of_cond 3 Tryz.f3 rfl rfl rfl rfl rfl rfl rfl ⟨rfl, rfl, rfl, rfl, rfl⟩ rfl rfl rfl rfl rfl (by kernel_rfl) Tryz.func3 closed
    (of_decide_eq_true (by kernel_rfl)) (by unfold Func.isWrapper; first | (rw [if_pos (by decide +kernel)]; kernel_rfl) | (rw [if_neg (by decide +kernel)]; exact ⟨rfl, rfl⟩))
    (fun os started H enc _ F => by rw [OpenClaim.pre_eq_preRow]; exact lifted os started H enc F)

theorem plain (f : FuncId) (fn : Func) (hf : Tryz.pinned.checked.prog.funcNamed "estuary/estuarylaw07.OrphansNil" = some f) (hfn : Tryz.pinned.checked.prog.funcs[f]? = some fn) :
    true = Tryz.pinned.checked.prog.looks [] ∧ ∀ (j : Nat) t, fn.params[j]? = some t → Tryz.pinned.checked.prog.wantsStandIn t = false := by
  obtain rfl : f = 3 := Option.some.inj ((show Tryz.prog.funcNamed "estuary/estuarylaw07.OrphansNil" = some 3 by kernel_rfl).symm.trans hf) |>.symm
  obtain rfl : fn = Tryz.f3 := (Option.some.inj (Tryz.func3.symm.trans hfn)).symm
  refine ⟨by kernel_rfl, fun j t ht => ?_⟩
  rw [Tryz.params3] at ht
  have hm := Array.mem_of_getElem? ht
  simp only [List.mem_toArray, List.mem_cons, List.not_mem_nil, or_false] at hm
  rcases hm with rfl | rfl
  · exact (show Tryz.prog.wantsStandIn 25 = false by kernel_rfl)
  · exact (show Tryz.prog.wantsStandIn 27 = false by kernel_rfl)

/-- The card. -/
theorem card : Rows.OrphansNilCardSaid :=
  Claim7.holds_tied_plain_at .later [] _ _ _ _ said (fun _ h => by cases h) (by kernel_rfl) (fun _ h => by cases h) orphansNil_row_tie rfl ⟨rfl, rfl⟩ (by kernel_rfl) rfl plain (by kernel_rfl)

end Go.Proofs.YtcooeihpglioeaaGreatDoor.orphansNil
