/- A nil ring's Open and Judge answer ErrNil whatever the bytes; a ring of no holders is made. No condition; the row lists package-level variables (tied), which the call does not read. -/
import Derived.Test.YtcooeihpglioeaaGreatDoorCards
import Derived.Test.YtcooeihpglioeaaGreatDoorTie
import Derived.Test.YtcooeihpglioeaaGreatDoorFin
import Derived.Test.YtcooeihpglioeaaGreatDoorLaid
import Derived.WalkKit
import Derived.WalkLawsBesides
import Derived.WalkSpells
import Derived.ProofKit
import Derived.OpenShut
import Derived.Deep.DeepHandedRow
import Derived.Deep.DeepWitnessRowRef
import Derived.Deep.DeepLaidRun
import Derived.MakeChecks
namespace Go.Proofs.YtcooeihpglioeaaGreatDoor.keysNil
open Go.ChangeShapes Go.WideShapes Go.ChangeAt Go.RowKit

theorem open_nil (v : Value) (w : World) : Calls Tryz.prog 15 #[.pointer none, v] w fun e w' => e = .returned (.tuple #[.slice none 0 0, .int .i64 0, .int .i64 1]) ∧ w = w' := by
  go_enter Tryz.func15, Tryz.ntmps15
  go_wp2
  go_ret3
  exact ⟨rfl, rfl⟩

theorem judge_nil (v : Value) (w : World) : Calls Tryz.prog 16 #[.pointer none, v] w fun e w' => e = .returned (.tuple #[.agg #[.int .i64 0, .int .i64 0, .slice none 0 0], .int .i64 1]) ∧ Below w.heap.size w w' := by
  go_enter Tryz.func16, Tryz.ntmps16
  go_wp2
  refine bodyPost_ret (v := .tuple #[.agg #[.int .i64 0, .int .i64 0, .slice none 0 0], .int .i64 1]) (by simp [results, Tryz.results16, go_sem]) rfl ⟨rfl, ?_⟩
  exact ((Below.refl _ _).alloc (Nat.le_refl _) _).alloc (by simp) _
theorem ring_nil (w : World) : Calls Tryz.prog 17 #[.slice none 0 0] w fun e w' => (∃ a, e = .returned (.tuple #[.pointer (some a), .int .i64 0])) ∧ Below w.heap.size w w' := by
  have hmm := @run_makeMap Tryz.prog
  go_enter Tryz.func17, Tryz.ntmps17
  go_wp2
  refine wp_loop_rounds 1 ?_
  rw [rounds_succ]
  go_wp2
  refine wp_loop_rounds 1 ?_
  rw [rounds_succ]
  go_wp2
  go_ret2
  exact ⟨⟨_, rfl⟩, ((Below.refl _ _).alloc (Nat.le_refl _) _).alloc (by simp) _⟩
theorem walk (v : Value) (w : World) : Calls Tryz.prog 4 #[v] w fun e w' => e = .returned (.bool true) ∧ Below w.heap.size w w' := by
  go_enter Tryz.func4, Tryz.ntmps4
  go_wp2_with (first
    | (go_at_call 15; refine (open_nil _ _).mono ?_; rintro e w1 ⟨rfl, rfl⟩)
    | (go_at_call 16; refine (judge_nil _ _).mono ?_; rintro e w2 ⟨rfl, hb2⟩)
    | (go_at_call 17; refine (ring_nil _).mono ?_; rintro e w3 ⟨⟨a, rfl⟩, hb3⟩))
  go_ret
  refine ⟨rfl, ?_⟩
  have hs := hb2.size
  exact (hb2.alloc hs _).trans (hb3.mono (by simp; omega))

theorem own : ownKnob Tryz.prog.godebug = none := by kernel_rfl
theorem rt4 : Tryz.f4.resultTypes = #[4] := by kernel_rfl
theorem rd4 : ∀ t ∈ Tryz.f4.params.toList, Tryz.prog.readableRec t = true ∧ t < Tryz.prog.types.size := by
  rw [Tryz.params4]
  intro t ht
  simp only [List.mem_cons, List.mem_nil_iff, or_false] at ht
  subst ht
  exact ⟨by kernel_rfl, of_decide_eq_true (by kernel_rfl)⟩
theorem contract (H : Type) (enc : TypeId × Value → H) (W : World) (base : Nat) (args : Array Value) (ds gs : List (DataW H)) (before : List MemPlace)
    (_hval : ∀ (j : Nat) t v, Tryz.f4.params[j]? = some t → args[j]? = some v → Value.okWide Tryz.prog W .any base t v)
    (hW : DataW.Whole enc Tryz.prog Tryz.f4.params.toList Rows.keysNilSpec.vars false W args.toList ds gs before)
    (_hR : (DataW.weightsEach Tryz.prog (Tryz.f4.params.toList ++ (OpenSpec.ofChange Rows.keysNilSpec).bare.plain.varTypes Tryz.prog) (ds ++ gs)).all (· ≤ reachBytes) = true)
    (_hL : laidMetH Tryz.prog Rows.keysNilRow.laid W) (_hS : W.ShapedOpen Tryz.prog) :
    Calls Tryz.prog 4 args W fun e W' => ∃ v, e = .returned v ∧ Rows.keysNilSpec.post enc Tryz.prog Tryz.f4 false true false false W args v W' := by
  have hW' := hW
  obtain ⟨p, q, hA0, hV, rfl, hfz, hnd⟩ := hW
  obtain ⟨rfl, rfl⟩ := trodVars_none hV
  have hA : DataW.TrodAll enc Tryz.prog W 0 (fun _ => true) true Tryz.f4.params.toList args.toList ds p := hA0
  rw [Tryz.params4] at hA
  obtain ⟨v0, vs0, d0, ds0, p0, q0, hargs, rfl, rfl, h0, r0⟩ := trodAll_cons hA
  obtain ⟨rfl, rfl, rfl⟩ := trodAll_nil r0
  obtain rfl : args = #[v0] := by cases args; simp_all
  clear hA0
  refine (walk v0 W).mono fun e W' ⟨he, hb⟩ => ?_
  subst he
  exact ⟨_, rfl, fin.law_post hW' rfl rfl rt4 Tryz.underlying4 (by kernel_rfl) rd4 hb⟩

theorem reads (os : Os) {H : Type} (enc : TypeId × Value → H) : ∃ places, DataW.whole enc Tryz.prog ((laids.laidWorld os).forCall (fun _ _ => 0) ⟨#[], #[.slice none 0 0], []⟩).memory Tryz.f4.params.toList Rows.keysNilSpec.vars false (#[.slice none 0 0] : Array Value).toList 8 = some ([.nil], [], places) :=
  ⟨[], by kernel_rfl⟩

set_option maxRecDepth 100000 in
theorem lifted (os : Os) (started : os.Started) (H : Type) (enc : TypeId × Value → H) (F : Stop.Interp) :
    ReturnsInHanded {} Tryz.checked os 4 .any ((OpenSpec.ofChange Rows.keysNilSpec).preRow enc Tryz.prog Tryz.f4 Rows.keysNilRow.domain false Rows.keysNilRow.laid) (((OpenSpec.ofChange Rows.keysNilSpec).at F).post enc Tryz.prog Tryz.f4 false true false false) := by
  obtain ⟨places, hx⟩ := reads os enc
  refine returnsInHanded_of_row (C := Tryz.checked) (s := OpenSpec.ofChange Rows.keysNilSpec) own started (by kernel_rfl) Tryz.func4
    (wit.witness (enc := enc) (C := Tryz.checked) (laids.laidWorld os) #[.slice none 0 0] rfl (laids.shaped os _) (by kernel_rfl)
      (OpenSpec.preRow_of_cond 8 hx (by kernel_rfl) (fun k hk => by cases hk) (by kernel_rfl) (Eq.mpr (Go.MakeChecks.laidMetH_plain _ _ _ (by kernel_rfl)) (laids.met os _)))) ?_
  intro W base args ds gs before hval hW _ hcond hR hL hS _
  exact contract H enc W base args ds gs before hval hW hR hL hS

set_option maxHeartbeats 40000000 in
theorem closed : joinedFacts Tryz.pinned.checked.prog 4 Tryz.f4 (OpenSpec.ofChange Rows.keysNilSpec).bare Rows.keysNilRow = true :=
  wit.facts_of (by as_aux_lemma => kernel_rfl)
    (by as_aux_lemma => kernel_rfl)
    (by as_aux_lemma => kernel_rfl)
    (by as_aux_lemma => kernel_rfl)
    (by as_aux_lemma => kernel_rfl)
    (by as_aux_lemma => kernel_rfl)
    (by as_aux_lemma => kernel_rfl)
    (by as_aux_lemma => kernel_rfl)
    (by as_aux_lemma => kernel_rfl)
    (by as_aux_lemma => kernel_rfl)
    (by as_aux_lemma => kernel_rfl)
    (by as_aux_lemma => kernel_rfl)
    (by as_aux_lemma => kernel_rfl)
    (by as_aux_lemma => kernel_rfl)
    (by as_aux_lemma => kernel_rfl)
    (by as_aux_lemma => kernel_rfl)
    (by as_aux_lemma => kernel_rfl)
    (by as_aux_lemma => kernel_rfl)
    (by as_aux_lemma => kernel_rfl)
    (by as_aux_lemma => kernel_rfl)
    (by as_aux_lemma => kernel_rfl)
    (by as_aux_lemma => kernel_rfl)
    (by as_aux_lemma => kernel_rfl)
    (by as_aux_lemma => kernel_rfl)
    (by as_aux_lemma => kernel_rfl)
    (by as_aux_lemma => kernel_rfl)
    (by as_aux_lemma => kernel_rfl)
    (by as_aux_lemma => kernel_rfl)
    (by as_aux_lemma => kernel_rfl)
    (by as_aux_lemma => kernel_rfl)
    (by as_aux_lemma => kernel_rfl)
    (by as_aux_lemma => kernel_rfl)
set_option maxHeartbeats 40000000 in
theorem said : Rows.KeysNilSaid :=
  OpenClaim.holds_of_cond 4 Tryz.f4 rfl rfl rfl rfl rfl rfl rfl ⟨rfl, rfl, rfl, rfl, rfl⟩ rfl rfl rfl rfl rfl (by kernel_rfl) Tryz.func4 closed
    (of_decide_eq_true (by kernel_rfl)) (by unfold Func.isWrapper; first | (rw [if_pos (by decide +kernel)]; kernel_rfl) | (rw [if_neg (by decide +kernel)]; exact ⟨rfl, rfl⟩))
    (fun os started H enc _ F => by rw [OpenClaim.pre_eq_preRow]; exact lifted os started H enc F)

theorem plain (f : FuncId) (fn : Func) (hf : Tryz.pinned.checked.prog.funcNamed "estuary/estuarylaw25.KeysNil" = some f) (hfn : Tryz.pinned.checked.prog.funcs[f]? = some fn) :
    true = Tryz.pinned.checked.prog.looks [] ∧ ∀ (j : Nat) t, fn.params[j]? = some t → Tryz.pinned.checked.prog.wantsStandIn t = false := by
  obtain rfl : f = 4 := Option.some.inj ((show Tryz.prog.funcNamed "estuary/estuarylaw25.KeysNil" = some 4 by kernel_rfl).symm.trans hf) |>.symm
  obtain rfl : fn = Tryz.f4 := (Option.some.inj (Tryz.func4.symm.trans hfn)).symm
  refine ⟨by kernel_rfl, fun j t ht => ?_⟩
  rw [Tryz.params4] at ht
  have hm := Array.mem_of_getElem? ht
  simp only [List.mem_toArray, List.mem_cons, List.not_mem_nil, or_false] at hm
  rcases hm with rfl
  exact (show Tryz.prog.wantsStandIn 41 = false by kernel_rfl)

/-- The card. -/
theorem card : Rows.KeysNilCardSaid :=
  Claim7.holds_tied_plain_at .later [] _ _ _ _ said (fun _ h => by cases h) (by kernel_rfl) (fun _ h => by cases h) keysNil_row_tie rfl ⟨rfl, rfl⟩ (by kernel_rfl) rfl plain (by kernel_rfl)

end Go.Proofs.YtcooeihpglioeaaGreatDoor.keysNil
