/- For every secret and holders: both texts make the same key; there is a ring in one just where there is one in the other. Where the secret and the holders are together of bulk at most 1048576. The row, and its card. -/
import Derived.Test.YthpnebmolaaapaaDoorKr7
import Derived.Test.YthpnebmolaaapaaDoorOpn
import Derived.Test.YthpnebmolaaapaaDoorCards
import Derived.Test.YthpnebmolaaapaaDoorTie
import Derived.ProofKit
import Derived.OpenShut
import Derived.JoinedCond
import Derived.Deep.CondSized
import Derived.Deep.DeepHandedRow
import Derived.Lib.LaidTab
import Derived.Stop.LaidErr
import Derived.ChangeMaps5
import Derived.Test.YthpnebmolaaapaaDoorFin
namespace Go.Proofs.YthpnebmolaaapaaDoor.keysRings
open Go.ChangeShapes Go.WideShapes Go.ChangeAt Go.RowKit eqv chunks sha ring opn
set_option linter.unusedVariables false
theorem own : ownKnob Tryd.prog.godebug = none := by kernel_rfl
theorem gR : Tryd.prog.globalNamed "estuary/estuaryref01.roots" = some 0 := by kernel_rfl
theorem gS : Tryd.prog.globalNamed "estuary/digest.squares" = some 1 := by kernel_rfl
theorem gO : Tryd.prog.globalNamed "estuary/estuaryref01.rounds" = some 2 := by kernel_rfl
theorem gC : Tryd.prog.globalNamed "estuary/digest.cubes" = some 3 := by kernel_rfl
theorem tR : (Tryd.prog.globals[0]?).map (·.type) = some 52 := by kernel_rfl
theorem tS : (Tryd.prog.globals[1]?).map (·.type) = some 52 := by kernel_rfl
theorem tO : (Tryd.prog.globals[2]?).map (·.type) = some 59 := by kernel_rfl
theorem tC : (Tryd.prog.globals[3]?).map (·.type) = some 59 := by kernel_rfl
theorem c8' : Tryd.prog.cellsOf 52 = 8 := by kernel_rfl
theorem c64 : Tryd.prog.cellsOf 59 = 64 := by kernel_rfl
theorem c1 : Tryd.prog.cellsOf 51 = 1 := by kernel_rfl
def z8 : List Int := [1779033703, 3144134277, 1013904242, 2773480762, 1359893119, 2600822924, 528734635, 1541459225]
def z64 : List Int := (List.range 64).map fun i => ((K i).toNat : Int)
theorem z8_vals : z8.map (fun z => Value.int .u32 z) = vals iv := by kernel_rfl
theorem dR : (Rows.laid_estuary_estuaryref01_roots : DataW Unit) = Lib.tabData .u32 z8 := by kernel_rfl
theorem dS : (Rows.laid_estuary_digest_squares : DataW Unit) = Lib.tabData .u32 z8 := by kernel_rfl
theorem dO : (Rows.laid_estuary_estuaryref01_rounds : DataW Unit) = Lib.tabData .u32 z64 := by kernel_rfl
theorem dC : (Rows.laid_estuary_digest_cubes : DataW Unit) = Lib.tabData .u32 z64 := by kernel_rfl
theorem lt_cell {w : World} {a : Addr} {v : Value} (h : w.cell? a = some v) : a.block < w.heap.size := by
  rcases Nat.lt_or_ge a.block w.heap.size with h1 | h1
  · exact h1
  · simp [World.cell?, Array.getElem?_eq_none h1] at h
theorem iv_of {w : World} {name : String} {g : Nat} (h : Lib.TabIs Tryd.prog w name .u32 z8) (hg : Tryd.prog.globalNamed name = some g) : Iv w g := by
  have hc := World.var?_cell hg h
  have h0 := lt_cell (h.cell hg 0 (by decide))
  have h1 := at_of (w := w) (a := ⟨g, 0, none⟩) (xs := vals iv) fun j u hu => by
    rw [add_zero_lit, hc j, ← hu, ← z8_vals]
    simp
  exact ⟨h0, h1⟩
theorem tab_of {w : World} {name : String} {g : Nat} (h : Lib.TabIs Tryd.prog w name .u32 z64) (hg : Tryd.prog.globalNamed name = some g) : Tab w g := by
  have hl : z64.length = 64 := by simp [z64]
  refine ⟨lt_cell (h.cell hg 0 (by rw [hl]; decide)), fun i hi => ?_⟩
  rw [h.cell hg i (by rw [hl]; exact hi)]
  have : z64.getD i 0 = ((K i).toNat : Int) := by
    unfold z64
    rw [List.getD_eq_getElem?_getD, List.getElem?_map, List.getElem?_range hi]
    rfl
  rw [this]
  rfl
/-- What the row's list gives. -/
theorem tables {W : World} (h : laidMetH Tryd.prog Rows.keysRingsUptoRow.laid W) : Iv W 1 ∧ Tab W 3 ∧ Iv W 0 ∧ Tab W 2 := by
  have h0 : laidMet Tryd.prog [("estuary/estuaryref01.roots", Rows.laid_estuary_estuaryref01_roots), ("estuary/estuaryref01.rounds", Rows.laid_estuary_estuaryref01_rounds), ("estuary/digest.squares", Rows.laid_estuary_digest_squares), ("estuary/digest.cubes", Rows.laid_estuary_digest_cubes)] W := h
  rw [dR, dO, dS, dC] at h0
  have h1 := h0.tail
  have h2 := h1.tail
  have h3 := h2.tail
  exact ⟨iv_of (Lib.tabIs_of_head gS tS Tryd.underlying52 Tryd.underlying51 c1 c8' h2) gS, tab_of (Lib.tabIs_of_head gC tC Tryd.underlying59 Tryd.underlying51 c1 c64 h3) gC,
    iv_of (Lib.tabIs_of_head gR tR Tryd.underlying52 Tryd.underlying51 c1 c8' h0) gR, tab_of (Lib.tabIs_of_head gO tO Tryd.underlying59 Tryd.underlying51 c1 c64 h1) gO⟩
theorem slice_lt {P : Program} {w : World} {r : Reach} {base : Nat} {t e : TypeId} {a : Addr} {n c : Nat} (hu : P.underlying t = some (.slice e)) (h : Value.okWide P w r base t (.slice (some a) n c)) : a.block < w.heap.size := by
  simp only [Value.okWide, Cell.okWide, hu, Cell.ok] at h
  obtain ⟨_, _, _, _, row, cells, hs, _⟩ := h
  unfold World.shape? at hs
  rcases Nat.lt_or_ge a.block w.heap.size with hlt | hge
  · exact hlt
  · rw [Array.getElem?_eq_none hge] at hs
    cases hs
theorem slice_form {P : Program} {w : World} {r : Reach} {base : Nat} {t e : TypeId} {v : Value} (hu : P.underlying t = some (.slice e)) (h : Value.okWide P w r base t v) {A : Option Addr} {n c : Nat} (hc : v.cells.toList = [.slice A n c]) : v = .slice A n c := by
  simp only [Value.okWide, Cell.okWide, hu] at h
  cases v <;> first | (simp only [Cell.ok, hu] at h; done) | skip
  simpa [Value.cells] using hc
theorem laidOut : laidOutB Tryd.prog = true := by kernel_rfl
theorem contract (H : Type) (enc : TypeId × Value → H) (W : World) (base : Nat) (args : Array Value) (ds gs : List (DataW H)) (before : List MemPlace)
    (hval : ∀ (j : Nat) t v, Tryd.f3.params[j]? = some t → args[j]? = some v → Value.okWide Tryd.prog W .any base t v)
    (hW : DataW.Whole enc Tryd.prog Tryd.f3.params.toList Rows.keysRingsSpec.vars false W args.toList ds gs before) (hk : Rows.uptoSmall H (ds ++ gs) = true) (hL : laidMetH Tryd.prog Rows.keysRingsUptoRow.laid W) :
    Calls Tryd.prog 3 args W fun e W' => ∃ v, e = .returned v ∧ Rows.keysRingsSpec.post enc Tryd.prog Tryd.f3 false true false false W args v W' := by
  have hW' := hW
  obtain ⟨p, q, hA0, hV, rfl, hfz, hnd⟩ := hW
  have hA : DataW.TrodAll enc Tryd.prog W 0 (fun _ => true) true Tryd.f3.params.toList args.toList ds p := hA0
  rw [Tryd.params3] at hA hval
  obtain ⟨v0, vs0, d0, ds0, p0, q0, hargs, rfl, rfl, h0, r0⟩ := trodAll_cons hA
  obtain ⟨v1, vs1, d1, ds1, p1, q1, rfl, rfl, rfl, h1, r1⟩ := trodAll_cons r0
  obtain ⟨rfl, rfl, rfl⟩ := trodAll_nil r1
  obtain rfl : args = #[v0, v1] := by cases args; simp_all
  obtain ⟨rfl, rfl⟩ := trodVars_none hV
  simp only [List.append_nil] at hW' hk
  have hb := bulks.bound hk
  simp only [Rows.uptoBulkAll] at hb
  obtain ⟨s, rfl, rfl, rfl, _⟩ := ChangeMaps.open_string Tryd.underlying9 (hval 0 9 v0 rfl rfl) h0
  have hs : s.size ≤ 1048576 := by
    have e : Rows.uptoBulk (DataW.lit (.string s.data.toList) : DataW H) = s.data.toList.length + 1 := by simp [Rows.uptoBulk]
    have e2 : s.data.toList.length = s.size := rfl
    omega
  obtain ⟨fuel, hf⟩ := h1
  obtain ⟨A, X, c, hv, hS, hO, hC, hAn, hX, _⟩ := open_plain Tryd.underlying22 leafsHd (by kernel_rfl) hf
  have hok1 := hval 1 22 v1 rfl rfl
  obtain rfl := slice_form Tryd.underlying22 hok1 hv
  have hN : X.length ≤ 1048576 := by
    simp only at hX
    omega
  obtain ⟨i1, i2, i3, i4⟩ := tables hL
  refine (law s X A c W hs hS hO (fun x hx => hd_of (hO x hx) (fun v hv => (hC x hx v hv).1) (fun v hv => (hC x hx v hv).2.2)) hAn (fun ad e => by subst e; exact slice_lt Tryd.underlying22 hok1) hN i1 i2 i3 i4).mono fun e W' ⟨he, hb⟩ => ?_
  subst he
  exact ⟨_, rfl, fin.law_post hW' rfl rfl rfl Tryd.underlying4 laidOut (by decide +kernel) hb⟩
/-- A world for the witness: the tables hold what their initialisers lay. -/
noncomputable def lay (l : List Value) : Obj → Obj
  | .cells _ t frozen => .cells l.toArray t frozen
  | o => o
noncomputable def laidWorld (os : Os) : World :=
  { World.holding Tryd.prog os ⟨#[], #[], []⟩ with heap := ((((World.holding Tryd.prog os ⟨#[], #[], []⟩).heap.modify 0 (lay (vals iv))).modify 1 (lay (vals iv))).modify 2 (lay (z64.map (Value.int .u32 ·)))).modify 3 (lay (z64.map (Value.int .u32 ·))) }
theorem laid_met (os : Os) : laidMet Tryd.prog Rows.keysRingsUptoRow.laid ((laidWorld os).forCall (fun _ _ => 0) ⟨#[], #[.string .empty, .slice none 0 0], []⟩).memory :=
  laidMet_of_run' 8 (by kernel_rfl) (by kernel_rfl)
theorem reads (os : Os) {H : Type} (enc : TypeId × Value → H) : ∃ places, DataW.whole enc Tryd.prog ((laidWorld os).forCall (fun _ _ => 0) ⟨#[], #[.string .empty, .slice none 0 0], []⟩).memory Tryd.f3.params.toList Rows.keysRingsSpec.vars false (#[.string .empty, .slice none 0 0] : Array Value).toList 8 = some ([.lit (.string []), .nil], [], places) :=
  ⟨[], by kernel_rfl⟩
set_option maxRecDepth 100000 in
theorem lifted (os : Os) (started : os.Started) (H : Type) (enc : TypeId × Value → H) (F : Stop.Interp) :
    ReturnsInHanded {} Tryd.checked os 3 .any ((Rows.OpenSpec.upto Rows.keysRingsSpec).preRow enc Tryd.prog Tryd.f3 Rows.keysRingsUptoRow.domain false Rows.keysRingsUptoRow.laid) (((Rows.OpenSpec.upto Rows.keysRingsSpec).at F).post enc Tryd.prog Tryd.f3 false true false false) := by
  obtain ⟨places, hx⟩ := reads os enc
  refine returnsInHanded_of_row (C := Tryd.checked) (s := Rows.OpenSpec.upto Rows.keysRingsSpec) own started (by kernel_rfl) Tryd.func3
    (witness_row_at (enc := enc) (C := Tryd.checked) false (laidWorld os) #[.string .empty, .slice none 0 0] rfl (by kernel_rfl) (by kernel_rfl) (by kernel_rfl)
      (OpenSpec.preRow_of_cond 8 hx (by kernel_rfl) (fun k hk => by cases hk; kernel_rfl) (by kernel_rfl) (laid_met os))) ?_
  intro W base args ds gs before hval hW _ hcond _ hL _ _
  exact contract H enc W base args ds gs before hval hW (hcond _ rfl) hL
theorem said : Rows.KeysRingsUptoSaid :=
  OpenClaim.holds_of_cond 3 Tryd.f3 rfl rfl rfl rfl rfl rfl rfl ⟨rfl, rfl, rfl, rfl, rfl⟩ rfl rfl rfl rfl rfl (by kernel_rfl) Tryd.func3 (by kernel_rfl)
    (of_decide_eq_true (by kernel_rfl)) (by unfold Func.isWrapper; first | (rw [if_pos (by decide +kernel)]; kernel_rfl) | (rw [if_neg (by decide +kernel)]; exact ⟨rfl, rfl⟩))
    (fun os started H enc _ F => by rw [OpenClaim.pre_eq_preRow]; exact lifted os started H enc F)
theorem plain (f : FuncId) (fn : Func) (hf : Tryd.pinned.checked.prog.funcNamed "estuary/estuarylaw25.KeysRings" = some f) (hfn : Tryd.pinned.checked.prog.funcs[f]? = some fn) :
    false = Tryd.pinned.checked.prog.looks [] ∧ ∀ (j : Nat) t, fn.params[j]? = some t → Tryd.pinned.checked.prog.wantsStandIn t = false := by
  obtain rfl : f = 3 := Option.some.inj ((show Tryd.prog.funcNamed "estuary/estuarylaw25.KeysRings" = some 3 by kernel_rfl).symm.trans hf) |>.symm
  obtain rfl : fn = Tryd.f3 := (Option.some.inj (Tryd.func3.symm.trans hfn)).symm
  refine ⟨by kernel_rfl, fun j t ht => ?_⟩
  rw [Tryd.params3] at ht
  have hm := Array.mem_of_getElem? ht
  simp only [List.mem_toArray, List.mem_cons, List.not_mem_nil, or_false] at hm
  rcases hm with rfl | rfl
  · exact (show Tryd.prog.wantsStandIn 9 = false by kernel_rfl)
  · exact (show Tryd.prog.wantsStandIn 22 = false by kernel_rfl)
/-- The card. -/
theorem card : Rows.KeysRingsUptoCardSaid :=
  Claim7.holds_tied_plain_at .later [] _ _ _ _ said (fun _ h => by cases h) (by kernel_rfl) (fun _ h => by cases h) keysRingsUpto_row_tie rfl ⟨rfl, rfl⟩ (by kernel_rfl) rfl plain (by kernel_rfl)
end Go.Proofs.YthpnebmolaaapaaDoor.keysRings
