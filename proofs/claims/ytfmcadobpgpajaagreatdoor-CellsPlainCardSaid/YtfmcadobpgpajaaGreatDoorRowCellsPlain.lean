/- CellsPlain returns true whatever the text, and its argument reads afterwards as it read before; the listed variables start as the program's text lays them. -/
import Derived.Test.YtfmcadobpgpajaaGreatDoorCards
import Derived.Test.YtfmcadobpgpajaaGreatDoorTie
import Derived.Test.YtfmcadobpgpajaaGreatDoorRowBase
import Derived.Test.YtfmcadobpgpajaaGreatDoorLawCPlain
namespace Go.Proofs.YtfmcadobpgpajaaGreatDoor.Lw
open Go Go.ChangeShapes Go.WideShapes Go.ChangeAt Go.RowKit Go.Proofs.YtfmcadobpgpajaaGreatDoor.Pr Go.Proofs.YtfmcadobpgpajaaGreatDoor.Rf Go.Proofs.YtfmcadobpgpajaaGreatDoor.Cl
open Go.ChangeMaps (open_string shut_string)
set_option linter.unusedVariables false

theorem cplain_reads (os : Os) {H : Type} (enc : TypeId × Value → H) : ∃ places, DataW.whole enc Tryz.prog ((laidWorld os).forCall (fun _ _ => 0) ⟨#[], #[.string ⟨#[]⟩], []⟩).memory Tryz.f4.params.toList Rows.cellsPlainSpec.vars false (#[.string ⟨#[]⟩] : Array Value).toList 8 = some ([.lit (.string [])], [], places) :=
  ⟨[], by kernel_rfl⟩
set_option maxRecDepth 100000 in
theorem cplain_contract (H : Type) (enc : TypeId × Value → H) (W : World) (base : Nat) (args : Array Value) (ds gs : List (DataW H)) (before : List MemPlace)
    (hval : ∀ (j : Nat) t v, Tryz.f4.params[j]? = some t → args[j]? = some v → Value.okWide Tryz.prog W .any base t v)
    (hW : DataW.Whole enc Tryz.prog Tryz.f4.params.toList Rows.cellsPlainSpec.vars false W args.toList ds gs before) (hL : laidMetH Tryz.prog Rows.cellsPlainRow.laid W) (hsh : W.ShapedOpen Tryz.prog) :
    Calls Tryz.prog 4 args W fun e W' => ∃ v, e = .returned v ∧ Rows.cellsPlainSpec.post enc Tryz.prog Tryz.f4 false true false false W args v W' := by
  have hW' := hW
  obtain ⟨p, q, hA0, hV, rfl, hfz, hnd⟩ := hW
  have hA : DataW.TrodAll enc Tryz.prog W 0 (fun _ => true) true Tryz.f4.params.toList args.toList ds p := hA0
  rw [Tryz.params4] at hA hval
  obtain ⟨v0, vs0, d0, ds0, p0, q0, hargs, rfl, rfl, h0, r0⟩ := trodAll_cons hA
  obtain ⟨rfl, rfl, rfl⟩ := trodAll_nil r0
  obtain rfl : args = #[v0] := by cases args; simp_all
  obtain ⟨rfl, rfl⟩ := trodVars_none hV
  obtain ⟨s0, rfl, rfl, rfl, z0⟩ := open_string Tryz.underlying9 (hval 0 9 v0 rfl rfl) h0
  obtain ⟨m, ev, hv⟩ := vars_row hL (by kernel_rfl) hsh
  have hU := u8_row hL (by kernel_rfl) (by kernel_rfl)
  clear hA0
  refine (cplain_calls s0 W hv hU).mono fun e W' ⟨he, bel⟩ => ?_
  subst he
  exact ⟨_, rfl, _, _, _, [], _, [], hW', trodAll_mk1 (shut_bool Tryz.underlying4 _), (trodAll_cons_mk (shut_string Tryz.underlying9 z0) trodAll_mk0), rfl, bel.frame _, fun h => by cases h⟩
set_option maxRecDepth 100000 in
theorem cplain_lifted (os : Os) (started : os.Started) (H : Type) (enc : TypeId × Value → H) (F : Stop.Interp) :
    ReturnsInHanded {} Tryz.checked os 4 .any ((OpenSpec.ofChange Rows.cellsPlainSpec).preRow enc Tryz.prog Tryz.f4 Rows.cellsPlainRow.domain false Rows.cellsPlainRow.laid) (((OpenSpec.ofChange Rows.cellsPlainSpec).at F).post enc Tryz.prog Tryz.f4 false true false false) := by
  obtain ⟨places, hx⟩ := cplain_reads os enc
  refine returnsInHanded_of_row (C := Tryz.checked) (s := OpenSpec.ofChange Rows.cellsPlainSpec) own started (by kernel_rfl) Tryz.func4
    (witness_row_atRef (enc := enc) (C := Tryz.checked) false (laidWorld os) #[.string ⟨#[]⟩] rfl (by kernel_rfl) (by kernel_rfl) (by kernel_rfl)
      (OpenSpec.preRow_of_cond 8 hx (by kernel_rfl) (fun k hk => by cases hk) (by kernel_rfl) (laidT os _).met)) ?_
  intro W base args ds gs before hval hW _ _ _ hL hsh _
  exact cplain_contract H enc W base args ds gs before hval hW hL hsh
theorem cplain_said : Rows.CellsPlainSaid :=
  OpenClaim.holds_of_cond 4 Tryz.f4 rfl rfl rfl rfl rfl rfl rfl ⟨rfl, rfl, rfl, rfl, rfl⟩ rfl rfl rfl rfl rfl (by kernel_rfl) Tryz.func4 (by kernel_rfl)
    (of_decide_eq_true (by kernel_rfl)) (by unfold Func.isWrapper; first | (rw [if_pos (by decide +kernel)]; kernel_rfl) | (rw [if_neg (by decide +kernel)]; exact ⟨rfl, rfl⟩))
    (fun os started H enc _ F => by rw [OpenClaim.pre_eq_preRow]; exact cplain_lifted os started H enc F)
theorem cplain_tied (f : FuncId) (fn : Func) (hf : Tryz.pinned.checked.prog.funcNamed "glossary/glossarylaw09.CellsPlain" = some f) (hfn : Tryz.pinned.checked.prog.funcs[f]? = some fn) :
    true = Tryz.pinned.checked.prog.looks [] ∧ ∀ (j : Nat) t, fn.params[j]? = some t → Tryz.pinned.checked.prog.wantsStandIn t = false := by
  obtain rfl : f = 4 := Option.some.inj ((show Tryz.prog.funcNamed "glossary/glossarylaw09.CellsPlain" = some 4 by kernel_rfl).symm.trans hf) |>.symm
  obtain rfl : fn = Tryz.f4 := (Option.some.inj (Tryz.func4.symm.trans hfn)).symm
  refine ⟨by kernel_rfl, fun j t ht => ?_⟩
  rw [Tryz.params4] at ht
  have hm : t = 9 := by
    have := Array.mem_of_getElem? ht
    simp at this
    first
      | exact this
      | omega
      | (rcases this with h | h | h <;> simp [h])
      | (rcases this with h | h | h | h <;> simp [h])
  rcases hm with rfl
  · exact (show Tryz.prog.wantsStandIn 9 = false by kernel_rfl)
theorem cplain_card : Rows.CellsPlainCardSaid :=
  Claim7.holds_tied_plain_at .later [] _ _ _ _ cplain_said (fun _ h => by cases h) (by kernel_rfl) (fun _ h => by cases h) cellsPlain_row_tie rfl ⟨rfl, rfl⟩ (by kernel_rfl) rfl cplain_tied (by kernel_rfl)
#print axioms cplain_card
end Go.Proofs.YtfmcadobpgpajaaGreatDoor.Lw
