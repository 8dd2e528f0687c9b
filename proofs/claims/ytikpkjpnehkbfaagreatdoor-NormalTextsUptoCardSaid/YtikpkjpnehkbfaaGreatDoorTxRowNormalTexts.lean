/- NormalTexts returns true whatever the file and the text, where what is read is of bulk at most 1048576; its arguments read afterwards as they read before; the listed variables start as the program's text lays them. -/
import Derived.Test.YtikpkjpnehkbfaaGreatDoorCards
import Derived.Test.YtikpkjpnehkbfaaGreatDoorTie
import Derived.Test.YtikpkjpnehkbfaaGreatDoorTxRowNorm
import Derived.Test.YtikpkjpnehkbfaaGreatDoorTxL
namespace Go.Proofs.YtikpkjpnehkbfaaGreatDoor.Lw
open Go Go.ChangeShapes Go.WideShapes Go.ChangeAt Go.RowKit Go.Proofs.YtikpkjpnehkbfaaGreatDoor.Pr Go.Proofs.YtikpkjpnehkbfaaGreatDoor.Rf Go.Proofs.YtikpkjpnehkbfaaGreatDoor.Nw
open Go.ChangeMaps (open_string shut_string)
set_option linter.unusedVariables false
theorem texts_reads (os : Os) {H : Type} (enc : TypeId × Value → H) : ∃ places, DataW.whole enc Tryz.prog ((laidWorld os).forCall (fun _ _ => 0) ⟨#[], #[.string ⟨#[]⟩, .string ⟨#[]⟩], []⟩).memory Tryz.f8.params.toList Rows.normalTextsSpec.vars false (#[.string ⟨#[]⟩, .string ⟨#[]⟩] : Array Value).toList 8 = some ([.lit (.string []), .lit (.string [])], [], places) :=
  ⟨[], by kernel_rfl⟩
set_option maxRecDepth 100000 in
theorem texts_contract (H : Type) (enc : TypeId × Value → H) (W : World) (base : Nat) (args : Array Value) (ds gs : List (DataW H)) (before : List MemPlace)
    (hval : ∀ (j : Nat) t v, Tryz.f8.params[j]? = some t → args[j]? = some v → Value.okWide Tryz.prog W .any base t v)
    (hW : DataW.Whole enc Tryz.prog Tryz.f8.params.toList Rows.normalTextsSpec.vars false W args.toList ds gs before) (hL : laidMetH Tryz.prog Rows.normalTextsUptoRow.laid W) (hsh : W.ShapedOpen Tryz.prog)
    (hk : Rows.uptoSmall H (ds ++ gs) = true) :
    Calls Tryz.prog 8 args W fun e W' => ∃ v, e = .returned v ∧ Rows.normalTextsSpec.post enc Tryz.prog Tryz.f8 false true false false W args v W' := by
  have hW' := hW
  obtain ⟨p, q, hA0, hV, rfl, hfz, hnd⟩ := hW
  have hA : DataW.TrodAll enc Tryz.prog W 0 (fun _ => true) true Tryz.f8.params.toList args.toList ds p := hA0
  rw [Tryz.params8] at hA hval
  obtain ⟨v0, vs0, d0, ds0, p0, q0, hargs, rfl, rfl, h0, r0⟩ := trodAll_cons hA
  obtain ⟨v1, vs1, d1, ds1, p1, q1, rfl, rfl, rfl, h1, r1⟩ := trodAll_cons r0
  obtain ⟨rfl, rfl, rfl⟩ := trodAll_nil r1
  obtain rfl : args = #[v0, v1] := by cases args; simp_all
  obtain ⟨rfl, rfl⟩ := trodVars_none hV
  obtain ⟨s0, rfl, rfl, rfl, z0⟩ := open_string Tryz.underlying9 (hval 0 9 v0 rfl rfl) h0
  have y0 : s0.data.toList.length = s0.size := by rw [Array.length_toList]; rfl
  obtain ⟨s1, rfl, rfl, rfl, z1⟩ := open_string Tryz.underlying9 (hval 1 9 v1 rfl rfl) h1
  have y1 : s1.data.toList.length = s1.size := by rw [Array.length_toList]; rfl
  simp only [List.append_nil] at hW'
  have hb := of_decide_eq_true hk
  simp only [List.append_nil, Rows.uptoBulkAll, Rows.uptoBulk] at hb
  obtain ⟨m, ev, hv⟩ := vars_row hL (by kernel_rfl) hsh
  have hkd := kinds_row hL (by kernel_rfl)
  clear hA0
  refine (texts_calls s0 s1 W hv hkd (by omega)).mono fun e W' ⟨he, bel⟩ => ?_
  subst he
  exact ⟨_, rfl, _, _, _, [], _, [], hW', trodAll_mk1 (shut_bool Tryz.underlying4 _), (trodAll_cons_mk (shut_string Tryz.underlying9 z0) (trodAll_cons_mk (shut_string Tryz.underlying9 z1) trodAll_mk0)), rfl, bel.frame _, fun h => by cases h⟩
theorem texts_small (H : Type) : Rows.uptoSmall H ([.lit (.string []), .lit (.string [])] ++ []) = true := by simp [Rows.uptoSmall, Rows.uptoBulkAll, Rows.uptoBulk]
set_option maxRecDepth 100000 in
theorem texts_lifted (os : Os) (started : os.Started) (H : Type) (enc : TypeId × Value → H) (F : Stop.Interp) :
    ReturnsInHanded {} Tryz.checked os 8 .any ((Rows.OpenSpec.upto Rows.normalTextsSpec).preRow enc Tryz.prog Tryz.f8 Rows.normalTextsUptoRow.domain false Rows.normalTextsUptoRow.laid) (((Rows.OpenSpec.upto Rows.normalTextsSpec).at F).post enc Tryz.prog Tryz.f8 false true false false) := by
  obtain ⟨places, hx⟩ := texts_reads os enc
  refine returnsInHanded_of_row (C := Tryz.checked) (s := Rows.OpenSpec.upto Rows.normalTextsSpec) own started (by kernel_rfl) Tryz.func8
    (witness_row_atRef (enc := enc) (C := Tryz.checked) false (laidWorld os) #[.string ⟨#[]⟩, .string ⟨#[]⟩] rfl (by kernel_rfl) (by kernel_rfl) (by kernel_rfl)
      (OpenSpec.preRow_of_cond 8 hx (by kernel_rfl) (fun k hk => by cases hk; exact texts_small H) (by kernel_rfl) (laidK os _).met)) ?_
  intro W base args ds gs before hval hW _ a2 a3 hL hsh a5
  exact texts_contract H enc W base args ds gs before hval hW hL hsh (by first | exact a2 _ rfl | exact a3 _ rfl | exact a5 _ rfl)
theorem texts_closed : joinedFacts Tryz.pinned.checked.prog 8 Tryz.f8 (Rows.OpenSpec.upto Rows.normalTextsSpec).bare Rows.normalTextsUptoRow = true := by kernel_rfl
theorem texts_named : Tryz.pinned.checked.prog.funcNamed Rows.normalTextsUptoRow.func = some 8 := by kernel_rfl
theorem texts_inst : Tryz.f8.isInstance Tryz.pinned.checked.prog Rows.normalTextsUptoRow.origin Rows.normalTextsUptoRow.targs := of_decide_eq_true (by kernel_rfl)
theorem texts_wrap : Tryz.f8.isWrapper Tryz.pinned.checked.prog Rows.normalTextsUptoRow.wrapper Rows.normalTextsUptoRow.mainSum := by unfold Func.isWrapper; first | (rw [if_pos (by decide +kernel)]; kernel_rfl) | (rw [if_neg (by decide +kernel)]; exact ⟨rfl, rfl⟩)
theorem texts_said : Rows.NormalTextsUptoSaid :=
  OpenClaim.holds_of_cond 8 Tryz.f8 rfl rfl rfl rfl rfl rfl rfl ⟨rfl, rfl, rfl, rfl, rfl⟩ rfl rfl rfl rfl rfl texts_named Tryz.func8 texts_closed texts_inst texts_wrap
    (fun os started H enc _ F => by rw [OpenClaim.pre_eq_preRow]; exact texts_lifted os started H enc F)
theorem texts_tied (f : FuncId) (fn : Func) (hf : Tryz.pinned.checked.prog.funcNamed "glossary/glossarylaw07.NormalTexts" = some f) (hfn : Tryz.pinned.checked.prog.funcs[f]? = some fn) :
    true = Tryz.pinned.checked.prog.looks [] ∧ ∀ (j : Nat) t, fn.params[j]? = some t → Tryz.pinned.checked.prog.wantsStandIn t = false := by
  obtain rfl : f = 8 := Option.some.inj ((show Tryz.prog.funcNamed "glossary/glossarylaw07.NormalTexts" = some 8 by kernel_rfl).symm.trans hf) |>.symm
  obtain rfl : fn = Tryz.f8 := (Option.some.inj (Tryz.func8.symm.trans hfn)).symm
  refine ⟨by kernel_rfl, fun j t ht => ?_⟩
  rw [Tryz.params8] at ht
  have hm : t = 9 := by
    have := Array.mem_of_getElem? ht
    simp at this
    first
      | exact this
      | omega
      | (rcases this with h | h | h <;> simp [h])
      | (rcases this with h | h | h | h <;> simp [h])
  rcases hm with rfl
  · exact (show Tryz.prog.wantsStandIn 9 = false by kernel_rfl)
theorem texts_card : Rows.NormalTextsUptoCardSaid :=
  Claim7.holds_tied_plain_at .later [] _ _ _ _ texts_said (fun _ h => by cases h) (by kernel_rfl) (fun _ h => by cases h) normalTextsUpto_row_tie rfl ⟨rfl, rfl⟩ (by kernel_rfl) rfl texts_tied (by kernel_rfl)
#print axioms texts_card
end Go.Proofs.YtikpkjpnehkbfaaGreatDoor.Lw
