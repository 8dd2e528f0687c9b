/- NormalCuts returns true whatever the file and the row of points, and its arguments read afterwards as they read before; the listed variables start as the program's text lays them. -/
import Derived.Test.YtikpkjpnehkbfaaGreatDoorCards
import Derived.Test.YtikpkjpnehkbfaaGreatDoorTie
import Derived.Test.YtikpkjpnehkbfaaGreatDoorRowNorm
import Derived.Test.YtikpkjpnehkbfaaGreatDoorLawCuts
namespace Go.Proofs.YtikpkjpnehkbfaaGreatDoor.Lw
open Go Go.ChangeShapes Go.WideShapes Go.ChangeAt Go.RowKit Go.Proofs.YtikpkjpnehkbfaaGreatDoor.Pr Go.Proofs.YtikpkjpnehkbfaaGreatDoor.Rf Go.Proofs.YtikpkjpnehkbfaaGreatDoor.Nw
open Go.ChangeMaps (open_string shut_string)
set_option linter.unusedVariables false

theorem cuts_reads (os : Os) {H : Type} (enc : TypeId × Value → H) : ∃ places, DataW.whole enc Tryz.prog ((laidWorld os).forCall (fun _ _ => 0) ⟨#[], #[.string ⟨#[]⟩, .slice none 0 0], []⟩).memory Tryz.f6.params.toList Rows.normalCutsSpec.vars false (#[.string ⟨#[]⟩, .slice none 0 0] : Array Value).toList 8 = some ([.lit (.string []), .nil], [], places) :=
  ⟨[], by kernel_rfl⟩
set_option maxRecDepth 100000 in
theorem cuts_contract (H : Type) (enc : TypeId × Value → H) (W : World) (base : Nat) (args : Array Value) (ds gs : List (DataW H)) (before : List MemPlace)
    (hval : ∀ (j : Nat) t v, Tryz.f6.params[j]? = some t → args[j]? = some v → Value.okWide Tryz.prog W .any base t v)
    (hW : DataW.Whole enc Tryz.prog Tryz.f6.params.toList Rows.normalCutsSpec.vars false W args.toList ds gs before) (hL : laidMetH Tryz.prog Rows.normalCutsRow.laid W) (hsh : W.ShapedOpen Tryz.prog) :
    Calls Tryz.prog 6 args W fun e W' => ∃ v, e = .returned v ∧ Rows.normalCutsSpec.post enc Tryz.prog Tryz.f6 false true false false W args v W' := by
  have hW' := hW
  obtain ⟨p, q, hA0, hV, rfl, hfz, hnd⟩ := hW
  have hA : DataW.TrodAll enc Tryz.prog W 0 (fun _ => true) true Tryz.f6.params.toList args.toList ds p := hA0
  rw [Tryz.params6] at hA hval
  obtain ⟨v0, vs0, d0, ds0, p0, q0, hargs, rfl, rfl, h0, r0⟩ := trodAll_cons hA
  obtain ⟨v1, vs1, d1, ds1, p1, q1, rfl, rfl, rfl, h1, r1⟩ := trodAll_cons r0
  obtain ⟨rfl, rfl, rfl⟩ := trodAll_nil r1
  obtain rfl : args = #[v0, v1] := by cases args; simp_all
  obtain ⟨rfl, rfl⟩ := trodVars_none hV
  obtain ⟨s0, rfl, rfl, rfl, z0⟩ := open_string Tryz.underlying9 (hval 0 9 v0 rfl rfl) h0
  have y0 : s0.data.toList.length = s0.size := by rw [Array.length_toList]; rfl
  obtain ⟨l1, hl1, hu1, hb1⟩ := open_num (k := .i32) Tryz.underlying22 Tryz.underlying21 (by kernel_rfl) (hval 1 22 v1 rfl rfl) h1
  have k1 := h1
  have lt1 : ∀ x ∈ p1, x.block < W.heap.size := by obtain ⟨m, hm⟩ := k1; exact DataW.trod_lt m _ _ _ hm
  simp only [List.append_nil] at hW'
  obtain ⟨m, ev, hv⟩ := vars_row hL (by kernel_rfl) hsh
  clear hA0
  refine (cuts_calls s0 v1 l1 W hv hl1 (by unfold maxLen at z0; omega)).mono fun e W' ⟨he, bel⟩ => ?_
  subst he
  exact ⟨_, rfl, _, _, _, [], _, [], hW', trodAll_mk1 (shut_bool Tryz.underlying4 _), (trodAll_cons_mk (shut_string Tryz.underlying9 z0) (trodAll_cons_mk (Below.trod laidOut (by kernel_rfl) (of_decide_eq_true (by kernel_rfl)) k1 bel lt1) trodAll_mk0)), rfl, bel.frame _, fun h => by cases h⟩
set_option maxRecDepth 100000 in
theorem cuts_lifted (os : Os) (started : os.Started) (H : Type) (enc : TypeId × Value → H) (F : Stop.Interp) :
    ReturnsInHanded {} Tryz.checked os 6 .any ((OpenSpec.ofChange Rows.normalCutsSpec).preRow enc Tryz.prog Tryz.f6 Rows.normalCutsRow.domain false Rows.normalCutsRow.laid) (((OpenSpec.ofChange Rows.normalCutsSpec).at F).post enc Tryz.prog Tryz.f6 false true false false) := by
  obtain ⟨places, hx⟩ := cuts_reads os enc
  refine returnsInHanded_of_row (C := Tryz.checked) (s := OpenSpec.ofChange Rows.normalCutsSpec) own started (by kernel_rfl) Tryz.func6
    (witness_row_atRef (enc := enc) (C := Tryz.checked) false (laidWorld os) #[.string ⟨#[]⟩, .slice none 0 0] rfl (by kernel_rfl) (by kernel_rfl) (by kernel_rfl)
      (OpenSpec.preRow_of_cond 8 hx (by kernel_rfl) (fun k hk => by cases hk) (by kernel_rfl) (laidT os _).met)) ?_
  intro W base args ds gs before hval hW _ _ _ hL hsh _
  exact cuts_contract H enc W base args ds gs before hval hW hL hsh
theorem cuts_closed : joinedFacts Tryz.pinned.checked.prog 6 Tryz.f6 (OpenSpec.ofChange Rows.normalCutsSpec).bare Rows.normalCutsRow = true := by kernel_rfl
theorem cuts_named : Tryz.pinned.checked.prog.funcNamed Rows.normalCutsRow.func = some 6 := by kernel_rfl
theorem cuts_inst : Tryz.f6.isInstance Tryz.pinned.checked.prog Rows.normalCutsRow.origin Rows.normalCutsRow.targs := of_decide_eq_true (by kernel_rfl)
theorem cuts_wrap : Tryz.f6.isWrapper Tryz.pinned.checked.prog Rows.normalCutsRow.wrapper Rows.normalCutsRow.mainSum := by unfold Func.isWrapper; first | (rw [if_pos (by decide +kernel)]; kernel_rfl) | (rw [if_neg (by decide +kernel)]; exact ⟨rfl, rfl⟩)
theorem cuts_said : Rows.NormalCutsSaid :=
  OpenClaim.holds_of_cond 6 Tryz.f6 rfl rfl rfl rfl rfl rfl rfl ⟨rfl, rfl, rfl, rfl, rfl⟩ rfl rfl rfl rfl rfl cuts_named Tryz.func6 cuts_closed cuts_inst cuts_wrap
    (fun os started H enc _ F => by rw [OpenClaim.pre_eq_preRow]; exact cuts_lifted os started H enc F)
theorem cuts_tied (f : FuncId) (fn : Func) (hf : Tryz.pinned.checked.prog.funcNamed "glossary/glossarylaw07.NormalCuts" = some f) (hfn : Tryz.pinned.checked.prog.funcs[f]? = some fn) :
    true = Tryz.pinned.checked.prog.looks [] ∧ ∀ (j : Nat) t, fn.params[j]? = some t → Tryz.pinned.checked.prog.wantsStandIn t = false := by
  obtain rfl : f = 6 := Option.some.inj ((show Tryz.prog.funcNamed "glossary/glossarylaw07.NormalCuts" = some 6 by kernel_rfl).symm.trans hf) |>.symm
  obtain rfl : fn = Tryz.f6 := (Option.some.inj (Tryz.func6.symm.trans hfn)).symm
  refine ⟨by kernel_rfl, fun j t ht => ?_⟩
  rw [Tryz.params6] at ht
  have hm : t = 9 ∨ t = 22 := by
    have := Array.mem_of_getElem? ht
    simp at this
    first
      | exact this
      | omega
      | (rcases this with h | h | h <;> simp [h])
      | (rcases this with h | h | h | h <;> simp [h])
  rcases hm with rfl | rfl
  · exact (show Tryz.prog.wantsStandIn 9 = false by kernel_rfl)
  · exact (show Tryz.prog.wantsStandIn 22 = false by kernel_rfl)
theorem cuts_card : Rows.NormalCutsCardSaid :=
  Claim7.holds_tied_plain_at .later [] _ _ _ _ cuts_said (fun _ h => by cases h) (by kernel_rfl) (fun _ h => by cases h) normalCuts_row_tie rfl ⟨rfl, rfl⟩ (by kernel_rfl) rfl cuts_tied (by kernel_rfl)
#print axioms cuts_card
end Go.Proofs.YtikpkjpnehkbfaaGreatDoor.Lw
