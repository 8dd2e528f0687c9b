/- The row. -/
import Derived.Test.YtikpkjpnehkbfaaGreatDoorCards
import Derived.Test.YtikpkjpnehkbfaaGreatDoorTie
import Derived.Test.YtikpkjpnehkbfaaGreatDoorNrRowNorm
import Derived.Test.YtikpkjpnehkbfaaGreatDoorNrM
set_option linter.unusedVariables false
namespace Go.Proofs.YtikpkjpnehkbfaaGreatDoor.Lw
open Go Go.ChangeShapes Go.WideShapes Go.ChangeAt Go.RowKit Pr Rf Nw
open Go.ChangeMaps (open_string shut_string)
theorem nrows_reads (os : Os) {H : Type} (enc : TypeId × Value → H) : ∃ places, DataW.whole enc Tryz.prog ((laidWorld os).forCall (fun _ _ => 0) ⟨#[], #[.string ⟨#[]⟩, .slice none 0 0], []⟩).memory Tryz.f3.params.toList Rows.normalRowsSpec.vars false (#[.string ⟨#[]⟩, .slice none 0 0] : Array Value).toList 8 = some ([.lit (.string []), .nil], [], places) :=
  ⟨[], by kernel_rfl⟩
set_option maxRecDepth 100000 in
theorem nrows_contract (H : Type) (enc : TypeId × Value → H) (W : World) (base : Nat) (args : Array Value) (ds gs : List (DataW H)) (before : List MemPlace)
    (hval : ∀ (j : Nat) t v, Tryz.f3.params[j]? = some t → args[j]? = some v → Value.okWide Tryz.prog W .any base t v)
    (hW : DataW.Whole enc Tryz.prog Tryz.f3.params.toList Rows.normalRowsSpec.vars false W args.toList ds gs before) (hL : laidMetH Tryz.prog Rows.normalRowsUptoRow.laid W) (hsh : W.ShapedOpen Tryz.prog)
    (hk : Rows.uptoSmall H (ds ++ gs) = true) :
    Calls Tryz.prog 3 args W fun e W' => ∃ v, e = .returned v ∧ Rows.normalRowsSpec.post enc Tryz.prog Tryz.f3 false true false false W args v W' := by
  have hW' := hW
  obtain ⟨p, q, hA0, hV, rfl, hfz, hnd⟩ := hW
  have hA : DataW.TrodAll enc Tryz.prog W 0 (fun _ => true) true Tryz.f3.params.toList args.toList ds p := hA0
  rw [Tryz.params3] at hA hval
  obtain ⟨v0, vs0, d0, ds0, p0, q0, hargs, rfl, rfl, h0, r0⟩ := trodAll_cons hA
  obtain ⟨v1, vs1, d1, ds1, p1, q1, rfl, rfl, rfl, h1, r1⟩ := trodAll_cons r0
  obtain ⟨rfl, rfl, rfl⟩ := trodAll_nil r1
  obtain rfl : args = #[v0, v1] := by cases args; simp_all
  obtain ⟨rfl, rfl⟩ := trodVars_none hV
  obtain ⟨s0, rfl, rfl, rfl, z0⟩ := open_string Tryz.underlying9 (hval 0 9 v0 rfl rfl) h0
  have y0 : s0.data.toList.length = s0.size := by rw [Array.length_toList]; rfl
  obtain ⟨l1, hl1, hu1, hb1⟩ := open_num (k := .i32) Tryz.underlying22 Tryz.underlying21 (by kernel_rfl) (hval 1 22 v1 rfl rfl) h1
  have k1 := h1
  have lt1 : ∀ x ∈ p1, x.block < W.heap.size := by obtain ⟨m, hm⟩ := k1; exact DataW.trod_lt m _ _ _ hm
  simp only [List.append_nil] at hW'
  have hb := of_decide_eq_true hk
  simp only [List.append_nil, Rows.uptoBulkAll, Rows.uptoBulk] at hb
  obtain ⟨m, ev, hv⟩ := vars_row hL (by kernel_rfl) hsh
  have hkd := kinds_row hL (by kernel_rfl)
  clear hA0
  refine (nrows_calls s0 v1 l1 W hv hkd hl1.pts (fun x hx => rune_of (hb1 x hx)) (by omega)).mono fun e W' ⟨he, bel⟩ => ?_
  subst he
  exact ⟨_, rfl, _, _, _, [], _, [], hW', trodAll_mk1 (shut_bool Tryz.underlying4 _), (trodAll_cons_mk (shut_string Tryz.underlying9 z0) (trodAll_cons_mk (Below.trod laidOut (by kernel_rfl) (of_decide_eq_true (by kernel_rfl)) k1 bel lt1) trodAll_mk0)), rfl, bel.frame _, fun h => by cases h⟩
theorem nrows_small (H : Type) : Rows.uptoSmall H ([.lit (.string []), .nil] ++ []) = true := by simp [Rows.uptoSmall, Rows.uptoBulkAll, Rows.uptoBulk]
set_option maxRecDepth 100000 in
theorem nrows_lifted (os : Os) (started : os.Started) (H : Type) (enc : TypeId × Value → H) (F : Stop.Interp) :
    ReturnsInHanded {} Tryz.checked os 3 .any ((Rows.OpenSpec.upto Rows.normalRowsSpec).preRow enc Tryz.prog Tryz.f3 Rows.normalRowsUptoRow.domain false Rows.normalRowsUptoRow.laid) (((Rows.OpenSpec.upto Rows.normalRowsSpec).at F).post enc Tryz.prog Tryz.f3 false true false false) := by
  obtain ⟨places, hx⟩ := nrows_reads os enc
  refine returnsInHanded_of_row (C := Tryz.checked) (s := Rows.OpenSpec.upto Rows.normalRowsSpec) own started (by kernel_rfl) Tryz.func3
    (witness_row_atRef (enc := enc) (C := Tryz.checked) false (laidWorld os) #[.string ⟨#[]⟩, .slice none 0 0] rfl (by kernel_rfl) (by kernel_rfl) (by kernel_rfl)
      (OpenSpec.preRow_of_cond 8 hx (by kernel_rfl) (fun k hk => by cases hk; exact nrows_small H) (by kernel_rfl) (laidK os _).met)) ?_
  intro W base args ds gs before hval hW _ a2 a3 hL hsh a5
  exact nrows_contract H enc W base args ds gs before hval hW hL hsh (by first | exact a2 _ rfl | exact a3 _ rfl | exact a5 _ rfl)
theorem nrows_closed : joinedFacts Tryz.pinned.checked.prog 3 Tryz.f3 (Rows.OpenSpec.upto Rows.normalRowsSpec).bare Rows.normalRowsUptoRow = true := by kernel_rfl
theorem nrows_named : Tryz.pinned.checked.prog.funcNamed Rows.normalRowsUptoRow.func = some 3 := by kernel_rfl
theorem nrows_inst : Tryz.f3.isInstance Tryz.pinned.checked.prog Rows.normalRowsUptoRow.origin Rows.normalRowsUptoRow.targs := of_decide_eq_true (by kernel_rfl)
theorem nrows_wrap : Tryz.f3.isWrapper Tryz.pinned.checked.prog Rows.normalRowsUptoRow.wrapper Rows.normalRowsUptoRow.mainSum := by unfold Func.isWrapper; first | (rw [if_pos (by decide +kernel)]; kernel_rfl) | (rw [if_neg (by decide +kernel)]; exact ⟨rfl, rfl⟩)
theorem nrows_said : Rows.NormalRowsUptoSaid :=
  OpenClaim.holds_of_cond 3 Tryz.f3 rfl rfl rfl rfl rfl rfl rfl ⟨rfl, rfl, rfl, rfl, rfl⟩ rfl rfl rfl rfl rfl nrows_named Tryz.func3 nrows_closed nrows_inst nrows_wrap
    (fun os started H enc _ F => by rw [OpenClaim.pre_eq_preRow]; exact nrows_lifted os started H enc F)
theorem nrows_tied (f : FuncId) (fn : Func) (hf : Tryz.pinned.checked.prog.funcNamed "glossary/glossarylaw07.NormalRows" = some f) (hfn : Tryz.pinned.checked.prog.funcs[f]? = some fn) :
    true = Tryz.pinned.checked.prog.looks [] ∧ ∀ (j : Nat) t, fn.params[j]? = some t → Tryz.pinned.checked.prog.wantsStandIn t = false := by
  obtain rfl : f = 3 := Option.some.inj ((show Tryz.prog.funcNamed "glossary/glossarylaw07.NormalRows" = some 3 by kernel_rfl).symm.trans hf) |>.symm
  obtain rfl : fn = Tryz.f3 := (Option.some.inj (Tryz.func3.symm.trans hfn)).symm
  refine ⟨by kernel_rfl, fun j t ht => ?_⟩
  rw [Tryz.params3] at ht
  have hm : t = 9 ∨ t = 22 := by
    have := Array.mem_of_getElem? ht
    simp at this
    first
      | exact this
      | omega
  rcases hm with rfl | rfl
  · exact (show Tryz.prog.wantsStandIn 9 = false by kernel_rfl)
  · exact (show Tryz.prog.wantsStandIn 22 = false by kernel_rfl)
theorem nrows_card : Rows.NormalRowsUptoCardSaid :=
  Claim7.holds_tied_plain_at .later [] _ _ _ _ nrows_said (fun _ h => by cases h) (by kernel_rfl) (fun _ h => by cases h) normalRowsUpto_row_tie rfl ⟨rfl, rfl⟩ (by kernel_rfl) rfl nrows_tied (by kernel_rfl)
#print axioms nrows_card
end Go.Proofs.YtikpkjpnehkbfaaGreatDoor.Lw
