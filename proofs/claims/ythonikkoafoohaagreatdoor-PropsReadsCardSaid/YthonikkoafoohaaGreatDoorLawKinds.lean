/- What a row's list says of the reference's kinds; a point's range; the witness' world has them. -/
import Derived.Test.YthonikkoafoohaaGreatDoorLawVars
import Derived.Test.YthonikkoafoohaaGreatDoorRefRanged
namespace Go.Proofs.YthonikkoafoohaaGreatDoor.Lw
open Go Go.ChangeShapes Go.WideShapes Go.ChangeAt Go.RowKit Go.Proofs.YthonikkoafoohaaGreatDoor.Pr Go.Proofs.YthonikkoafoohaaGreatDoor.Rf Go.Proofs.YthonikkoafoohaaGreatDoor.Sp
set_option linter.unusedVariables false

theorem rune_of {a : Int} (h : (Lit.int .i32 a).wf = true) : -2147483648 ≤ a ∧ a ≤ 2147483647 := by
  simp only [Lit.wf, Bool.and_eq_true, decide_eq_true_eq] at h
  exact h
theorem kinds_of {W : World} {rest : List (String × DataW Unit)} (h : laidMet Tryz.prog (("glossary/glossaryref06.kinds", Rows.laid_glossary_glossaryref06_kinds) :: rest) W) : KindsAt W := by
  obtain ⟨g, t, cs, fuel, p, h1, h2, h3, h4⟩ := Lib.laidMet.reads h (List.mem_cons_self ..)
  have hg : Tryz.prog.globalNamed "glossary/glossaryref06.kinds" = some 0 := by kernel_rfl
  obtain rfl : 0 = g := Option.some.inj (hg.symm.trans h1)
  have ht : (Tryz.prog.globals[0]?).map (·.type) = some 127 := by kernel_rfl
  obtain rfl : 127 = t := Option.some.inj (ht.symm.trans h2)
  obtain ⟨xs, m, rfl, hx, hl, hxl, hall⟩ := DataW.trod_array Tryz.underlying127 h4
  have hce : Tryz.prog.cellsOf 9 = 1 := by kernel_rfl
  rw [hce] at hall
  intro k hk
  have h8 := hall k hk
  obtain ⟨b, hb⟩ : ∃ b, xs[k]? = some b := ⟨_, List.getElem?_eq_getElem (by omega)⟩
  rw [hb] at h8
  obtain ⟨s, hc, hxb, _⟩ := DataW.trod_string Tryz.underlying9 h8
  have hcs : cs[k]? = some (.string s) := by
    have := congrArg (·[0]?) hc
    simpa [List.getElem?_take, List.getElem?_drop] using this
  refine ⟨s, ?_, ?_⟩
  · have := World.var?_cell hg h3 k
    rw [hcs] at this
    exact this
  · have e := congrArg Prod.fst hx
    simp only [Rows.laid_glossary_glossaryref06_kinds, DataW.agg.injEq] at e
    have e2 : (kindNames.map fun l => (DataW.lit (.string l) : DataW Unit))[k]? = some b.1 := by
      show ([_, _, _, _, _, _, _, _] : List (DataW Unit))[k]? = some b.1
      have e3 : (xs.map (·.1))[k]? = some b.1 := by rw [List.getElem?_map, hb]; rfl
      rw [← e] at e3
      exact e3
    rw [List.getElem?_map, hxb] at e2
    cases hn : kindNames[k]? with
    | none => rw [hn] at e2; cases e2
    | some l =>
      rw [hn] at e2
      simp only [Option.map_some, Option.some.injEq, DataW.lit.injEq, Lit.string.injEq] at e2
      rw [e2]
set_option maxRecDepth 1000000 in
theorem laidK (os : Os) (args : Array Value) : LaidIn Tryz.prog ((laidWorld os).forCall (fun _ _ => 0) ⟨#[], args, []⟩).memory Rows.propsComposesRow.laid ([0] ++ [8, 9, 7, 6, 4, N0 + 1, 3, N0, 5]) :=
  LaidIn.append (pieceK os args) (piece0 os args) (by kernel_rfl)
end Go.Proofs.YthonikkoafoohaaGreatDoor.Lw
