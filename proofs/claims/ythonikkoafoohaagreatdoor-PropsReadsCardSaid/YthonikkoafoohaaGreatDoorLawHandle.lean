/- Out of a row's list one variable by its name; the library's errorType; the witness' world with it; a row of points with its bounds. -/
import Derived.Test.YthonikkoafoohaaGreatDoorLawKinds
import Derived.Test.YthonikkoafoohaaGreatDoorErrPlain
import Derived.LaidSub
namespace Go.Proofs.YthonikkoafoohaaGreatDoor.Lw
open Go Go.ChangeShapes Go.WideShapes Go.ChangeAt Go.RowKit Go.Proofs.YthonikkoafoohaaGreatDoor.Pr Go.Proofs.YthonikkoafoohaaGreatDoor.Rf Go.Proofs.YthonikkoafoohaaGreatDoor.Sp
set_option linter.unusedVariables false

theorem laid_of {W : World} {L : List (String × DataW Unit)} (h : laidMetH Tryz.prog L W) (n : String) (d : DataW Unit) (hf : (L.filter fun x => x.1 == n) = [(n, d)]) : laidMetH Tryz.prog [(n, d)] W := by
  rw [← hf]
  exact laidMetH.filter _ h
theorem laid_plain {W : World} {L : List (String × DataW Unit)} (h : laidMetH Tryz.prog L W) (n : String) (d : DataW Unit) (hd : d.handleName?.isNone = true) (hf : (L.filter fun x => x.1 == n) = [(n, d)]) : laidMet Tryz.prog [(n, d)] W := by
  have := (laidMetH_iff.1 (laid_of h n d hf)).1
  rwa [List.filter_cons_of_pos (by simpa using hd), List.filter_nil] at this
theorem vars_row {W : World} {L : List (String × DataW Unit)} (h : laidMetH Tryz.prog L W) (hf : (L.filter fun x => x.1 == "strconv.ErrRange") = [("strconv.ErrRange", Rows.laid_strconv_ErrRange)]) (hsh : W.ShapedOpen Tryz.prog) : ∃ m ev, Vars W.heap.size W m ev := vars_of (rest := []) (laid_plain h _ _ (by kernel_rfl) hf) hsh
theorem kinds_row {W : World} {L : List (String × DataW Unit)} (h : laidMetH Tryz.prog L W) (hf : (L.filter fun x => x.1 == "glossary/glossaryref06.kinds") = [("glossary/glossaryref06.kinds", Rows.laid_glossary_glossaryref06_kinds)]) : KindsAt W := kinds_of (rest := []) (laid_plain h _ _ (by kernel_rfl) hf)
theorem et : Tryz.prog.globalNamed "errors.errorType" = some 2 := by kernel_rfl
theorem rt : (Tryz.prog.cutTypes.find? (·.1 == "internal/reflectlite.rtype")).map (·.2) = some 320 := by kernel_rfl
theorem oneRow : ((List.range 399).filter fun t => Tryz.prog.rowNamed t [101, 114, 114, 111, 114]) = [29] := by kernel_rfl
theorem typesSize : Tryz.prog.types.size = 399 := by kernel_rfl
theorem handle_of {W : World} (h : laidMetH Tryz.prog [("errors.errorType", Rows.laid_errors_errorType)] W) : Errs.Handle W := by
  have h' : laidMet Tryz.prog [] W ∧ handlesMet Tryz.prog [("errors.errorType", Rows.laid_errors_errorType)] W := h
  obtain ⟨name, u, ty, e1, e2, e3, e4, e5⟩ := h'.2 _ (List.mem_singleton.2 rfl)
  have en : name = [101, 114, 114, 111, 114] := (Option.some.inj e1).symm
  subst en
  obtain rfl := Option.some.inj (rt.symm.trans e2)
  have hm : ty ∈ (List.range 399).filter fun t => Tryz.prog.rowNamed t [101, 114, 114, 111, 114] := List.mem_filter.2 ⟨List.mem_range.2 (by rw [← typesSize]; exact e3), e4⟩
  rw [oneRow] at hm
  obtain rfl := List.mem_singleton.1 hm
  have hh : typeHandle Tryz.prog 29 = .pointer (some ⟨10, 29, none⟩) := by kernel_rfl
  rw [hh] at e5
  show W.cell? ⟨2, 0, none⟩ = _
  simpa using World.var?_cell et e5 0
theorem handle_row {W : World} {L : List (String × DataW Unit)} (h : laidMetH Tryz.prog L W) (hf : (L.filter fun x => x.1 == "errors.errorType") = [("errors.errorType", Rows.laid_errors_errorType)]) : Errs.Handle W := handle_of (laid_of h _ _ hf)
set_option maxRecDepth 100000 in
theorem open_points_b {W : World} {base : Nat} {v : Value} {H : Type} {enc : TypeId × Value → H} {d : DataW H} {ps : List MemPlace}
    (hval : Value.okWide Tryz.prog W .any base 36 v) (h : DataW.Trod enc Tryz.prog W 0 (fun _ => true) true 36 v d ps) : ∃ l : List Int, ReadPts W v l ∧ ∀ x ∈ l, -2147483648 ≤ x ∧ x ≤ 2147483647 := by
  obtain ⟨l, hl⟩ := open_points hval h
  refine ⟨l, hl, fun x hx => ?_⟩
  obtain ⟨i, hi⟩ := List.getElem?_of_mem hx
  have hpos : 0 < l.length := List.length_pos_of_mem hx
  obtain ⟨b, off, c, rfl⟩ := hl.pos hpos
  have hcell := hl.cell i x hi
  obtain ⟨fuel, hf⟩ := h
  rcases open_ints Tryz.underlying36 Tryz.underlying21 (by kernel_rfl) hf with ⟨hcs, _⟩ | ⟨y, n, c', zs, hcs, _, hlc, hm, hz, _, hcs2, hbd⟩
  · simp [Value.cells] at hcs
  · simp [Value.cells] at hcs
    obtain ⟨rfl, rfl, rfl⟩ := hcs
    have hz2 : zs.length = c := by simpa using hz
    have hi2 : i < l.length := (List.getElem?_eq_some_iff.1 hi).1
    have h3 := hcs2 i (by omega)
    rw [show ((⟨b, off, none⟩ : Addr).add i) = ⟨b, off + i, none⟩ by (unfold Addr.add; split <;> simp_all), hcell] at h3
    injection h3 with h3
    injection h3 with _ h3
    refine rune_of (hbd x ?_)
    rw [h3, List.getD_eq_getElem?_getD, List.getElem?_eq_getElem (by omega), Option.getD_some]
    exact List.getElem_mem _
/-- The witness' world with errorType. -/
noncomputable def laidWorldH (os : Os) : World :=
  let w0 := laidWorld os
  { w0 with heap := w0.heap.modify 2 fun
      | .cells _ t frozen => .cells #[.iface 320 (.agg #[.pointer (some ⟨10, 29, none⟩)])] t frozen
      | o => o }
set_option maxRecDepth 1000000 in
theorem laidH (os : Os) (args : Array Value) : laidMetH Tryz.prog Rows.propsReadsRow.laid ((laidWorldH os).forCall (fun _ _ => 0) ⟨#[], args, []⟩).memory :=
  laidMetH_of_parts
    (LaidIn.append (LaidIn.of_run [0] 8 (by kernel_rfl) (by kernel_rfl) (by kernel_rfl) (by kernel_rfl) : LaidIn Tryz.prog ((laidWorldH os).forCall (fun _ _ => 0) ⟨#[], args, []⟩).memory [("glossary/glossaryref06.kinds", Rows.laid_glossary_glossaryref06_kinds)] [0])
      (LaidIn.of_run [8, 9, 7, 6, 4, N0 + 1, 3, N0, 5] 8 (by kernel_rfl) (by kernel_rfl) (by kernel_rfl) (by kernel_rfl) : LaidIn Tryz.prog ((laidWorldH os).forCall (fun _ _ => 0) ⟨#[], args, []⟩).memory Rows.propsPairsRow.laid [8, 9, 7, 6, 4, N0 + 1, 3, N0, 5]) (by kernel_rfl)).met
    (by kernel_rfl)
end Go.Proofs.YthonikkoafoohaaGreatDoor.Lw
