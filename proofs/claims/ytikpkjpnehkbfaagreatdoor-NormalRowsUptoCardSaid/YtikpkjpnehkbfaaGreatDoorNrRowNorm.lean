/- What a row's list gives the walks (the reference's kinds, the library's errors); a world for the witness; how much the arguments hold. -/
import Derived.Test.YtikpkjpnehkbfaaGreatDoorRows
import Derived.Test.YtikpkjpnehkbfaaGreatDoorNrBTell
import Derived.Test.YtikpkjpnehkbfaaGreatDoorNrBDecomp
import Derived.Test.YtikpkjpnehkbfaaGreatDoorNrC
import Derived.Test.YtikpkjpnehkbfaaGreatDoorNrF
import Derived.Shelf.Vars
import Derived.ChangeSlices
import Derived.WalkKit
import Derived.ProofKit
import Derived.OpenShut
import Derived.ShutString
import Derived.ChangeOld
import Derived.Below
import Derived.Deep.DeepHandedRow
import Derived.Deep.DeepWitnessRowRef
import Derived.LaidLaws
import Derived.LaidHandle
import Derived.LaidSub
import Derived.Lib.LaidIn
import Derived.Lib.LaidU8
import Derived.Stop.LaidErr
set_option linter.unusedVariables false
namespace Go.Proofs.YtikpkjpnehkbfaaGreatDoor.Lw
open Go Go.ChangeShapes Go.WideShapes Go.ChangeAt Go.RowKit Go.Proofs.YtikpkjpnehkbfaaGreatDoor.Pr Go.Proofs.YtikpkjpnehkbfaaGreatDoor.Rf Go.Proofs.YtikpkjpnehkbfaaGreatDoor.Sp
open Go.ChangeMaps (open_string shut_string)
open Go.ChangeShapes (lits open_ints)
theorem own : ownKnob Tryz.prog.godebug = none := by kernel_rfl
theorem laidOut : laidOutB Tryz.prog = true := by kernel_rfl
theorem star : "*" ++ "errors.errorString" = "*errors.errorString" := by decide
theorem rowErr (u : TypeId) (h : Tryz.prog.typeName? 3 u = some "*errors.errorString") : u = 256 :=
  typeName_ptr_named (nm := "errors.errorString") (by rw [star]; kernel_rfl) (by kernel_rfl) (by decide) u (by rw [star]; exact h)
theorem vars_of {W : World} {rest : List (String × DataW Unit)} (h : laidMet Tryz.prog (("strconv.ErrRange", Rows.laid_strconv_ErrRange) :: rest) W) (hsh : W.ShapedOpen Tryz.prog) : ∃ m ev, Vars W.heap.size W m ev := by
  obtain ⟨a, t, hv, _, _, _⟩ := laid_sentinel (g := 5) h (by kernel_rfl) (by kernel_rfl) Tryz.underlying43 rowErr Tryz.underlying256 Tryz.underlying258 rfl rfl Tryz.underlying9 (by kernel_rfl) (by kernel_rfl)
  obtain ⟨m, hm⟩ := cell_of_shapedOpen_int (g := 1) (zero := #[.int .i64 0]) (t := 3) hsh (of_decide_eq_true (by kernel_rfl)) (by kernel_rfl) rfl (by kernel_rfl) (by kernel_rfl) Tryz.underlying3
  have hr : W.cell? ⟨5, 0, none⟩ = some (.iface 256 (.pointer (some a))) := by
    simpa using World.var?_cell (show Tryz.prog.globalNamed "strconv.ErrRange" = some 5 by kernel_rfl) hv 0
  exact ⟨m, _, ⟨World.block_lt_of_cell? W _ hm, World.block_lt_of_cell? W _ hr⟩, hm, hr, .inr ⟨_, _, rfl⟩⟩
noncomputable def laidWorld (os : Os) : World :=
  let N := (World.settled Tryz.prog os).heap.size
  let w0 := World.holding Tryz.prog os ⟨#[.cells #[.string ⟨#[105, 110, 118, 97, 108, 105, 100, 32, 115, 121, 110, 116, 97, 120]⟩] 258, .cells #[.string ⟨#[118, 97, 108, 117, 101, 32, 111, 117, 116, 32, 111, 102, 32, 114, 97, 110, 103, 101]⟩] 258], #[], []⟩
  let put (h : Array Obj) (g : Nat) (cs : Array Value) : Array Obj := h.modify g fun
    | .cells _ t frozen => .cells cs t frozen
    | o => o
  let h0 := put w0.heap 4 #[.iface 256 (.pointer (some ⟨N, 0, none⟩))]
  let h1 := put h0 5 #[.iface 256 (.pointer (some ⟨N + 1, 0, none⟩))]
  let h2 := put h1 2 (Lib.firstTab.map fun z => Value.int .u8 z).toArray
  let h3 := put h2 3 ((List.range 16).flatMap fun i => [Value.int .u8 (Lib.accLo i), Value.int .u8 (Lib.accHi i)]).toArray
  let h4 := put h3 6 ((List.range 20).map fun i => Value.int .u64 (10 ^ i : Nat)).toArray
  let h5 := put h4 7 (([0, 1, 28, 2, 29, 14, 24, 3, 30, 22, 20, 15, 25, 17, 4, 8, 31, 27, 13, 23, 21, 19, 16, 7, 26, 12, 18, 6, 11, 5, 10, 9] : List Int).map (Value.int .u8)).toArray
  let h6 := put h5 8 (([0, 1, 56, 2, 57, 49, 28, 3, 61, 58, 42, 50, 38, 29, 17, 4, 62, 47, 59, 36, 45, 43, 51, 22, 53, 39, 33, 30, 24, 18, 12, 5, 63, 55, 48, 27, 60, 41, 37, 16, 46, 35, 44, 21, 52, 32, 23, 11, 54, 26, 40, 15, 34, 20, 31, 10, 25, 14, 19, 9, 13, 8, 7, 6] : List Int).map (Value.int .u8)).toArray
  let h7 := put h6 0 #[.string ⟨#[111, 116, 104, 101, 114]⟩, .string ⟨#[108, 101, 116, 116, 101, 114]⟩, .string ⟨#[100, 105, 103, 105, 116]⟩, .string ⟨#[109, 97, 114, 107]⟩, .string ⟨#[115, 112, 97, 99, 101]⟩, .string ⟨#[99, 111, 110, 116, 114, 111, 108]⟩, .string ⟨#[106, 111, 105, 110, 101, 114]⟩, .string ⟨#[109, 105, 100, 100, 108, 101]⟩]
  { w0 with heap := h7 }
noncomputable abbrev N0 : Nat := (World.settled Tryz.prog default).heap.size
def tabs : List (String × DataW Unit) := [("math/bits.deBruijn32tab", Rows.laid_math_bits_deBruijn32tab), ("math/bits.deBruijn64tab", Rows.laid_math_bits_deBruijn64tab), ("internal/strconv.uint64pow10", Rows.laid_internal_strconv_uint64pow10), ("unicode/utf8.acceptRanges", Rows.laid_unicode_utf8_acceptRanges), ("strconv.ErrRange", Rows.laid_strconv_ErrRange), ("strconv.ErrSyntax", Rows.laid_strconv_ErrSyntax), ("unicode/utf8.first", Rows.laid_unicode_utf8_first)]
set_option maxRecDepth 1000000 in
theorem laidT (os : Os) (args : Array Value) : LaidIn Tryz.prog ((laidWorld os).forCall (fun _ _ => 0) ⟨#[], args, []⟩).memory tabs [7, 8, 6, 3, 5, N0 + 1, 4, N0, 2] :=
  LaidIn.of_run [7, 8, 6, 3, 5, N0 + 1, 4, N0, 2] 8 (by kernel_rfl) (by kernel_rfl) (by kernel_rfl) (by kernel_rfl)
set_option maxRecDepth 1000000 in
theorem pieceK (os : Os) (args : Array Value) : LaidIn Tryz.prog ((laidWorld os).forCall (fun _ _ => 0) ⟨#[], args, []⟩).memory [("glossary/glossaryref06.kinds", Rows.laid_glossary_glossaryref06_kinds)] [0] :=
  LaidIn.of_run [0] 8 (by kernel_rfl) (by kernel_rfl) (by kernel_rfl) (by kernel_rfl)
set_option maxRecDepth 1000000 in
theorem laidK (os : Os) (args : Array Value) : LaidIn Tryz.prog ((laidWorld os).forCall (fun _ _ => 0) ⟨#[], args, []⟩).memory ([("glossary/glossaryref06.kinds", Rows.laid_glossary_glossaryref06_kinds)] ++ tabs) ([0] ++ [7, 8, 6, 3, 5, N0 + 1, 4, N0, 2]) :=
  LaidIn.append (pieceK os args) (laidT os args) (by kernel_rfl)
theorem rune_of {a : Int} (h : (Lit.int .i32 a).wf = true) : -2147483648 ≤ a ∧ a ≤ 2147483647 := by
  simp only [Lit.wf, Bool.and_eq_true, decide_eq_true_eq] at h
  exact h
theorem kinds_of {W : World} {rest : List (String × DataW Unit)} (h : laidMet Tryz.prog (("glossary/glossaryref06.kinds", Rows.laid_glossary_glossaryref06_kinds) :: rest) W) : KindsAt W := by
  obtain ⟨g, t, cs, fuel, p, h1, h2, h3, h4⟩ := Lib.laidMet.reads h (List.mem_cons_self ..)
  have hg : Tryz.prog.globalNamed "glossary/glossaryref06.kinds" = some 0 := by kernel_rfl
  obtain rfl : 0 = g := Option.some.inj (hg.symm.trans h1)
  have ht : (Tryz.prog.globals[0]?).map (·.type) = some 178 := by kernel_rfl
  obtain rfl : 178 = t := Option.some.inj (ht.symm.trans h2)
  obtain ⟨xs, m, rfl, hx, hl, hxl, hall⟩ := DataW.trod_array Tryz.underlying178 h4
  have hce : Tryz.prog.cellsOf 9 = 1 := by kernel_rfl
  rw [hce] at hall
  intro k hk
  have h8 := hall k hk
  obtain ⟨b, hb⟩ : ∃ b, xs[k]? = some b := ⟨_, List.getElem?_eq_getElem (by omega)⟩
  rw [hb] at h8
  obtain ⟨s, hc, hxb, _⟩ := DataW.trod_string Tryz.underlying9 h8
  have hcs : cs[k]? = some (.string s) := by
    have := congrArg (·[0]?) hc
    simpa [List.getElem?_take, List.getElem?_drop] using this
  refine ⟨s, ?_, ?_⟩
  · have := World.var?_cell hg h3 k
    rw [hcs] at this
    exact this
  · have e := congrArg Prod.fst hx
    simp only [Rows.laid_glossary_glossaryref06_kinds, DataW.agg.injEq] at e
    have e2 : (kindNames.map fun l => (DataW.lit (.string l) : DataW Unit))[k]? = some b.1 := by
      show ([_, _, _, _, _, _, _, _] : List (DataW Unit))[k]? = some b.1
      have e3 : (xs.map (·.1))[k]? = some b.1 := by rw [List.getElem?_map, hb]; rfl
      rw [← e] at e3
      exact e3
    rw [List.getElem?_map, hxb] at e2
    cases hn : kindNames[k]? with
    | none => rw [hn] at e2; cases e2
    | some l =>
      rw [hn] at e2
      simp only [Option.map_some, Option.some.injEq, DataW.lit.injEq, Lit.string.injEq] at e2
      rw [e2]
theorem laid_of {W : World} {L : List (String × DataW Unit)} (h : laidMetH Tryz.prog L W) (n : String) (d : DataW Unit) (hf : (L.filter fun x => x.1 == n) = [(n, d)]) : laidMetH Tryz.prog [(n, d)] W := by
  rw [← hf]
  exact laidMetH.filter _ h
theorem laid_plain {W : World} {L : List (String × DataW Unit)} (h : laidMetH Tryz.prog L W) (n : String) (d : DataW Unit) (hd : d.handleName?.isNone = true) (hf : (L.filter fun x => x.1 == n) = [(n, d)]) : laidMet Tryz.prog [(n, d)] W := by
  have := (laidMetH_iff.1 (laid_of h n d hf)).1
  rwa [List.filter_cons_of_pos (by simpa using hd), List.filter_nil] at this
theorem vars_row {W : World} {L : List (String × DataW Unit)} (h : laidMetH Tryz.prog L W) (hf : (L.filter fun x => x.1 == "strconv.ErrRange") = [("strconv.ErrRange", Rows.laid_strconv_ErrRange)]) (hsh : W.ShapedOpen Tryz.prog) : ∃ m ev, Vars W.heap.size W m ev := vars_of (rest := []) (laid_plain h _ _ (by kernel_rfl) hf) hsh
theorem kinds_row {W : World} {L : List (String × DataW Unit)} (h : laidMetH Tryz.prog L W) (hf : (L.filter fun x => x.1 == "glossary/glossaryref06.kinds") = [("glossary/glossaryref06.kinds", Rows.laid_glossary_glossaryref06_kinds)]) : KindsAt W := kinds_of (rest := []) (laid_plain h _ _ (by kernel_rfl) hf)
theorem bulk_lits {H : Type} (k : IntKind) : ∀ l : List Int, Rows.uptoBulkAll (H := H) (lits k l) = l.length
  | [] => rfl
  | x :: l => by
    have := bulk_lits (H := H) k l
    have e : Rows.uptoBulk (H := H) (.lit (.int k x)) = 1 := by simp [Rows.uptoBulk]
    unfold lits at this ⊢
    rw [List.map_cons, Rows.uptoBulkAll, this, e, List.length_cons]
    omega
set_option maxRecDepth 100000 in
theorem open_num {W : World} {base : Nat} {v : Value} {H : Type} {enc : TypeId × Value → H} {d : DataW H} {ps : List MemPlace} {t e : TypeId} {k : IntKind} (ht : Tryz.prog.underlying t = some (.slice e)) (he : Tryz.prog.underlying e = some (.int k)) (hc : Tryz.prog.cellsOf e = 1)
    (hval : Value.okWide Tryz.prog W .any base t v) (h : DataW.Trod enc Tryz.prog W 0 (fun _ => true) true t v d ps) : ∃ l : List Int, Nw.ReadNum k W v l ∧ l.length + 1 ≤ Rows.uptoBulk d ∧ ∀ x ∈ l, (Lit.int k x).wf = true := by
  obtain ⟨a, len, cap, rfl⟩ := okWide_slice ht hval
  obtain ⟨fuel, hf⟩ := h
  rcases open_ints ht he hc hf with ⟨hcs, hd⟩ | ⟨x, l, c, zs, hcs, _, hl, hm, hz, hd, hcell, hwf⟩
  · simp [Value.cells] at hcs
    obtain ⟨rfl, rfl, rfl⟩ := hcs
    have e1 := congrArg Prod.fst hd
    simp only at e1
    subst e1
    exact ⟨[], ⟨by simp, .inl ⟨rfl, rfl⟩⟩, by simp [Rows.uptoBulk], fun x hx => by cases hx⟩
  · simp [Value.cells] at hcs
    obtain ⟨rfl, rfl, rfl⟩ := hcs
    have e1 := congrArg Prod.fst hd
    simp only at e1
    subst e1
    have hok : Cell.ok Tryz.prog W .any base t (.slice (some x) len cap) := by
      unfold Value.okWide at hval
      rw [ht] at hval
      simp only at hval
      unfold Cell.okWide at hval
      rw [ht] at hval
      exact hval
    unfold Cell.ok at hok
    rw [ht] at hok
    obtain ⟨_, _, _, hspot, _⟩ := hok
    obtain ⟨b, off, spot⟩ := x
    simp only at hspot
    subst hspot
    have hz2 : zs.length = cap := by simpa using hz
    refine ⟨zs.take len, ⟨by rw [List.length_take]; omega, .inr ⟨b, off, cap, by rw [List.length_take, Nat.min_eq_left (by omega)], by rw [List.length_take]; omega, hm, fun i y hi => ?_⟩⟩, ?_, fun y hy => hwf y (List.mem_of_mem_take hy)⟩
    · have hi2 : i < len := by
        have := (List.getElem?_eq_some_iff.1 hi).1
        rw [List.length_take] at this
        omega
      have := hcell i (by omega)
      rw [List.getElem?_take_of_lt hi2] at hi
      rw [List.getD_eq_getElem?_getD, hi] at this
      rw [show ((⟨b, off, none⟩ : Addr).add i) = ⟨b, off + i, none⟩ by (unfold Addr.add; split <;> simp_all)] at this
      exact this
    · rw [Rows.uptoBulk, bulk_lits]
      omega
end Go.Proofs.YtikpkjpnehkbfaaGreatDoor.Lw
