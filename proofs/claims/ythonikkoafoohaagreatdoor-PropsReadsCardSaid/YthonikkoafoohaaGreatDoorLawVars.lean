/- What a row's list gives the walks; a world for the witness; an argument that is a row of points. -/
import Derived.Test.YthonikkoafoohaaGreatDoorRows
import Derived.Test.YthonikkoafoohaaGreatDoorBTell
import Derived.Test.YthonikkoafoohaaGreatDoorBDecomp
import Derived.WalkKit
import Derived.ProofKit
import Derived.OpenShut
import Derived.ShutString
import Derived.ChangeOld
import Derived.Below
import Derived.Deep.DeepHandedRow
import Derived.Deep.DeepWitnessRowRef
import Derived.LaidLaws
import Derived.LaidHandle
import Derived.Lib.LaidIn
import Derived.Lib.LaidU8
import Derived.Stop.LaidErr
import Derived.Shelf.Vars
namespace Go.Proofs.YthonikkoafoohaaGreatDoor.Lw
open Go Go.ChangeShapes Go.WideShapes Go.ChangeAt Go.RowKit Go.Proofs.YthonikkoafoohaaGreatDoor.Pr
open Go.ChangeMaps (open_string shut_string)
set_option linter.unusedVariables false

theorem own : ownKnob Tryz.prog.godebug = none := by kernel_rfl
theorem laidOut : laidOutB Tryz.prog = true := by kernel_rfl
theorem star : "*" ++ "errors.errorString" = "*errors.errorString" := by decide
theorem rowErr (u : TypeId) (h : Tryz.prog.typeName? 3 u = some "*errors.errorString") : u = 356 :=
  typeName_ptr_named (nm := "errors.errorString") (by rw [star]; kernel_rfl) (by kernel_rfl) (by decide) u (by rw [star]; exact h)

/-- The library's two variables that the walks ask for. -/
theorem vars_of {W : World} {rest : List (String × DataW Unit)} (h : laidMet Tryz.prog (("strconv.ErrRange", Rows.laid_strconv_ErrRange) :: rest) W) (hsh : W.ShapedOpen Tryz.prog) : ∃ m ev, Vars W.heap.size W m ev := by
  obtain ⟨a, t, hv, _, _, _⟩ := laid_sentinel (g := 4) h (by kernel_rfl) (by kernel_rfl) Tryz.underlying29 rowErr Tryz.underlying356 Tryz.underlying358 rfl rfl Tryz.underlying9 (by kernel_rfl) (by kernel_rfl)
  obtain ⟨m, hm⟩ := cell_of_shapedOpen_int (g := 1) (zero := #[.int .i64 0]) (t := 3) hsh (of_decide_eq_true (by kernel_rfl)) (by kernel_rfl) rfl (by kernel_rfl) (by kernel_rfl) Tryz.underlying3
  have hr : W.cell? ⟨4, 0, none⟩ = some (.iface 356 (.pointer (some a))) := by
    simpa using World.var?_cell (show Tryz.prog.globalNamed "strconv.ErrRange" = some 4 by kernel_rfl) hv 0
  exact ⟨m, _, ⟨World.block_lt_of_cell? W _ hm, World.block_lt_of_cell? W _ hr⟩, hm, hr, .inr ⟨_, _, rfl⟩⟩

set_option maxRecDepth 100000 in
/-- An argument that is a row of points. -/
theorem open_points {W : World} {base : Nat} {v : Value} {H : Type} {enc : TypeId × Value → H} {d : DataW H} {ps : List MemPlace}
    (hval : Value.okWide Tryz.prog W .any base 36 v) (h : DataW.Trod enc Tryz.prog W 0 (fun _ => true) true 36 v d ps) : ∃ l : List Int, ReadPts W v l := by
  obtain ⟨a, len, cap, rfl⟩ := okWide_slice Tryz.underlying36 hval
  obtain ⟨fuel, hf⟩ := h
  rcases open_ints Tryz.underlying36 Tryz.underlying21 (by kernel_rfl) hf with ⟨hcs, _⟩ | ⟨x, l, c, zs, hcs, _, hl, hm, hz, _, hcell, _⟩
  · simp [Value.cells] at hcs
    obtain ⟨rfl, rfl, rfl⟩ := hcs
    exact ⟨[], by simp, .inl ⟨rfl, _, _, rfl⟩⟩
  · simp [Value.cells] at hcs
    obtain ⟨rfl, rfl, rfl⟩ := hcs
    have hok : Cell.ok Tryz.prog W .any base 36 (.slice (some x) len cap) := by
      unfold Value.okWide at hval
      rw [Tryz.underlying36] at hval
      simp only at hval
      unfold Cell.okWide at hval
      rw [Tryz.underlying36] at hval
      exact hval
    unfold Cell.ok at hok
    rw [Tryz.underlying36] at hok
    obtain ⟨_, _, _, hspot, _⟩ := hok
    obtain ⟨b, off, spot⟩ := x
    simp only at hspot
    subst hspot
    have hz2 : zs.length = cap := by simpa using hz
    refine ⟨zs.take len, by rw [List.length_take]; omega, .inr ⟨b, off, cap, by rw [List.length_take, Nat.min_eq_left (by omega)], fun i y hi => ?_⟩⟩
    have hi2 : i < len := by
      have := (List.getElem?_eq_some_iff.1 hi).1
      rw [List.length_take] at this
      omega
    have := hcell i (by omega)
    rw [List.getElem?_take_of_lt hi2] at hi
    rw [List.getD_eq_getElem?_getD, hi] at this
    rw [show ((⟨b, off, none⟩ : Addr).add i) = ⟨b, off + i, none⟩ by (unfold Addr.add; split <;> simp_all)] at this
    exact this

/-- A world for the witness: the settled one, two blocks more (the two errors' texts), the variables holding what their initialisers lay. -/
noncomputable def laidWorld (os : Os) : World :=
  let N := (World.settled Tryz.prog os).heap.size
  let w0 := World.holding Tryz.prog os ⟨#[.cells #[.string ⟨#[105, 110, 118, 97, 108, 105, 100, 32, 115, 121, 110, 116, 97, 120]⟩] 358, .cells #[.string ⟨#[118, 97, 108, 117, 101, 32, 111, 117, 116, 32, 111, 102, 32, 114, 97, 110, 103, 101]⟩] 358], #[], []⟩
  let put (h : Array Obj) (g : Nat) (cs : Array Value) : Array Obj := h.modify g fun
    | .cells _ t frozen => .cells cs t frozen
    | o => o
  let h0 := put w0.heap 3 #[.iface 356 (.pointer (some ⟨N, 0, none⟩))]
  let h1 := put h0 4 #[.iface 356 (.pointer (some ⟨N + 1, 0, none⟩))]
  let h2 := put h1 5 (Lib.firstTab.map fun z => Value.int .u8 z).toArray
  let h3 := put h2 6 ((List.range 16).flatMap fun i => [Value.int .u8 (Lib.accLo i), Value.int .u8 (Lib.accHi i)]).toArray
  let h4 := put h3 7 ((List.range 20).map fun i => Value.int .u64 (10 ^ i : Nat)).toArray
  let h5 := put h4 8 (([0, 1, 28, 2, 29, 14, 24, 3, 30, 22, 20, 15, 25, 17, 4, 8, 31, 27, 13, 23, 21, 19, 16, 7, 26, 12, 18, 6, 11, 5, 10, 9] : List Int).map (Value.int .u8)).toArray
  let h6 := put h5 9 (([0, 1, 56, 2, 57, 49, 28, 3, 61, 58, 42, 50, 38, 29, 17, 4, 62, 47, 59, 36, 45, 43, 51, 22, 53, 39, 33, 30, 24, 18, 12, 5, 63, 55, 48, 27, 60, 41, 37, 16, 46, 35, 44, 21, 52, 32, 23, 11, 54, 26, 40, 15, 34, 20, 31, 10, 25, 14, 19, 9, 13, 8, 7, 6] : List Int).map (Value.int .u8)).toArray
  let h7 := put h6 0 #[.string ⟨#[111, 116, 104, 101, 114]⟩, .string ⟨#[108, 101, 116, 116, 101, 114]⟩, .string ⟨#[100, 105, 103, 105, 116]⟩, .string ⟨#[109, 97, 114, 107]⟩, .string ⟨#[115, 112, 97, 99, 101]⟩, .string ⟨#[99, 111, 110, 116, 114, 111, 108]⟩, .string ⟨#[106, 111, 105, 110, 101, 114]⟩, .string ⟨#[109, 105, 100, 100, 108, 101]⟩]
  { w0 with heap := h7 }
noncomputable abbrev N0 : Nat := (World.settled Tryz.prog default).heap.size
set_option maxRecDepth 1000000 in
theorem piece0 (os : Os) (args : Array Value) : LaidIn Tryz.prog ((laidWorld os).forCall (fun _ _ => 0) ⟨#[], args, []⟩).memory Rows.propsPairsRow.laid [8, 9, 7, 6, 4, N0 + 1, 3, N0, 5] :=
  LaidIn.of_run [8, 9, 7, 6, 4, N0 + 1, 3, N0, 5] 8 (by kernel_rfl) (by kernel_rfl) (by kernel_rfl) (by kernel_rfl)
set_option maxRecDepth 1000000 in
theorem pieceK (os : Os) (args : Array Value) : LaidIn Tryz.prog ((laidWorld os).forCall (fun _ _ => 0) ⟨#[], args, []⟩).memory [("glossary/glossaryref06.kinds", Rows.laid_glossary_glossaryref06_kinds)] [0] :=
  LaidIn.of_run [0] 8 (by kernel_rfl) (by kernel_rfl) (by kernel_rfl) (by kernel_rfl)
end Go.Proofs.YthonikkoafoohaaGreatDoor.Lw
