/- glossarykit.Place and glossarykit.At at an api.Fault: its number, its line and place. -/
import Derived.Test.YthonikkoafoohaaGreatDoorErrFault
import Derived.Deep.RegionHeld3
import Derived.OwnWalk
import Derived.Deep.Cut
import Derived.Lib.Hide
namespace Go.Proofs.YthonikkoafoohaaGreatDoor.Errs
open Go.RowKit Go.Extern.Stop Go.Stop Go.Extern
set_option linter.unusedSimpArgs false

theorem later_cell {w W : World} {a : Addr} {v : Value} (hb : Below w.heap.size w W) (h : w.cell? a = some v) : W.cell? a = some v := (hb.cell (World.block_lt_of_cell? _ _ h)).trans h
set_option maxHeartbeats 4000000 in
set_option maxRecDepth 100000 in
theorem Place_fault (n l p : Int) (h1 : 1 ≤ n) (h2 : n ≤ 25) (w : World) (hg : Handle w) : Calls Tryz.prog 109 #[.iface 83 (.agg #[.int .i64 n, .int .i64 l, .int .i64 p])] w fun e w' => e = .returned (.tuple #[.int .i64 l, .int .i64 p, .bool true]) ∧ Below w.heap.size w w' := by
  have HN : Hid (∀ w, Calls Tryz.prog 107 #[.iface 83 (.agg #[.int .i64 n, .int .i64 l, .int .i64 p])] w fun e w' => e = .returned (.int .i64 n) ∧ Below w.heap.size w w') := Lib.hid fun w => Num_of _ _ n (says_fault n l p) h1 h2 w
  have HA := Lib.hid (as_says_fault n l p w.heap.size (w.alloc (.cells #[.int .i64 0, .int .i64 0, .int .i64 0] 83)) (Handle.alloc hg _) (by simp) (heap_alloc_new w _))
  have hnn : (n == n) = true := beq_iff_eq.2 rfl
  clear hg h1 h2
  go_enter Tryz.func109, Tryz.ntmps109
  go_upto_region 4 with (go_at_call 108; refine HA.out.mono ?_; rintro e w1 ⟨rfl, hh, hb⟩; have HH := Lib.hid (And.intro hh hb); clear hh hb)
  have k0 : w1.cell? ⟨w.heap.size, 0, none⟩ = some (.int .i64 n) := by rw [cell_of_row w1 _ 0 _ _ (0, 0) HH.out.1]; rfl
  have k1 : w1.cell? ⟨w.heap.size, 1, none⟩ = some (.int .i64 l) := by rw [cell_of_row w1 _ 1 _ _ (0, 0) HH.out.1]; rfl
  have k2 : w1.cell? ⟨w.heap.size, 2, none⟩ = some (.int .i64 p) := by rw [cell_of_row w1 _ 2 _ _ (0, 0) HH.out.1]; rfl
  have HB := Lib.hid (((Below.refl _ w).alloc (Nat.le_refl _) (.cells #[.int .i64 0, .int .i64 0, .int .i64 0] 83)).trans HH.out.2)
  clear HH HA
  go_region_held3 (fun w' => w'.cell? ⟨w.heap.size, 0, none⟩ = some (.int .i64 n) ∧ w'.cell? ⟨w.heap.size, 1, none⟩ = some (.int .i64 l) ∧ w'.cell? ⟨w.heap.size, 2, none⟩ = some (.int .i64 p)) (go_keep) ((go_at_call 107; (refine (HN.out _).mono ?_); rintro e w2 ⟨rfl, hb⟩; have q0 := later_cell hb k0; have q1 := later_cell hb k1; have q2 := later_cell hb k2))
  go_wp2
  go_ret3
  exact ⟨rfl, HB.out.trans (((Below.refl _ w1).drew).trans (hb.mono (by simp)) |>.mono HB.out.size)⟩
set_option maxHeartbeats 4000000 in
theorem At_fault (n l p : Int) (h1 : 1 ≤ n) (h2 : n ≤ 25) (w : World) (hg : Handle w) : Calls Tryz.prog 57 #[.iface 83 (.agg #[.int .i64 n, .int .i64 l, .int .i64 p]), .int .i64 n, .int .i64 l, .int .i64 p] w fun e w' => e = .returned (.bool true) ∧ Below w.heap.size w w' := by
  have HN : Hid (∀ w, Calls Tryz.prog 107 #[.iface 83 (.agg #[.int .i64 n, .int .i64 l, .int .i64 p])] w fun e w' => e = .returned (.int .i64 n) ∧ Below w.heap.size w w') := Lib.hid fun w => Num_of _ _ n (says_fault n l p) h1 h2 w
  have HP := Lib.hid (Place_fault n l p h1 h2 w hg)
  have hnn : (n == n) = true := beq_iff_eq.2 rfl
  have hll : (l == l) = true := beq_iff_eq.2 rfl
  have hpp : (p == p) = true := beq_iff_eq.2 rfl
  have hn0 : (n == 0) = false := beq_eq_false_iff_ne.2 (by omega)
  clear hg h1 h2
  go_enter Tryz.func57, Tryz.ntmps57
  go_wp2_with (first
    | (go_at_call 109; (refine HP.out.mono ?_); rintro e w1 ⟨rfl, hb⟩)
    | (go_at_call 107; (refine (HN.out _).mono ?_); rintro e w2 ⟨rfl, hb2⟩))
  go_ret
  exact ⟨rfl, hb.trans (hb2.mono hb.size)⟩
end Go.Proofs.YthonikkoafoohaaGreatDoor.Errs
