/- The reference's cells (glossaryref09): what, edge: the walks. -/
import Derived.Test.YtfmcadobpgpajaaGreatDoorRefDec
import Derived.Test.YtfmcadobpgpajaaGreatDoorRefAsk
import Derived.Test.YtfmcadobpgpajaaGreatDoorCellSpec
import Derived.Deep.RegionHeld3
import Derived.Deep.Cut
import Derived.OwnWalk
namespace Go.Proofs.YtfmcadobpgpajaaGreatDoor.Ru
open Go Go.RowKit Go.Lib Go.Proofs.YtfmcadobpgpajaaGreatDoor.Ut Go.Proofs.YtfmcadobpgpajaaGreatDoor.Sp Go.Proofs.YtfmcadobpgpajaaGreatDoor.Rf Go.Proofs.YtfmcadobpgpajaaGreatDoor.Cl
set_option linter.unusedSimpArgs false
set_option linter.unusedVariables false

abbrev RKAt (w : World) (q : Nat) (r c : Int) : Prop := ∀ W : World, Below w.heap.size w W → Calls Tryz.prog 103 #[.pointer (some ⟨q, 0, none⟩), .int .i32 r] W fun e w' => e = .returned (.int .i64 c) ∧ W = w'
abbrev RCAt (w : World) (q : Nat) (r c : Int) : Prop := ∀ W : World, Below w.heap.size w W → Calls Tryz.prog 104 #[.pointer (some ⟨q, 0, none⟩), .int .i32 r] W fun e w' => e = .returned (.int .i64 c) ∧ W = w'
theorem rkAt {w : World} {q : Nat} {st : St} (H : RefAt q w st) {r : Int} (h0 : -2147483648 ≤ r) (h1 : r ≤ 2147483647) : RKAt w q r (kindOf st.d r) := fun W hW => rkind_calls q st r h0 h1 W (H.on hW)
theorem rcAt' {w : World} {q : Nat} {st : St} (H : RefAt q w st) {r : Int} (h0 : -2147483648 ≤ r) (h1 : r ≤ 2147483647) : RCAt w q r (classOf st.d r) := fun W hW => rclass_calls q st r h0 h1 W (H.on hW)
/-- A unit's value. -/
abbrev unitV (x r : Int) (bad : Bool) : Value := .agg #[.int .i64 x, .int .i32 r, .bool bad]
set_option maxHeartbeats 4000000 in
set_option maxRecDepth 100000 in
theorem what_calls (q : Nat) (st : St) (x r : Int) (bad : Bool) (h0 : 0 ≤ r) (h1 : r ≤ 1114111) (w : World) (H : RefAt q w st) :
    Calls Tryz.prog 102 #[.pointer (some ⟨q, 0, none⟩), unitV x r bad] w fun e w' => e = .returned (.int .i64 (what st.d r bad)) ∧ Below w.heap.size w w' := by
  have HK := Lib.hid (rkAt H (r := r) (by omega) (by omega))
  have hA := Lib.hid ((Below.refl _ w).alloc (Nat.le_refl _) (.cells #[.int .i64 x, .int .i32 r, .bool bad] 127))
  clear H
  unfold what
  generalize kindOf st.d r = k at *
  obtain ⟨b3, f3⟩ : ∃ b, (r == (13 : Int)) = b := ⟨_, rfl⟩
  obtain ⟨b4, f4⟩ : ∃ b, (r == (10 : Int)) = b := ⟨_, rfl⟩
  obtain ⟨b5, f5⟩ : ∃ b, (k == (5 : Int)) = b := ⟨_, rfl⟩
  have G3 := Lib.hid f3
  have G4 := Lib.hid f4
  have G5 := Lib.hid f5
  cases bad <;> cases b3 <;> cases b4 <;> cases b5
  all_goals
    go_enter Tryz.func102, Tryz.ntmps102
    go_wp2_with (go_at_call 103; (refine (HK.out _ hA.out).mono ?_); rintro e w1 ⟨rfl, rfl⟩)
    all_goals go_ret
    all_goals
      have g3 := G3.out
      have g4 := G4.out
      have g5 := G5.out
      simp only [beq_iff_eq, beq_eq_false_iff_ne, ne_eq] at g3 g4 g5
      refine ⟨ret_i64 ?_, hA.out⟩
      (repeat' split) <;> first | rfl | omega | simp_all
def edgeV (a b x y kb cb ka : Int) : Bool := if a = 13 ∧ b = 10 then false else if x = 1 ∨ y = 1 then true else if kb = 3 ∨ kb = 6 ∨ 0 < cb then false else if ka = 6 then false else hangE x y
abbrev WhatAt (w : World) (q : Nat) (u : Value) (x : Int) : Prop := ∀ W : World, Below w.heap.size w W → Calls Tryz.prog 102 #[.pointer (some ⟨q, 0, none⟩), u] W fun e w' => e = .returned (.int .i64 x) ∧ Below W.heap.size W w'
theorem cells3 (w : World) (a b c : Value) (T : TypeId) : (w.alloc (.cells #[a, b, c] T)).cell? ⟨w.heap.size, 0, none⟩ = some a ∧ (w.alloc (.cells #[a, b, c] T)).cell? ⟨w.heap.size, 1, none⟩ = some b ∧ (w.alloc (.cells #[a, b, c] T)).cell? ⟨w.heap.size, 2, none⟩ = some c := by
  have h := heap_alloc_new w (.cells #[a, b, c] T)
  exact ⟨by rw [cell_of_row _ _ 0 _ _ (0, 0) h]; rfl, by rw [cell_of_row _ _ 1 _ _ (0, 0) h]; rfl, by rw [cell_of_row _ _ 2 _ _ (0, 0) h]; rfl⟩
theorem later_cell {w W : World} {a : Addr} {v : Value} (hb : Below w.heap.size w W) (h : w.cell? a = some v) : W.cell? a = some v := (hb.cell (World.block_lt_of_cell? _ _ h)).trans h
set_option maxHeartbeats 8000000 in
set_option maxRecDepth 100000 in
theorem edge_calls (q : Nat) (st : St) (xa a : Int) (ba : Bool) (xb b : Int) (bb : Bool) (a0 : 0 ≤ a) (a1 : a ≤ 1114111) (b0 : 0 ≤ b) (b1 : b ≤ 1114111) (w : World) (H : RefAt q w st) :
    Calls Tryz.prog 72 #[.pointer (some ⟨q, 0, none⟩), unitV xa a ba, unitV xb b bb] w fun e w' => e = .returned (.bool (edgeR st.d a ba b bb)) ∧ Below w.heap.size w w' := by
  have WA : Hid (WhatAt w q (unitV xa a ba) (what st.d a ba)) := Lib.hid fun W hW => what_calls q st xa a ba a0 a1 W (H.on hW)
  have WB : Hid (WhatAt w q (unitV xb b bb) (what st.d b bb)) := Lib.hid fun W hW => what_calls q st xb b bb b0 b1 W (H.on hW)
  have KB := Lib.hid (rkAt H (r := b) (by omega) (by omega))
  have KA := Lib.hid (rkAt H (r := a) (by omega) (by omega))
  have CB := Lib.hid (rcAt' H (r := b) (by omega) (by omega))
  have he : edgeR st.d a ba b bb = edgeV a b (what st.d a ba) (what st.d b bb) (kindOf st.d b) (classOf st.d b) (kindOf st.d a) := rfl
  rw [he]
  clear H he
  generalize what st.d a ba = x at *
  generalize what st.d b bb = y at *
  generalize kindOf st.d b = kb at *
  generalize classOf st.d b = cb at *
  generalize kindOf st.d a = ka at *
  obtain ⟨w2, hw2⟩ : ∃ w2, (w.alloc (.cells #[.int .i64 xa, .int .i32 a, .bool ba] 127)).alloc (.cells #[.int .i64 xb, .int .i32 b, .bool bb] 127) = w2 := ⟨_, rfl⟩
  have HB2 : Hid (Below w.heap.size w w2) := Lib.hid (by rw [← hw2]; exact (((Below.refl _ w).alloc (Nat.le_refl _) _).alloc (by simp) _))
  have ca := cells3 w (.int .i64 xa) (.int .i32 a) (.bool ba) 127
  have cbb := cells3 (w.alloc (.cells #[.int .i64 xa, .int .i32 a, .bool ba] 127)) (.int .i64 xb) (.int .i32 b) (.bool bb) 127
  have hal : Below (w.alloc (.cells #[.int .i64 xa, .int .i32 a, .bool ba] 127)).heap.size (w.alloc (.cells #[.int .i64 xa, .int .i32 a, .bool ba] 127)) w2 := by rw [← hw2]; exact (Below.refl _ _).alloc (Nat.le_refl _) _
  rw [hw2, World.size_alloc] at cbb
  have k0 := later_cell hal ca.1
  have k1 := later_cell hal ca.2.1
  have k2 := later_cell hal ca.2.2
  obtain ⟨k3, k4, k5⟩ := cbb
  have HW2 := Lib.hid hw2
  clear ca hal hw2
  go_enter Tryz.func72, Tryz.ntmps72
  go_upto_region 1 with fail
  rw [HW2.out]
  have hbx := HB2.out
  go_region_held3 (fun w' => w'.cell? ⟨w.heap.size, 0, none⟩ = some (.int .i64 xa) ∧ w'.cell? ⟨w.heap.size, 1, none⟩ = some (.int .i32 a) ∧ w'.cell? ⟨w.heap.size, 2, none⟩ = some (.bool ba) ∧ w'.cell? ⟨w.heap.size + 1, 0, none⟩ = some (.int .i64 xb) ∧ w'.cell? ⟨w.heap.size + 1, 1, none⟩ = some (.int .i32 b) ∧ w'.cell? ⟨w.heap.size + 1, 2, none⟩ = some (.bool bb)) (go_keep) ((first
    | (go_at_call 102; (with_reducible refine (WA.out _ (by first | exact hbx | exact hbx.drew | exact below_drewN hbx _)).mono ?_); rintro e w3 ⟨rfl, hb⟩; have k0 := later_cell hb k0; have k1 := later_cell hb k1; have k2 := later_cell hb k2; have k3 := later_cell hb k3; have k4 := later_cell hb k4; have k5 := later_cell hb k5; have hbx := (show Below w.heap.size w _ from (by first | exact hbx | exact hbx.drew | exact below_drewN hbx _)).trans (hb.mono (show Below w.heap.size w _ from (by first | exact hbx | exact hbx.drew | exact below_drewN hbx _)).size); clear hb)
    | (go_at_call 102; (with_reducible refine (WB.out _ (by first | exact hbx | exact hbx.drew | exact below_drewN hbx _)).mono ?_); rintro e w3 ⟨rfl, hb⟩; have k0 := later_cell hb k0; have k1 := later_cell hb k1; have k2 := later_cell hb k2; have k3 := later_cell hb k3; have k4 := later_cell hb k4; have k5 := later_cell hb k5; have hbx := (show Below w.heap.size w _ from (by first | exact hbx | exact hbx.drew | exact below_drewN hbx _)).trans (hb.mono (show Below w.heap.size w _ from (by first | exact hbx | exact hbx.drew | exact below_drewN hbx _)).size); clear hb)))
  all_goals
    obtain ⟨c1, f1⟩ : ∃ c, (a == (13 : Int)) = c := ⟨_, rfl⟩
    obtain ⟨c2, f2⟩ : ∃ c, (b == (10 : Int)) = c := ⟨_, rfl⟩
    have G1 := Lib.hid f1
    have G2 := Lib.hid f2
    cases c1 <;> cases c2
  all_goals
    have HBX := Lib.hid hbx
    have hA := hbx
    have t0 := k1
    have t1 := k4
    clear WA WB
    go_wp2_with (first
      | (go_at_call 103; (with_reducible refine (KB.out _ hA).mono ?_); rintro e w4 ⟨rfl, rfl⟩)
      | (go_at_call 103; (with_reducible refine (KA.out _ hA).mono ?_); rintro e w4 ⟨rfl, rfl⟩)
      | (go_at_call 104; (with_reducible refine (CB.out _ hA).mono ?_); rintro e w4 ⟨rfl, rfl⟩))
    all_goals go_ret
    all_goals
      refine ⟨ret_bool ?_, HBX.out⟩
      have g1 := G1.out
      have g2 := G2.out
      simp only [beq_iff_eq, beq_eq_false_iff_ne, ne_eq] at g1 g2
      clear G1 G2 f1 f2
      clear HBX hA t0 t1 hbx k0 k1 k2 k3 k4 k5 HB2 HW2 KA KB CB
      unfold edgeV hangE
      (repeat' split) <;> first | rfl | (exfalso; omega) | simp_all
end Go.Proofs.YtfmcadobpgpajaaGreatDoor.Ru
