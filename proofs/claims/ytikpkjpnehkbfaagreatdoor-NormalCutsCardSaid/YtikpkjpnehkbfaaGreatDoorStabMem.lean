/- A row that is sorted in its place: what memory holds. -/
import Derived.Test.YtikpkjpnehkbfaaGreatDoorProg
import Derived.Test.YtikpkjpnehkbfaaGreatDoorStabPlain
import Derived.Below
import Derived.Deep.Draws
import Derived.Laws.Rows
import Derived.RowKit
import Derived.Lib.Hide
namespace Go.Proofs.YtikpkjpnehkbfaaGreatDoor.Sb
open Go Go.RowKit
set_option linter.unusedVariables false

/-- All blocks but one stay as they were; later ones may have come. -/
structure Kp (g : Nat) (W0 W : World) : Prop where
  os : W.os = W0.os
  tape : W.tape = W0.tape
  output : W.output = W0.output
  size : W0.heap.size ≤ W.heap.size
  block : ∀ k, k < W0.heap.size → k ≠ g → W.heap[k]? = W0.heap[k]?
theorem Kp.refl (g : Nat) (W : World) : Kp g W W := ⟨rfl, rfl, rfl, Nat.le_refl _, fun _ _ _ => rfl⟩
theorem Kp.trans {g : Nat} {a b c : World} (h : Kp g a b) (k : Kp g b c) : Kp g a c :=
  ⟨k.os.trans h.os, k.tape.trans h.tape, k.output.trans h.output, Nat.le_trans h.size k.size, fun i hi hn => (k.block i (Nat.lt_of_lt_of_le hi h.size) hn).trans (h.block i hi hn)⟩
theorem Kp.later {g : Nat} {W0 W W' : World} (h : Kp g W0 W) (hb : Below W.heap.size W W') : Kp g W0 W' :=
  ⟨hb.os.trans h.os, hb.tape.trans h.tape, hb.output.trans h.output, Nat.le_trans h.size hb.size, fun i hi hn => (hb.block i (Nat.lt_of_lt_of_le hi h.size)).trans (h.block i hi hn)⟩
theorem Kp.drew {g : Nat} {W0 W : World} (h : Kp g W0 W) : Kp g W0 W.drew := ⟨h.os, h.tape, h.output, h.size, h.block⟩
theorem Kp.drewN {g : Nat} {W0 W : World} (h : Kp g W0 W) (n : Nat) : Kp g W0 (W.drewN n) := ⟨h.os, h.tape, h.output, h.size, h.block⟩
theorem Kp.set {g : Nat} {W0 W : World} (h : Kp g W0 W) (i : Nat) (v : Value) : Kp g W0 (W.setCell ⟨g, i, none⟩ v) :=
  ⟨h.os, h.tape, h.output, by rw [World.size_setCell]; exact h.size, fun k hk hn => (Below.heap_setCell W ⟨g, i, none⟩ v k hn).trans (h.block k hk hn)⟩
theorem Kp.below {g n : Nat} {W0 W : World} (h : Kp g W0 W) (hg : n ≤ g) (hn : n ≤ W0.heap.size) : Below n W0 W := ⟨h.os, h.tape, h.output, h.size, fun k hk => h.block k (by omega) (by omega)⟩
/-- A block holds a row of numbers behind and ahead of others. -/
def RW (g : Nat) (pre post : List Value) (W : World) (l : List Int) : Prop := W.heap[g]? = some (.cells (pre ++ (l.map (Value.int .i32) ++ post)).toArray 21 (0, 0))
theorem RW.cell {g : Nat} {pre post : List Value} {W : World} {l : List Int} (h : RW g pre post W l) {i : Nat} {x : Int} (hx : l[i]? = some x) : W.cell? ⟨g, pre.length + i, none⟩ = some (.int .i32 x) := by
  rw [cell_of_row W g (pre.length + i) _ _ (0, 0) h]
  have hl := (List.getElem?_eq_some_iff.1 hx).1
  rw [List.getElem?_toArray, List.getElem?_append_right (by omega), Nat.add_sub_cancel_left, List.getElem?_append_left (by rw [List.length_map]; exact hl), List.getElem?_map, hx]
  rfl
theorem RW.open {g : Nat} {pre post : List Value} {W : World} {l : List Int} (h : RW g pre post W l) (i : Nat) : W.frozen? ⟨g, i, none⟩ = false := by
  unfold RW at h
  simp [World.frozen?, h]
theorem RW.lt {g : Nat} {pre post : List Value} {W : World} {l : List Int} (h : RW g pre post W l) : g < W.heap.size := (Array.getElem?_eq_some_iff.1 h).1
theorem RW.keep {g : Nat} {pre post : List Value} {W W' : World} {l : List Int} (h : RW g pre post W l) (hb : W'.heap[g]? = W.heap[g]?) : RW g pre post W' l := hb.trans h
theorem RW.later {g : Nat} {pre post : List Value} {W W' : World} {l : List Int} (h : RW g pre post W l) (hb : Below W.heap.size W W') : RW g pre post W' l := h.keep (hb.block g h.lt)
theorem RW.drew {g : Nat} {pre post : List Value} {W : World} {l : List Int} (h : RW g pre post W l) : RW g pre post W.drew l := h
theorem RW.set {g : Nat} {pre post : List Value} {W : World} {l : List Int} (h : RW g pre post W l) {i : Nat} (hi : i < l.length) (x : Int) : RW g pre post (W.setCell ⟨g, pre.length + i, none⟩ (.int .i32 x)) (l.set i x) := by
  unfold RW
  rw [heap_setCell_same W g (pre.length + i) _ _ _ h]
  congr 2
  rw [List.setIfInBounds_toArray]
  congr 1
  rw [List.set_append_right _ _ (Nat.le_add_right _ _), Nat.add_sub_cancel_left, List.set_append_left _ _ (by rw [List.length_map]; exact hi), List.map_set]
/-- Where a sort stands: its row, and all else as it was. -/
structure SI (g : Nat) (pre post : List Value) (W0 W : World) (l : List Int) : Prop where
  row : RW g pre post W l
  kp : Kp g W0 W
theorem SI.later {g : Nat} {pre post : List Value} {W0 W W' : World} {l : List Int} (h : SI g pre post W0 W l) (hb : Below W.heap.size W W') : SI g pre post W0 W' l := ⟨h.row.later hb, h.kp.later hb⟩
theorem SI.drew {g : Nat} {pre post : List Value} {W0 W : World} {l : List Int} (h : SI g pre post W0 W l) : SI g pre post W0 W.drew l := ⟨h.row, h.kp.drew⟩
theorem SI.swap {g : Nat} {pre post : List Value} {W0 W : World} {l : List Int} (h : SI g pre post W0 W l) {i j : Nat} (hi : i < l.length) (hj : j < l.length) (x y : Int) :
    SI g pre post W0 ((W.setCell ⟨g, pre.length + i, none⟩ (.int .i32 x)).setCell ⟨g, pre.length + j, none⟩ (.int .i32 y)) ((l.set i x).set j y) :=
  ⟨(h.row.set hi x).set (by rw [List.length_set]; exact hj) y, (h.kp.set _ _).set _ _⟩
theorem SI.swap1 {g : Nat} {pre post : List Value} {W0 W : World} {l : List Int} (h : SI g pre post W0 W l) {i : Nat} (hi : i + 1 < l.length) (x y : Int) :
    SI g pre post W0 ((W.setCell ⟨g, pre.length + (i + 1), none⟩ (.int .i32 x)).setCell ⟨g, pre.length + i, none⟩ (.int .i32 y)).drew ((l.set i y).set (i + 1) x) := by
  rw [List.set_comm _ _ (by omega)]
  exact (h.swap hi (by omega) x y).drew
theorem SI.swap2 {g : Nat} {pre post : List Value} {W0 W : World} {l : List Int} (h : SI g pre post W0 W l) {i j : Nat} (hi : i < l.length) (hj : j < l.length) (x y : Int) :
    SI g pre post W0 ((W.setCell ⟨g, pre.length + i, none⟩ (.int .i32 x)).setCell ⟨g, pre.length + j, none⟩ (.int .i32 y)).drew ((l.set i x).set j y) := (h.swap hi hj x y).drew
/-- A comparison: the difference of two keys, wherever the sort stands. -/
def Cmp (g : Nat) (W0 : World) (f : Nat) (lb : Array Value) (key : Int → Int) : Prop := ∀ (x y : Int) (W : World), Kp g W0 W → Calls Tryz.prog f (#[.int .i32 x, .int .i32 y] ++ lb) W fun e W' => e = .returned (.int .i64 (key x - key y)) ∧ Below W.heap.size W W'
end Go.Proofs.YtikpkjpnehkbfaaGreatDoor.Sb
