/- A row that is handed on and grows: what memory holds; normal.whole: the walk; A row that is sorted in its place: what memory holds; slices.insertionSortCmpFunc at points: the walk; slices.swapRangeCmpFunc and rotateCmpFunc at points: the walks; slices.symMergeCmpFunc at points: one element alone ahead, or behind. -/
import Derived.Test.YtikpkjpnehkbfaaGreatDoorNrC
import Derived.Test.YtikpkjpnehkbfaaGreatDoorNrD
import Derived.Test.YtikpkjpnehkbfaaGreatDoorNrBTell
import Derived.Deep.LoopGhost
import Derived.Test.YtikpkjpnehkbfaaGreatDoorProg
import Derived.Below
import Derived.Deep.Draws
import Derived.Laws.Rows
import Derived.RowKit
import Derived.Lib.Hide
import Derived.Shelf.Abstract
import Derived.WalkKit
import Derived.Deep.RegionHeld3
import Derived.BigRegion
import Derived.IntWalk
set_option linter.unusedSimpArgs false
set_option linter.unusedVariables false
namespace Go.Proofs.YtikpkjpnehkbfaaGreatDoor.Nw
open Go Go.RowKit Go.Shelf Go.Proofs.YtikpkjpnehkbfaaGreatDoor.Sp Go.Proofs.YtikpkjpnehkbfaaGreatDoor.Pr Go.Proofs.YtikpkjpnehkbfaaGreatDoor.Rf Go.Proofs.YtikpkjpnehkbfaaGreatDoor.Nm
structure Mvd (W W' : World) (v v' : Value) : Prop where
  os : W'.os = W.os
  tape : W'.tape = W.tape
  output : W'.output = W.output
  size : W.heap.size ≤ W'.heap.size
  block : ∀ k, k < W.heap.size → v.ownBlock ≠ some k → W'.heap[k]? = W.heap[k]?
  own : ∀ g, v'.ownBlock = some g → v.ownBlock = some g ∨ W.heap.size ≤ g
theorem Mvd.refl (W : World) (v : Value) : Mvd W W v v := ⟨rfl, rfl, rfl, Nat.le_refl _, fun _ _ _ => rfl, fun _ h => .inl h⟩
theorem Mvd.trans {W1 W2 W3 : World} {v1 v2 v3 : Value} (h : Mvd W1 W2 v1 v2) (k : Mvd W2 W3 v2 v3) : Mvd W1 W3 v1 v3 := by
  refine ⟨k.os.trans h.os, k.tape.trans h.tape, k.output.trans h.output, Nat.le_trans h.size k.size, fun i hi hn => ?_, fun g hg => ?_⟩
  · refine (k.block i (Nat.lt_of_lt_of_le hi h.size) (fun e => ?_)).trans (h.block i hi hn)
    rcases h.own i e with e | e
    · exact hn e
    · omega
  · rcases k.own g hg with e | e
    · exact h.own g e
    · exact .inr (Nat.le_trans h.size e)
theorem Mvd.later {W1 W2 W3 : World} {v v' : Value} (h : Mvd W1 W2 v v') (hb : Below W2.heap.size W2 W3) : Mvd W1 W3 v v' :=
  ⟨hb.os.trans h.os, hb.tape.trans h.tape, hb.output.trans h.output, Nat.le_trans h.size hb.size, fun i hi hn => (hb.block i (Nat.lt_of_lt_of_le hi h.size)).trans (h.block i hi hn), h.own⟩
theorem Mvd.ahead {W1 W2 W3 : World} {v v' : Value} (hb : Below W1.heap.size W1 W2) (h : Mvd W2 W3 v v') (hv : ∀ g, v.ownBlock = some g → g < W1.heap.size) : Mvd W1 W3 v v' :=
  ⟨h.os.trans hb.os, h.tape.trans hb.tape, h.output.trans hb.output, Nat.le_trans hb.size h.size, fun i hi hn => (h.block i (Nat.lt_of_lt_of_le hi hb.size) hn).trans (hb.block i hi), fun g hg => by
    rcases h.own g hg with e | e
    · exact .inl e
    · exact .inr (Nat.le_trans hb.size e)⟩
theorem Mvd.below {W W' : World} {v v' : Value} {n₀ : Nat} (h : Mvd W W' v v') (hn : n₀ ≤ W.heap.size) (hv : ∀ g, v.ownBlock = some g → n₀ ≤ g) : Below n₀ W W' :=
  ⟨h.os, h.tape, h.output, h.size, fun k hk => h.block k (by omega) (fun e => by have := hv k e; omega)⟩
theorem own_at {n₀ : Nat} {W : World} {v : Value} {L : List Int} (h : OwnPts n₀ W v L) : ∀ g, v.ownBlock = some g → n₀ ≤ g ∧ g < W.heap.size := fun g hg => by
  obtain ⟨h1, cur, h2⟩ := own_block h hg
  exact ⟨h1, (Array.getElem?_eq_some_iff.1 h2).1⟩
theorem wpList_append_mvd {ops : Array Oper} {rest : List Oper} {o : Oper} {ac : Act} {Q : Exit → Act → World → Prop} {W : World} {y : Int} (hgd : o.guard = none) (s x : Operand)
    (ho : o.op = .call { callee := .builtin .append, args := #[s, x], argTypes := #[22, 22] })
    (base : Nat) (v : Value) (L : List Int) (hs : ac.eval s = v) (hown : OwnPts base W v L) (hx : ac.eval x = .slice (some ⟨W.heap.size, 0, none⟩) 1 1)
    (h63 : L.length ≤ 1073741824) (hbase : base ≤ W.heap.size)
    (h : ∀ v' w', OwnPts base w' v' (L ++ [y]) → Mvd W w' v v' → (∃ g c, v' = .slice (some ⟨g, 0, none⟩) (L.length + 1) c) → wpList Tryz.prog ops Q rest (ac.put o.dst v') w') :
    wpList Tryz.prog ops Q (o :: rest) ac (W.alloc (.cells #[.int .i32 y] 21)) := by
  obtain ⟨i, hi, hz0, hz1, hz2⟩ := info_parts infoRune
  refine wpList_append_own_at (W.alloc (.cells #[.int .i32 y] 21)) hgd s x 22 ho base 21 i (.int .i32 0) 1 4 Tryz.underlying22 hi hz0 hz1 hz2 rfl (by decide) v L.length (enc L) hs (World.ownsRow.alloc hown _) ⟨W.heap.size, 0, none⟩ 1 1 (enc [y]) hx (by simp [enc]) (cells_laid W (enc [y]) rfl (by simp [enc, maxLen])) (enc_one [y]) (by simp only [maxLen]; omega) (by omega) (by rw [World.size_alloc]; omega) ?_
  intro v' w' ho' hg _ hb
  have ho2 : OwnPts base w' v' (L ++ [y]) := by
    unfold OwnPts
    rw [show enc (L ++ [y]) = enc L ++ enc [y] by simp [enc], List.length_append]
    exact ho'
  obtain ⟨g, c, e⟩ := ownsRow_succ (k := L.length) ho'
  refine h v' w' ho2 ?_ ⟨g, c, e⟩
  have hs := hg.size
  rw [World.size_alloc] at hs
  refine ⟨hg.os, hg.tape, hg.output, by omega, fun k hk hn => (hg.block k (by rw [World.size_alloc]; omega) (fun e => hn e.symm)).trans (Below.heap_alloc W _ k hk), fun g hg' => ?_⟩
  rcases hb with e | e
  · rw [e] at hg'; exact .inl hg'
  · rw [World.size_alloc] at e
    rw [e] at hg'
    injection hg' with hg'
    exact .inr (by omega)
end Go.Proofs.YtikpkjpnehkbfaaGreatDoor.Nw
namespace Go.Proofs.YtikpkjpnehkbfaaGreatDoor.Nw
open Go Go.RowKit Go.Shelf Go.Proofs.YtikpkjpnehkbfaaGreatDoor.Sp Go.Proofs.YtikpkjpnehkbfaaGreatDoor.Pr Go.Proofs.YtikpkjpnehkbfaaGreatDoor.Rf Go.Proofs.YtikpkjpnehkbfaaGreatDoor.Nm
abbrev OwnAt (f : Nat) (w : World) (p : Nat) (r : Int) (l : List Int) : Prop := ∀ W : World, Below w.heap.size w W → Calls Tryz.prog f #[.pointer (some ⟨p, 0, none⟩), .int .i32 r] W fun e w' => ∃ A c, e = .returned (.slice A l.length c) ∧ OwnPts W.heap.size w' (.slice A l.length c) l ∧ Below W.heap.size W w'
theorem ownDecomp {w : World} {p : Nat} {D : PD} (H : PropsAt w.heap.size w p D) (r : Int) : OwnAt 74 w p r (decompOf D r) := fun W hW => (decomp_calls p D r W (H.on hW)).mono fun e w' ⟨v, h1, ho, hb⟩ => by
  obtain ⟨A, c, rfl⟩ := YtikpkjpnehkbfaaGreatDoor.Rowl.own_slice ho
  exact ⟨A, c, h1, ho, hb⟩
theorem own_cells {n₀ : Nat} {W : World} {g n c : Nat} {l : List Int} (h : OwnPts n₀ W (.slice (some ⟨g, 0, none⟩) n c) l) {i : Nat} {x : Int} (hx : l[i]? = some x) : W.cell? ⟨g, i, none⟩ = some (.int .i32 x) := by
  have a1 := World.ownsRow.cells h (g := g) rfl i (.int .i32 x) (by unfold enc; rw [List.getElem?_map, hx]; rfl)
  rw [show ((⟨g, 0, none⟩ : Addr).add i) = ⟨g, i, none⟩ by (unfold Addr.add; split <;> simp_all)] at a1
  exact a1
theorem take_flat {f : Int → List Int} {l : List Int} {i : Nat} {x : Int} (hx : l[i]? = some x) : (l.take (i + 1)).flatMap f = (l.take i).flatMap f ++ f x := by
  rw [List.take_add_one, hx, List.flatMap_append]
  simp
theorem take_flat_le {f : Int → List Int} {l : List Int} {i : Nat} {x : Int} (hx : l[i]? = some x) : ((l.take i).flatMap f).length + (f x).length ≤ (l.flatMap f).length := by
  have h1 := take_flat (f := f) hx
  have h2 : l.flatMap f = (l.take (i + 1)).flatMap f ++ (l.drop (i + 1)).flatMap f := by rw [← List.flatMap_append, List.take_append_drop]
  have := congrArg List.length h1
  have := congrArg List.length h2
  simp only [List.length_append] at *
  omega
theorem flat_ge {f : Int → List Int} : ∀ {l : List Int}, (∀ q ∈ l, f q ≠ []) → l.length ≤ (l.flatMap f).length
  | [], _ => Nat.zero_le _
  | q :: l, h => by
    have := flat_ge (l := l) (fun x hx => h x (by simp [hx]))
    have := List.length_pos_iff.2 (h q (by simp))
    rw [List.flatMap_cons, List.length_append, List.length_cons]
    omega
abbrev WholeOut (n₀ : Nat) (W : World) (v : Value) (L : List Int) (e : Ending) (W' : World) : Prop := ∃ v', e = .returned v' ∧ OwnPts n₀ W' v' L ∧ Mvd W W' v v'
set_option maxHeartbeats 4000000 in
set_option maxRecDepth 100000 in
theorem whole_calls {w0 : World} {p : Nat} {D : PD} (H : PropsAt w0.heap.size w0 p D) {n₀ : Nat} (hn0 : w0.heap.size ≤ n₀) : ∀ (k : Nat) (r : Int) (m : Nat), fullGo D k r = some m → ∀ (W : World) (v : Value) (L : List Int), Below w0.heap.size w0 W → n₀ ≤ W.heap.size → OwnPts n₀ W v L → L.length + (wholeGo D k r).length ≤ 1073741824 →
    Calls Tryz.prog 53 #[.pointer (some ⟨p, 0, none⟩), .int .i32 r, v] W fun e W' => WholeOut n₀ W v (L ++ wholeGo D k r) e W'
  | 0, r, m, hf => by cases hf
  | k + 1, r, m, hf => fun W v L hb hn ho hlen => by
    have HD := Lib.hid (ownDecomp H r W hb)
    have HO := Lib.hid ho
    have HB0 := Lib.hid hb
    have HN := Lib.hid hn
    have HOA := Lib.hid (own_at ho)
    have hlenL : L.length ≤ 1073741824 := by omega
    by_cases hd : decompOf D r = []
    · have HW : Hid (wholeGo D (k + 1) r = [r]) := Lib.hid (by rw [wholeGo, if_pos hd])
      rw [hd] at HD
      clear hf hb hn ho hlen hd
      go_enter Tryz.func53, Tryz.ntmps53
      go_wp2_with (first
        | (go_at_call 74; refine HD.out.mono ?_; rintro e w1 ⟨A, c, rfl, -, hb1⟩; have HB1 := Lib.hid hb1; clear hb1)
        | (at_builtin; refine wpList_append_mvd rfl _ _ rfl n₀ v L rfl (Rowl.own_later HO.out HB1.out) rfl hlenL (Nat.le_trans HN.out HB1.out.size) ?_; rintro v' w2 ho2 hm2 ⟨g, c2, rfl⟩; have HO2 := Lib.hid ho2; have HM2 := Lib.hid hm2; clear ho2 hm2))
      go_ret
      exact ⟨_, rfl, by rw [HW.out]; exact HO2.out, HM2.out.ahead HB1.out (fun g hg => (HOA.out g hg).2)⟩
    · have HW : Hid (wholeGo D (k + 1) r = (decompOf D r).flatMap (wholeGo D k)) := Lib.hid (by rw [wholeGo, if_neg hd])
      have HF : Hid (∀ q ∈ decompOf D r, ∃ b, fullGo D k q = some b) := Lib.hid (by
        rw [fullGo, if_neg hd, sumOf_from] at hf
        exact sumFrom_parts _ _ _ hf)
      have HLN : Hid (L.length + ((decompOf D r).flatMap (wholeGo D k)).length ≤ 1073741824) := Lib.hid (by rw [← HW.out]; exact hlen)
      have IH := Lib.hid (whole_calls H hn0 k)
      generalize decompOf D r = ds at HD hd HW HF HLN
      obtain ⟨n, hnl⟩ : ∃ n, ds.length = n + 1 := ⟨ds.length - 1, by have := List.length_pos_iff.2 hd; omega⟩
      have HNL := Lib.hid hnl
      rw [hnl] at HD
      have hn31 : n < 1073741824 := by
        have h1 := flat_ge (f := wholeGo D k) (l := ds) (fun q hq => by
          obtain ⟨b, hb⟩ := HF.out q hq
          exact (wholeGo_len D k q b hb).2)
        have := HLN.out
        omega
      clear hf hb hn ho hlen hd hnl
      have hne : ((n : Int) + 1 == 0) = false := beq_eq_false_iff_ne.2 (by omega)
      go_enter Tryz.func53, Tryz.ntmps53
      go_wp2_with (go_at_call 74; refine HD.out.mono ?_; rintro e w1 ⟨A, c, rfl, ho1, hb1⟩; have HB1 := Lib.hid hb1; have HO1 := Lib.hid ho1; clear hb1 ho1)
      obtain ⟨g, c', e⟩ := ownsRow_succ (k := n) (by have := HO1.out; rw [OwnPts, HNL.out] at this; exact this)
      injection e with e1 _ e3
      subst e1
      subst e3
      have HG : Hid (W.heap.size ≤ g ∧ g < w1.heap.size) := Lib.hid (own_at HO1.out g rfl)
      have HCL := Lib.hid (fun (i : Nat) (x : Int) (hx : ds[i]? = some x) => own_cells HO1.out hx)
      have HM0 : Hid (Mvd W w1 v v) := Lib.hid ((Mvd.refl W v).later HB1.out)
      go_loopg [2, 22] (n + 1) (fun gk vout vi wr => ∃ (i : Nat), vi = .int .i64 i ∧ i ≤ n + 1 ∧ n + 1 - i ≤ gk ∧ Hid (OwnPts n₀ wr vout (L ++ (ds.take i).flatMap (wholeGo D k)) ∧ Mvd W wr v vout ∧ Mvd w1 wr v vout))
      case atStart => exact ⟨0, rfl, Nat.zero_le _, by omega, Lib.hid ⟨by rw [List.take_zero, List.flatMap_nil, List.append_nil]; exact Rowl.own_later HO.out HB1.out, HM0.out, Mvd.refl _ _⟩⟩
      case round =>
        obtain ⟨i, rfl, hi, hg1, HI⟩ := hrel
        rename Value => vout
        by_cases hlt : i < n + 1
        · have hz : (i : Int) < (n : Int) + 1 := by omega
          obtain ⟨x, hx⟩ : ∃ x, ds[i]? = some x := ⟨_, List.getElem?_eq_getElem (by rw [HNL.out]; exact hlt)⟩
          have cx : wr.cell? ⟨g, i, none⟩ = some (.int .i32 x) := (World.cell?_of_block (a := ⟨g, i, none⟩) (HI.out.2.2.block g HG.out.2 (fun e => by have := (HOA.out g e).2; have := HG.out.1; omega))).trans (HCL.out i x hx)
          obtain ⟨b, hb⟩ := HF.out x (List.mem_of_getElem? hx)
          have hle := take_flat_le (f := wholeGo D k) hx
          have HC := Lib.hid (IH.out x b hb wr _ _ (HB0.out.trans ((HI.out.2.1.below HN.out (fun g hg => (HOA.out g hg).1)).mono hn0)) (Nat.le_trans HN.out HI.out.2.1.size) HI.out.1 (by have := HLN.out; rw [List.length_append]; omega))
          have HT := Lib.hid (take_flat (f := wholeGo D k) hx)
          clear hx hb hle
          go_wp2_with (go_at_call 53; refine HC.out.mono ?_; rintro e w2 ⟨v2, rfl, ho2, hm2⟩; have HO2 := Lib.hid ho2; have HM2 := Lib.hid hm2; clear ho2 hm2)
          go_roundg (n - i)
          case rel => exact ⟨i + 1, by go_num, by omega, by omega, Lib.hid ⟨by have := HO2.out; rw [List.append_assoc, ← HT.out] at this; exact this, HI.out.2.1.trans HM2.out, HI.out.2.2.trans HM2.out⟩⟩
          case measure => omega
        · obtain rfl : i = n + 1 := by omega
          go_wp2
          go_ret
          exact ⟨_, rfl, by rw [HW.out]; have := HI.out.1; rwa [← HNL.out, List.take_of_length_le (Nat.le_refl _)] at this, HI.out.2.1⟩
end Go.Proofs.YtikpkjpnehkbfaaGreatDoor.Nw
namespace Go.Proofs.YtikpkjpnehkbfaaGreatDoor.Sb
open Go Go.RowKit
structure Kp (g : Nat) (W0 W : World) : Prop where
  os : W.os = W0.os
  tape : W.tape = W0.tape
  output : W.output = W0.output
  size : W0.heap.size ≤ W.heap.size
  block : ∀ k, k < W0.heap.size → k ≠ g → W.heap[k]? = W0.heap[k]?
theorem Kp.refl (g : Nat) (W : World) : Kp g W W := ⟨rfl, rfl, rfl, Nat.le_refl _, fun _ _ _ => rfl⟩
theorem Kp.trans {g : Nat} {a b c : World} (h : Kp g a b) (k : Kp g b c) : Kp g a c :=
  ⟨k.os.trans h.os, k.tape.trans h.tape, k.output.trans h.output, Nat.le_trans h.size k.size, fun i hi hn => (k.block i (Nat.lt_of_lt_of_le hi h.size) hn).trans (h.block i hi hn)⟩
theorem Kp.later {g : Nat} {W0 W W' : World} (h : Kp g W0 W) (hb : Below W.heap.size W W') : Kp g W0 W' :=
  ⟨hb.os.trans h.os, hb.tape.trans h.tape, hb.output.trans h.output, Nat.le_trans h.size hb.size, fun i hi hn => (hb.block i (Nat.lt_of_lt_of_le hi h.size)).trans (h.block i hi hn)⟩
theorem Kp.drew {g : Nat} {W0 W : World} (h : Kp g W0 W) : Kp g W0 W.drew := ⟨h.os, h.tape, h.output, h.size, h.block⟩
theorem Kp.set {g : Nat} {W0 W : World} (h : Kp g W0 W) (i : Nat) (v : Value) : Kp g W0 (W.setCell ⟨g, i, none⟩ v) :=
  ⟨h.os, h.tape, h.output, by rw [World.size_setCell]; exact h.size, fun k hk hn => (Below.heap_setCell W ⟨g, i, none⟩ v k hn).trans (h.block k hk hn)⟩
theorem Kp.below {g n : Nat} {W0 W : World} (h : Kp g W0 W) (hg : n ≤ g) (hn : n ≤ W0.heap.size) : Below n W0 W := ⟨h.os, h.tape, h.output, h.size, fun k hk => h.block k (by omega) (by omega)⟩
def RW (g : Nat) (pre post : List Value) (W : World) (l : List Int) : Prop := W.heap[g]? = some (.cells (pre ++ (l.map (Value.int .i32) ++ post)).toArray 21 (0, 0))
theorem RW.cell {g : Nat} {pre post : List Value} {W : World} {l : List Int} (h : RW g pre post W l) {i : Nat} {x : Int} (hx : l[i]? = some x) : W.cell? ⟨g, pre.length + i, none⟩ = some (.int .i32 x) := by
  rw [cell_of_row W g (pre.length + i) _ _ (0, 0) h]
  have hl := (List.getElem?_eq_some_iff.1 hx).1
  rw [List.getElem?_toArray, List.getElem?_append_right (by omega), Nat.add_sub_cancel_left, List.getElem?_append_left (by rw [List.length_map]; exact hl), List.getElem?_map, hx]
  rfl
theorem RW.open {g : Nat} {pre post : List Value} {W : World} {l : List Int} (h : RW g pre post W l) (i : Nat) : W.frozen? ⟨g, i, none⟩ = false := by
  unfold RW at h
  simp [World.frozen?, h]
theorem RW.lt {g : Nat} {pre post : List Value} {W : World} {l : List Int} (h : RW g pre post W l) : g < W.heap.size := (Array.getElem?_eq_some_iff.1 h).1
theorem RW.keep {g : Nat} {pre post : List Value} {W W' : World} {l : List Int} (h : RW g pre post W l) (hb : W'.heap[g]? = W.heap[g]?) : RW g pre post W' l := hb.trans h
theorem RW.later {g : Nat} {pre post : List Value} {W W' : World} {l : List Int} (h : RW g pre post W l) (hb : Below W.heap.size W W') : RW g pre post W' l := h.keep (hb.block g h.lt)
theorem RW.drew {g : Nat} {pre post : List Value} {W : World} {l : List Int} (h : RW g pre post W l) : RW g pre post W.drew l := h
theorem RW.set {g : Nat} {pre post : List Value} {W : World} {l : List Int} (h : RW g pre post W l) {i : Nat} (hi : i < l.length) (x : Int) : RW g pre post (W.setCell ⟨g, pre.length + i, none⟩ (.int .i32 x)) (l.set i x) := by
  unfold RW
  rw [heap_setCell_same W g (pre.length + i) _ _ _ h]
  congr 2
  rw [List.setIfInBounds_toArray]
  congr 1
  rw [List.set_append_right _ _ (Nat.le_add_right _ _), Nat.add_sub_cancel_left, List.set_append_left _ _ (by rw [List.length_map]; exact hi), List.map_set]
structure SI (g : Nat) (pre post : List Value) (W0 W : World) (l : List Int) : Prop where
  row : RW g pre post W l
  kp : Kp g W0 W
theorem SI.later {g : Nat} {pre post : List Value} {W0 W W' : World} {l : List Int} (h : SI g pre post W0 W l) (hb : Below W.heap.size W W') : SI g pre post W0 W' l := ⟨h.row.later hb, h.kp.later hb⟩
theorem SI.drew {g : Nat} {pre post : List Value} {W0 W : World} {l : List Int} (h : SI g pre post W0 W l) : SI g pre post W0 W.drew l := ⟨h.row, h.kp.drew⟩
theorem SI.swap {g : Nat} {pre post : List Value} {W0 W : World} {l : List Int} (h : SI g pre post W0 W l) {i j : Nat} (hi : i < l.length) (hj : j < l.length) (x y : Int) :
    SI g pre post W0 ((W.setCell ⟨g, pre.length + i, none⟩ (.int .i32 x)).setCell ⟨g, pre.length + j, none⟩ (.int .i32 y)) ((l.set i x).set j y) :=
  ⟨(h.row.set hi x).set (by rw [List.length_set]; exact hj) y, (h.kp.set _ _).set _ _⟩
theorem SI.swap1 {g : Nat} {pre post : List Value} {W0 W : World} {l : List Int} (h : SI g pre post W0 W l) {i : Nat} (hi : i + 1 < l.length) (x y : Int) :
    SI g pre post W0 ((W.setCell ⟨g, pre.length + (i + 1), none⟩ (.int .i32 x)).setCell ⟨g, pre.length + i, none⟩ (.int .i32 y)).drew ((l.set i y).set (i + 1) x) := by
  rw [List.set_comm _ _ (by omega)]
  exact (h.swap hi (by omega) x y).drew
theorem SI.swap2 {g : Nat} {pre post : List Value} {W0 W : World} {l : List Int} (h : SI g pre post W0 W l) {i j : Nat} (hi : i < l.length) (hj : j < l.length) (x y : Int) :
    SI g pre post W0 ((W.setCell ⟨g, pre.length + i, none⟩ (.int .i32 x)).setCell ⟨g, pre.length + j, none⟩ (.int .i32 y)).drew ((l.set i x).set j y) := (h.swap hi hj x y).drew
def Cmp (g : Nat) (W0 : World) (f : Nat) (lb : Array Value) (key : Int → Int) : Prop := ∀ (x y : Int) (W : World), Kp g W0 W → Calls Tryz.prog f (#[.int .i32 x, .int .i32 y] ++ lb) W fun e W' => e = .returned (.int .i64 (key x - key y)) ∧ Below W.heap.size W W'
end Go.Proofs.YtikpkjpnehkbfaaGreatDoor.Sb
namespace Go.Proofs.YtikpkjpnehkbfaaGreatDoor.Sb
open Go Go.RowKit Go.Shelf
theorem later_cell {W W' : World} {a : Addr} {v : Value} (hb : Below W.heap.size W W') (h : W.cell? a = some v) : W'.cell? a = some v := (hb.cell (World.block_lt_of_cell? _ _ h)).trans h
abbrev Enters (f : Nat) : Prop := ∀ args w, (callFunc f args).run Tryz.prog w = .ok (.enter f args) w
set_option maxHeartbeats 4000000 in
set_option maxRecDepth 100000 in
theorem ins_calls {key : Int → Int} {g cap n cf : Nat} {lb : Array Value} {pre post : List Value} {W0 : World} (eg : Enters cf) (hC : Cmp g W0 cf lb key) (hk : ∀ x, 0 ≤ key x ∧ key x ≤ 254) (a b : Nat) (l : List Int) (w : World)
    (hI : SI g pre post W0 w l) (hl : l.length = n) (hn : n ≤ 16777216) (hab : a ≤ b) (hb : b ≤ n) :
    Calls Tryz.prog 157 #[.slice (some ⟨g, pre.length, none⟩) n cap, .int .i64 a, .int .i64 b, .func (.func cf) #[] lb] w fun e w' => e = .returned (.tuple #[]) ∧ ∃ l', SI g pre post W0 w' l' ∧ Mv key a b l l' ∧ Srt key a b l' := by
  have HC := Lib.hid hC
  have HI := Lib.hid hI
  have HK := Lib.hid hk
  clear hC hI hk
  go_enter Tryz.func157, Tryz.ntmps157
  go_wp2
  go_loopg [8] (b - a) (fun g1 vi wr => ∃ (i : Nat) (li : List Int), vi = .int .i64 i ∧ a < i ∧ i ≤ b + 1 ∧ b + 1 - i ≤ g1 + 1 ∧ Hid (SI g pre post W0 wr li) ∧ Hid (Mv key a b l li) ∧ Hid (Srt key a (min i b) li))
  case atStart => exact ⟨a + 1, l, by go_num, by omega, by omega, by omega, HI, Lib.hid (Mv.refl _ _ _ _), Lib.hid (Srt.short key l (by omega))⟩
  case round =>
    obtain ⟨i, li, rfl, hai, hib, hg1, HS, HM, HO⟩ := hrel
    by_cases hlt : i < b
    · have hltz : (i : Int) < (b : Int) := by omega
      obtain ⟨G, rfl⟩ : ∃ G, gk = G + 1 := ⟨gk - 1, by omega⟩
      have HO' : Hid (Srt key a i li) := Lib.hid (by have := HO.out; rwa [Nat.min_eq_left (by omega)] at this)
      go_wp2
      go_loopg [9] i (fun g2 vj wr2 => ∃ (j : Nat) (lj : List Int), vj = .int .i64 j ∧ a ≤ j ∧ j ≤ i ∧ j ≤ g2 ∧ Hid (SI g pre post W0 wr2 lj) ∧ Hid (Mv key a b l lj) ∧ Hid (Ins key a i j lj))
      case atStart => exact ⟨i, li, rfl, by omega, Nat.le_refl _, Nat.le_refl _, HS, HM, Lib.hid (Ins.start HO'.out)⟩
      case round =>
        obtain ⟨j, lj, rfl, haj, hji, hg2, HSj, HMj, HIj⟩ := hrel
        have hjn : j < n := by omega
        by_cases hja : a < j
        · obtain ⟨jp, rfl⟩ : ∃ jp, j = jp + 1 := ⟨j - 1, by omega⟩
          have hll : lj.length = n := by rw [HMj.out.len, hl]
          obtain ⟨y, hy⟩ := get_of (l := lj) (i := jp + 1) (by omega)
          obtain ⟨x, hx⟩ := get_of (l := lj) (i := jp) (by omega)
          have cy := HSj.out.row.cell hy
          have cx := HSj.out.row.cell hx
          have fy := HSj.out.row.open (pre.length + (jp + 1))
          have fx := HSj.out.row.open (pre.length + jp)
          have hjaz : (a : Int) < (jp : Int) + 1 := by omega
          have hwp : IntKind.i64.wrap ((jp : Int) + 1 - 1) = (jp : Int) := (IntWalk.i64_in _ (by omega)).trans (by omega)
          have hwq : IntKind.i64.wrap (jp : Int) = (jp : Int) := IntWalk.i64_in _ (by omega)
          have p0 : (0 : Int) ≤ (jp : Int) + 1 := by omega
          have p1 : (jp : Int) + 1 < (n : Int) := by omega
          have p2 : (jp : Int) < (n : Int) := by omega
          have p3 : (0 : Int) ≤ (jp : Int) := by omega
          have e0 : ((jp : Int) + 1).toNat = jp + 1 := by omega
          have HX := Lib.hid hx
          have HY := Lib.hid hy
          have HCC := Lib.hid (fun (W : World) (hW : Kp g W0 W) => HC.out y x W hW)
          have KP := Lib.hid HSj.out.kp
          obtain ⟨z, hz⟩ : ∃ z, key y - key x = z := ⟨_, rfl⟩
          rw [hz] at HCC
          have HZ := Lib.hid hz
          clear hx hy hz
          by_cases hlv : z < 0
          · go_wp2
            go_region_held3 (fun w' => w'.cell? ⟨g, pre.length + (jp + 1), none⟩ = some (.int .i32 y) ∧ w'.cell? ⟨g, pre.length + jp, none⟩ = some (.int .i32 x)) (go_keep) ((go_at_fn cf; refine (HCC.out _ (by first | exact KP.out | exact KP.out.drew | exact KP.out.drewN _)).mono ?_; rintro e w3 ⟨rfl, hb3⟩; have cy := later_cell hb3 cy; have cx := later_cell hb3 cx))
            have HS3 := Lib.hid (HSj.out.drew.later hb3)
            have fy := HS3.out.row.open (pre.length + (jp + 1))
            have fx := HS3.out.row.open (pre.length + jp)
            clear hb3
            go_wp2
            go_region
            all_goals go_wp2
            have HS4 := Lib.hid (HS3.out.swap1 (by rw [hll]; omega) x y)
            go_roundg jp
            case rel => exact ⟨jp, _, rfl, by omega, by omega, Nat.le_refl _, HS4, Lib.hid (HMj.out.trans (Mv.swap HX.out HY.out (by omega) (by omega) (by have := HZ.out; omega))), Lib.hid (HIj.out.step (by omega) (by omega) (by omega) HX.out HY.out (by have := HZ.out; omega))⟩
            case measure => omega
          · have HD : Hid (Srt key a (i + 1) lj) := Lib.hid (HIj.out.done (by omega) hji (.inr ⟨y, x, HY.out, HX.out, by have := HZ.out; omega⟩))
            go_wp2
            go_region_held3 (fun w' => w'.cell? ⟨g, pre.length + (jp + 1), none⟩ = some (.int .i32 y) ∧ w'.cell? ⟨g, pre.length + jp, none⟩ = some (.int .i32 x)) (go_keep) ((go_at_fn cf; refine (HCC.out _ (by first | exact KP.out | exact KP.out.drew | exact KP.out.drewN _)).mono ?_; rintro e w3 ⟨rfl, hb3⟩; have cy := later_cell hb3 cy; have cx := later_cell hb3 cx))
            have HS3 := Lib.hid (HSj.out.drew.later hb3)
            clear hb3
            go_wp2
            go_roundg G
            case rel => exact ⟨i + 1, lj, by go_num, by omega, by omega, by omega, HS3, HMj, Lib.hid (by rw [Nat.min_eq_left (by omega)]; exact HD.out)⟩
            case measure => omega
        · have HD : Hid (Srt key a (i + 1) lj) := Lib.hid (HIj.out.done haj hji (.inl (by omega)))
          have hjaz : ¬ (a : Int) < (j : Int) := by omega
          go_wp2
          go_region
          go_wp2
          go_roundg G
          case rel => exact ⟨i + 1, lj, by go_num, by omega, by omega, by omega, by first | exact HSj | exact Lib.hid HSj.out.drew, HMj, Lib.hid (by rw [Nat.min_eq_left (by omega)]; exact HD.out)⟩
          case measure => omega
    · go_wp2
      go_end0
      exact ⟨rfl, li, HS.out, HM.out, by have := HO.out; rwa [Nat.min_eq_right (by omega)] at this⟩
end Go.Proofs.YtikpkjpnehkbfaaGreatDoor.Sb
namespace Go.Proofs.YtikpkjpnehkbfaaGreatDoor.Sb
open Go Go.RowKit Go.Shelf
set_option maxHeartbeats 4000000 in
set_option maxRecDepth 100000 in
theorem swapRange_calls {g cap n : Nat} {cv : Value} {pre post : List Value} {W0 : World} (a b m : Nat) (l : List Int) (w : World)
    (hI : SI g pre post W0 w l) (hl : l.length = n) (hn : n ≤ 16777216) (hab : a + m ≤ b) (hb : b + m ≤ n) :
    Calls Tryz.prog 203 #[.slice (some ⟨g, pre.length, none⟩) n cap, .int .i64 a, .int .i64 b, .int .i64 m, cv] w fun e w' => e = .returned (.tuple #[]) ∧ ∃ l', SI g pre post W0 w' l' ∧ Exd a b m l l' := by
  have HI := Lib.hid hI
  clear hI
  go_enter Tryz.func203, Tryz.ntmps203
  go_wp2
  go_loopg [10] m (fun gk vi wr => ∃ (i : Nat) (li : List Int), vi = .int .i64 i ∧ i ≤ m ∧ m - i ≤ gk ∧ Hid (SI g pre post W0 wr li) ∧ Hid (Exd a b i l li))
  case atStart => exact ⟨0, l, rfl, Nat.zero_le _, by omega, HI, Lib.hid (Exd.zero _ _ _)⟩
  case round =>
    obtain ⟨i, li, rfl, hi, hg1, HS, HE⟩ := hrel
    by_cases hlt : i < m
    · have hltz : (i : Int) < (m : Int) := by omega
      have hll : li.length = n := by rw [HE.out.len, hl]
      obtain ⟨x, hx⟩ := get_of (l := li) (i := a + i) (by omega)
      obtain ⟨y, hy⟩ := get_of (l := li) (i := b + i) (by omega)
      have cx := HS.out.row.cell hx
      have cy := HS.out.row.cell hy
      have fx := HS.out.row.open (pre.length + (a + i))
      have fy := HS.out.row.open (pre.length + (b + i))
      have w1 : IntKind.i64.wrap ((a : Int) + (i : Int)) = ((a + i : Nat) : Int) := (IntWalk.i64_in _ (by omega)).trans (by omega)
      have w2 : IntKind.i64.wrap ((b : Int) + (i : Int)) = ((b + i : Nat) : Int) := (IntWalk.i64_in _ (by omega)).trans (by omega)
      have w3 : IntKind.i64.wrap ((a + i : Nat) : Int) = ((a + i : Nat) : Int) := IntWalk.i64_in _ (by omega)
      have w4 : IntKind.i64.wrap ((b + i : Nat) : Int) = ((b + i : Nat) : Int) := IntWalk.i64_in _ (by omega)
      have HX := Lib.hid hx
      have HY := Lib.hid hy
      have HSS := Lib.hid (HS.out.swap2 (i := a + i) (j := b + i) (by omega) (by omega) y x)
      have HEE := Lib.hid (HE.out.step (by omega) (by omega) hx hy)
      clear hx hy
      obtain ⟨p, hp⟩ : ∃ p, p = a + i := ⟨_, rfl⟩
      obtain ⟨q, hq⟩ : ∃ q, q = b + i := ⟨_, rfl⟩
      rw [← hp] at cx fx w1 w3 HSS HEE
      rw [← hq] at cy fy w2 w4 HSS HEE
      have p1 : (p : Int) < (n : Int) := by omega
      have q1 : (q : Int) < (n : Int) := by omega
      have p0 : (0 : Int) ≤ (p : Int) := by omega
      have q0 : (0 : Int) ≤ (q : Int) := by omega
      have pq : p ≠ q := by omega
      clear hp hq
      go_wp2
      go_region
      all_goals go_wp2
      go_roundg (m - (i + 1))
      case rel => exact ⟨i + 1, _, by go_num, by omega, Nat.le_refl _, HSS, HEE⟩
      case measure => omega
    · obtain rfl : i = m := by omega
      go_wp2
      go_end0
      exact ⟨rfl, li, HS.out, HE.out⟩
set_option maxHeartbeats 4000000 in
set_option maxRecDepth 100000 in
theorem rotate_calls {g cap n : Nat} {cv : Value} {pre post : List Value} {W0 : World} (a m b : Nat) (l : List Int) (w : World)
    (hI : SI g pre post W0 w l) (hl : l.length = n) (hn : n ≤ 16777216) (ham : a < m) (hmb : m < b) (hb : b ≤ n) :
    Calls Tryz.prog 185 #[.slice (some ⟨g, pre.length, none⟩) n cap, .int .i64 a, .int .i64 m, .int .i64 b, cv] w fun e w' => e = .returned (.tuple #[]) ∧ SI g pre post W0 w' (turn a m b l) := by
  have HI := Lib.hid hI
  have HL := Lib.hid hl
  have m1 : IntKind.i64.wrap ((m : Int) - (a : Int)) = ((m - a : Nat) : Int) := (IntWalk.i64_in _ (by omega)).trans (by omega)
  have m2 : IntKind.i64.wrap ((m - a : Nat) : Int) = ((m - a : Nat) : Int) := IntWalk.i64_in _ (by omega)
  have b1 : IntKind.i64.wrap ((b : Int) - (m : Int)) = ((b - m : Nat) : Int) := (IntWalk.i64_in _ (by omega)).trans (by omega)
  have b2 : IntKind.i64.wrap ((b - m : Nat) : Int) = ((b - m : Nat) : Int) := IntWalk.i64_in _ (by omega)
  obtain ⟨i0, hi0⟩ : ∃ i0, i0 = m - a := ⟨_, rfl⟩
  obtain ⟨j0, hj0⟩ : ∃ j0, j0 = b - m := ⟨_, rfl⟩
  rw [← hi0] at m1 m2
  rw [← hj0] at b1 b2
  have HT : Hid (turn (m - i0) m (m + j0) l = turn a m b l) := Lib.hid (by rw [hi0, hj0, show m - (m - a) = a by omega, show m + (b - m) = b by omega])
  have hi1 : 0 < i0 ∧ i0 ≤ m := by omega
  have hj1 : 0 < j0 ∧ m + j0 ≤ n := by omega
  clear hI hl hi0 hj0
  go_enter Tryz.func185, Tryz.ntmps185
  go_wp2
  clear m1 m2 b1 b2
  go_loopg [10, 11] (i0 + j0) (fun gk vi vj wr => ∃ (i j : Nat) (li : List Int), vi = .int .i64 i ∧ vj = .int .i64 j ∧ 0 < i ∧ i ≤ m ∧ 0 < j ∧ m + j ≤ n ∧ i + j ≤ gk ∧ Hid (SI g pre post W0 wr li) ∧ Hid (li.length = n ∧ turn (m - i) m (m + j) li = turn a m b l))
  case atStart => exact ⟨i0, j0, l, rfl, rfl, hi1.1, hi1.2, hj1.1, hj1.2, Nat.le_refl _, HI, Lib.hid ⟨HL.out, HT.out⟩⟩
  case round =>
    obtain ⟨i, j, li, rfl, rfl, hi0, him, hj0, hjm, hg1, HS, HT⟩ := hrel
    have m1 : IntKind.i64.wrap ((m : Int) - (i : Int)) = ((m - i : Nat) : Int) := (IntWalk.i64_in _ (by omega)).trans (by omega)
    have m2 : IntKind.i64.wrap ((m - i : Nat) : Int) = ((m - i : Nat) : Int) := IntWalk.i64_in _ (by omega)
    by_cases hij : i = j
    · subst hij
      have HC := Lib.hid (fun W (hW : SI g pre post W0 W li) => swapRange_calls (cap := cap) (n := n) (cv := cv) (m - i) m i li W hW HT.out.1 hn (by omega) (by omega))
      go_wp2_with (go_at_call 203; refine (HC.out _ HS.out).mono ?_; rintro e w2 ⟨rfl, l2, hs, hx⟩)
      go_end0
      refine ⟨rfl, ?_⟩
      rw [← HT.out.2, ← hx.all him (by rw [HT.out.1]; omega)]
      exact hs
    · by_cases hlt : j < i
      · have hz : (j : Int) < (i : Int) := by omega
        have hne : ((i : Int) == (j : Int)) = false := beq_eq_false_iff_ne.2 (by omega)
        have d1 : IntKind.i64.wrap ((i : Int) - (j : Int)) = ((i - j : Nat) : Int) := (IntWalk.i64_in _ (by omega)).trans (by omega)
        have d2 : IntKind.i64.wrap ((i - j : Nat) : Int) = ((i - j : Nat) : Int) := IntWalk.i64_in _ (by omega)
        have HC := Lib.hid (fun W (hW : SI g pre post W0 W li) => swapRange_calls (cap := cap) (n := n) (cv := cv) (m - i) m j li W hW HT.out.1 hn (by omega) (by omega))
        go_wp2_with (go_at_call 203; refine (HC.out _ HS.out).mono ?_; rintro e w2 ⟨rfl, l2, hs, hx⟩; have HS2 := Lib.hid hs; have HX := Lib.hid hx; clear hs hx)
        go_roundg (i - j + j)
        case rel => exact ⟨i - j, j, l2, rfl, rfl, by omega, by omega, by omega, by omega, Nat.le_refl _, HS2, Lib.hid ⟨by rw [HX.out.len, HT.out.1], by rw [HX.out.left him hlt (by rw [HT.out.1]; omega), HT.out.2]⟩⟩
        case measure => omega
      · have hz : ¬ (j : Int) < (i : Int) := by omega
        have hne : ((i : Int) == (j : Int)) = false := beq_eq_false_iff_ne.2 (by omega)
        have d1 : IntKind.i64.wrap ((j : Int) - (i : Int)) = ((j - i : Nat) : Int) := (IntWalk.i64_in _ (by omega)).trans (by omega)
        have d2 : IntKind.i64.wrap ((j - i : Nat) : Int) = ((j - i : Nat) : Int) := IntWalk.i64_in _ (by omega)
        have d3 : IntKind.i64.wrap ((m : Int) + (j : Int) - (i : Int)) = ((m + j - i : Nat) : Int) := (IntWalk.i64_in _ (by omega)).trans (by omega)
        have d4 : IntKind.i64.wrap ((m + j - i : Nat) : Int) = ((m + j - i : Nat) : Int) := IntWalk.i64_in _ (by omega)
        have HC := Lib.hid (fun W (hW : SI g pre post W0 W li) => swapRange_calls (cap := cap) (n := n) (cv := cv) (m - i) (m + j - i) i li W hW HT.out.1 hn (by omega) (by omega))
        go_wp2_with (go_at_call 203; refine (HC.out _ HS.out).mono ?_; rintro e w2 ⟨rfl, l2, hs, hx⟩; have HS2 := Lib.hid hs; have HX := Lib.hid hx; clear hs hx)
        go_roundg (i + (j - i))
        case rel => exact ⟨i, j - i, l2, rfl, rfl, by omega, by omega, by omega, by omega, Nat.le_refl _, HS2, Lib.hid ⟨by rw [HX.out.len, HT.out.1], by rw [HX.out.right him (by omega) (by rw [HT.out.1]; omega), HT.out.2]⟩⟩
        case measure => omega
end Go.Proofs.YtikpkjpnehkbfaaGreatDoor.Sb
namespace Go.Proofs.YtikpkjpnehkbfaaGreatDoor.Sb
open Go Go.RowKit Go.Shelf
def SymOut (key : Int → Int) (g : Nat) (pre post : List Value) (W0 : World) (a b : Nat) (l : List Int) (e : Ending) (w' : World) : Prop := e = .returned (.tuple #[]) ∧ ∃ l', SI g pre post W0 w' l' ∧ Mv key a b l l' ∧ Srt key a b l'
set_option maxHeartbeats 4000000 in
set_option maxRecDepth 100000 in
theorem sym_first {key : Int → Int} {g cap n cf : Nat} {lb : Array Value} {pre post : List Value} {W0 : World} (eg : Enters cf) (hC : Cmp g W0 cf lb key) (a m b : Nat) (l : List Int) (w : World)
    (hI : SI g pre post W0 w l) (hl : l.length = n) (hn : n ≤ 16777216) (hm : m = a + 1) (hmb : m < b) (hb : b ≤ n) (hS : Srt key (a + 1) b l) :
    Calls Tryz.prog 158 #[.slice (some ⟨g, pre.length, none⟩) n cap, .int .i64 a, .int .i64 m, .int .i64 b, .func (.func cf) #[] lb] w fun e w' => SymOut key g pre post W0 a b l e w' := by
  have HC := Lib.hid hC
  have HI := Lib.hid hI
  have HS0 := Lib.hid hS
  have f1 : IntKind.i64.wrap ((m : Int) - (a : Int)) = 1 := (IntWalk.i64_in _ (by omega)).trans (by omega)
  obtain ⟨x, hx⟩ := get_of (l := l) (i := a) (by omega)
  have HX := Lib.hid hx
  have HM := Lib.hid hm
  have ham : a < m := by omega
  clear hC hI hS hx hm
  go_enter Tryz.func158, Tryz.ntmps158
  go_wp2
  go_loopg [10, 11] (b - m) (fun gk vi vj wr => ∃ (i j : Nat), vi = .int .i64 i ∧ vj = .int .i64 j ∧ m ≤ i ∧ i ≤ j ∧ j ≤ b ∧ j - i ≤ gk ∧ Hid (SI g pre post W0 wr l) ∧ Hid (m < i → ∃ y, l[i - 1]? = some y ∧ key y < key x) ∧ Hid (j < b → ∃ y, l[j]? = some y ∧ ¬ key y < key x))
  case atStart => exact ⟨m, b, rfl, rfl, Nat.le_refl _, by omega, Nat.le_refl _, Nat.le_refl _, HI, Lib.hid (fun h => by omega), Lib.hid (fun h => by omega)⟩
  case round =>
    obtain ⟨i, j, rfl, rfl, hmi, hij, hjb, hg1, HS, HLo, HHi⟩ := hrel
    by_cases hlt : i < j
    · obtain ⟨h, hh⟩ : ∃ h, h = (i + j) / 2 := ⟨_, rfl⟩
      have hzz : ((i : Int) + (j : Int)) / 2 = (h : Int) := by omega
      have hih : i ≤ h := by omega
      have hhj : h < j := by omega
      obtain ⟨y, hy⟩ := get_of (l := l) (i := h) (by omega)
      have cy := HS.out.row.cell hy
      have cx := HS.out.row.cell HX.out
      have hltz : (i : Int) < (j : Int) := by omega
      have p1 : (a : Int) < (n : Int) := by omega
      have p2 : (h : Int) < (n : Int) := by omega
      have p3 : (0 : Int) ≤ (h : Int) := by omega
      have HY := Lib.hid hy
      have HCC := Lib.hid (fun (W : World) (hW : Kp g W0 W) => HC.out y x W hW)
      have KP := Lib.hid HS.out.kp
      obtain ⟨z, hz⟩ : ∃ z, key y - key x = z := ⟨_, rfl⟩
      rw [hz] at HCC
      have HZ := Lib.hid hz
      clear hy hz f1 hh
      by_cases hlv : z < 0
      all_goals
        go_wp2
        go_region_held3 (fun w' => w'.cell? ⟨g, pre.length + h, none⟩ = some (.int .i32 y) ∧ w'.cell? ⟨g, pre.length + a, none⟩ = some (.int .i32 x)) (go_keep) ((go_at_fn cf; refine (HCC.out _ (by first | exact KP.out | exact KP.out.drew | exact KP.out.drewN _)).mono ?_; rintro e w3 ⟨rfl, hb3⟩; have cy := later_cell hb3 cy; have cx := later_cell hb3 cx))
        have HS3 := Lib.hid (HS.out.drew.later hb3)
        clear hb3
        go_wp2
      · go_roundg (j - (h + 1))
        case rel => exact ⟨h + 1, j, by go_num, rfl, by omega, by omega, by omega, Nat.le_refl _, HS3, Lib.hid (fun _ => ⟨y, HY.out, by have := HZ.out; omega⟩), HHi⟩
        case measure => omega
      · go_roundg (h - i)
        case rel => exact ⟨i, h, rfl, rfl, by omega, by omega, by omega, Nat.le_refl _, HS3, HLo, Lib.hid (fun _ => ⟨y, HY.out, by have := HZ.out; omega⟩)⟩
        case measure => omega
    · obtain rfl : i = j := by omega
      have HD := Lib.hid (first_done HX.out (by omega) hjb (by omega) HS0.out (by rw [← HM.out]; exact HLo.out) HHi.out)
      have HT0 : Hid (turn a (a + 1) (a + 1) l = l) := Lib.hid (turn_same (by omega) (by omega) (by omega) (.inr rfl))
      have hi1 : 1 ≤ i := by omega
      have hi2 : IntKind.i64.wrap ((i : Int) - 1) = ((i - 1 : Nat) : Int) := (IntWalk.i64_in _ (by omega)).trans (by omega)
      have hi3 : IntKind.i64.wrap ((i - 1 : Nat) : Int) = ((i - 1 : Nat) : Int) := IntWalk.i64_in _ (by omega)
      clear HLo HHi hlt hij f1 hg1
      obtain ⟨t, ht⟩ : ∃ t, t = i - 1 := ⟨_, rfl⟩
      rw [← ht] at hi2 hi3
      have hti : i = t + 1 := by omega
      have hat : a ≤ t := by omega
      have HTI := Lib.hid hti
      clear ht hti hi1
      have HLT := Lib.hid (fun (k : Nat) (hk : k + 1 ≤ n) (hak : a ≤ k) => show (turn a (a + 1) (k + 1) l).length = n by rw [turn_length (by omega) (by omega) (by omega), hl])
      go_wp2
      go_loopg [13] t (fun gk vk wr => ∃ (k : Nat), vk = .int .i64 k ∧ a ≤ k ∧ k ≤ t ∧ t - k ≤ gk ∧ Hid (SI g pre post W0 wr (turn a (a + 1) (k + 1) l)))
      case atStart => exact ⟨a, rfl, Nat.le_refl _, hat, by omega, by rw [HT0.out]; exact HS⟩
      case round =>
        obtain ⟨k, rfl, hak, hkt, hg1, HS⟩ := hrel
        have hti := HTI.out
        by_cases hlt : k < t
        · have hll := HLT.out k (by omega) hak
          obtain ⟨u, hu⟩ := get_of (l := turn a (a + 1) (k + 1) l) (i := k) (by omega)
          obtain ⟨v, hv⟩ := get_of (l := turn a (a + 1) (k + 1) l) (i := k + 1) (by omega)
          have cu := HS.out.row.cell hu
          have cv := HS.out.row.cell hv
          have fu := HS.out.row.open (pre.length + k)
          have fv := HS.out.row.open (pre.length + (k + 1))
          have HSS := HS.out.swap2 (i := k) (j := k + 1) (by omega) (by omega) v u
          rw [first_step hak (by omega) hu hv] at HSS
          have HSS := Lib.hid HSS
          have hltz : (k : Int) < (t : Int) := by omega
          have p1 : (k : Int) + 1 < (n : Int) := by omega
          have p2 : (k : Int) < (n : Int) := by omega
          have p3 : (0 : Int) ≤ (k : Int) + 1 := by omega
          have e0 : ((k : Int) + 1).toNat = k + 1 := by omega
          clear hti hu hv
          go_wp2
          go_region
          all_goals go_wp2
          go_roundg (t - (k + 1))
          case rel => exact ⟨k + 1, by go_num, by omega, by omega, Nat.le_refl _, HSS⟩
          case measure => omega
        · have hkt2 : k = t := by omega
          go_wp2
          go_end0
          refine ⟨rfl, _, HS.out, ?_⟩
          rw [hkt2, ← HTI.out]
          exact HD.out
set_option maxHeartbeats 4000000 in
set_option maxRecDepth 100000 in
theorem sym_last {key : Int → Int} {g cap n cf : Nat} {lb : Array Value} {pre post : List Value} {W0 : World} (eg : Enters cf) (hC : Cmp g W0 cf lb key) (a m b : Nat) (l : List Int) (w : World)
    (hI : SI g pre post W0 w l) (hl : l.length = n) (hn : n ≤ 16777216) (ham : a + 1 < m) (hmb : b = m + 1) (hb : b ≤ n) (hS : Srt key a m l) :
    Calls Tryz.prog 158 #[.slice (some ⟨g, pre.length, none⟩) n cap, .int .i64 a, .int .i64 m, .int .i64 b, .func (.func cf) #[] lb] w fun e w' => SymOut key g pre post W0 a b l e w' := by
  have HC := Lib.hid hC
  have HI := Lib.hid hI
  have HS0 := Lib.hid hS
  have f0 : IntKind.i64.wrap ((m : Int) - (a : Int)) = ((m - a : Nat) : Int) := (IntWalk.i64_in _ (by omega)).trans (by omega)
  have f2 : (((m - a : Nat) : Int) == 1) = false := beq_eq_false_iff_ne.2 (by omega)
  have f1 : IntKind.i64.wrap ((b : Int) - (m : Int)) = 1 := (IntWalk.i64_in _ (by omega)).trans (by omega)
  obtain ⟨x, hx⟩ := get_of (l := l) (i := m) (by omega)
  have HX := Lib.hid hx
  have HB := Lib.hid hmb
  have hmn : m < n := by omega
  obtain ⟨d, hd⟩ : ∃ d, d = m - a := ⟨_, rfl⟩
  rw [← hd] at f0 f2
  clear hC hI hS hx hmb hd
  go_enter Tryz.func158, Tryz.ntmps158
  go_wp2
  clear f0 f1 f2
  go_loopg [14, 15] m (fun gk vi vj wr => ∃ (i j : Nat), vi = .int .i64 i ∧ vj = .int .i64 j ∧ a ≤ i ∧ i ≤ j ∧ j ≤ m ∧ j - i ≤ gk ∧ Hid (SI g pre post W0 wr l) ∧ Hid (a < i → ∃ y, l[i - 1]? = some y ∧ ¬ key x < key y) ∧ Hid (j < m → ∃ y, l[j]? = some y ∧ key x < key y))
  case atStart => exact ⟨a, m, rfl, rfl, Nat.le_refl _, by omega, Nat.le_refl _, by omega, HI, Lib.hid (fun h => by omega), Lib.hid (fun h => by omega)⟩
  case round =>
    obtain ⟨i, j, rfl, rfl, hmi, hij, hjb, hg1, HS, HLo, HHi⟩ := hrel
    by_cases hlt : i < j
    · obtain ⟨h, hh⟩ : ∃ h, h = (i + j) / 2 := ⟨_, rfl⟩
      have hzz : ((i : Int) + (j : Int)) / 2 = (h : Int) := by omega
      have hih : i ≤ h := by omega
      have hhj : h < j := by omega
      obtain ⟨y, hy⟩ := get_of (l := l) (i := h) (by omega)
      have cy := HS.out.row.cell hy
      have cx := HS.out.row.cell HX.out
      have hltz : (i : Int) < (j : Int) := by omega
      have p1 : (m : Int) < (n : Int) := by omega
      have p2 : (h : Int) < (n : Int) := by omega
      have p3 : (0 : Int) ≤ (h : Int) := by omega
      have HY := Lib.hid hy
      have HCC := Lib.hid (fun (W : World) (hW : Kp g W0 W) => HC.out x y W hW)
      have KP := Lib.hid HS.out.kp
      obtain ⟨z, hz⟩ : ∃ z, key x - key y = z := ⟨_, rfl⟩
      rw [hz] at HCC
      have HZ := Lib.hid hz
      clear hy hz hh
      obtain ⟨tb, htb⟩ : ∃ tb, decide (z < 0) = tb := ⟨_, rfl⟩
      have HTB := Lib.hid htb
      cases tb
      all_goals
        go_wp2
        go_region_held3 (fun w' => w'.cell? ⟨g, pre.length + h, none⟩ = some (.int .i32 y) ∧ w'.cell? ⟨g, pre.length + m, none⟩ = some (.int .i32 x)) (go_keep) ((go_at_fn cf; refine (HCC.out _ (by first | exact KP.out | exact KP.out.drew | exact KP.out.drewN _)).mono ?_; rintro e w3 ⟨rfl, hb3⟩; have cy := later_cell hb3 cy; have cx := later_cell hb3 cx))
        have HS3 := Lib.hid (HS.out.drew.later hb3)
        clear hb3
        go_wp2
      · go_roundg (j - (h + 1))
        case rel => exact ⟨h + 1, j, by go_num, rfl, by omega, by omega, by omega, Nat.le_refl _, HS3, Lib.hid (fun _ => ⟨y, HY.out, by have := HZ.out; have := of_decide_eq_false HTB.out; omega⟩), HHi⟩
        case measure => omega
      · go_roundg (h - i)
        case rel => exact ⟨i, h, rfl, rfl, by omega, by omega, by omega, Nat.le_refl _, HS3, HLo, Lib.hid (fun _ => ⟨y, HY.out, by have := HZ.out; have := of_decide_eq_true HTB.out; omega⟩)⟩
        case measure => omega
    · obtain rfl : i = j := by omega
      have HD := Lib.hid (last_done HX.out hmi hjb (by omega) HS0.out HLo.out HHi.out)
      have HT0 : Hid (turn m m (m + 1) l = l) := Lib.hid (turn_same (by omega) (by omega) (by omega) (.inl rfl))
      clear HLo HHi hlt hij hg1
      have HLT := Lib.hid (fun (k : Nat) (hk : k ≤ m) => show (turn k m (m + 1) l).length = n by rw [turn_length hk (by omega) (by omega), hl])
      go_wp2
      go_loopg [17] m (fun gk vk wr => ∃ (k : Nat), vk = .int .i64 k ∧ i ≤ k ∧ k ≤ m ∧ k ≤ gk ∧ Hid (SI g pre post W0 wr (turn k m (m + 1) l)))
      case atStart => exact ⟨m, rfl, hjb, Nat.le_refl _, Nat.le_refl _, by rw [HT0.out]; exact HS⟩
      case round =>
        obtain ⟨k, rfl, hak, hkt, hg1, HS⟩ := hrel
        by_cases hlt : i < k
        · obtain ⟨kp, rfl⟩ : ∃ kp, k = kp + 1 := ⟨k - 1, by omega⟩
          have hll := HLT.out (kp + 1) hkt
          obtain ⟨u, hu⟩ := get_of (l := turn (kp + 1) m (m + 1) l) (i := kp) (by omega)
          obtain ⟨v, hv⟩ := get_of (l := turn (kp + 1) m (m + 1) l) (i := kp + 1) (by omega)
          have cu := HS.out.row.cell hu
          have cv := HS.out.row.cell hv
          have fu := HS.out.row.open (pre.length + kp)
          have fv := HS.out.row.open (pre.length + (kp + 1))
          have HSS := HS.out.swap1 (i := kp) (by omega) u v
          rw [last_step hkt (by omega) hu hv] at HSS
          have HSS := Lib.hid HSS
          have hltz : (i : Int) < (kp : Int) + 1 := by omega
          have p1 : (kp : Int) + 1 < (n : Int) := by omega
          have p2 : (kp : Int) < (n : Int) := by omega
          have p3 : (0 : Int) ≤ (kp : Int) + 1 := by omega
          have p4 : (0 : Int) ≤ (kp : Int) := by omega
          have e0 : ((kp : Int) + 1).toNat = kp + 1 := by omega
          have hwp : IntKind.i64.wrap ((kp : Int) + 1 - 1) = (kp : Int) := (IntWalk.i64_in _ (by omega)).trans (by omega)
          have hwq : IntKind.i64.wrap (kp : Int) = (kp : Int) := IntWalk.i64_in _ (by omega)
          clear hu hv
          go_wp2
          go_region
          all_goals go_wp2
          go_roundg kp
          case rel => exact ⟨kp, rfl, by omega, by omega, Nat.le_refl _, HSS⟩
          case measure => omega
        · have hkt2 : k = i := by omega
          have hltz : ¬ (i : Int) < (k : Int) := by omega
          have HKT := Lib.hid hkt2
          clear hkt2
          go_wp2
          go_end0
          refine ⟨rfl, _, HS.out, ?_⟩
          rw [HKT.out, HB.out]
          exact HD.out
end Go.Proofs.YtikpkjpnehkbfaaGreatDoor.Sb
