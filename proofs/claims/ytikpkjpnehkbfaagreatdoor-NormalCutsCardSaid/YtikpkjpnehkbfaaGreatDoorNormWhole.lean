/- normal.whole: the walk. -/
import Derived.Test.YtikpkjpnehkbfaaGreatDoorNormMem
import Derived.Test.YtikpkjpnehkbfaaGreatDoorBTell
import Derived.Deep.LoopGhost
namespace Go.Proofs.YtikpkjpnehkbfaaGreatDoor.Nw
open Go Go.RowKit Go.Shelf Go.Proofs.YtikpkjpnehkbfaaGreatDoor.Sp Go.Proofs.YtikpkjpnehkbfaaGreatDoor.Pr Go.Proofs.YtikpkjpnehkbfaaGreatDoor.Rf Go.Proofs.YtikpkjpnehkbfaaGreatDoor.Nm
set_option linter.unusedSimpArgs false
set_option linter.unusedVariables false

abbrev OwnAt (f : Nat) (w : World) (p : Nat) (r : Int) (l : List Int) : Prop := ∀ W : World, Below w.heap.size w W → Calls Tryz.prog f #[.pointer (some ⟨p, 0, none⟩), .int .i32 r] W fun e w' => ∃ A c, e = .returned (.slice A l.length c) ∧ OwnPts W.heap.size w' (.slice A l.length c) l ∧ Below W.heap.size W w'
theorem ownDecomp {w : World} {p : Nat} {D : PD} (H : PropsAt w.heap.size w p D) (r : Int) : OwnAt 74 w p r (decompOf D r) := fun W hW => (decomp_calls p D r W (H.on hW)).mono fun e w' ⟨v, h1, ho, hb⟩ => by
  obtain ⟨A, c, rfl⟩ := YtikpkjpnehkbfaaGreatDoor.Rowl.own_slice ho
  exact ⟨A, c, h1, ho, hb⟩
theorem own_cells {n₀ : Nat} {W : World} {g n c : Nat} {l : List Int} (h : OwnPts n₀ W (.slice (some ⟨g, 0, none⟩) n c) l) {i : Nat} {x : Int} (hx : l[i]? = some x) : W.cell? ⟨g, i, none⟩ = some (.int .i32 x) := by
  have a1 := World.ownsRow.cells h (g := g) rfl i (.int .i32 x) (by unfold enc; rw [List.getElem?_map, hx]; rfl)
  rw [show ((⟨g, 0, none⟩ : Addr).add i) = ⟨g, i, none⟩ by (unfold Addr.add; split <;> simp_all)] at a1
  exact a1
theorem take_flat {f : Int → List Int} {l : List Int} {i : Nat} {x : Int} (hx : l[i]? = some x) : (l.take (i + 1)).flatMap f = (l.take i).flatMap f ++ f x := by
  rw [List.take_add_one, hx, List.flatMap_append]
  simp
theorem take_flat_le {f : Int → List Int} {l : List Int} {i : Nat} {x : Int} (hx : l[i]? = some x) : ((l.take i).flatMap f).length + (f x).length ≤ (l.flatMap f).length := by
  have h1 := take_flat (f := f) hx
  have h2 : l.flatMap f = (l.take (i + 1)).flatMap f ++ (l.drop (i + 1)).flatMap f := by rw [← List.flatMap_append, List.take_append_drop]
  have := congrArg List.length h1
  have := congrArg List.length h2
  simp only [List.length_append] at *
  omega
theorem flat_ge {f : Int → List Int} : ∀ {l : List Int}, (∀ q ∈ l, f q ≠ []) → l.length ≤ (l.flatMap f).length
  | [], _ => Nat.zero_le _
  | q :: l, h => by
    have := flat_ge (l := l) (fun x hx => h x (by simp [hx]))
    have := List.length_pos_iff.2 (h q (by simp))
    rw [List.flatMap_cons, List.length_append, List.length_cons]
    omega
abbrev WholeOut (n₀ : Nat) (W : World) (v : Value) (L : List Int) (e : Ending) (W' : World) : Prop := ∃ v', e = .returned v' ∧ OwnPts n₀ W' v' L ∧ Mvd W W' v v'
set_option maxHeartbeats 4000000 in
set_option maxRecDepth 100000 in
theorem whole_calls {w0 : World} {p : Nat} {D : PD} (H : PropsAt w0.heap.size w0 p D) {n₀ : Nat} (hn0 : w0.heap.size ≤ n₀) : ∀ (k : Nat) (r : Int) (m : Nat), fullGo D k r = some m → ∀ (W : World) (v : Value) (L : List Int), Below w0.heap.size w0 W → n₀ ≤ W.heap.size → OwnPts n₀ W v L → L.length + (wholeGo D k r).length ≤ 1073741824 →
    Calls Tryz.prog 53 #[.pointer (some ⟨p, 0, none⟩), .int .i32 r, v] W fun e W' => WholeOut n₀ W v (L ++ wholeGo D k r) e W'
  | 0, r, m, hf => by cases hf
  | k + 1, r, m, hf => fun W v L hb hn ho hlen => by
    have HD := Lib.hid (ownDecomp H r W hb)
    have HO := Lib.hid ho
    have HB0 := Lib.hid hb
    have HN := Lib.hid hn
    have HOA := Lib.hid (own_at ho)
    have hlenL : L.length ≤ 1073741824 := by omega
    by_cases hd : decompOf D r = []
    · have HW : Hid (wholeGo D (k + 1) r = [r]) := Lib.hid (by rw [wholeGo, if_pos hd])
      rw [hd] at HD
      clear hf hb hn ho hlen hd
      go_enter Tryz.func53, Tryz.ntmps53
      go_wp2_with (first
        | (go_at_call 74; refine HD.out.mono ?_; rintro e w1 ⟨A, c, rfl, -, hb1⟩; have HB1 := Lib.hid hb1; clear hb1)
        | (at_builtin; refine wpList_append_mvd rfl _ _ rfl n₀ v L rfl (Rowl.own_later HO.out HB1.out) rfl hlenL (Nat.le_trans HN.out HB1.out.size) ?_; rintro v' w2 ho2 hm2 ⟨g, c2, rfl⟩; have HO2 := Lib.hid ho2; have HM2 := Lib.hid hm2; clear ho2 hm2))
      go_ret
      exact ⟨_, rfl, by rw [HW.out]; exact HO2.out, HM2.out.ahead HB1.out (fun g hg => (HOA.out g hg).2)⟩
    · have HW : Hid (wholeGo D (k + 1) r = (decompOf D r).flatMap (wholeGo D k)) := Lib.hid (by rw [wholeGo, if_neg hd])
      have HF : Hid (∀ q ∈ decompOf D r, ∃ b, fullGo D k q = some b) := Lib.hid (by
        rw [fullGo, if_neg hd, sumOf_from] at hf
        exact sumFrom_parts _ _ _ hf)
      have HLN : Hid (L.length + ((decompOf D r).flatMap (wholeGo D k)).length ≤ 1073741824) := Lib.hid (by rw [← HW.out]; exact hlen)
      have IH := Lib.hid (whole_calls H hn0 k)
      generalize decompOf D r = ds at HD hd HW HF HLN
      obtain ⟨n, hnl⟩ : ∃ n, ds.length = n + 1 := ⟨ds.length - 1, by have := List.length_pos_iff.2 hd; omega⟩
      have HNL := Lib.hid hnl
      rw [hnl] at HD
      have hn31 : n < 1073741824 := by
        have h1 := flat_ge (f := wholeGo D k) (l := ds) (fun q hq => by
          obtain ⟨b, hb⟩ := HF.out q hq
          exact (wholeGo_len D k q b hb).2)
        have := HLN.out
        omega
      clear hf hb hn ho hlen hd hnl
      have hne : ((n : Int) + 1 == 0) = false := beq_eq_false_iff_ne.2 (by omega)
      go_enter Tryz.func53, Tryz.ntmps53
      go_wp2_with (go_at_call 74; refine HD.out.mono ?_; rintro e w1 ⟨A, c, rfl, ho1, hb1⟩; have HB1 := Lib.hid hb1; have HO1 := Lib.hid ho1; clear hb1 ho1)
      obtain ⟨g, c', e⟩ := ownsRow_succ (k := n) (by have := HO1.out; rw [OwnPts, HNL.out] at this; exact this)
      injection e with e1 _ e3
      subst e1
      subst e3
      have HG : Hid (W.heap.size ≤ g ∧ g < w1.heap.size) := Lib.hid (own_at HO1.out g rfl)
      have HCL := Lib.hid (fun (i : Nat) (x : Int) (hx : ds[i]? = some x) => own_cells HO1.out hx)
      have HM0 : Hid (Mvd W w1 v v) := Lib.hid ((Mvd.refl W v).later HB1.out)
      go_loopg [2, 22] (n + 1) (fun gk vout vi wr => ∃ (i : Nat), vi = .int .i64 i ∧ i ≤ n + 1 ∧ n + 1 - i ≤ gk ∧ Hid (OwnPts n₀ wr vout (L ++ (ds.take i).flatMap (wholeGo D k)) ∧ Mvd W wr v vout ∧ Mvd w1 wr v vout))
      case atStart => exact ⟨0, rfl, Nat.zero_le _, by omega, Lib.hid ⟨by rw [List.take_zero, List.flatMap_nil, List.append_nil]; exact Rowl.own_later HO.out HB1.out, HM0.out, Mvd.refl _ _⟩⟩
      case round =>
        obtain ⟨i, rfl, hi, hg1, HI⟩ := hrel
        rename Value => vout
        by_cases hlt : i < n + 1
        · have hz : (i : Int) < (n : Int) + 1 := by omega
          obtain ⟨x, hx⟩ : ∃ x, ds[i]? = some x := ⟨_, List.getElem?_eq_getElem (by rw [HNL.out]; exact hlt)⟩
          have cx : wr.cell? ⟨g, i, none⟩ = some (.int .i32 x) := (World.cell?_of_block (a := ⟨g, i, none⟩) (HI.out.2.2.block g HG.out.2 (fun e => by have := (HOA.out g e).2; have := HG.out.1; omega))).trans (HCL.out i x hx)
          obtain ⟨b, hb⟩ := HF.out x (List.mem_of_getElem? hx)
          have hle := take_flat_le (f := wholeGo D k) hx
          have HC := Lib.hid (IH.out x b hb wr _ _ (HB0.out.trans ((HI.out.2.1.below HN.out (fun g hg => (HOA.out g hg).1)).mono hn0)) (Nat.le_trans HN.out HI.out.2.1.size) HI.out.1 (by have := HLN.out; rw [List.length_append]; omega))
          have HT := Lib.hid (take_flat (f := wholeGo D k) hx)
          clear hx hb hle
          go_wp2_with (go_at_call 53; refine HC.out.mono ?_; rintro e w2 ⟨v2, rfl, ho2, hm2⟩; have HO2 := Lib.hid ho2; have HM2 := Lib.hid hm2; clear ho2 hm2)
          go_roundg (n - i)
          case rel => exact ⟨i + 1, by go_num, by omega, by omega, Lib.hid ⟨by have := HO2.out; rw [List.append_assoc, ← HT.out] at this; exact this, HI.out.2.1.trans HM2.out, HI.out.2.2.trans HM2.out⟩⟩
          case measure => omega
        · obtain rfl : i = n + 1 := by omega
          go_wp2
          go_ret
          exact ⟨_, rfl, by rw [HW.out]; have := HI.out.1; rwa [← HNL.out, List.take_of_length_le (Nat.le_refl _)] at this, HI.out.2.1⟩
end Go.Proofs.YtikpkjpnehkbfaaGreatDoor.Nw
