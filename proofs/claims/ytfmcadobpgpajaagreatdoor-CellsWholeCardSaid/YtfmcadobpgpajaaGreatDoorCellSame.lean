/- glossarylaw09: same, turned: the walks. -/
import Derived.Test.YtfmcadobpgpajaaGreatDoorCellGather
import Derived.Deep.RegionHeld3
namespace Go.Proofs.YtfmcadobpgpajaaGreatDoor.Cl
open Go Go.RowKit Go.Shelf Go.Proofs.YtfmcadobpgpajaaGreatDoor.Sp Go.Proofs.YtfmcadobpgpajaaGreatDoor.Ut Go.Proofs.YtfmcadobpgpajaaGreatDoor.Pr Go.Proofs.YtfmcadobpgpajaaGreatDoor.Rf
set_option linter.unusedSimpArgs false
set_option linter.unusedVariables false

theorem eq_pairD (D : Nat) (a b c d : Int) (w : World) : (Op.equalIn (D + 1 + 1) 46 (.agg #[.int .i64 a, .int .i64 b]) (.agg #[.int .i64 c, .int .i64 d])).run Tryz.prog w = .ok (a == c && b == d) w := by
  obtain ⟨k, hk⟩ := Option.isSome_iff_exists.1 (show (Tryz.prog.info? 3).isSome = true by kernel_rfl)
  have hc : Tryz.prog.cellsOf 3 = 1 := by kernel_rfl
  rw [run_equalIn_array _ (D + 1) _ _ Tryz.underlying46 hk, hc]
  have e1 : ∀ x y : Int, (Op.equalIn (D + 1) 3 (.int .i64 x) (.int .i64 y)).run Tryz.prog w = .ok (x == y) w := fun x y => by
    simp [Op.equalIn, Sem.run_bind, run_underlying Tryz.underlying3, Result.andThen]
  have p0 : ∀ x y : Int, (part 3 #[.int .i64 x, .int .i64 y] 0).run Tryz.prog w = .ok (.int .i64 x) w := fun x y => by kernel_rfl
  have p1 : ∀ x y : Int, (part 3 #[.int .i64 x, .int .i64 y] 1).run Tryz.prog w = .ok (.int .i64 y) w := fun x y => by kernel_rfl
  cases h1 : (a == c) <;> cases h2 : (b == d) <;> simp [Op.eqItems, List.range_succ, Sem.run_bind, p0, p1, e1, h1, h2, Result.andThen]
theorem eq_pair (a b c d : Int) (w : World) : (Op.equalIn 10000 46 (.agg #[.int .i64 a, .int .i64 b]) (.agg #[.int .i64 c, .int .i64 d])).run Tryz.prog w = .ok (a == c && b == d) w := eq_pairD 9998 a b c d w
theorem later_c {w W : World} {a : Addr} {v : Value} (hb : Below w.heap.size w W) (h : w.cell? a = some v) : W.cell? a = some v := (hb.cell (World.block_lt_of_cell? _ _ h)).trans h
theorem readP_slice {W : World} {v : Value} {l : List (Nat × Nat)} (h : ReadPairs W v l) : ∃ A c, v = .slice A l.length c := by
  rcases h.at_ with ⟨rfl, A, c, rfl⟩ | ⟨b, off, c, rfl, _⟩
  · exact ⟨A, c, rfl⟩
  · exact ⟨_, c, rfl⟩
theorem take_same {α : Type} {la lb : List α} {k : Nat} {x y : α} (h : la.take k = lb.take k) (ha : la[k]? = some x) (hb : lb[k]? = some y) (e : x = y) : la.take (k + 1) = lb.take (k + 1) := by
  rw [List.take_add_one, List.take_add_one, ha, hb, h, e]
set_option maxHeartbeats 4000000 in
set_option maxRecDepth 100000 in
theorem same_pairs (va vb : Value) (la lb : List (Nat × Nat)) (w : World) (ha : ReadPairs w va la) (hb : ReadPairs w vb lb) :
    Calls Tryz.prog 15 #[va, vb] w fun e w' => e = .returned (.bool (decide (la = lb))) ∧ Below w.heap.size w w' := by
  have hla := ha.len
  have hlb := hb.len
  unfold maxLen at hla hlb
  by_cases hl : la.length = lb.length
  · rcases ha.at_ with ⟨rfl, A, c, rfl⟩ | ⟨ba, oa, ca, rfl, hca⟩
    · obtain rfl : lb = [] := List.eq_nil_of_length_eq_zero hl.symm
      obtain ⟨B, cb, rfl⟩ := readP_slice hb
      go_enter Tryz.func15, Tryz.ntmps15
      go_wp2
      refine wp_loop_rounds 1 ?_
      rw [rounds_succ]
      go_wp2
      go_ret
      exact ⟨rfl, Below.refl _ _⟩
    · rcases hb.at_ with ⟨rfl, A, c, rfl⟩ | ⟨bb, ob, cb, rfl, hcb⟩
      · obtain rfl : la = [] := List.eq_nil_of_length_eq_zero hl
        go_enter Tryz.func15, Tryz.ntmps15
        go_wp2
        refine wp_loop_rounds 1 ?_
        rw [rounds_succ]
        go_wp2
        go_ret
        exact ⟨rfl, Below.refl _ _⟩
      · have HA := Lib.hid hca
        have HC := Lib.hid hcb
        have hbl : ((la.length : Int) != (la.length : Int)) = false := by simp
        have HL := Lib.hid hl
        rw [← hl] at hlb ⊢
        clear hca hcb ha hb hl
        go_enter Tryz.func15, Tryz.ntmps15
        go_wp2
        go_loopw [5] (fun f wr => ∃ k : Nat, f = .int .i64 (k : Int) ∧ k ≤ la.length ∧ Hid (la.take k = lb.take k) ∧ Below w.heap.size w wr) (fun f _ => la.length - (intOf f).toNat)
        case atStart => exact ⟨0, rfl, Nat.zero_le _, Lib.hid rfl, Below.refl _ _⟩
        case round =>
          obtain ⟨k, rfl, hk, hT, hB⟩ := hrel
          by_cases hlt : k < la.length
          · have hltz : (k : Int) < (la.length : Int) := by omega
            have hk0 : (0 : Int) ≤ (k : Int) := by omega
            obtain ⟨x, hx⟩ : ∃ x, la[k]? = some x := ⟨_, List.getElem?_eq_getElem hlt⟩
            obtain ⟨y, hy⟩ : ∃ y, lb[k]? = some y := ⟨_, List.getElem?_eq_getElem (by rw [← HL.out]; exact hlt)⟩
            have c0 := later_c hB (HA.out k x hx).1
            have c1 := later_c hB (HA.out k x hx).2
            have d0 := later_c hB (HC.out k y hy).1
            have d1 := later_c hB (HC.out k y hy).2
            have HX := Lib.hid hx
            have HY := Lib.hid hy
            clear hx hy
            have hB0 := Lib.hid hB
            clear hB
            have eqp := eq_pair (x.1 : Int) (x.2 : Int) (y.1 : Int) (y.2 : Int)
            by_cases hxy : x = y
            · have HE := Lib.hid hxy
              have b1 : ((x.1 : Int) == (y.1 : Int)) = true := beq_iff_eq.2 (by rw [hxy])
              have b2 : ((x.2 : Int) == (y.2 : Int)) = true := beq_iff_eq.2 (by rw [hxy])
              clear hxy
              go_wp2
              go_region
              all_goals go_wp2
              refine ⟨⟨k + 1, by go_num, by omega, Lib.hid (take_same hT.out HX.out HY.out HE.out), hB0.out.drew⟩, ?_⟩
              simp [intOf]; omega
            · have HN : Hid (decide (la = lb) = false) := Lib.hid (decide_eq_false (fun e => hxy (by have h1 := HX.out; have h2 := HY.out; rw [e] at h1; rw [h1] at h2; exact Option.some.inj h2)))
              have b3 : ((x.1 : Int) == (y.1 : Int) && (x.2 : Int) == (y.2 : Int)) = false := by
                rw [Bool.and_eq_false_iff]
                by_cases h1 : x.1 = y.1
                · exact .inr (beq_eq_false_iff_ne.2 (fun e => hxy (Prod.ext h1 (by omega))))
                · exact .inl (beq_eq_false_iff_ne.2 (by omega))
              clear hxy
              cases b1 : ((x.1 : Int) == (y.1 : Int)) <;> cases b2 : ((x.2 : Int) == (y.2 : Int))
              all_goals rw [b1, b2] at b3 eqp
              all_goals first | (exact absurd b3 (by decide)) | skip
              all_goals
                go_wp2
                go_region
                all_goals go_wp2
                all_goals go_ret
                all_goals exact ⟨by rw [HN.out]; rfl, hB0.out.drew⟩
          · have hke : k = la.length := by omega
            have HE : Hid (decide (la = lb) = true) := Lib.hid (decide_eq_true (by
              have h1 := hT.out
              rw [hke, List.take_length, HL.out, List.take_length] at h1
              exact h1))
            have hltz : ¬ (k : Int) < (la.length : Int) := by omega
            go_wp2
            go_ret
            exact ⟨by rw [HE.out]; rfl, hB⟩
  · have hbl : ((la.length : Int) != (lb.length : Int)) = true := bne_iff_ne.2 (by omega)
    have hd : decide (la = lb) = false := decide_eq_false (fun e => hl (by rw [e]))
    rw [hd]
    obtain ⟨A, c, rfl⟩ := readP_slice ha
    obtain ⟨B, cb, rfl⟩ := readP_slice hb
    clear ha hb hl hd
    go_enter Tryz.func15, Tryz.ntmps15
    go_wp2
    go_ret
    exact ⟨rfl, Below.refl _ _⟩
/-! ### turned -/
theorem rev_step {l : List (Nat × Nat)} {k : Nat} {x : Nat × Nat} (h : l[k]? = some x) : (l.drop k).reverse = (l.drop (k + 1)).reverse ++ [x] := by
  have hk := (List.getElem?_eq_some_iff.1 h).1
  rw [List.drop_eq_getElem_cons hk, List.reverse_cons]
  congr 2
  exact (List.getElem?_eq_some_iff.1 h).2
set_option maxHeartbeats 4000000 in
set_option maxRecDepth 100000 in
theorem turned_calls (va : Value) (la : List (Nat × Nat)) (w : World) (ha : ReadPairs w va la) (hlen : la.length ≤ 1048576) :
    Calls Tryz.prog 17 #[va] w fun e w' => PairsOut la.reverse w e w' := by
  obtain ⟨ii, hi0, hz0, hz1, hz2⟩ := info_parts infoPairs
  rcases ha.at_ with ⟨rfl, A, c, rfl⟩ | ⟨ba, oa, ca, rfl, hca⟩
  · go_enter Tryz.func17, Tryz.ntmps17
    go_wp2
    refine wp_loop_rounds 1 ?_
    rw [rounds_succ]
    go_wp2
    go_ret
    exact ⟨_, rfl, ⟨rfl, .inl ⟨rfl, rfl⟩⟩, Below.refl _ _⟩
  · have HA := Lib.hid hca
    clear hca ha
    go_enter Tryz.func17, Tryz.ntmps17
    go_wp2
    go_loopw [3, 4] (fun v f wr => ∃ z : Int, f = .int .i64 z ∧ -1 ≤ z ∧ z < (la.length : Int) ∧ OwnPairs w.heap.size wr v (la.drop (z + 1).toNat).reverse ∧ Below w.heap.size w wr) (fun _ f _ => (intOf f + 1).toNat)
    case atStart => exact ⟨(la.length : Int) - 1, rfl, by omega, by omega, by rw [show ((la.length : Int) - 1 + 1).toNat = la.length by omega, List.drop_length]; exact ⟨rfl, .inl ⟨rfl, rfl⟩⟩, Below.refl _ _⟩
    case round =>
      obtain ⟨z, rfl, hz0', hz1', hown, hB⟩ := hrel
      by_cases hlt : 0 ≤ z
      · obtain ⟨k, rfl⟩ : ∃ k : Nat, z = (k : Int) := ⟨z.toNat, by omega⟩
        obtain ⟨x, hx⟩ : ∃ x, la[k]? = some x := ⟨_, List.getElem?_eq_getElem (by omega)⟩
        have c0 := later_c hB (HA.out k x hx).1
        have c1 := later_c hB (HA.out k x hx).2
        have hrv := Lib.hid (rev_step hx)
        have hdl : (la.drop ((k : Int) + 1).toNat).reverse.length = la.length - (k + 1) := by rw [List.length_reverse, List.length_drop]; omega
        have htn : ((k : Int) + 1).toNat = k + 1 := by omega
        rw [htn] at hown hdl
        have HDL := Lib.hid hdl
        clear hx hdl htn
        go_wp2_with (at_builtin; refine wpList_append_own_at _ rfl _ _ 34 rfl w.heap.size 46 ii _ 2 16 Tryz.underlying34 hi0 hz0 hz1 hz2 rfl (by decide) _ _ _ rfl (World.ownsRow.alloc hown _) ⟨wr.heap.size, 0, none⟩ 1 1 [.int .i64 (x.1 : Int), .int .i64 (x.2 : Int)] rfl rfl (cells_laid wr [.int .i64 (x.1 : Int), .int .i64 (x.2 : Int)] rfl (by simp [maxLen])) (by simp [Value.oneCell']) (by rw [HDL.out]; unfold maxLen; omega) (by rw [HDL.out]; omega) (by have := hB.size; simp; omega) ?_; intro v' w1 hown' hgrow _ _; obtain ⟨g', cap', rfl⟩ := ownsRow_succ hown'; have HO := Lib.hid hown'; have HG := Lib.hid hgrow; clear hown' hgrow)
        go_roundw
        case rel =>
          refine ⟨(k : Int) - 1, rfl, by omega, by omega, ?_, ((Below.refl _ _).trans hB).trans ?_⟩
          · rw [show ((k : Int) - 1 + 1).toNat = k by omega, hrv.out, OwnPairs, flatP_snoc, List.length_append, HDL.out]
            have h9 := HO.out
            rw [HDL.out] at h9
            exact h9
          · exact ((Below.refl _ wr).alloc hB.size _).grown HG.out (by have := hB.size; simp; try omega) (fun b e => (own_block hown e).1)
        case measure => (simp [intOf]; try omega)
      · have hzz : z = -1 := by omega
        subst hzz
        go_wp2
        go_ret
        exact ⟨_, rfl, hown, hB⟩
end Go.Proofs.YtfmcadobpgpajaaGreatDoor.Cl
