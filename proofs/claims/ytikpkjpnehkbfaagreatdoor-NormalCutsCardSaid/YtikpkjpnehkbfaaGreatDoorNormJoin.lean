/- joined, ill: the walks. -/
import Derived.Test.YtikpkjpnehkbfaaGreatDoorNormAt
import Derived.Test.YtikpkjpnehkbfaaGreatDoorNormText
namespace Go.Proofs.YtikpkjpnehkbfaaGreatDoor.Nw
open Go Go.RowKit Go.Shelf Go.Proofs.YtikpkjpnehkbfaaGreatDoor.Sp Go.Proofs.YtikpkjpnehkbfaaGreatDoor.Pr Go.Proofs.YtikpkjpnehkbfaaGreatDoor.Rf Go.Proofs.YtikpkjpnehkbfaaGreatDoor.Nm Go.Proofs.YtikpkjpnehkbfaaGreatDoor.Sb
set_option linter.unusedSimpArgs false
set_option linter.unusedVariables false

/-- A row that is read, appended. -/
theorem wpList_append_read {ops : Array Oper} {rest : List Oper} {o : Oper} {ac : Act} {Q : Exit → Act → World → Prop} {W : World} (hgd : o.guard = none) (s x : Operand)
    (ho : o.op = .call { callee := .builtin .append, args := #[s, x], argTypes := #[22, 22] })
    (base : Nat) (v mv : Value) (L M : List Int) (hs : ac.eval s = v) (hown : OwnPts base W v L) (hx : ac.eval x = mv) (hM : ReadPts W mv M)
    (h63 : L.length + M.length ≤ 1073741824) (hbase : base ≤ W.heap.size)
    (h : ∀ v' w', OwnPts base w' v' (L ++ M) → Mvd W w' v v' → wpList Tryz.prog ops Q rest (ac.put o.dst v') w') : wpList Tryz.prog ops Q (o :: rest) ac W :=
  wpList_plain hgd fun K hK => wp_append_read s x ho base v mv L M hs hown hx hM h63 hbase (fun v' w' h1 h2 => hK _ _ (h v' w' h1 h2))
theorem own_nilP (base : Nat) (W : World) : OwnPts base W (.slice none 0 0) [] := ⟨rfl, .inl ⟨rfl, rfl⟩⟩
set_option maxHeartbeats 1000000 in
theorem joined_calls {W : World} {va vb : Value} {la lb : List Int} (ha : ReadPts W va la) (hb : ReadPts W vb lb) (hl : la.length + lb.length ≤ 1073741824) :
    Calls Tryz.prog 33 #[va, vb] W (RowBack (la ++ lb) W) := by
  obtain ⟨A, c, rfl⟩ := ha.slice
  obtain ⟨B, d, rfl⟩ := hb.slice
  have HA := Lib.hid ha
  have HB := Lib.hid hb
  have HL := Lib.hid hl
  have HL0 : Hid (([] : List Int).length + la.length ≤ 1073741824) := Lib.hid (by simp; omega)
  clear ha hb hl
  obtain ⟨an, han⟩ : ∃ an, la.length = an := ⟨_, rfl⟩
  obtain ⟨bn, hbn⟩ : ∃ bn, lb.length = bn := ⟨_, rfl⟩
  rw [han] at HA ⊢
  rw [hbn] at HB ⊢
  clear han hbn
  go_enter Tryz.func33, Tryz.ntmps33
  go_wp2_with (first
    | (at_builtin; refine wpList_append_read rfl _ _ rfl W.heap.size (.slice none 0 0) (.slice A an c) [] la rfl (own_nilP _ _) rfl HA.out HL0.out (Nat.le_refl _) ?_; intro v1 w1 ho1 hm1; rw [List.nil_append] at ho1; have HO1 := Lib.hid ho1; have HM1 := Lib.hid (hm1.below (Nat.le_refl W.heap.size) (fun g h => by cases h)); clear ho1 hm1 HA)
    | (at_builtin; refine wpList_append_read rfl _ _ rfl W.heap.size v1 (.slice B bn d) la lb rfl HO1.out rfl (HB.out.on HM1.out) (by have := HL.out; omega) HM1.out.size ?_; intro v2 w2 ho2 hm2; have HO2 := Lib.hid ho2; have HM2 := Lib.hid (HM1.out.trans (hm2.below HM1.out.size (fun g h => (own_at HO1.out g h).1))); clear ho2 hm2))
  go_ret
  exact rowAt_own ⟨_, rfl, HO2.out, HM2.out⟩
theorem ill_take {l : List Int} {i : Nat} {x : Int} (hx : l[i]? = some x) : (l.take (i + 1)).filter illP = (l.take i).filter illP ++ [x].filter illP := by
  rw [List.take_add_one, hx, List.filter_append]
  rfl
theorem ill_take_le (l : List Int) (i : Nat) : ((l.take i).filter illP).length ≤ l.length := Nat.le_trans (List.length_filter_le _ _) (by rw [List.length_take]; exact Nat.min_le_right _ _)
set_option maxHeartbeats 4000000 in
set_option maxRecDepth 100000 in
theorem ill_calls {W : World} {lv : Value} {l : List Int} (hr : ReadPts W lv l) (hl : l.length ≤ 1073741824) :
    Calls Tryz.prog 38 #[lv] W (RowBack (l.filter illP) W) := by
  obtain ⟨A, c, rfl, hc⟩ := read_addr hr
  have HC := Lib.hid hc
  obtain ⟨n, hn⟩ : ∃ n, l.length = n := ⟨_, rfl⟩
  have HN := Lib.hid hn
  have HT := Lib.hid (fun (i : Nat) (x : Int) (hx : l[i]? = some x) => ill_take hx)
  have HLE := Lib.hid (fun i => Nat.le_trans (ill_take_le l i) hl)
  rw [hn] at hl ⊢
  clear hc hr hn
  go_enter Tryz.func38, Tryz.ntmps38
  go_wp2
  go_loopg [3, 4] n (fun gk vo vi wr => ∃ (i : Nat), vi = .int .i64 i ∧ i ≤ n ∧ n - i ≤ gk ∧ Hid (OwnPts W.heap.size wr vo ((l.take i).filter illP) ∧ Below W.heap.size W wr))
  case atStart => exact ⟨0, rfl, Nat.zero_le _, by omega, Lib.hid ⟨own_nilP _ _, Below.refl _ _⟩⟩
  case round =>
    obtain ⟨i, rfl, hi, hg1, HI⟩ := hrel
    by_cases hlt : i < n
    · have hz : (i : Int) < (n : Int) := by omega
      obtain ⟨x, hx⟩ : ∃ x, l[i]? = some x := ⟨_, List.getElem?_eq_getElem (by rw [HN.out]; exact hlt)⟩
      obtain ⟨b, off, rfl, cx0⟩ := HC.out i x hx
      have cx := Sb.later_cell HI.out.2 cx0
      have HTT := Lib.hid (HT.out i x hx)
      have HLN := Lib.hid (HLE.out i)
      clear cx0 hx
      by_cases hx1 : 1114112 ≤ x
      · have HTX : Hid ((l.take (i + 1)).filter illP = (l.take i).filter illP ++ [x]) := Lib.hid (by rw [HTT.out]; simp [illP, hx1])
        go_wp2_with (at_builtin; refine wpList_append_mvd rfl _ _ rfl W.heap.size _ ((l.take i).filter illP) rfl HI.out.1 rfl HLN.out HI.out.2.size ?_; rintro v' w4 ho4 hm4 -; rw [← HTX.out] at ho4; have HO4 := Lib.hid ho4; have HM4 := Lib.hid (HI.out.2.trans (hm4.below HI.out.2.size (fun g hg => (own_at HI.out.1 g hg).1))); clear ho4 hm4)
        go_roundg (n - (i + 1))
        case rel => exact ⟨i + 1, by go_num, by omega, by omega, Lib.hid ⟨HO4.out, HM4.out⟩⟩
        case measure => omega
      · have HTX : Hid ((l.take (i + 1)).filter illP = (l.take i).filter illP) := Lib.hid (by rw [HTT.out]; simp [illP, hx1])
        go_wp2
        go_roundg (n - (i + 1))
        case rel => exact ⟨i + 1, by go_num, by omega, by omega, Lib.hid ⟨by rw [HTX.out]; exact HI.out.1, HI.out.2⟩⟩
        case measure => omega
    · have hin : i = l.length := by rw [HN.out]; omega
      have HO : Hid (OwnPts W.heap.size wr u3 (l.filter illP)) := Lib.hid (by have := HI.out.1; rw [hin, List.take_of_length_le (Nat.le_refl _)] at this; exact this)
      have hz : ¬ (i : Int) < (n : Int) := by omega
      clear hin hlt
      go_wp2
      go_ret
      exact rowAt_own ⟨_, rfl, HO.out, HI.out.2⟩
end Go.Proofs.YtikpkjpnehkbfaaGreatDoor.Nw
