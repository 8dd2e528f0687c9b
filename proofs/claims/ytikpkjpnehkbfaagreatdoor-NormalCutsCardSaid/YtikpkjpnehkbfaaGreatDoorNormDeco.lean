/- normal.Decompose: the walk. -/
import Derived.Test.YtikpkjpnehkbfaaGreatDoorNormDec
namespace Go.Proofs.YtikpkjpnehkbfaaGreatDoor.Nw
open Go Go.RowKit Go.Shelf Go.Proofs.YtikpkjpnehkbfaaGreatDoor.Sp Go.Proofs.YtikpkjpnehkbfaaGreatDoor.Pr Go.Proofs.YtikpkjpnehkbfaaGreatDoor.Rf Go.Proofs.YtikpkjpnehkbfaaGreatDoor.Nm Go.Proofs.YtikpkjpnehkbfaaGreatDoor.Sb
set_option linter.unusedSimpArgs false
set_option linter.unusedVariables false

theorem read_addr {W : World} {v : Value} {l : List Int} (h : ReadPts W v l) : ∃ A c, v = .slice A l.length c ∧ ∀ (i : Nat) (x : Int), l[i]? = some x → ∃ b off, A = some ⟨b, off, none⟩ ∧ W.cell? ⟨b, off + i, none⟩ = some (.int .i32 x) := by
  rcases h.at_ with ⟨rfl, A, c, rfl⟩ | ⟨b, off, c, rfl, hc⟩
  · exact ⟨A, c, rfl, fun i x h => by simp at h⟩
  · exact ⟨_, c, rfl, fun i x hi => ⟨b, off, rfl, hc i x hi⟩⟩
theorem whole_of {w0 : World} {p : Nat} {D : PD} (H : PropsAt w0.heap.size w0 p D) (hgood : Nm.Good D) {n₀ : Nat} (hn0 : w0.heap.size ≤ n₀) (r : Int) (W : World) (v : Value) (L : List Int) (hb : Below w0.heap.size w0 W) (hn : n₀ ≤ W.heap.size) (ho : OwnPts n₀ W v L) (hlen : L.length ≤ 1073741816) :
    Calls Tryz.prog 53 #[.pointer (some ⟨p, 0, none⟩), .int .i32 r, v] W fun e W' => WholeOut n₀ W v (L ++ wholeOf D r) e W' := by
  have h8 := (hgood.len r).2
  obtain ⟨m, _, hm⟩ := hgood.full r
  unfold wholeOf at h8 ⊢
  generalize (100000 : Nat) = K at *
  exact whole_calls H hn0 K r m hm W v L hb hn ho (by omega)
theorem flat_take_le (D : PD) (l : List Int) (i : Nat) : (flat D (l.take i)).length ≤ (flat D l).length := by
  conv => rhs; rw [← List.take_append_drop i l, flat_append, List.length_append]
  exact Nat.le_add_right _ _
theorem flat_take {D : PD} {l : List Int} {i : Nat} {x : Int} (hx : l[i]? = some x) : flat D (l.take (i + 1)) = flat D (l.take i) ++ wholeOf D x := take_flat hx
set_option maxHeartbeats 4000000 in
set_option maxRecDepth 100000 in
theorem dec_calls_any {w0 : World} {p : Nat} {D : PD} (H : PropsAt w0.heap.size w0 p D) (hgood : Nm.Good D) {W : World} {lv : Value} {l : List Int} (hb : Below w0.heap.size w0 W) (hr : ReadPts W lv l) (hf : (flat D l).length ≤ 16777216) :
    Calls Tryz.prog 18 #[.pointer (some ⟨p, 0, none⟩), lv] W fun e W' => ∃ v, e = .returned v ∧ OwnPts W.heap.size W' v (decN D l) ∧ Below W.heap.size W W' := by
  have hl : l.length ≤ 16777216 := Nat.le_trans (flat_length hgood l).1 hf
  obtain ⟨A, c, rfl, hc⟩ := read_addr hr
  have HC := Lib.hid hc
  have HB := Lib.hid hb
  obtain ⟨n, hn⟩ : ∃ n, l.length = n := ⟨_, rfl⟩
  have HN := Lib.hid hn
  have HFL : Hid (∀ i, (flat D (l.take i)).length ≤ 16777216) := Lib.hid (fun i => Nat.le_trans (flat_take_le D l i) hf)
  have HFF := Lib.hid hf
  have HW := Lib.hid (fun (i : Nat) (x : Int) (hx : l[i]? = some x) => flat_take (D := D) hx)
  rw [hn] at hl ⊢
  clear hc hb hr hn hf
  go_enter Tryz.func18, Tryz.ntmps18
  go_wp2
  go_loopg [5, 10] n (fun gk vout vi wr => ∃ (i : Nat), vi = .int .i64 i ∧ i ≤ n ∧ n - i ≤ gk ∧ Hid (OwnPts W.heap.size wr vout (flat D (l.take i)) ∧ Below W.heap.size W wr))
  case atStart => exact ⟨0, rfl, Nat.zero_le _, by omega, Lib.hid ⟨⟨rfl, .inl ⟨rfl, rfl⟩⟩, Below.refl _ _⟩⟩
  case round =>
    obtain ⟨i, rfl, hi, hg1, HI⟩ := hrel
    by_cases hlt : i < n
    · have hz : (i : Int) < (n : Int) := by omega
      obtain ⟨x, hx⟩ : ∃ x, l[i]? = some x := ⟨_, List.getElem?_eq_getElem (by rw [HN.out]; exact hlt)⟩
      obtain ⟨b, off, rfl, cx0⟩ := HC.out i x hx
      have cx := Sb.later_cell HI.out.2 cx0
      have HT := Lib.hid (HW.out i x hx)
      have hfl : (flat D (l.take i)).length ≤ 1073741816 := Nat.le_trans (HFL.out i) (by decide)
      have HCC := Lib.hid (whole_of H hgood HB.out.size x wr _ _ (bl_then HB.out HI.out.2) HI.out.2.size HI.out.1 hfl)
      clear hx cx0 hfl
      go_wp2_with (go_at_call 53; (with_reducible refine HCC.out.mono ?_); rintro e w2 ⟨v2, rfl, ho2, hm2⟩; rw [← HT.out] at ho2; have HO2 := Lib.hid ho2; have HM2 := Lib.hid (HI.out.2.trans (hm2.below HI.out.2.size (fun g hg => (own_at HI.out.1 g hg).1))); clear ho2 hm2)
      go_roundg (n - (i + 1))
      case rel => exact ⟨i + 1, by go_num, by omega, by omega, Lib.hid ⟨HO2.out, HM2.out⟩⟩
      case measure => omega
    · have hin : i = l.length := by rw [HN.out]; omega
      have HO : Hid (OwnPts W.heap.size wr u5 (flat D l)) := Lib.hid (by have := HI.out.1; rw [hin, List.take_of_length_le (Nat.le_refl _)] at this; exact this)
      have HCO := Lib.hid (order_calls H hgood HB.out.size (bl_then HB.out HI.out.2) HO.out HFF.out)
      have HDN : Hid (ordR (classOf D) (flat D l) = decN D l) := Lib.hid rfl
      rw [HDN.out] at HCO
      have hz : ¬ (i : Int) < (n : Int) := by omega
      clear hin hlt
      go_wp2_with (go_at_call 54; (with_reducible refine HCO.out.mono ?_); rintro e w2 ⟨rfl, ho2, hm2⟩; have HO2 := Lib.hid ho2; have HM2 := Lib.hid (HI.out.2.trans (hm2.below HI.out.2.size (fun g hg => (own_at HO.out g hg).1))); clear ho2 hm2)
      go_ret
      exact ⟨_, rfl, HO2.out, HM2.out⟩
theorem flat_le {D : PD} (hgood : Nm.Good D) {l : List Int} (hl : l.length ≤ 2097152) : (flat D l).length ≤ 16777216 := Nat.le_trans (flat_length hgood l).2 (Nat.le_trans (Nat.mul_le_mul_left 8 hl) (by decide))
theorem dec_calls {w0 : World} {p : Nat} {D : PD} (H : PropsAt w0.heap.size w0 p D) (hgood : Nm.Good D) {W : World} {lv : Value} {l : List Int} (hb : Below w0.heap.size w0 W) (hr : ReadPts W lv l) (hl : l.length ≤ 2097152) :
    Calls Tryz.prog 18 #[.pointer (some ⟨p, 0, none⟩), lv] W fun e W' => ∃ v, e = .returned v ∧ OwnPts W.heap.size W' v (decN D l) ∧ Below W.heap.size W W' := dec_calls_any H hgood hb hr (flat_le hgood hl)
end Go.Proofs.YtikpkjpnehkbfaaGreatDoor.Nw
