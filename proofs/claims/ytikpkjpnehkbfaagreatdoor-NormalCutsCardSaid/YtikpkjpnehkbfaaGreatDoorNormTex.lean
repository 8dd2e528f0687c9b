/- normal.Text, Is: the walks. -/
import Derived.Test.YtikpkjpnehkbfaaGreatDoorNormTxt
import Derived.Test.YtikpkjpnehkbfaaGreatDoorNormAt
import Derived.Test.YtikpkjpnehkbfaaGreatDoorNormClean
namespace Go.Proofs.YtikpkjpnehkbfaaGreatDoor.Nw
open Go Go.RowKit Go.Shelf Go.Proofs.YtikpkjpnehkbfaaGreatDoor.Sp Go.Proofs.YtikpkjpnehkbfaaGreatDoor.Pr Go.Proofs.YtikpkjpnehkbfaaGreatDoor.Rf Go.Proofs.YtikpkjpnehkbfaaGreatDoor.Nm Go.Proofs.YtikpkjpnehkbfaaGreatDoor.Sb Go.Proofs.YtikpkjpnehkbfaaGreatDoor.Ut
set_option linter.unusedSimpArgs false
set_option linter.unusedVariables false

/-- A text decomposed, or composed. -/
def normT (D : PD) (s : Bytes) (composed : Bool) : Bytes := textOf (if composed then compN D (ptsOf s) else decN D (ptsOf s))
abbrev OfAt (s : ByteArray) (l : List Int) : Prop := ∀ W, Calls Tryz.prog 37 #[.string s] W (RowBack l W)
theorem ofAt {s : ByteArray} (hs : s.size ≤ 1073741824) {l : List Int} (h : ptsOf s.data.toList = l) : OfAt s l := fun W => (of_calls s hs W).mono fun e w' h' => by rw [h] at h'; exact rowAt_own h'
theorem pts_flat {D : PD} (hg : Nm.Good D) (s : ByteArray) (hs : s.size ≤ 2097152) : (flat D (ptsOf s.data.toList)).length ≤ 16777216 := flat_le hg (Nat.le_trans (ptsL_len _) (by rw [← Lib.size_eq]; exact hs))
set_option maxHeartbeats 4000000 in
set_option maxRecDepth 100000 in
theorem normText_calls {w : World} {p : Nat} {D : PD} (H : PropsAt w.heap.size w p D) (hg : Nm.Good D) (s : ByteArray) (c : Bool) {W : World} (hb : Below w.heap.size w W) (hs : s.size ≤ 1073741824) (hf : (flat D (ptsOf s.data.toList)).length ≤ 16777216) :
    Calls Tryz.prog 35 #[.pointer (some ⟨p, 0, none⟩), .string s, .bool c] W fun e W' => e = .returned (.string ⟨(normT D s.data.toList c).toArray⟩) ∧ Below W.heap.size W W' := by
  have HO := Lib.hid (ofAt hs (l := ptsOf s.data.toList) rfl)
  have HD := Lib.hid (decAt H hg (l := ptsOf s.data.toList) rfl hf)
  have HC := Lib.hid (comAt H hg (l := ptsOf s.data.toList) rfl hf)
  have hpo : ∀ r ∈ ptsOf s.data.toList, okP r := pts_ok _ _ (Nat.le_refl _)
  have OD : Hid ((∀ r ∈ decN D (ptsOf s.data.toList), okP r) ∧ (decN D (ptsOf s.data.toList)).length ≤ 16777216) := Lib.hid ⟨dec_ok hg hpo, by unfold decN; rw [ordR_length]; exact hf⟩
  have OC : Hid ((∀ r ∈ compN D (ptsOf s.data.toList), okP r) ∧ (compN D (ptsOf s.data.toList)).length ≤ 16777216) := Lib.hid ⟨(sk_comp hg hpo).2, Nat.le_trans (comp_length D _) (by unfold decN; rw [ordR_length]; exact hf)⟩
  have HB := Lib.hid hb
  have HT : Hid (normT D s.data.toList true = textOf (compN D (ptsOf s.data.toList)) ∧ normT D s.data.toList false = textOf (decN D (ptsOf s.data.toList))) := Lib.hid ⟨rfl, rfl⟩
  clear hpo H hb hf hs hg
  generalize compN D (ptsOf s.data.toList) = cl at *
  generalize decN D (ptsOf s.data.toList) = dl at *
  generalize ptsOf s.data.toList = l at *
  cases c
  · rw [HT.out.2]
    go_enter Tryz.func35, Tryz.ntmps35
    go_wp2_with (first
      | (go_at_call 37; (with_reducible refine (HO.out _).mono ?_); rintro e w1 ⟨A1, K1, rfl, R1, hb1⟩; have HB1 := Lib.hid hb1; clear hb1)
      | (go_at_call 18; (refine (HD.out _ _ (bl_then HB.out HB1.out) R1).mono ?_); rintro e w2 ⟨A2, K2, rfl, R2, hb2⟩; have HB2 := Lib.hid (bl_then HB1.out hb2); clear hb2 R1)
      | (go_at_call 77; (refine (text_calls R2 OD.out.1 OD.out.2).mono ?_); rintro e w3 ⟨rfl, hb3⟩; have HB3 := Lib.hid (bl_then HB2.out hb3); clear hb3 R2))
    go_ret
    exact ⟨rfl, HB3.out⟩
  · rw [HT.out.1]
    go_enter Tryz.func35, Tryz.ntmps35
    go_wp2_with (first
      | (go_at_call 37; (with_reducible refine (HO.out _).mono ?_); rintro e w1 ⟨A1, K1, rfl, R1, hb1⟩; have HB1 := Lib.hid hb1; clear hb1)
      | (go_at_call 19; (refine (HC.out _ _ (bl_then HB.out HB1.out) R1).mono ?_); rintro e w2 ⟨A2, K2, rfl, R2, hb2⟩; have HB2 := Lib.hid (bl_then HB1.out hb2); clear hb2 R1)
      | (go_at_call 77; (refine (text_calls R2 OC.out.1 OC.out.2).mono ?_); rintro e w3 ⟨rfl, hb3⟩; have HB3 := Lib.hid (bl_then HB2.out hb3); clear hb3 R2))
    go_ret
    exact ⟨rfl, HB3.out⟩
abbrev TextAt (w : World) (p : Nat) (s : ByteArray) (c : Bool) (t : ByteArray) : Prop := ∀ W, Below w.heap.size w W → Calls Tryz.prog 35 #[.pointer (some ⟨p, 0, none⟩), .string s, .bool c] W fun e W' => e = .returned (.string t) ∧ Below W.heap.size W W'
theorem textAt {w : World} {p : Nat} {D : PD} (H : PropsAt w.heap.size w p D) (hg : Nm.Good D) {s : ByteArray} {c : Bool} {t : ByteArray} (h : (⟨(normT D s.data.toList c).toArray⟩ : ByteArray) = t) (hs : s.size ≤ 1073741824) (hf : (flat D (ptsOf s.data.toList)).length ≤ 16777216) : TextAt w p s c t := fun W hb => by
  rw [← h]; exact normText_calls H hg s c hb hs hf
set_option maxHeartbeats 1000000 in
theorem is_calls {w : World} {p : Nat} {s t : ByteArray} {c : Bool} (h : TextAt w p s c t) {W : World} (hb : Below w.heap.size w W) :
    Calls Tryz.prog 36 #[.pointer (some ⟨p, 0, none⟩), .string s, .bool c] W fun e W' => e = .returned (.bool (t.toList == s.toList)) ∧ Below W.heap.size W W' := by
  have HT := Lib.hid h
  have HB := Lib.hid hb
  clear h hb
  go_enter Tryz.func36, Tryz.ntmps36
  go_wp2_with (go_at_call 35; (with_reducible refine (HT.out _ HB.out).mono ?_); rintro e w1 ⟨rfl, hb1⟩)
  go_ret
  exact ⟨rfl, hb1⟩
end Go.Proofs.YtikpkjpnehkbfaaGreatDoor.Nw
