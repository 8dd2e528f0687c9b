/- slices.swapRangeCmpFunc and rotateCmpFunc at points: the walks. -/
import Derived.Test.YtikpkjpnehkbfaaGreatDoorStabIns
namespace Go.Proofs.YtikpkjpnehkbfaaGreatDoor.Sb
open Go Go.RowKit Go.Shelf
set_option linter.unusedSimpArgs false
set_option linter.unusedVariables false

set_option maxHeartbeats 4000000 in
set_option maxRecDepth 100000 in
theorem swapRange_calls {g cap n : Nat} {cv : Value} {pre post : List Value} {W0 : World} (a b m : Nat) (l : List Int) (w : World)
    (hI : SI g pre post W0 w l) (hl : l.length = n) (hn : n ≤ 16777216) (hab : a + m ≤ b) (hb : b + m ≤ n) :
    Calls Tryz.prog 203 #[.slice (some ⟨g, pre.length, none⟩) n cap, .int .i64 a, .int .i64 b, .int .i64 m, cv] w fun e w' => e = .returned (.tuple #[]) ∧ ∃ l', SI g pre post W0 w' l' ∧ Exd a b m l l' := by
  have HI := Lib.hid hI
  clear hI
  go_enter Tryz.func203, Tryz.ntmps203
  go_wp2
  go_loopg [10] m (fun gk vi wr => ∃ (i : Nat) (li : List Int), vi = .int .i64 i ∧ i ≤ m ∧ m - i ≤ gk ∧ Hid (SI g pre post W0 wr li) ∧ Hid (Exd a b i l li))
  case atStart => exact ⟨0, l, rfl, Nat.zero_le _, by omega, HI, Lib.hid (Exd.zero _ _ _)⟩
  case round =>
    obtain ⟨i, li, rfl, hi, hg1, HS, HE⟩ := hrel
    by_cases hlt : i < m
    · have hltz : (i : Int) < (m : Int) := by omega
      have hll : li.length = n := by rw [HE.out.len, hl]
      obtain ⟨x, hx⟩ := get_of (l := li) (i := a + i) (by omega)
      obtain ⟨y, hy⟩ := get_of (l := li) (i := b + i) (by omega)
      have cx := HS.out.row.cell hx
      have cy := HS.out.row.cell hy
      have fx := HS.out.row.open (pre.length + (a + i))
      have fy := HS.out.row.open (pre.length + (b + i))
      have w1 : IntKind.i64.wrap ((a : Int) + (i : Int)) = ((a + i : Nat) : Int) := (IntWalk.i64_in _ (by omega)).trans (by omega)
      have w2 : IntKind.i64.wrap ((b : Int) + (i : Int)) = ((b + i : Nat) : Int) := (IntWalk.i64_in _ (by omega)).trans (by omega)
      have w3 : IntKind.i64.wrap ((a + i : Nat) : Int) = ((a + i : Nat) : Int) := IntWalk.i64_in _ (by omega)
      have w4 : IntKind.i64.wrap ((b + i : Nat) : Int) = ((b + i : Nat) : Int) := IntWalk.i64_in _ (by omega)
      have HX := Lib.hid hx
      have HY := Lib.hid hy
      have HSS := Lib.hid (HS.out.swap2 (i := a + i) (j := b + i) (by omega) (by omega) y x)
      have HEE := Lib.hid (HE.out.step (by omega) (by omega) hx hy)
      clear hx hy
      obtain ⟨p, hp⟩ : ∃ p, p = a + i := ⟨_, rfl⟩
      obtain ⟨q, hq⟩ : ∃ q, q = b + i := ⟨_, rfl⟩
      rw [← hp] at cx fx w1 w3 HSS HEE
      rw [← hq] at cy fy w2 w4 HSS HEE
      have p1 : (p : Int) < (n : Int) := by omega
      have q1 : (q : Int) < (n : Int) := by omega
      have p0 : (0 : Int) ≤ (p : Int) := by omega
      have q0 : (0 : Int) ≤ (q : Int) := by omega
      have pq : p ≠ q := by omega
      clear hp hq
      go_wp2
      go_region
      all_goals go_wp2
      go_roundg (m - (i + 1))
      case rel => exact ⟨i + 1, _, by go_num, by omega, Nat.le_refl _, HSS, HEE⟩
      case measure => omega
    · obtain rfl : i = m := by omega
      go_wp2
      go_end0
      exact ⟨rfl, li, HS.out, HE.out⟩
set_option maxHeartbeats 4000000 in
set_option maxRecDepth 100000 in
theorem rotate_calls {g cap n : Nat} {cv : Value} {pre post : List Value} {W0 : World} (a m b : Nat) (l : List Int) (w : World)
    (hI : SI g pre post W0 w l) (hl : l.length = n) (hn : n ≤ 16777216) (ham : a < m) (hmb : m < b) (hb : b ≤ n) :
    Calls Tryz.prog 185 #[.slice (some ⟨g, pre.length, none⟩) n cap, .int .i64 a, .int .i64 m, .int .i64 b, cv] w fun e w' => e = .returned (.tuple #[]) ∧ SI g pre post W0 w' (turn a m b l) := by
  have HI := Lib.hid hI
  have HL := Lib.hid hl
  have m1 : IntKind.i64.wrap ((m : Int) - (a : Int)) = ((m - a : Nat) : Int) := (IntWalk.i64_in _ (by omega)).trans (by omega)
  have m2 : IntKind.i64.wrap ((m - a : Nat) : Int) = ((m - a : Nat) : Int) := IntWalk.i64_in _ (by omega)
  have b1 : IntKind.i64.wrap ((b : Int) - (m : Int)) = ((b - m : Nat) : Int) := (IntWalk.i64_in _ (by omega)).trans (by omega)
  have b2 : IntKind.i64.wrap ((b - m : Nat) : Int) = ((b - m : Nat) : Int) := IntWalk.i64_in _ (by omega)
  obtain ⟨i0, hi0⟩ : ∃ i0, i0 = m - a := ⟨_, rfl⟩
  obtain ⟨j0, hj0⟩ : ∃ j0, j0 = b - m := ⟨_, rfl⟩
  rw [← hi0] at m1 m2
  rw [← hj0] at b1 b2
  have HT : Hid (turn (m - i0) m (m + j0) l = turn a m b l) := Lib.hid (by rw [hi0, hj0, show m - (m - a) = a by omega, show m + (b - m) = b by omega])
  have hi1 : 0 < i0 ∧ i0 ≤ m := by omega
  have hj1 : 0 < j0 ∧ m + j0 ≤ n := by omega
  clear hI hl hi0 hj0
  go_enter Tryz.func185, Tryz.ntmps185
  go_wp2
  clear m1 m2 b1 b2
  go_loopg [10, 11] (i0 + j0) (fun gk vi vj wr => ∃ (i j : Nat) (li : List Int), vi = .int .i64 i ∧ vj = .int .i64 j ∧ 0 < i ∧ i ≤ m ∧ 0 < j ∧ m + j ≤ n ∧ i + j ≤ gk ∧ Hid (SI g pre post W0 wr li) ∧ Hid (li.length = n ∧ turn (m - i) m (m + j) li = turn a m b l))
  case atStart => exact ⟨i0, j0, l, rfl, rfl, hi1.1, hi1.2, hj1.1, hj1.2, Nat.le_refl _, HI, Lib.hid ⟨HL.out, HT.out⟩⟩
  case round =>
    obtain ⟨i, j, li, rfl, rfl, hi0, him, hj0, hjm, hg1, HS, HT⟩ := hrel
    have m1 : IntKind.i64.wrap ((m : Int) - (i : Int)) = ((m - i : Nat) : Int) := (IntWalk.i64_in _ (by omega)).trans (by omega)
    have m2 : IntKind.i64.wrap ((m - i : Nat) : Int) = ((m - i : Nat) : Int) := IntWalk.i64_in _ (by omega)
    by_cases hij : i = j
    · subst hij
      have HC := Lib.hid (fun W (hW : SI g pre post W0 W li) => swapRange_calls (cap := cap) (n := n) (cv := cv) (m - i) m i li W hW HT.out.1 hn (by omega) (by omega))
      go_wp2_with (go_at_call 203; refine (HC.out _ HS.out).mono ?_; rintro e w2 ⟨rfl, l2, hs, hx⟩)
      go_end0
      refine ⟨rfl, ?_⟩
      rw [← HT.out.2, ← hx.all him (by rw [HT.out.1]; omega)]
      exact hs
    · by_cases hlt : j < i
      · have hz : (j : Int) < (i : Int) := by omega
        have hne : ((i : Int) == (j : Int)) = false := beq_eq_false_iff_ne.2 (by omega)
        have d1 : IntKind.i64.wrap ((i : Int) - (j : Int)) = ((i - j : Nat) : Int) := (IntWalk.i64_in _ (by omega)).trans (by omega)
        have d2 : IntKind.i64.wrap ((i - j : Nat) : Int) = ((i - j : Nat) : Int) := IntWalk.i64_in _ (by omega)
        have HC := Lib.hid (fun W (hW : SI g pre post W0 W li) => swapRange_calls (cap := cap) (n := n) (cv := cv) (m - i) m j li W hW HT.out.1 hn (by omega) (by omega))
        go_wp2_with (go_at_call 203; refine (HC.out _ HS.out).mono ?_; rintro e w2 ⟨rfl, l2, hs, hx⟩; have HS2 := Lib.hid hs; have HX := Lib.hid hx; clear hs hx)
        go_roundg (i - j + j)
        case rel => exact ⟨i - j, j, l2, rfl, rfl, by omega, by omega, by omega, by omega, Nat.le_refl _, HS2, Lib.hid ⟨by rw [HX.out.len, HT.out.1], by rw [HX.out.left him hlt (by rw [HT.out.1]; omega), HT.out.2]⟩⟩
        case measure => omega
      · have hz : ¬ (j : Int) < (i : Int) := by omega
        have hne : ((i : Int) == (j : Int)) = false := beq_eq_false_iff_ne.2 (by omega)
        have d1 : IntKind.i64.wrap ((j : Int) - (i : Int)) = ((j - i : Nat) : Int) := (IntWalk.i64_in _ (by omega)).trans (by omega)
        have d2 : IntKind.i64.wrap ((j - i : Nat) : Int) = ((j - i : Nat) : Int) := IntWalk.i64_in _ (by omega)
        have d3 : IntKind.i64.wrap ((m : Int) + (j : Int) - (i : Int)) = ((m + j - i : Nat) : Int) := (IntWalk.i64_in _ (by omega)).trans (by omega)
        have d4 : IntKind.i64.wrap ((m + j - i : Nat) : Int) = ((m + j - i : Nat) : Int) := IntWalk.i64_in _ (by omega)
        have HC := Lib.hid (fun W (hW : SI g pre post W0 W li) => swapRange_calls (cap := cap) (n := n) (cv := cv) (m - i) (m + j - i) i li W hW HT.out.1 hn (by omega) (by omega))
        go_wp2_with (go_at_call 203; refine (HC.out _ HS.out).mono ?_; rintro e w2 ⟨rfl, l2, hs, hx⟩; have HS2 := Lib.hid hs; have HX := Lib.hid hx; clear hs hx)
        go_roundg (i + (j - i))
        case rel => exact ⟨i, j - i, l2, rfl, rfl, by omega, by omega, by omega, by omega, Nat.le_refl _, HS2, Lib.hid ⟨by rw [HX.out.len, HT.out.1], by rw [HX.out.right him (by omega) (by rw [HT.out.1]; omega), HT.out.2]⟩⟩
        case measure => omega
end Go.Proofs.YtikpkjpnehkbfaaGreatDoor.Sb
