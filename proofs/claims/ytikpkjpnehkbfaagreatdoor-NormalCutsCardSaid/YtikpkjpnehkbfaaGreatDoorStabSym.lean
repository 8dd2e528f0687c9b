/- slices.symMergeCmpFunc at points: one element alone ahead, or behind. -/
import Derived.Test.YtikpkjpnehkbfaaGreatDoorStabRot
namespace Go.Proofs.YtikpkjpnehkbfaaGreatDoor.Sb
open Go Go.RowKit Go.Shelf
set_option linter.unusedSimpArgs false
set_option linter.unusedVariables false

def SymOut (key : Int → Int) (g : Nat) (pre post : List Value) (W0 : World) (a b : Nat) (l : List Int) (e : Ending) (w' : World) : Prop := e = .returned (.tuple #[]) ∧ ∃ l', SI g pre post W0 w' l' ∧ Mv key a b l l' ∧ Srt key a b l'
set_option maxHeartbeats 4000000 in
set_option maxRecDepth 100000 in
theorem sym_first {key : Int → Int} {g cap n cf : Nat} {lb : Array Value} {pre post : List Value} {W0 : World} (eg : Enters cf) (hC : Cmp g W0 cf lb key) (a m b : Nat) (l : List Int) (w : World)
    (hI : SI g pre post W0 w l) (hl : l.length = n) (hn : n ≤ 16777216) (hm : m = a + 1) (hmb : m < b) (hb : b ≤ n) (hS : Srt key (a + 1) b l) :
    Calls Tryz.prog 158 #[.slice (some ⟨g, pre.length, none⟩) n cap, .int .i64 a, .int .i64 m, .int .i64 b, .func (.func cf) #[] lb] w fun e w' => SymOut key g pre post W0 a b l e w' := by
  have HC := Lib.hid hC
  have HI := Lib.hid hI
  have HS0 := Lib.hid hS
  have f1 : IntKind.i64.wrap ((m : Int) - (a : Int)) = 1 := (IntWalk.i64_in _ (by omega)).trans (by omega)
  obtain ⟨x, hx⟩ := get_of (l := l) (i := a) (by omega)
  have HX := Lib.hid hx
  have HM := Lib.hid hm
  have ham : a < m := by omega
  clear hC hI hS hx hm
  go_enter Tryz.func158, Tryz.ntmps158
  go_wp2
  go_loopg [10, 11] (b - m) (fun gk vi vj wr => ∃ (i j : Nat), vi = .int .i64 i ∧ vj = .int .i64 j ∧ m ≤ i ∧ i ≤ j ∧ j ≤ b ∧ j - i ≤ gk ∧ Hid (SI g pre post W0 wr l) ∧ Hid (m < i → ∃ y, l[i - 1]? = some y ∧ key y < key x) ∧ Hid (j < b → ∃ y, l[j]? = some y ∧ ¬ key y < key x))
  case atStart => exact ⟨m, b, rfl, rfl, Nat.le_refl _, by omega, Nat.le_refl _, Nat.le_refl _, HI, Lib.hid (fun h => by omega), Lib.hid (fun h => by omega)⟩
  case round =>
    obtain ⟨i, j, rfl, rfl, hmi, hij, hjb, hg1, HS, HLo, HHi⟩ := hrel
    by_cases hlt : i < j
    · obtain ⟨h, hh⟩ : ∃ h, h = (i + j) / 2 := ⟨_, rfl⟩
      have hzz : ((i : Int) + (j : Int)) / 2 = (h : Int) := by omega
      have hih : i ≤ h := by omega
      have hhj : h < j := by omega
      obtain ⟨y, hy⟩ := get_of (l := l) (i := h) (by omega)
      have cy := HS.out.row.cell hy
      have cx := HS.out.row.cell HX.out
      have hltz : (i : Int) < (j : Int) := by omega
      have p1 : (a : Int) < (n : Int) := by omega
      have p2 : (h : Int) < (n : Int) := by omega
      have p3 : (0 : Int) ≤ (h : Int) := by omega
      have HY := Lib.hid hy
      have HCC := Lib.hid (fun (W : World) (hW : Kp g W0 W) => HC.out y x W hW)
      have KP := Lib.hid HS.out.kp
      obtain ⟨z, hz⟩ : ∃ z, key y - key x = z := ⟨_, rfl⟩
      rw [hz] at HCC
      have HZ := Lib.hid hz
      clear hy hz f1 hh
      by_cases hlv : z < 0
      all_goals
        go_wp2
        go_region_held3 (fun w' => w'.cell? ⟨g, pre.length + h, none⟩ = some (.int .i32 y) ∧ w'.cell? ⟨g, pre.length + a, none⟩ = some (.int .i32 x)) (go_keep) ((go_at_fn cf; refine (HCC.out _ (by first | exact KP.out | exact KP.out.drew | exact KP.out.drewN _)).mono ?_; rintro e w3 ⟨rfl, hb3⟩; have cy := later_cell hb3 cy; have cx := later_cell hb3 cx))
        have HS3 := Lib.hid (HS.out.drew.later hb3)
        clear hb3
        go_wp2
      · go_roundg (j - (h + 1))
        case rel => exact ⟨h + 1, j, by go_num, rfl, by omega, by omega, by omega, Nat.le_refl _, HS3, Lib.hid (fun _ => ⟨y, HY.out, by have := HZ.out; omega⟩), HHi⟩
        case measure => omega
      · go_roundg (h - i)
        case rel => exact ⟨i, h, rfl, rfl, by omega, by omega, by omega, Nat.le_refl _, HS3, HLo, Lib.hid (fun _ => ⟨y, HY.out, by have := HZ.out; omega⟩)⟩
        case measure => omega
    · obtain rfl : i = j := by omega
      have HD := Lib.hid (first_done HX.out (by omega) hjb (by omega) HS0.out (by rw [← HM.out]; exact HLo.out) HHi.out)
      have HT0 : Hid (turn a (a + 1) (a + 1) l = l) := Lib.hid (turn_same (by omega) (by omega) (by omega) (.inr rfl))
      have hi1 : 1 ≤ i := by omega
      have hi2 : IntKind.i64.wrap ((i : Int) - 1) = ((i - 1 : Nat) : Int) := (IntWalk.i64_in _ (by omega)).trans (by omega)
      have hi3 : IntKind.i64.wrap ((i - 1 : Nat) : Int) = ((i - 1 : Nat) : Int) := IntWalk.i64_in _ (by omega)
      clear HLo HHi hlt hij f1 hg1
      obtain ⟨t, ht⟩ : ∃ t, t = i - 1 := ⟨_, rfl⟩
      rw [← ht] at hi2 hi3
      have hti : i = t + 1 := by omega
      have hat : a ≤ t := by omega
      have HTI := Lib.hid hti
      clear ht hti hi1
      have HLT := Lib.hid (fun (k : Nat) (hk : k + 1 ≤ n) (hak : a ≤ k) => show (turn a (a + 1) (k + 1) l).length = n by rw [turn_length (by omega) (by omega) (by omega), hl])
      go_wp2
      go_loopg [13] t (fun gk vk wr => ∃ (k : Nat), vk = .int .i64 k ∧ a ≤ k ∧ k ≤ t ∧ t - k ≤ gk ∧ Hid (SI g pre post W0 wr (turn a (a + 1) (k + 1) l)))
      case atStart => exact ⟨a, rfl, Nat.le_refl _, hat, by omega, by rw [HT0.out]; exact HS⟩
      case round =>
        obtain ⟨k, rfl, hak, hkt, hg1, HS⟩ := hrel
        have hti := HTI.out
        by_cases hlt : k < t
        · have hll := HLT.out k (by omega) hak
          obtain ⟨u, hu⟩ := get_of (l := turn a (a + 1) (k + 1) l) (i := k) (by omega)
          obtain ⟨v, hv⟩ := get_of (l := turn a (a + 1) (k + 1) l) (i := k + 1) (by omega)
          have cu := HS.out.row.cell hu
          have cv := HS.out.row.cell hv
          have fu := HS.out.row.open (pre.length + k)
          have fv := HS.out.row.open (pre.length + (k + 1))
          have HSS := HS.out.swap2 (i := k) (j := k + 1) (by omega) (by omega) v u
          rw [first_step hak (by omega) hu hv] at HSS
          have HSS := Lib.hid HSS
          have hltz : (k : Int) < (t : Int) := by omega
          have p1 : (k : Int) + 1 < (n : Int) := by omega
          have p2 : (k : Int) < (n : Int) := by omega
          have p3 : (0 : Int) ≤ (k : Int) + 1 := by omega
          have e0 : ((k : Int) + 1).toNat = k + 1 := by omega
          clear hti hu hv
          go_wp2
          go_region
          all_goals go_wp2
          go_roundg (t - (k + 1))
          case rel => exact ⟨k + 1, by go_num, by omega, by omega, Nat.le_refl _, HSS⟩
          case measure => omega
        · have hkt2 : k = t := by omega
          go_wp2
          go_end0
          refine ⟨rfl, _, HS.out, ?_⟩
          rw [hkt2, ← HTI.out]
          exact HD.out
set_option maxHeartbeats 4000000 in
set_option maxRecDepth 100000 in
theorem sym_last {key : Int → Int} {g cap n cf : Nat} {lb : Array Value} {pre post : List Value} {W0 : World} (eg : Enters cf) (hC : Cmp g W0 cf lb key) (a m b : Nat) (l : List Int) (w : World)
    (hI : SI g pre post W0 w l) (hl : l.length = n) (hn : n ≤ 16777216) (ham : a + 1 < m) (hmb : b = m + 1) (hb : b ≤ n) (hS : Srt key a m l) :
    Calls Tryz.prog 158 #[.slice (some ⟨g, pre.length, none⟩) n cap, .int .i64 a, .int .i64 m, .int .i64 b, .func (.func cf) #[] lb] w fun e w' => SymOut key g pre post W0 a b l e w' := by
  have HC := Lib.hid hC
  have HI := Lib.hid hI
  have HS0 := Lib.hid hS
  have f0 : IntKind.i64.wrap ((m : Int) - (a : Int)) = ((m - a : Nat) : Int) := (IntWalk.i64_in _ (by omega)).trans (by omega)
  have f2 : (((m - a : Nat) : Int) == 1) = false := beq_eq_false_iff_ne.2 (by omega)
  have f1 : IntKind.i64.wrap ((b : Int) - (m : Int)) = 1 := (IntWalk.i64_in _ (by omega)).trans (by omega)
  obtain ⟨x, hx⟩ := get_of (l := l) (i := m) (by omega)
  have HX := Lib.hid hx
  have HB := Lib.hid hmb
  have hmn : m < n := by omega
  obtain ⟨d, hd⟩ : ∃ d, d = m - a := ⟨_, rfl⟩
  rw [← hd] at f0 f2
  clear hC hI hS hx hmb hd
  go_enter Tryz.func158, Tryz.ntmps158
  go_wp2
  clear f0 f1 f2
  go_loopg [14, 15] m (fun gk vi vj wr => ∃ (i j : Nat), vi = .int .i64 i ∧ vj = .int .i64 j ∧ a ≤ i ∧ i ≤ j ∧ j ≤ m ∧ j - i ≤ gk ∧ Hid (SI g pre post W0 wr l) ∧ Hid (a < i → ∃ y, l[i - 1]? = some y ∧ ¬ key x < key y) ∧ Hid (j < m → ∃ y, l[j]? = some y ∧ key x < key y))
  case atStart => exact ⟨a, m, rfl, rfl, Nat.le_refl _, by omega, Nat.le_refl _, by omega, HI, Lib.hid (fun h => by omega), Lib.hid (fun h => by omega)⟩
  case round =>
    obtain ⟨i, j, rfl, rfl, hmi, hij, hjb, hg1, HS, HLo, HHi⟩ := hrel
    by_cases hlt : i < j
    · obtain ⟨h, hh⟩ : ∃ h, h = (i + j) / 2 := ⟨_, rfl⟩
      have hzz : ((i : Int) + (j : Int)) / 2 = (h : Int) := by omega
      have hih : i ≤ h := by omega
      have hhj : h < j := by omega
      obtain ⟨y, hy⟩ := get_of (l := l) (i := h) (by omega)
      have cy := HS.out.row.cell hy
      have cx := HS.out.row.cell HX.out
      have hltz : (i : Int) < (j : Int) := by omega
      have p1 : (m : Int) < (n : Int) := by omega
      have p2 : (h : Int) < (n : Int) := by omega
      have p3 : (0 : Int) ≤ (h : Int) := by omega
      have HY := Lib.hid hy
      have HCC := Lib.hid (fun (W : World) (hW : Kp g W0 W) => HC.out x y W hW)
      have KP := Lib.hid HS.out.kp
      obtain ⟨z, hz⟩ : ∃ z, key x - key y = z := ⟨_, rfl⟩
      rw [hz] at HCC
      have HZ := Lib.hid hz
      clear hy hz hh
      obtain ⟨tb, htb⟩ : ∃ tb, decide (z < 0) = tb := ⟨_, rfl⟩
      have HTB := Lib.hid htb
      cases tb
      all_goals
        go_wp2
        go_region_held3 (fun w' => w'.cell? ⟨g, pre.length + h, none⟩ = some (.int .i32 y) ∧ w'.cell? ⟨g, pre.length + m, none⟩ = some (.int .i32 x)) (go_keep) ((go_at_fn cf; refine (HCC.out _ (by first | exact KP.out | exact KP.out.drew | exact KP.out.drewN _)).mono ?_; rintro e w3 ⟨rfl, hb3⟩; have cy := later_cell hb3 cy; have cx := later_cell hb3 cx))
        have HS3 := Lib.hid (HS.out.drew.later hb3)
        clear hb3
        go_wp2
      · go_roundg (j - (h + 1))
        case rel => exact ⟨h + 1, j, by go_num, rfl, by omega, by omega, by omega, Nat.le_refl _, HS3, Lib.hid (fun _ => ⟨y, HY.out, by have := HZ.out; have := of_decide_eq_false HTB.out; omega⟩), HHi⟩
        case measure => omega
      · go_roundg (h - i)
        case rel => exact ⟨i, h, rfl, rfl, by omega, by omega, by omega, Nat.le_refl _, HS3, HLo, Lib.hid (fun _ => ⟨y, HY.out, by have := HZ.out; have := of_decide_eq_true HTB.out; omega⟩)⟩
        case measure => omega
    · obtain rfl : i = j := by omega
      have HD := Lib.hid (last_done HX.out hmi hjb (by omega) HS0.out HLo.out HHi.out)
      have HT0 : Hid (turn m m (m + 1) l = l) := Lib.hid (turn_same (by omega) (by omega) (by omega) (.inl rfl))
      clear HLo HHi hlt hij hg1
      have HLT := Lib.hid (fun (k : Nat) (hk : k ≤ m) => show (turn k m (m + 1) l).length = n by rw [turn_length hk (by omega) (by omega), hl])
      go_wp2
      go_loopg [17] m (fun gk vk wr => ∃ (k : Nat), vk = .int .i64 k ∧ i ≤ k ∧ k ≤ m ∧ k ≤ gk ∧ Hid (SI g pre post W0 wr (turn k m (m + 1) l)))
      case atStart => exact ⟨m, rfl, hjb, Nat.le_refl _, Nat.le_refl _, by rw [HT0.out]; exact HS⟩
      case round =>
        obtain ⟨k, rfl, hak, hkt, hg1, HS⟩ := hrel
        by_cases hlt : i < k
        · obtain ⟨kp, rfl⟩ : ∃ kp, k = kp + 1 := ⟨k - 1, by omega⟩
          have hll := HLT.out (kp + 1) hkt
          obtain ⟨u, hu⟩ := get_of (l := turn (kp + 1) m (m + 1) l) (i := kp) (by omega)
          obtain ⟨v, hv⟩ := get_of (l := turn (kp + 1) m (m + 1) l) (i := kp + 1) (by omega)
          have cu := HS.out.row.cell hu
          have cv := HS.out.row.cell hv
          have fu := HS.out.row.open (pre.length + kp)
          have fv := HS.out.row.open (pre.length + (kp + 1))
          have HSS := HS.out.swap1 (i := kp) (by omega) u v
          rw [last_step hkt (by omega) hu hv] at HSS
          have HSS := Lib.hid HSS
          have hltz : (i : Int) < (kp : Int) + 1 := by omega
          have p1 : (kp : Int) + 1 < (n : Int) := by omega
          have p2 : (kp : Int) < (n : Int) := by omega
          have p3 : (0 : Int) ≤ (kp : Int) + 1 := by omega
          have p4 : (0 : Int) ≤ (kp : Int) := by omega
          have e0 : ((kp : Int) + 1).toNat = kp + 1 := by omega
          have hwp : IntKind.i64.wrap ((kp : Int) + 1 - 1) = (kp : Int) := (IntWalk.i64_in _ (by omega)).trans (by omega)
          have hwq : IntKind.i64.wrap (kp : Int) = (kp : Int) := IntWalk.i64_in _ (by omega)
          clear hu hv
          go_wp2
          go_region
          all_goals go_wp2
          go_roundg kp
          case rel => exact ⟨kp, rfl, by omega, by omega, Nat.le_refl _, HSS⟩
          case measure => omega
        · have hkt2 : k = i := by omega
          have hltz : ¬ (i : Int) < (k : Int) := by omega
          have HKT := Lib.hid hkt2
          clear hkt2
          go_wp2
          go_end0
          refine ⟨rfl, _, HS.out, ?_⟩
          rw [HKT.out, HB.out]
          exact HD.out
end Go.Proofs.YtikpkjpnehkbfaaGreatDoor.Sb
