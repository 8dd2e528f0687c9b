/- slices.insertionSortCmpFunc at points: the walk. -/
import Derived.Test.YtikpkjpnehkbfaaGreatDoorStabMem
import Derived.Test.YtikpkjpnehkbfaaGreatDoorStabPlain
import Derived.Shelf.Abstract
import Derived.WalkKit
import Derived.Deep.LoopGhost
import Derived.Deep.RegionHeld3
import Derived.BigRegion
import Derived.IntWalk
namespace Go.Proofs.YtikpkjpnehkbfaaGreatDoor.Sb
open Go Go.RowKit Go.Shelf
set_option linter.unusedSimpArgs false
set_option linter.unusedVariables false

theorem later_cell {W W' : World} {a : Addr} {v : Value} (hb : Below W.heap.size W W') (h : W.cell? a = some v) : W'.cell? a = some v := (hb.cell (World.block_lt_of_cell? _ _ h)).trans h
abbrev Enters (f : Nat) : Prop := ∀ args w, (callFunc f args).run Tryz.prog w = .ok (.enter f args) w
set_option maxHeartbeats 4000000 in
set_option maxRecDepth 100000 in
theorem ins_calls {key : Int → Int} {g cap n cf : Nat} {lb : Array Value} {pre post : List Value} {W0 : World} (eg : Enters cf) (hC : Cmp g W0 cf lb key) (hk : ∀ x, 0 ≤ key x ∧ key x ≤ 254) (a b : Nat) (l : List Int) (w : World)
    (hI : SI g pre post W0 w l) (hl : l.length = n) (hn : n ≤ 16777216) (hab : a ≤ b) (hb : b ≤ n) :
    Calls Tryz.prog 157 #[.slice (some ⟨g, pre.length, none⟩) n cap, .int .i64 a, .int .i64 b, .func (.func cf) #[] lb] w fun e w' => e = .returned (.tuple #[]) ∧ ∃ l', SI g pre post W0 w' l' ∧ Mv key a b l l' ∧ Srt key a b l' := by
  have HC := Lib.hid hC
  have HI := Lib.hid hI
  have HK := Lib.hid hk
  clear hC hI hk
  go_enter Tryz.func157, Tryz.ntmps157
  go_wp2
  go_loopg [8] (b - a) (fun g1 vi wr => ∃ (i : Nat) (li : List Int), vi = .int .i64 i ∧ a < i ∧ i ≤ b + 1 ∧ b + 1 - i ≤ g1 + 1 ∧ Hid (SI g pre post W0 wr li) ∧ Hid (Mv key a b l li) ∧ Hid (Srt key a (min i b) li))
  case atStart => exact ⟨a + 1, l, by go_num, by omega, by omega, by omega, HI, Lib.hid (Mv.refl _ _ _ _), Lib.hid (Srt.short key l (by omega))⟩
  case round =>
    obtain ⟨i, li, rfl, hai, hib, hg1, HS, HM, HO⟩ := hrel
    by_cases hlt : i < b
    · have hltz : (i : Int) < (b : Int) := by omega
      obtain ⟨G, rfl⟩ : ∃ G, gk = G + 1 := ⟨gk - 1, by omega⟩
      have HO' : Hid (Srt key a i li) := Lib.hid (by have := HO.out; rwa [Nat.min_eq_left (by omega)] at this)
      go_wp2
      go_loopg [9] i (fun g2 vj wr2 => ∃ (j : Nat) (lj : List Int), vj = .int .i64 j ∧ a ≤ j ∧ j ≤ i ∧ j ≤ g2 ∧ Hid (SI g pre post W0 wr2 lj) ∧ Hid (Mv key a b l lj) ∧ Hid (Ins key a i j lj))
      case atStart => exact ⟨i, li, rfl, by omega, Nat.le_refl _, Nat.le_refl _, HS, HM, Lib.hid (Ins.start HO'.out)⟩
      case round =>
        obtain ⟨j, lj, rfl, haj, hji, hg2, HSj, HMj, HIj⟩ := hrel
        have hjn : j < n := by omega
        by_cases hja : a < j
        · obtain ⟨jp, rfl⟩ : ∃ jp, j = jp + 1 := ⟨j - 1, by omega⟩
          have hll : lj.length = n := by rw [HMj.out.len, hl]
          obtain ⟨y, hy⟩ := get_of (l := lj) (i := jp + 1) (by omega)
          obtain ⟨x, hx⟩ := get_of (l := lj) (i := jp) (by omega)
          have cy := HSj.out.row.cell hy
          have cx := HSj.out.row.cell hx
          have fy := HSj.out.row.open (pre.length + (jp + 1))
          have fx := HSj.out.row.open (pre.length + jp)
          have hjaz : (a : Int) < (jp : Int) + 1 := by omega
          have hwp : IntKind.i64.wrap ((jp : Int) + 1 - 1) = (jp : Int) := (IntWalk.i64_in _ (by omega)).trans (by omega)
          have hwq : IntKind.i64.wrap (jp : Int) = (jp : Int) := IntWalk.i64_in _ (by omega)
          have p0 : (0 : Int) ≤ (jp : Int) + 1 := by omega
          have p1 : (jp : Int) + 1 < (n : Int) := by omega
          have p2 : (jp : Int) < (n : Int) := by omega
          have p3 : (0 : Int) ≤ (jp : Int) := by omega
          have e0 : ((jp : Int) + 1).toNat = jp + 1 := by omega
          have HX := Lib.hid hx
          have HY := Lib.hid hy
          have HCC := Lib.hid (fun (W : World) (hW : Kp g W0 W) => HC.out y x W hW)
          have KP := Lib.hid HSj.out.kp
          obtain ⟨z, hz⟩ : ∃ z, key y - key x = z := ⟨_, rfl⟩
          rw [hz] at HCC
          have HZ := Lib.hid hz
          clear hx hy hz
          by_cases hlv : z < 0
          · go_wp2
            go_region_held3 (fun w' => w'.cell? ⟨g, pre.length + (jp + 1), none⟩ = some (.int .i32 y) ∧ w'.cell? ⟨g, pre.length + jp, none⟩ = some (.int .i32 x)) (go_keep) ((go_at_fn cf; refine (HCC.out _ (by first | exact KP.out | exact KP.out.drew | exact KP.out.drewN _)).mono ?_; rintro e w3 ⟨rfl, hb3⟩; have cy := later_cell hb3 cy; have cx := later_cell hb3 cx))
            have HS3 := Lib.hid (HSj.out.drew.later hb3)
            have fy := HS3.out.row.open (pre.length + (jp + 1))
            have fx := HS3.out.row.open (pre.length + jp)
            clear hb3
            go_wp2
            go_region
            all_goals go_wp2
            have HS4 := Lib.hid (HS3.out.swap1 (by rw [hll]; omega) x y)
            go_roundg jp
            case rel => exact ⟨jp, _, rfl, by omega, by omega, Nat.le_refl _, HS4, Lib.hid (HMj.out.trans (Mv.swap HX.out HY.out (by omega) (by omega) (by have := HZ.out; omega))), Lib.hid (HIj.out.step (by omega) (by omega) (by omega) HX.out HY.out (by have := HZ.out; omega))⟩
            case measure => omega
          · have HD : Hid (Srt key a (i + 1) lj) := Lib.hid (HIj.out.done (by omega) hji (.inr ⟨y, x, HY.out, HX.out, by have := HZ.out; omega⟩))
            go_wp2
            go_region_held3 (fun w' => w'.cell? ⟨g, pre.length + (jp + 1), none⟩ = some (.int .i32 y) ∧ w'.cell? ⟨g, pre.length + jp, none⟩ = some (.int .i32 x)) (go_keep) ((go_at_fn cf; refine (HCC.out _ (by first | exact KP.out | exact KP.out.drew | exact KP.out.drewN _)).mono ?_; rintro e w3 ⟨rfl, hb3⟩; have cy := later_cell hb3 cy; have cx := later_cell hb3 cx))
            have HS3 := Lib.hid (HSj.out.drew.later hb3)
            clear hb3
            go_wp2
            go_roundg G
            case rel => exact ⟨i + 1, lj, by go_num, by omega, by omega, by omega, HS3, HMj, Lib.hid (by rw [Nat.min_eq_left (by omega)]; exact HD.out)⟩
            case measure => omega
        · have HD : Hid (Srt key a (i + 1) lj) := Lib.hid (HIj.out.done haj hji (.inl (by omega)))
          have hjaz : ¬ (a : Int) < (j : Int) := by omega
          go_wp2
          go_region
          go_wp2
          go_roundg G
          case rel => exact ⟨i + 1, lj, by go_num, by omega, by omega, by omega, by first | exact HSj | exact Lib.hid HSj.out.drew, HMj, Lib.hid (by rw [Nat.min_eq_left (by omega)]; exact HD.out)⟩
          case measure => omega
    · go_wp2
      go_end0
      exact ⟨rfl, li, HS.out, HM.out, by have := HO.out; rwa [Nat.min_eq_right (by omega)] at this⟩
end Go.Proofs.YtikpkjpnehkbfaaGreatDoor.Sb
