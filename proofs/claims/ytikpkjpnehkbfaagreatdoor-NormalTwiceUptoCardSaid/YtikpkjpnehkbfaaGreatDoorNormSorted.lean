/- Is a row in order: the walk. -/
import Derived.Test.YtikpkjpnehkbfaaGreatDoorNormAt
import Derived.Deep.RegionHeld3
import Derived.Deep.DeepCutAuto
namespace Go.Proofs.YtikpkjpnehkbfaaGreatDoor.Nw
open Go Go.RowKit Go.Shelf Go.Proofs.YtikpkjpnehkbfaaGreatDoor.Sp Go.Proofs.YtikpkjpnehkbfaaGreatDoor.Pr Go.Proofs.YtikpkjpnehkbfaaGreatDoor.Rf Go.Proofs.YtikpkjpnehkbfaaGreatDoor.Nm Go.Proofs.YtikpkjpnehkbfaaGreatDoor.Sb
set_option linter.unusedSimpArgs false
set_option linter.unusedVariables false

set_option maxHeartbeats 4000000 in
set_option maxRecDepth 100000 in
theorem ordered_calls {w : World} {p : Nat} {D : PD} (H : PropsAt w.heap.size w p D) (hg : Nm.Good D) {l : List Int} (hs : Srtd D l) {W : World} {lv : Value} (hb : Below w.heap.size w W) (hr : ReadPts W lv l) (hl : l.length ≤ 1073741824) :
    Calls Tryz.prog 32 #[.pointer (some ⟨p, 0, none⟩), lv] W fun e W' => e = .returned (.bool true) ∧ Below W.heap.size W W' := by
  obtain ⟨A, c, rfl, hc⟩ := read_addr hr
  have HC := Lib.hid hc
  have HB := Lib.hid hb
  have HS := Lib.hid hs
  have HCL := Lib.hid (fun (x : Int) => classAt (r := x) H rfl)
  have HCB := Lib.hid hg.cls
  obtain ⟨n, hn⟩ : ∃ n, l.length = n := ⟨_, rfl⟩
  have HN := Lib.hid hn
  have HP := Lib.hid H
  rw [hn] at hl ⊢
  clear hc hb hr hn hs
  go_enter Tryz.func32, Tryz.ntmps32
  go_wp2
  go_loopg [5] n (fun gk vi wr => ∃ (i : Nat), vi = .int .i64 i ∧ i ≤ n ∧ n - i ≤ gk ∧ Hid (Below W.heap.size W wr))
  case atStart => exact ⟨0, rfl, Nat.zero_le _, by omega, Lib.hid (Below.refl _ _)⟩
  case round =>
    obtain ⟨i, rfl, hi, hg1, HI⟩ := hrel
    by_cases hlt : i < n
    · have hz : (i : Int) < (n : Int) := by omega
      obtain ⟨x, hx⟩ : ∃ x, l[i]? = some x := ⟨_, List.getElem?_eq_getElem (by rw [HN.out]; exact hlt)⟩
      obtain ⟨b, off, rfl, cx0⟩ := HC.out i x hx
      have cx := Sb.later_cell HI.out cx0
      have HC1 := Lib.hid (HCL.out x)
      have HD1 := Lib.hid (decompAt HP.out (HS.out i x hx).1)
      have hcx := HCB.out x
      have HBW := Lib.hid (bl_then HB.out HI.out)
      obtain ⟨cz, hcz⟩ : ∃ cz, classOf D x = cz := ⟨_, rfl⟩
      rw [hcz] at HC1 hcx
      by_cases h0 : i = 0
      · subst h0
        rw [Nat.add_zero] at cx
        clear cx0 hx hcz
        go_wp2_with (first
          | (go_at_call 55; (with_reducible refine (HC1.out _ HBW.out).mono ?_); rintro e w2 ⟨rfl, hb2⟩; have cx2 := Sb.later_cell hb2 cx; have HB2 := Lib.hid (bl_then HI.out hb2); clear hb2)
          | (go_at_call 74; (with_reducible refine (HD1.out _ (bl_then HB.out HB2.out)).mono ?_); rintro e w3 ⟨A3, C3, rfl, R3, hb3⟩; have HB3 := Lib.hid (bl_then HB2.out hb3); clear hb3 R3))
        go_roundg (n - 1)
        case rel => exact ⟨1, by go_num, by omega, by omega, HB3⟩
        case measure => omega
      · obtain ⟨j, rfl⟩ : ∃ j, i = j + 1 := ⟨i - 1, by omega⟩
        obtain ⟨y, hy⟩ : ∃ y, l[j]? = some y := ⟨_, List.getElem?_eq_getElem (by rw [HN.out]; omega)⟩
        have hyc := (HS.out (j + 1) x hx).2 y (by omega) (by simpa using hy)
        rw [hcz] at hyc
        obtain ⟨b', off', hbe, cy0⟩ := HC.out j y hy
        injection hbe with hbe
        injection hbe with hb1 hb2
        subst hb1
        subst hb2
        have cy := Sb.later_cell HI.out cy0
        have HC2 := Lib.hid (HCL.out y)
        obtain ⟨cw, hcw⟩ : ∃ cw, classOf D y = cw := ⟨_, rfl⟩
        rw [hcw] at HC2 hyc
        have hj0 : (0 : Int) < (j : Int) + 1 := by omega
        have hjn : (j : Int) < (n : Int) := by omega
        clear cx0 cy0 hx hy hcz hcw h0
        by_cases hc0 : 0 < cz
        · have hle := hyc hc0
          have hnl : ¬ cz < cw := by omega
          clear hyc hle
          go_wp2_with (first
            | (go_at_call 55; (with_reducible refine (HC1.out _ HBW.out).mono ?_); rintro e w2 ⟨rfl, hb2⟩; have cx2 := Sb.later_cell hb2 cx; have cy2 := Sb.later_cell hb2 cy; have HB2 := Lib.hid (bl_then HI.out hb2); clear hb2 HBW)
            | (go_at_call 74; (with_reducible refine (HD1.out _ (bl_then HB.out HB2.out)).mono ?_); rintro e w3 ⟨A3, C3, rfl, R3, hb3⟩; have cy3 := Sb.later_cell hb3 cy2; have HB3 := Lib.hid (bl_then HB2.out hb3); clear hb3 R3)
            | (go_at_call 55; (with_reducible refine (HC2.out _ (bl_then HB.out HB3.out)).mono ?_); rintro e w4 ⟨rfl, hb4⟩; have HB4 := Lib.hid (bl_then HB3.out hb4); clear hb4))
          go_roundg (n - (j + 1 + 1))
          case rel => exact ⟨j + 1 + 1, by go_num, by omega, by omega, HB4⟩
          case measure => omega
        · clear hyc
          go_wp2_with (first
            | (go_at_call 55; (with_reducible refine (HC1.out _ HBW.out).mono ?_); rintro e w2 ⟨rfl, hb2⟩; have cx2 := Sb.later_cell hb2 cx; have HB2 := Lib.hid (bl_then HI.out hb2); clear hb2 HBW)
            | (go_at_call 74; (with_reducible refine (HD1.out _ (bl_then HB.out HB2.out)).mono ?_); rintro e w3 ⟨A3, C3, rfl, R3, hb3⟩; have HB3 := Lib.hid (bl_then HB2.out hb3); clear hb3 R3))
          go_roundg (n - (j + 1 + 1))
          case rel => exact ⟨j + 1 + 1, by go_num, by omega, by omega, HB3⟩
          case measure => omega
    · have hz : ¬ (i : Int) < (n : Int) := by omega
      go_wp2
      go_ret
      exact ⟨rfl, HI.out⟩
abbrev OrdAt (w : World) (p : Nat) (l : List Int) : Prop := ∀ W lv, Below w.heap.size w W → ReadPts W lv l → Calls Tryz.prog 32 #[.pointer (some ⟨p, 0, none⟩), lv] W fun e W' => e = .returned (.bool true) ∧ Below W.heap.size W W'
theorem ordAt {w : World} {p : Nat} {D : PD} (H : PropsAt w.heap.size w p D) (hg : Nm.Good D) {l : List Int} (hs : Srtd D l) (hl : l.length ≤ 1073741824) : OrdAt w p l := fun W lv hb hr => ordered_calls H hg hs hb hr hl
end Go.Proofs.YtikpkjpnehkbfaaGreatDoor.Nw
