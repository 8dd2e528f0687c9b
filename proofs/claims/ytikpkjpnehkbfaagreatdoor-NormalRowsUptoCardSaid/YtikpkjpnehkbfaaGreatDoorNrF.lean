/- slices.stableCmpFunc and SortStableFunc at points: the walks; normal.order, Decompose: the walks; normal.Decompose: the walk; normal.Cut; New, End: the walks; normal.Stream.Write: what is settled, point by point; a row that is read, appended; normal.Stream.Write: the walk; normal.Compose: the walk; What the laws of chapter 7 call, at worlds behind a given one. -/
import Derived.Test.YtikpkjpnehkbfaaGreatDoorNrStabMerge
import Derived.Test.YtikpkjpnehkbfaaGreatDoorNrE
import Derived.Test.YtikpkjpnehkbfaaGreatDoorNrD
import Derived.RangeFuncBox
import Derived.Deep.RegionHeld3
import Derived.Deep.Upon
import Derived.Test.YtikpkjpnehkbfaaGreatDoorNrBTell
set_option linter.unusedSimpArgs false
set_option linter.unusedVariables false
namespace Go.Proofs.YtikpkjpnehkbfaaGreatDoor.Sb
open Go Go.RowKit Go.Shelf
theorem ins_none (v cv : Value) (w : World) : Calls Tryz.prog 157 #[v, .int .i64 0, .int .i64 0, cv] w fun e w' => e = .returned (.tuple #[]) ∧ Below w.heap.size w w' := by
  go_enter Tryz.func157, Tryz.ntmps157
  go_wp2
  refine wp_loop_rounds 1 ?_
  rw [rounds_succ]
  go_wp2
  go_end0
  exact ⟨rfl, Below.refl _ _⟩
set_option maxHeartbeats 1000000 in
theorem stable_none (v cv : Value) (w : World) : Calls Tryz.prog 132 #[v, .int .i64 0, cv] w fun e w' => e = .returned (.tuple #[]) ∧ Below w.heap.size w w' := by
  go_enter Tryz.func132, Tryz.ntmps132
  go_wp2
  refine wp_loop_rounds 1 ?_
  rw [rounds_succ]
  go_wp2_with (go_at_call 157; refine (ins_none _ _ _).mono ?_; rintro e w1 ⟨rfl, hb⟩)
  refine wp_loop_rounds 1 ?_
  rw [rounds_succ]
  go_wp2
  go_end0
  exact ⟨rfl, hb⟩
set_option maxHeartbeats 8000000 in
set_option maxRecDepth 100000 in
theorem stable_calls {key : Int → Int} {g cap n cf : Nat} {lb : Array Value} {pre post : List Value} {W0 : World} (eg : Enters cf) (hC : Cmp g W0 cf lb key) (hk : ∀ x, 0 ≤ key x ∧ key x ≤ 254) (l : List Int) (w : World)
    (hI : SI g pre post W0 w l) (hl : l.length = n) (hn : n ≤ 16777216) :
    Calls Tryz.prog 132 #[.slice (some ⟨g, pre.length, none⟩) n cap, .int .i64 n, .func (.func cf) #[] lb] w fun e w' => SymOut key g pre post W0 0 n l e w' := by
  have HI := Lib.hid hI
  have HL := Lib.hid hl
  have HINS := Lib.hid (fun (a b : Nat) (li : List Int) (W : World) (hW : SI g pre post W0 W li) (h1 : li.length = n) (h2 : a ≤ b) (h3 : b ≤ n) => ins_calls (cap := cap) eg hC hk a b li W hW h1 hn h2 h3)
  have HSYM := Lib.hid (fun (a m b : Nat) (li : List Int) (W : World) (hW : SI g pre post W0 W li) (h1 : li.length = n) (h2 : a < m) (h3 : m < b) (h4 : b ≤ n) (h5 : Srt key a m li) (h6 : Srt key m b li) => sym_calls (cap := cap) eg hC hn (b - a + 1) a m b li W (by omega) hW h1 h2 h3 h4 h5 h6)
  clear hC hk hI hl
  go_enter Tryz.func132, Tryz.ntmps132
  go_wp2
  go_loopg [7, 8] n (fun gk va vb wr => ∃ (a b : Nat) (li : List Int), va = .int .i64 a ∧ vb = .int .i64 b ∧ Hid (b = a + 20) ∧ a ≤ n ∧ n - a ≤ gk ∧ Hid (SI g pre post W0 wr li) ∧ Hid (Mv key 0 n l li) ∧ Hid (Ahd key 20 a li))
  case atStart => exact ⟨0, 20, l, rfl, rfl, Lib.hid rfl, Nat.zero_le _, by omega, HI, Lib.hid (Mv.refl _ _ _ _), Lib.hid (Ahd.zero _ _ _)⟩
  case round =>
    obtain ⟨a, b, li, rfl, rfl, HB, han, hg1, HS, HM, HA⟩ := hrel
    have HLI : Hid (li.length = n) := Lib.hid (by rw [HM.out.len, HL.out])
    by_cases hlt : b ≤ n
    · have hz : (b : Int) ≤ (n : Int) := by omega
      have hbb := HB.out
      have hab : a ≤ b := by omega
      have hab2 : a < b := by omega
      clear hbb
      go_wp2_with (go_at_call 157; refine (HINS.out a b li _ HS.out HLI.out hab hlt).mono ?_; rintro e w2 ⟨rfl, l2, hs, hm, ho⟩; have HS2 := Lib.hid hs; have HM2 := Lib.hid hm; have HO2 := Lib.hid ho; clear hs hm ho)
      go_roundg (n - b)
      case rel => exact ⟨b, b + 20, l2, rfl, by go_num, Lib.hid rfl, hlt, Nat.le_refl _, HS2, Lib.hid (HM.out.trans (HM2.out.wide (Nat.zero_le _) hlt)), Lib.hid (by have h1 := HM2.out; have h2 := HO2.out; rw [HB.out] at h1 h2 ⊢; exact HA.out.step h1 h2 (by omega))⟩
      case measure => omega
    · have hz : ¬ (b : Int) ≤ (n : Int) := by omega
      have hbn : Hid (n < a + 20) := Lib.hid (by have := HB.out; omega)
      go_wp2_with (go_at_call 157; refine (HINS.out a n li _ HS.out HLI.out han (Nat.le_refl _)).mono ?_; rintro e w2 ⟨rfl, l2, hs, hm, ho⟩; have HS2 := Lib.hid hs; have HM2 := Lib.hid (HM.out.trans (hm.wide (Nat.zero_le _) (Nat.le_refl _))); have HT2 := Lib.hid (HA.out.done hm ho hbn.out han); clear hs hm ho)
      clear HS HM HA HB hlt hz hg1 hbn HLI
      go_loopg [6, 7, 8, 9] n (fun gk v6 v7 v8 v9 wr => ∃ (bs : Nat) (li : List Int), v6 = .int .i64 bs ∧ 0 < bs ∧ bs ≤ 33554432 ∧ n - bs ≤ gk ∧ Hid (SI g pre post W0 wr li) ∧ Hid (Mv key 0 n l li) ∧ Hid (Tl key bs 0 n li))
      case atStart => exact ⟨20, l2, rfl, by omega, by omega, by omega, HS2, HM2, HT2⟩
      case round =>
        obtain ⟨bs, li, rfl, hb0, hb1, hg1, HS, HM, HT⟩ := hrel
        by_cases hlt : bs < n
        · have hz : (bs : Int) < (n : Int) := by omega
          obtain ⟨d, hd⟩ : ∃ d, d = 2 * bs := ⟨_, rfl⟩
          have e1 : IntKind.i64.wrap ((2 : Int) * (bs : Int)) = (d : Int) := (IntWalk.i64_in _ (by omega)).trans (by omega)
          have e2 : IntKind.i64.wrap (d : Int) = (d : Int) := IntWalk.i64_in _ (by omega)
          have e3 : IntKind.i64.wrap ((bs : Int) * (2 : Int)) = (d : Int) := (IntWalk.i64_in _ (by omega)).trans (by omega)
          have hd1 : d ≤ 67108864 := by omega
          have hdb : bs < d := by omega
          have HD := Lib.hid hd
          clear hd
          go_wp2
          go_loopg [7, 8] n (fun gk va vb wr => ∃ (a b : Nat) (li : List Int), va = .int .i64 a ∧ vb = .int .i64 b ∧ Hid (b = a + d) ∧ a ≤ n ∧ n - a ≤ gk ∧ b ≤ n + 67108864 ∧ Hid (SI g pre post W0 wr li) ∧ Hid (Mv key 0 n l li) ∧ Hid (Ahd key d a li) ∧ Hid (Tl key bs a n li))
          case atStart => exact ⟨0, d, li, rfl, rfl, Lib.hid (by omega), Nat.zero_le _, by omega, by omega, HS, HM, Lib.hid (Ahd.zero _ _ _), HT⟩
          case round =>
            clear HS HM HT
            obtain ⟨a, b, li, rfl, rfl, HB, han, hg1, hbn, HS, HM, HA, HT⟩ := hrel
            have HLI : Hid (li.length = n) := Lib.hid (by rw [HM.out.len, HL.out])
            have HDV : Hid (bs ∣ a) := Lib.hid (dvd_two (by have := HA.out.1; rwa [HD.out] at this))
            obtain ⟨m, hm⟩ : ∃ m, m = a + bs := ⟨_, rfl⟩
            have f1 : IntKind.i64.wrap ((a : Int) + (bs : Int)) = (m : Int) := (IntWalk.i64_in _ (by omega)).trans (by omega)
            have f2 : IntKind.i64.wrap (m : Int) = (m : Int) := IntWalk.i64_in _ (by omega)
            have HMM := Lib.hid hm
            have hbb := HB.out
            have ham : a < m := by omega
            have hmb : m < b := by omega
            clear hm hbb
            by_cases hlt2 : b ≤ n
            · have hz2 : (b : Int) ≤ (n : Int) := by omega
              have HP : Hid (Srt key a m li ∧ Srt key m b li) := Lib.hid (by
                have := HT.out.pair HDV.out (by have := HB.out; have := HD.out; omega)
                rw [← HMM.out, ← HD.out, ← HB.out] at this
                exact this)
              obtain ⟨b2, hb2⟩ : ∃ b2, b2 = b + d := ⟨_, rfl⟩
              have f3 : IntKind.i64.wrap ((b : Int) + (d : Int)) = (b2 : Int) := (IntWalk.i64_in _ (by omega)).trans (by omega)
              have f4 : IntKind.i64.wrap (b2 : Int) = (b2 : Int) := IntWalk.i64_in _ (by omega)
              have hb2n : b2 ≤ n + 67108864 := by omega
              have HB2 := Lib.hid hb2
              clear hb2
              go_wp2_with (go_at_call 158; refine (HSYM.out a m b li _ HS.out HLI.out ham hmb hlt2 HP.out.1 HP.out.2).mono ?_; rintro e w3 ⟨rfl, l3, hs, hm, ho⟩; have HS3 := Lib.hid hs; have HM3 := Lib.hid hm; have HO3 := Lib.hid ho; clear hs hm ho)
              go_roundg (n - b)
              case rel => exact ⟨b, b2, l3, rfl, rfl, HB2, hlt2, Nat.le_refl _, hb2n, HS3, Lib.hid (HM.out.trans (HM3.out.wide (Nat.zero_le _) hlt2)), Lib.hid (by have h1 := HM3.out; have h2 := HO3.out; rw [HB.out] at h1 h2 ⊢; exact HA.out.step h1 h2 (by omega)), Lib.hid (HT.out.on (by omega) (Nat.le_refl _) HM3.out)⟩
              case measure => omega
            · have hz2 : ¬ (b : Int) ≤ (n : Int) := by omega
              have hna : Hid (n < a + d) := Lib.hid (by have := HB.out; omega)
              by_cases hmn : m < n
              · have hz3 : (m : Int) < (n : Int) := by omega
                have HP : Hid (Srt key a m li ∧ Srt key m n li) := Lib.hid (by
                  have := HT.out.last HDV.out (by have := hna.out; have := HD.out; omega) (by have := HMM.out; omega)
                  rw [← HMM.out] at this
                  exact this)
                go_wp2_with (go_at_call 158; refine (HSYM.out a m n li _ HS.out HLI.out ham hmn (Nat.le_refl _) HP.out.1 HP.out.2).mono ?_; rintro e w3 ⟨rfl, l3, hs, hm, ho⟩; have HS3 := Lib.hid hs; have HM3 := Lib.hid hm; have HO3 := Lib.hid ho; clear hs hm ho)
                go_roundg (n - d)
                case rel => exact ⟨d, l3, rfl, by omega, by have := HD.out; omega, Nat.le_refl _, HS3, Lib.hid (HM.out.trans (HM3.out.wide (Nat.zero_le _) (Nat.le_refl _))), Lib.hid (HA.out.done HM3.out HO3.out hna.out han)⟩
                case measure => omega
              · have hz3 : ¬ (m : Int) < (n : Int) := by omega
                have HSi := Lib.hid (HT.out.single HDV.out (by have := HMM.out; omega))
                go_wp2
                go_roundg (n - d)
                case rel => exact ⟨d, li, rfl, by omega, by have := HD.out; omega, Nat.le_refl _, HS, HM, Lib.hid (HA.out.done (Mv.refl _ _ _ _) HSi.out hna.out han)⟩
                case measure => omega
        · have hz : ¬ (bs : Int) < (n : Int) := by omega
          have HF := Lib.hid (HT.out.full (by omega))
          go_wp2
          go_end0
          exact ⟨rfl, li, HS.out, HM.out, HF.out⟩
theorem sort_none (A : Option Addr) (c : Nat) (cv : Value) (w : World) : Calls Tryz.prog 94 #[.slice A 0 c, cv] w fun e w' => e = .returned (.tuple #[]) ∧ Below w.heap.size w w' := by
  go_enter Tryz.func94, Tryz.ntmps94
  go_wp2_with (go_at_call 132; refine (stable_none _ _ _).mono ?_; rintro e w1 ⟨rfl, hb⟩)
  go_end0
  exact ⟨rfl, hb⟩
theorem sort_calls {key : Int → Int} {g cap n cf : Nat} {lb : Array Value} {pre post : List Value} {W0 : World} (eg : Enters cf) (hC : Cmp g W0 cf lb key) (hk : ∀ x, 0 ≤ key x ∧ key x ≤ 254) (l : List Int) (w : World)
    (hI : SI g pre post W0 w l) (hl : l.length = n) (hn : n ≤ 16777216) :
    Calls Tryz.prog 94 #[.slice (some ⟨g, pre.length, none⟩) n cap, .func (.func cf) #[] lb] w fun e w' => SymOut key g pre post W0 0 n l e w' := by
  have HS := Lib.hid (stable_calls (cap := cap) eg hC hk l w hI hl hn)
  clear eg hC hk hI hl
  go_enter Tryz.func94, Tryz.ntmps94
  go_wp2_with (go_at_call 132; refine HS.out.mono ?_; rintro e w1 ⟨rfl, l2, hs⟩)
  go_end0
  exact ⟨rfl, l2, hs⟩
end Go.Proofs.YtikpkjpnehkbfaaGreatDoor.Sb
namespace Go.Proofs.YtikpkjpnehkbfaaGreatDoor.Nw
open Go Go.RowKit Go.Shelf Go.Proofs.YtikpkjpnehkbfaaGreatDoor.Sp Go.Proofs.YtikpkjpnehkbfaaGreatDoor.Pr Go.Proofs.YtikpkjpnehkbfaaGreatDoor.Rf Go.Proofs.YtikpkjpnehkbfaaGreatDoor.Nm Go.Proofs.YtikpkjpnehkbfaaGreatDoor.Sb
theorem bl_drewN {B : Nat} {a w : World} (h : Below B a w) (n : Nat) : Below B a (w.drewN n) := ⟨h.os, h.tape, h.output, h.size, h.block⟩
theorem bl_then {w W W' : World} (h : Below w.heap.size w W) (hb : Below W.heap.size W W') : Below w.heap.size w W' := h.trans (hb.mono h.size)
set_option maxHeartbeats 4000000 in
set_option maxRecDepth 100000 in
theorem cmp_order {w0 : World} {p : Nat} {D : PD} (H : PropsAt w0.heap.size w0 p D) (hgood : Nm.Good D) {g B : Nat} {W0 : World} (h0 : Below w0.heap.size w0 W0) (hg : w0.heap.size ≤ g) (hB : Boxed W0 B 23 (.pointer (some ⟨p, 0, none⟩))) (hne : B ≠ g) :
    Cmp g W0 93 #[.pointer (some ⟨B, 0, none⟩)] (classOf D) := fun x y W hW => by
  have hbw : Below w0.heap.size w0 W := h0.trans (hW.below hg h0.size)
  have hbx : Boxed W B 23 (.pointer (some ⟨p, 0, none⟩)) := (hW.block B hB.lt hne).trans hB
  have cb := hbx.cell
  have hbl : Below W.heap.size W W := Below.refl _ W
  have HA := Lib.hid (classAt (r := x) H rfl)
  have HY := Lib.hid (classAt (r := y) H rfl)
  have h1 := hgood.cls x
  have h2 := hgood.cls y
  generalize classOf D x = cx at *
  generalize classOf D y = cy at *
  obtain ⟨z, hz⟩ : ∃ z, cx - cy = z := ⟨_, rfl⟩
  have e1 : IntKind.i64.wrap (cx - cy) = z := (IntWalk.i64_in _ (by omega)).trans (by omega)
  have HZ := Lib.hid hz
  clear hz h1 h2 hB hW h0 hbx
  show Calls _ _ #[.int .i32 x, .int .i32 y, .pointer (some ⟨B, 0, none⟩)] _ _
  go_enter Tryz.func93, Tryz.ntmps93
  go_wp2
  go_region_held3 (fun w' => w'.cell? ⟨B, 0, none⟩ = some (.pointer (some ⟨p, 0, none⟩))) (go_keep) (first
    | ((go_at_call 55; (with_reducible refine (HA.out _ (by first | exact hbw | exact hbw.drew | exact bl_drewN hbw _)).mono ?_); rintro e w3 ⟨rfl, hb3⟩; have cb := Sb.later_cell hb3 cb; have hbw : Below w0.heap.size w0 w3 := bl_then (by first | exact hbw | exact hbw.drew | exact bl_drewN hbw _) hb3; have hbl : Below W.heap.size W w3 := bl_then (by first | exact hbl | exact hbl.drew | exact bl_drewN hbl _) hb3; clear hb3))
    | ((go_at_call 55; (with_reducible refine (HY.out _ (by first | exact hbw | exact hbw.drew | exact bl_drewN hbw _)).mono ?_); rintro e w4 ⟨rfl, hb4⟩; have cb := Sb.later_cell hb4 cb; have hbw : Below w0.heap.size w0 w4 := bl_then (by first | exact hbw | exact hbw.drew | exact bl_drewN hbw _) hb4; have hbl : Below W.heap.size W w4 := bl_then (by first | exact hbl | exact hbl.drew | exact bl_drewN hbl _) hb4; clear hb4)))
  go_wp2
  go_ret
  exact ⟨by rw [HZ.out]; rfl, hbl⟩
theorem rw_split {g : Nat} {spare : List Value} {W : World} {a s b : List Int} : RW g [] spare W (a ++ (s ++ b)) ↔ RW g (enc a) (enc b ++ spare) W s := by
  unfold RW enc
  simp [List.map_append, List.append_assoc]
theorem seg_sort {key : Int → Int} {g c cf : Nat} {lb : Array Value} {spare : List Value} {W0 : World} (eg : Sb.Enters cf) (hC : Cmp g W0 cf lb key) (hk : ∀ x, 0 ≤ key x ∧ key x ≤ 254) {li : List Int} {W : World} {fr i : Nat}
    (hr : RW g [] spare W li) (hkp : Kp g W0 W) (h1 : fr ≤ i) (h2 : i ≤ li.length) (hn : li.length ≤ 16777216) :
    Calls Tryz.prog 94 #[.slice (some ⟨g, fr, none⟩) (i - fr) c, .func (.func cf) #[] lb] W fun e W' => e = .returned (.tuple #[]) ∧ ∃ s', Mv key 0 (i - fr) (seg li fr i) s' ∧ Srt key 0 (i - fr) s' ∧ RW g [] spare W' (li.take fr ++ (s' ++ li.drop i)) ∧ Kp g W0 W' := by
  obtain ⟨e, l1, l2⟩ := seg_split h1 h2
  have hr' : RW g (enc (li.take fr)) (enc (li.drop i) ++ spare) W (seg li fr i) := by
    rw [← rw_split, ← e]; exact hr
  have hl : (enc (li.take fr)).length = fr := by unfold enc; rw [List.length_map, l1]
  have h := sort_calls (cap := c) (n := i - fr) (pre := enc (li.take fr)) (post := enc (li.drop i) ++ spare) eg hC hk (seg li fr i) W ⟨hr', hkp⟩ l2 (by omega)
  rw [hl] at h
  exact h.mono fun e' W' ⟨a, s', hs, hm, ho⟩ => ⟨a, s', hm, ho, rw_split.2 hs.row, hs.kp⟩
theorem seg_any {key : Int → Int} {g cap cf : Nat} {lb : Array Value} {spare : List Value} {W0 : World} (eg : Sb.Enters cf) (hC : Cmp g W0 cf lb key) (hk : ∀ x, 0 ≤ key x ∧ key x ≤ 254) {li : List Int} {W : World} {fr i : Nat}
    (hr : RW g [] spare W li) (hkp : Kp g W0 W) (h1 : fr ≤ i) (h2 : i ≤ li.length) (hn : li.length ≤ 16777216) (hc : li.length ≤ cap) :
    Calls Tryz.prog 94 #[.slice (if cap = fr then some ⟨g, 0, none⟩ else some ⟨g, fr, none⟩) (i - fr) (cap - fr), .func (.func cf) #[] lb] W fun e W' => e = .returned (.tuple #[]) ∧ ∃ s', Mv key 0 (i - fr) (seg li fr i) s' ∧ Srt key 0 (i - fr) s' ∧ RW g [] spare W' (li.take fr ++ (s' ++ li.drop i)) ∧ Kp g W0 W' := by
  by_cases e : fr = i
  · subst e
    obtain ⟨e, l1, l2⟩ := seg_split h1 h2
    rw [Nat.sub_self]
    refine (sort_none _ _ _ W).mono fun e' W' ⟨a, hb⟩ => ⟨a, seg li fr fr, Mv.refl _ _ _ _, Srt.short key _ (by omega), ?_, hkp.later hb⟩
    rw [← e]
    exact hr.later hb
  · rw [if_neg (by omega)]
    exact seg_sort eg hC hk hr hkp h1 h2 hn
theorem own_split {n₀ : Nat} {W : World} {v : Value} {L : List Int} (h : OwnPts n₀ W v L) : (v = .slice none 0 0 ∧ L = []) ∨ ∃ g cap spare, v = .slice (some ⟨g, 0, none⟩) L.length cap ∧ n₀ ≤ g ∧ L.length ≤ cap ∧ cap ≤ maxLen ∧ L.length + spare.length = cap ∧ RW g [] spare W L := by
  rcases h.2 with ⟨h1, h2⟩ | ⟨g, cap, cur, h1, hg, hh, hn, hm, hs, ht⟩
  · exact .inl ⟨h1, List.length_eq_zero_iff.1 h2⟩
  · refine .inr ⟨g, cap, cur.toList.drop L.length, h1, hg, hn, hm, ?_, ?_⟩
    · have e : cur.toList.length = cap := by rw [Array.length_toList, hs, Nat.mul_one]
      rw [List.length_drop, e]; omega
    · unfold RW
      rw [hh]
      congr 2
      rw [List.nil_append]
      rw [Nat.mul_one] at ht
      have : L.map (Value.int .i32) = cur.toList.take L.length := ht.symm
      rw [this, List.take_append_drop]
theorem own_join {n₀ : Nat} {W : World} {g cap : Nat} {spare : List Value} {L : List Int} (hg : n₀ ≤ g) (hn : L.length ≤ cap) (hm : cap ≤ maxLen) (hs : L.length + spare.length = cap) (h : RW g [] spare W L) : OwnPts n₀ W (.slice (some ⟨g, 0, none⟩) L.length cap) L := by
  refine ⟨by unfold enc; rw [List.length_map, Nat.mul_one], .inr ⟨g, cap, _, rfl, hg, h, hn, hm, by simp; omega, ?_⟩⟩
  simp [enc]
set_option maxHeartbeats 8000000 in
set_option maxRecDepth 100000 in
theorem order_some {w0 : World} {p : Nat} {D : PD} (H : PropsAt w0.heap.size w0 p D) (hgood : Nm.Good D) {g n cap : Nat} {spare : List Value} {W : World} {L : List Int} (hb : Below w0.heap.size w0 W) (hg : w0.heap.size ≤ g) (hr : RW g [] spare W L) (hl : L.length = n) (hn : n ≤ 16777216) (hc : n ≤ cap) (hcm : cap ≤ maxLen) :
    Calls Tryz.prog 54 #[.pointer (some ⟨p, 0, none⟩), .slice (some ⟨g, 0, none⟩) n cap] W fun e W' => e = .returned (.tuple #[]) ∧ RW g [] spare W' (ordR (classOf D) L) ∧ Kp g W W' := by
  obtain ⟨W1, hW1⟩ : ∃ W1, W.alloc (.cells #[.pointer (some ⟨p, 0, none⟩)] 23) = W1 := ⟨_, rfl⟩
  have hgW := hr.lt
  have HB1 : Hid (Boxed W1 W.heap.size 23 (.pointer (some ⟨p, 0, none⟩))) := Lib.hid (by rw [← hW1]; exact Boxed.new W _ _)
  have HBW : Hid (Below W.heap.size W W1) := Lib.hid (by rw [← hW1]; exact (Below.refl _ W).alloc (Nat.le_refl _) _)
  have HK := Lib.hid hgood.cls
  have HN := Lib.hid hgood.nn
  have HCM := Lib.hid (cmp_order H hgood (g := g) (B := W.heap.size) (W0 := W1) (bl_then hb HBW.out) hg HB1.out (by omega))
  have HCL := Lib.hid (fun (x : Int) => classAt (r := x) H rfl)
  have HBL := Lib.hid (bl_then hb HBW.out)
  have HR := Lib.hid (hr.later HBW.out)
  have HL := Lib.hid hl
  have HGW := Lib.hid hgW
  have hcap : (n : Int) ≤ (cap : Int) := by omega
  have HWW := Lib.hid hW1
  have hcz : (cap : Int) ≤ 9223372036854775807 := by unfold maxLen at hcm; omega
  clear hr hl hgW hcm hW1 hb
  go_enter Tryz.func54, Tryz.ntmps54
  go_wp2
  rw [HWW.out]
  go_loopg [5, 11] (n + 1) (fun gk vf vi wr => ∃ (i fr : Nat) (li : List Int), vi = .int .i64 i ∧ vf = .int .i64 fr ∧ i ≤ n + 1 ∧ fr ≤ i ∧ n + 1 - i ≤ gk ∧ Hid (OI (classOf D) L li i fr ∧ (i = n + 1 → fr = n + 1)) ∧ Hid (RW g [] spare wr li ∧ Kp g W1 wr))
  case atStart => exact ⟨0, 0, L, rfl, rfl, Nat.zero_le _, Nat.le_refl _, by omega, Lib.hid ⟨OI.start _ _, fun h => by omega⟩, Lib.hid ⟨HR.out, Kp.refl _ _⟩⟩
  case round =>
    obtain ⟨i, fr, li, rfl, rfl, hi, hfi, hg1, HO, HS⟩ := hrel
    have HLL : Hid (li.length = n) := Lib.hid (by rw [HO.out.1.len, HL.out])
    by_cases hlt : i < n + 1
    · have hz : (i : Int) < (n : Int) + 1 := by omega
      by_cases hcf : cap = fr
      · obtain rfl : cap = fr := hcf
        have f0 : (0 : Int) ≤ (cap : Int) := by omega
        have f1 : (cap : Int) ≤ (i : Int) := by omega
        have f2 : (i : Int) ≤ (cap : Int) := by omega
        have f3 : (i : Int) ≤ (n : Int) := by omega
        have HSRT := Lib.hid (fun (W' : World) (hr : RW g [] spare W' li) (hkp : Kp g W1 W') => (by have h := seg_any (cap := cap) (fr := cap) (i := i) (enters_of Tryz.func93 (by kernel_rfl) rfl) HCM.out HK.out hr hkp hfi (by rw [HLL.out]; omega) (by rw [HLL.out]; exact hn) (by rw [HLL.out]; exact hc); rw [if_pos rfl, Nat.sub_self] at h; exact h : Calls Tryz.prog 94 #[.slice (some ⟨g, 0, none⟩) (i - cap) 0, .func (.func 93) #[] #[.pointer (some ⟨W.heap.size, 0, none⟩)]] W' fun e w' => e = .returned (.tuple #[]) ∧ ∃ s', Mv (classOf D) 0 (i - cap) (seg li cap i) s' ∧ Srt (classOf D) 0 (i - cap) s' ∧ RW g [] spare w' (li.take cap ++ (s' ++ li.drop i)) ∧ Kp g W1 w'))
        have hin : i = n := by omega
        have hb1 : ((i : Int) == (n : Int)) = true := by simp [hin]
        have HIN := Lib.hid hin
        clear hin
        go_wp2
        go_region
        all_goals go_wp2_with (go_at_call 94; (with_reducible refine (HSRT.out _ (by first | exact HS.out.1 | exact HS.out.1.drew) (by first | exact HS.out.2 | exact HS.out.2.drew)).mono ?_); rintro e w3 ⟨rfl, s', hm, ho, hr, hk⟩; have HR3 := Lib.hid (And.intro hr hk); have HN3 : Hid (OI (classOf D) L (li.take cap ++ (s' ++ li.drop i)) (i + 1) (i + 1)) := Lib.hid (HO.out.1.sorted HN.out (by rw [HL.out, HIN.out]; exact Nat.le_refl _) (.inl (by rw [HL.out, HIN.out])) hm ho); clear hr hk hm ho)
        all_goals
          go_roundg (n - i)
          case rel => exact ⟨i + 1, i + 1, _, by go_num, by go_num, by omega, Nat.le_refl _, by omega, Lib.hid ⟨HN3.out, fun _ => by have := HIN.out; omega⟩, HR3⟩
          case measure => omega
      · skip
        have f0 : (0 : Int) ≤ (fr : Int) := by omega
        have f1 : (fr : Int) ≤ (i : Int) := by omega
        have f2 : (i : Int) ≤ (cap : Int) := by omega
        have f3 : (i : Int) ≤ (n : Int) := by omega
        have HSRT := Lib.hid (fun (W' : World) (hr : RW g [] spare W' li) (hkp : Kp g W1 W') => (by have h := seg_any (cap := cap) (fr := fr) (i := i) (enters_of Tryz.func93 (by kernel_rfl) rfl) HCM.out HK.out hr hkp hfi (by rw [HLL.out]; omega) (by rw [HLL.out]; exact hn) (by rw [HLL.out]; exact hc); rw [if_neg hcf] at h; exact h : Calls Tryz.prog 94 #[.slice (some ⟨g, fr, none⟩) (i - fr) (cap - fr), .func (.func 93) #[] #[.pointer (some ⟨W.heap.size, 0, none⟩)]] W' fun e w' => e = .returned (.tuple #[]) ∧ ∃ s', Mv (classOf D) 0 (i - fr) (seg li fr i) s' ∧ Srt (classOf D) 0 (i - fr) s' ∧ RW g [] spare w' (li.take fr ++ (s' ++ li.drop i)) ∧ Kp g W1 w'))
        by_cases hin : i = n
        · have hb1 : ((i : Int) == (n : Int)) = true := by simp [hin]
          have HIN := Lib.hid hin
          clear hin
          go_wp2
          go_region
          all_goals go_wp2_with (go_at_call 94; (with_reducible refine (HSRT.out _ (by first | exact HS.out.1 | exact HS.out.1.drew) (by first | exact HS.out.2 | exact HS.out.2.drew)).mono ?_); rintro e w3 ⟨rfl, s', hm, ho, hr, hk⟩; have HR3 := Lib.hid (And.intro hr hk); have HN3 : Hid (OI (classOf D) L (li.take fr ++ (s' ++ li.drop i)) (i + 1) (i + 1)) := Lib.hid (HO.out.1.sorted HN.out (by rw [HL.out, HIN.out]; exact Nat.le_refl _) (.inl (by rw [HL.out, HIN.out])) hm ho); clear hr hk hm ho)
          all_goals
            go_roundg (n - i)
            case rel => exact ⟨i + 1, i + 1, _, by go_num, by go_num, by omega, Nat.le_refl _, by omega, Lib.hid ⟨HN3.out, fun _ => by have := HIN.out; omega⟩, HR3⟩
            case measure => omega
        · have hb1 : ((i : Int) == (n : Int)) = false := beq_eq_false_iff_ne.2 (by omega)
          have hil : i < n := by omega
          obtain ⟨x, hx⟩ : ∃ x, li[i]? = some x := ⟨_, List.getElem?_eq_getElem (by rw [HLL.out]; exact hil)⟩
          have cx := HS.out.1.cell hx
          rw [List.length_nil, Nat.zero_add] at cx
          have cbx := (show Boxed wr W.heap.size 23 (.pointer (some ⟨p, 0, none⟩)) from (HS.out.2.block _ HB1.out.lt (by have := HGW.out; omega)).trans HB1.out).cell
          have HCC := Lib.hid (HCL.out x)
          have hbw : Below w0.heap.size w0 wr := HBL.out.trans (HS.out.2.below hg HBL.out.size)
          have HX := Lib.hid hx
          have f4 : (i : Int) < (n : Int) := by omega
          obtain ⟨cz, hcz2⟩ : ∃ cz, classOf D x = cz := ⟨_, rfl⟩
          rw [hcz2] at HCC
          have HCZ := Lib.hid hcz2
          clear hx hcz2 hin
          by_cases h0 : cz = 0
          · have hb2 : (cz == 0) = true := by simp [h0]
            have HC0 := Lib.hid h0
            clear h0
            go_wp2
            go_region_held3 (fun w' => w'.cell? ⟨g, i, none⟩ = some (.int .i32 x) ∧ w'.cell? ⟨W.heap.size, 0, none⟩ = some (.pointer (some ⟨p, 0, none⟩))) (go_keep) ((go_at_call 55; (with_reducible refine (HCC.out _ (by first | exact hbw | exact hbw.drew | exact bl_drewN hbw _)).mono ?_); rintro e w3 ⟨rfl, hb3⟩; have cx := Sb.later_cell hb3 cx; have cbx := Sb.later_cell hb3 cbx))
            have HS3 := Lib.hid (show RW g [] spare w3 li ∧ Kp g W1 w3 from ⟨HS.out.1.drew.later hb3, HS.out.2.drew.later hb3⟩)
            clear hb3
            go_wp2_with (go_at_call 94; (with_reducible refine (HSRT.out _ HS3.out.1 HS3.out.2).mono ?_); rintro e w4 ⟨rfl, s', hm, ho, hr, hk⟩; have HR3 := Lib.hid (And.intro hr hk); have HN3 : Hid (OI (classOf D) L (li.take fr ++ (s' ++ li.drop i)) (i + 1) (i + 1)) := Lib.hid (HO.out.1.sorted HN.out (by rw [HL.out]; omega) (.inr ⟨x, HX.out, by rw [HCZ.out]; exact HC0.out⟩) hm ho); clear hr hk hm ho)
            all_goals
              go_roundg (n - i)
              case rel => exact ⟨i + 1, i + 1, _, by go_num, by go_num, by omega, Nat.le_refl _, by omega, Lib.hid ⟨HN3.out, fun h => by omega⟩, HR3⟩
              case measure => omega
          · have hb2 : (cz == 0) = false := beq_eq_false_iff_ne.2 h0
            have HC0 := Lib.hid h0
            clear h0
            go_wp2
            go_region_held3 (fun w' => w'.cell? ⟨g, i, none⟩ = some (.int .i32 x) ∧ w'.cell? ⟨W.heap.size, 0, none⟩ = some (.pointer (some ⟨p, 0, none⟩))) (go_keep) ((go_at_call 55; (with_reducible refine (HCC.out _ (by first | exact hbw | exact hbw.drew | exact bl_drewN hbw _)).mono ?_); rintro e w3 ⟨rfl, hb3⟩; have cx := Sb.later_cell hb3 cx; have cbx := Sb.later_cell hb3 cbx))
            have HS3 := Lib.hid (show RW g [] spare w3 li ∧ Kp g W1 w3 from ⟨HS.out.1.drew.later hb3, HS.out.2.drew.later hb3⟩)
            clear hb3
            go_wp2
            go_roundg (n - i)
            case rel => exact ⟨i + 1, fr, li, by go_num, rfl, by omega, by omega, by omega, Lib.hid ⟨HO.out.1.skip HX.out (by rw [HCZ.out]; exact HC0.out), fun h => by omega⟩, HS3⟩
            case measure => omega
    · obtain rfl : i = n + 1 := by omega
      have HF : Hid (li = ordR (classOf D) L) := Lib.hid (by
        have h1 := HO.out.1
        rw [HO.out.2 rfl, ← HL.out] at h1
        exact h1.done HN.out)
      go_wp2
      go_end0
      exact ⟨rfl, by rw [← HF.out]; exact HS.out.1, (Kp.refl g W |>.later HBW.out).trans HS.out.2⟩
set_option maxHeartbeats 1000000 in
theorem order_none {p : Nat} (W : World) : Calls Tryz.prog 54 #[.pointer (some ⟨p, 0, none⟩), .slice none 0 0] W fun e W' => e = .returned (.tuple #[]) ∧ Below W.heap.size W W' := by
  have hbl : Below W.heap.size W (W.alloc (.cells #[.pointer (some ⟨p, 0, none⟩)] 23)) := (Below.refl _ W).alloc (Nat.le_refl _) _
  go_enter Tryz.func54, Tryz.ntmps54
  go_wp2
  refine wp_loop_rounds 2 ?_
  rw [rounds_succ]
  go_wp2
  go_region
  all_goals go_wp2_with (go_at_call 94; refine (sort_none _ _ _ _).mono ?_; rintro e w1 ⟨rfl, hb⟩)
  rw [rounds_succ]
  go_wp2
  go_end0
  exact ⟨rfl, bl_then hbl.drew hb⟩
theorem order_calls {w0 : World} {p : Nat} {D : PD} (H : PropsAt w0.heap.size w0 p D) (hgood : Nm.Good D) {n₀ : Nat} (hn0 : w0.heap.size ≤ n₀) {W : World} {v : Value} {L : List Int} (hb : Below w0.heap.size w0 W) (ho : OwnPts n₀ W v L) (hl : L.length ≤ 16777216) :
    Calls Tryz.prog 54 #[.pointer (some ⟨p, 0, none⟩), v] W fun e W' => e = .returned (.tuple #[]) ∧ OwnPts n₀ W' v (ordR (classOf D) L) ∧ Mvd W W' v v := by
  rcases own_split ho with ⟨rfl, rfl⟩ | ⟨g, cap, spare, rfl, h1, h2, h3, h4, h5⟩
  · refine (order_none W).mono fun e W' ⟨a, hb'⟩ => ⟨a, ⟨rfl, .inl ⟨rfl, rfl⟩⟩, (Mvd.refl W _).later hb'⟩
  · refine (order_some H hgood hb (by omega) h5 rfl hl h2 h3).mono fun e W' ⟨a, hr, hk⟩ => ⟨a, ?_, ?_⟩
    · have hlen := ordR_length (classOf D) L
      have := own_join (n₀ := n₀) (g := g) (cap := cap) (spare := spare) (L := ordR (classOf D) L) (W := W') h1 (by omega) h3 (by omega) hr
      rw [hlen] at this
      exact this
    · exact ⟨hk.os, hk.tape, hk.output, hk.size, fun k hk1 hne => hk.block k hk1 (fun e => hne (by rw [e]; rfl)), fun g' hg' => .inl hg'⟩
end Go.Proofs.YtikpkjpnehkbfaaGreatDoor.Nw
namespace Go.Proofs.YtikpkjpnehkbfaaGreatDoor.Nw
open Go Go.RowKit Go.Shelf Go.Proofs.YtikpkjpnehkbfaaGreatDoor.Sp Go.Proofs.YtikpkjpnehkbfaaGreatDoor.Pr Go.Proofs.YtikpkjpnehkbfaaGreatDoor.Rf Go.Proofs.YtikpkjpnehkbfaaGreatDoor.Nm Go.Proofs.YtikpkjpnehkbfaaGreatDoor.Sb
theorem read_addr {W : World} {v : Value} {l : List Int} (h : ReadPts W v l) : ∃ A c, v = .slice A l.length c ∧ ∀ (i : Nat) (x : Int), l[i]? = some x → ∃ b off, A = some ⟨b, off, none⟩ ∧ W.cell? ⟨b, off + i, none⟩ = some (.int .i32 x) := by
  rcases h.at_ with ⟨rfl, A, c, rfl⟩ | ⟨b, off, c, rfl, hc⟩
  · exact ⟨A, c, rfl, fun i x h => by simp at h⟩
  · exact ⟨_, c, rfl, fun i x hi => ⟨b, off, rfl, hc i x hi⟩⟩
theorem whole_of {w0 : World} {p : Nat} {D : PD} (H : PropsAt w0.heap.size w0 p D) (hgood : Nm.Good D) {n₀ : Nat} (hn0 : w0.heap.size ≤ n₀) (r : Int) (W : World) (v : Value) (L : List Int) (hb : Below w0.heap.size w0 W) (hn : n₀ ≤ W.heap.size) (ho : OwnPts n₀ W v L) (hlen : L.length ≤ 1073741816) :
    Calls Tryz.prog 53 #[.pointer (some ⟨p, 0, none⟩), .int .i32 r, v] W fun e W' => WholeOut n₀ W v (L ++ wholeOf D r) e W' := by
  have h8 := (hgood.len r).2
  obtain ⟨m, _, hm⟩ := hgood.full r
  unfold wholeOf at h8 ⊢
  generalize (100000 : Nat) = K at *
  exact whole_calls H hn0 K r m hm W v L hb hn ho (by omega)
theorem flat_take_le (D : PD) (l : List Int) (i : Nat) : (flat D (l.take i)).length ≤ (flat D l).length := by
  conv => rhs; rw [← List.take_append_drop i l, flat_append, List.length_append]
  exact Nat.le_add_right _ _
theorem flat_take {D : PD} {l : List Int} {i : Nat} {x : Int} (hx : l[i]? = some x) : flat D (l.take (i + 1)) = flat D (l.take i) ++ wholeOf D x := take_flat hx
set_option maxHeartbeats 4000000 in
set_option maxRecDepth 100000 in
theorem dec_calls_any {w0 : World} {p : Nat} {D : PD} (H : PropsAt w0.heap.size w0 p D) (hgood : Nm.Good D) {W : World} {lv : Value} {l : List Int} (hb : Below w0.heap.size w0 W) (hr : ReadPts W lv l) (hf : (flat D l).length ≤ 16777216) :
    Calls Tryz.prog 18 #[.pointer (some ⟨p, 0, none⟩), lv] W fun e W' => ∃ v, e = .returned v ∧ OwnPts W.heap.size W' v (decN D l) ∧ Below W.heap.size W W' := by
  have hl : l.length ≤ 16777216 := Nat.le_trans (flat_length hgood l).1 hf
  obtain ⟨A, c, rfl, hc⟩ := read_addr hr
  have HC := Lib.hid hc
  have HB := Lib.hid hb
  obtain ⟨n, hn⟩ : ∃ n, l.length = n := ⟨_, rfl⟩
  have HN := Lib.hid hn
  have HFL : Hid (∀ i, (flat D (l.take i)).length ≤ 16777216) := Lib.hid (fun i => Nat.le_trans (flat_take_le D l i) hf)
  have HFF := Lib.hid hf
  have HW := Lib.hid (fun (i : Nat) (x : Int) (hx : l[i]? = some x) => flat_take (D := D) hx)
  rw [hn] at hl ⊢
  clear hc hb hr hn hf
  go_enter Tryz.func18, Tryz.ntmps18
  go_wp2
  go_loopg [5, 10] n (fun gk vout vi wr => ∃ (i : Nat), vi = .int .i64 i ∧ i ≤ n ∧ n - i ≤ gk ∧ Hid (OwnPts W.heap.size wr vout (flat D (l.take i)) ∧ Below W.heap.size W wr))
  case atStart => exact ⟨0, rfl, Nat.zero_le _, by omega, Lib.hid ⟨⟨rfl, .inl ⟨rfl, rfl⟩⟩, Below.refl _ _⟩⟩
  case round =>
    obtain ⟨i, rfl, hi, hg1, HI⟩ := hrel
    by_cases hlt : i < n
    · have hz : (i : Int) < (n : Int) := by omega
      obtain ⟨x, hx⟩ : ∃ x, l[i]? = some x := ⟨_, List.getElem?_eq_getElem (by rw [HN.out]; exact hlt)⟩
      obtain ⟨b, off, rfl, cx0⟩ := HC.out i x hx
      have cx := Sb.later_cell HI.out.2 cx0
      have HT := Lib.hid (HW.out i x hx)
      have hfl : (flat D (l.take i)).length ≤ 1073741816 := Nat.le_trans (HFL.out i) (by decide)
      have HCC := Lib.hid (whole_of H hgood HB.out.size x wr _ _ (bl_then HB.out HI.out.2) HI.out.2.size HI.out.1 hfl)
      clear hx cx0 hfl
      go_wp2_with (go_at_call 53; (with_reducible refine HCC.out.mono ?_); rintro e w2 ⟨v2, rfl, ho2, hm2⟩; rw [← HT.out] at ho2; have HO2 := Lib.hid ho2; have HM2 := Lib.hid (HI.out.2.trans (hm2.below HI.out.2.size (fun g hg => (own_at HI.out.1 g hg).1))); clear ho2 hm2)
      go_roundg (n - (i + 1))
      case rel => exact ⟨i + 1, by go_num, by omega, by omega, Lib.hid ⟨HO2.out, HM2.out⟩⟩
      case measure => omega
    · have hin : i = l.length := by rw [HN.out]; omega
      have HO : Hid (OwnPts W.heap.size wr u5 (flat D l)) := Lib.hid (by have := HI.out.1; rw [hin, List.take_of_length_le (Nat.le_refl _)] at this; exact this)
      have HCO := Lib.hid (order_calls H hgood HB.out.size (bl_then HB.out HI.out.2) HO.out HFF.out)
      have HDN : Hid (ordR (classOf D) (flat D l) = decN D l) := Lib.hid rfl
      rw [HDN.out] at HCO
      have hz : ¬ (i : Int) < (n : Int) := by omega
      clear hin hlt
      go_wp2_with (go_at_call 54; (with_reducible refine HCO.out.mono ?_); rintro e w2 ⟨rfl, ho2, hm2⟩; have HO2 := Lib.hid ho2; have HM2 := Lib.hid (HI.out.2.trans (hm2.below HI.out.2.size (fun g hg => (own_at HO.out g hg).1))); clear ho2 hm2)
      go_ret
      exact ⟨_, rfl, HO2.out, HM2.out⟩
theorem flat_le {D : PD} (hgood : Nm.Good D) {l : List Int} (hl : l.length ≤ 2097152) : (flat D l).length ≤ 16777216 := Nat.le_trans (flat_length hgood l).2 (Nat.le_trans (Nat.mul_le_mul_left 8 hl) (by decide))
end Go.Proofs.YtikpkjpnehkbfaaGreatDoor.Nw
namespace Go.Proofs.YtikpkjpnehkbfaaGreatDoor.Nw
open Go Go.RowKit Go.Shelf Go.Proofs.YtikpkjpnehkbfaaGreatDoor.Sp Go.Proofs.YtikpkjpnehkbfaaGreatDoor.Pr Go.Proofs.YtikpkjpnehkbfaaGreatDoor.Rf Go.Proofs.YtikpkjpnehkbfaaGreatDoor.Nm Go.Proofs.YtikpkjpnehkbfaaGreatDoor.Sb
def cutB (D : PD) (l : List Int) (z : Int) : Bool := if z ≤ 0 ∨ (l.length : Int) ≤ z then (z == 0 || z == (l.length : Int)) else classOf D ((wholeOf D (l.getD z.toNat 0)).getD 0 0) == 0
theorem cut_out {D : PD} {l : List Int} {z : Int} (h : z ≤ 0 ∨ (l.length : Int) ≤ z) : cutB D l z = (z == 0 || z == (l.length : Int)) := by unfold cutB; rw [if_pos h]
theorem cut_in {D : PD} {l : List Int} {i : Nat} {x y : Int} (h0 : 0 < i) (hx : l[i]? = some x) (hy : (wholeOf D x)[0]? = some y) : cutB D l (i : Int) = (classOf D y == 0) := by
  have hi := (List.getElem?_eq_some_iff.1 hx).1
  unfold cutB
  rw [if_neg (by omega), Int.toNat_natCast]
  have e1 : l.getD i 0 = x := by simp [List.getD, hx]
  rw [e1]
  have e2 : (wholeOf D x).getD 0 0 = y := by simp only [List.getD, hy, Option.getD_some]
  rw [e2]
set_option maxHeartbeats 2000000 in
set_option maxRecDepth 100000 in
theorem cut_calls {w0 : World} {p : Nat} {D : PD} (H : PropsAt w0.heap.size w0 p D) (hgood : Nm.Good D) {W : World} {lv : Value} {l : List Int} (z : Int) (hb : Below w0.heap.size w0 W) (hr : ReadPts W lv l) (hl : l.length ≤ 1073741824) :
    Calls Tryz.prog 23 #[.pointer (some ⟨p, 0, none⟩), lv, .int .i64 z] W fun e W' => e = .returned (.bool (cutB D l z)) ∧ Below W.heap.size W W' := by
  obtain ⟨A, c, rfl, hc⟩ := read_addr hr
  by_cases h : z ≤ 0 ∨ (l.length : Int) ≤ z
  · have HE := Lib.hid (cut_out (D := D) h)
    generalize l.length = n at *
    clear hc hr
    by_cases h1 : z ≤ 0
    · obtain ⟨t1, ht1⟩ : ∃ t1, (z == 0) = t1 := ⟨_, rfl⟩
      obtain ⟨t2, ht2⟩ : ∃ t2, (z == (n : Int)) = t2 := ⟨_, rfl⟩
      rw [ht1, ht2] at HE
      clear h
      cases t1 <;> cases t2
      all_goals
        go_enter Tryz.func23, Tryz.ntmps23
        go_wp2
        go_ret
        exact ⟨by rw [HE.out]; rfl, Below.refl _ _⟩
    · have h2 : (n : Int) ≤ z := by omega
      have hn0 : ¬ z < (n : Int) := by omega
      obtain ⟨t2, ht2⟩ : ∃ t2, (z == (n : Int)) = t2 := ⟨_, rfl⟩
      have ht1 : (z == 0) = false := beq_eq_false_iff_ne.2 (by omega)
      rw [ht1, ht2] at HE
      clear h
      cases t2
      all_goals
        go_enter Tryz.func23, Tryz.ntmps23
        go_wp2
        go_ret
        exact ⟨by rw [HE.out]; rfl, Below.refl _ _⟩
  · obtain ⟨i, rfl⟩ : ∃ i : Nat, z = (i : Int) := ⟨z.toNat, by omega⟩
    have hi0 : 0 < i := by omega
    have hin : i < l.length := by omega
    obtain ⟨x, hx⟩ : ∃ x, l[i]? = some x := ⟨_, List.getElem?_eq_getElem hin⟩
    obtain ⟨b, off, rfl, cx⟩ := hc i x hx
    have h8 := (hgood.len x).1
    obtain ⟨y, hy⟩ : ∃ y, (wholeOf D x)[0]? = some y := ⟨_, List.getElem?_eq_getElem h8⟩
    have HE := Lib.hid (cut_in (D := D) hi0 hx hy)
    have HWC := Lib.hid (whole_of H hgood hb.size x W (.slice none 0 0) [] hb (Nat.le_refl _) ⟨rfl, .inl ⟨rfl, rfl⟩⟩ (by simp))
    have HWN : Hid (∃ m, (wholeOf D x).length = m + 1) := Lib.hid ⟨(wholeOf D x).length - 1, (Nat.sub_add_cancel h8).symm⟩
    have HY := Lib.hid hy
    have HCL := Lib.hid (classAt (r := y) H rfl)
    have HB := Lib.hid hb
    obtain ⟨cy, hcy⟩ : ∃ cy, classOf D y = cy := ⟨_, rfl⟩
    rw [hcy] at HCL HE
    have q1 : ¬ (i : Int) ≤ 0 := by omega
    have q2 : (i : Int) < (l.length : Int) := by omega
    have q3 : ¬ (l.length : Int) ≤ (i : Int) := by omega
    obtain ⟨t1, ht1⟩ : ∃ t1, (cy == 0) = t1 := ⟨_, rfl⟩
    rw [ht1] at HE
    generalize l.length = n at *
    clear h hc hr hx hy hb hcy h8 hin hl
    generalize wholeOf D x = ws at *
    go_enter Tryz.func23, Tryz.ntmps23
    go_wp2_with (first
      | (go_at_call 53; (with_reducible refine HWC.out.mono ?_); rintro e w2 ⟨v2, rfl, ho2, hm2⟩; rw [List.nil_append] at ho2; obtain ⟨m, hm⟩ := HWN.out; obtain ⟨g, c2, rfl⟩ := ownsRow_succ (k := m) (by have := ho2; rw [OwnPts, hm] at this; exact this); have cy2 := own_cells ho2 HY.out; have HB2 := Lib.hid (hm2.below (Nat.le_refl _) (fun g hg => by cases hg)); have hmz : (0 : Int) < (m : Int) + 1 := Int.lt_add_one_of_le (Int.natCast_nonneg m); clear ho2 hm2 hm)
      | (go_at_call 55; (with_reducible refine (HCL.out _ (bl_then HB.out HB2.out)).mono ?_); rintro e w3 ⟨rfl, hb3⟩; have HB3 := Lib.hid (bl_then HB2.out hb3); clear hb3))
    go_ret
    exact ⟨by rw [HE.out]; rfl, HB3.out⟩
def StrAt (X : Nat) (W : World) (p : Nat) (rv : Value) : Prop := W.heap[X]? = some (.cells #[.pointer (some ⟨p, 0, none⟩), rv] 85 (0, 0))
theorem new_calls {p : Nat} (W : World) : Calls Tryz.prog 27 #[.pointer (some ⟨p, 0, none⟩)] W fun e W' => e = .returned (.pointer (some ⟨W.heap.size, 0, none⟩)) ∧ StrAt W.heap.size W' p (.slice none 0 0) ∧ Below W.heap.size W W' ∧ W'.heap.size = W.heap.size + 1 := by
  go_enter Tryz.func27, Tryz.ntmps27
  go_wp2
  go_ret
  exact ⟨rfl, World.alloc_heap_new W _, (Below.refl _ W).alloc (Nat.le_refl _) _, by rw [World.size_alloc]⟩
theorem StrAt.cells {X : Nat} {W : World} {p : Nat} {rv : Value} (h : StrAt X W p rv) : W.cell? ⟨X, 0, none⟩ = some (.pointer (some ⟨p, 0, none⟩)) ∧ W.cell? ⟨X, 1, none⟩ = some rv ∧ W.frozen? ⟨X, 1, none⟩ = false := by
  unfold StrAt at h
  refine ⟨by rw [cell_of_row W X 0 _ _ (0, 0) h]; rfl, by rw [cell_of_row W X 1 _ _ (0, 0) h]; rfl, by simp [World.frozen?, h]⟩
theorem StrAt.set {X : Nat} {W : World} {p : Nat} {rv : Value} (h : StrAt X W p rv) (v : Value) : StrAt X (W.setCell ⟨X, 1, none⟩ v) p v := by
  unfold StrAt
  rw [heap_setCell_same W X 1 _ _ _ h]
  rfl
theorem end_stream {X p : Nat} {A : Option Addr} {n c : Nat} (W : World) (h : StrAt X W p (.slice A n c)) : Calls Tryz.prog 30 #[.pointer (some ⟨X, 0, none⟩)] W fun e W' => e = .returned (.slice A n c) ∧ StrAt X W' p (.slice none 0 0) ∧ W' = W.setCell ⟨X, 1, none⟩ (.slice none 0 0) := by
  obtain ⟨c0, c1, f1⟩ := h.cells
  have HS := Lib.hid (h.set (.slice none 0 0))
  clear h
  go_enter Tryz.func30, Tryz.ntmps30
  go_wp2
  go_ret
  exact ⟨rfl, HS.out, rfl⟩
end Go.Proofs.YtikpkjpnehkbfaaGreatDoor.Nw
namespace Go.Proofs.YtikpkjpnehkbfaaGreatDoor.Nw
open Go Go.RowKit Go.Shelf Go.Proofs.YtikpkjpnehkbfaaGreatDoor.Sp Go.Proofs.YtikpkjpnehkbfaaGreatDoor.Pr Go.Proofs.YtikpkjpnehkbfaaGreatDoor.Rf Go.Proofs.YtikpkjpnehkbfaaGreatDoor.Nm Go.Proofs.YtikpkjpnehkbfaaGreatDoor.Sb
theorem set_none (c : Int → Int) (d : List Int) : IsSet c (d.take 0) 0 := ⟨Nat.zero_le _, .inl rfl, fun i x _ h => by simp at h⟩
theorem set_step {c : Int → Int} {d : List Int} {k n : Nat} {x : Int} (h : IsSet c (d.take k) n) (hx : d[k]? = some x) : IsSet c (d.take (k + 1)) (if c x = 0 then k + 1 else n) := by
  have hk := (List.getElem?_eq_some_iff.1 hx).1
  have hl : (d.take k).length = k := by rw [List.length_take]; omega
  have hl1 : (d.take (k + 1)).length = k + 1 := by rw [List.length_take]; omega
  have hle := h.le
  by_cases h0 : c x = 0
  · rw [if_pos h0]
    refine ⟨by omega, .inr ⟨x, ?_, h0⟩, fun i y hi hy => ?_⟩
    · rw [Nat.add_sub_cancel, List.getElem?_take, if_pos (by omega), hx]
    · rw [List.getElem?_eq_none (by omega)] at hy
      cases hy
  · rw [if_neg h0]
    refine ⟨by omega, ?_, fun i y hi hy => ?_⟩
    · rcases h.zero with e | ⟨y, hy, e⟩
      · exact .inl e
      · by_cases hn : n = 0
        · exact .inl hn
        · refine .inr ⟨y, ?_, e⟩
          rw [List.getElem?_take, if_pos (by omega)] at hy ⊢
          exact hy
    · rw [List.getElem?_take] at hy
      by_cases hik : i < k
      · rw [if_pos (by omega)] at hy
        exact h.rest i y hi (by rw [List.getElem?_take, if_pos hik]; exact hy)
      · by_cases he : i = k
        · subst he
          rw [if_pos (by omega), hx] at hy
          injection hy with hy
          rw [← hy]
          exact h0
        · rw [if_neg (by omega)] at hy
          cases hy
theorem run_append_read (W : World) (ty : TypeId) (base : Nat) (v mv : Value) (L M : List Int) (hown : OwnPts base W v L) (hM : ReadPts W mv M) (h63 : L.length + M.length ≤ 1073741824) (hbase : base ≤ W.heap.size) :
    ∃ v' w', (Builtin.append_ #[22, 22] ty #[v, mv]).run Tryz.prog W = .ok v' w' ∧ OwnPts base w' v' (L ++ M) ∧ Mvd W w' v v' := by
  obtain ⟨i, hi, hz0, hz1, hz2⟩ := info_parts infoRune
  rcases hM.at_ with ⟨rfl, A, c, rfl⟩ | ⟨b, off, c, rfl, hc⟩
  · have hsrc : Src Tryz.prog i.size 22 (.slice A 0 c) 0 [] W := by
      cases A with
      | none => exact Src.ofNil W Tryz.underlying22 c
      | some a => exact Src.ofSlice W Tryz.underlying22 a 0 c [] (by simp) (fun j u hj => by simp at hj) (fun u hu => by cases hu)
    have hv : ∃ A n cap, v = .slice A n cap ∧ n ≤ cap := by
      rcases hown.2 with ⟨e, _⟩ | ⟨g, cap, cur, e, _, _, hle, _⟩
      · exact ⟨_, _, _, e, Nat.le_refl _⟩
      · exact ⟨_, _, _, e, hle⟩
    obtain ⟨B, n, cap, rfl, hle⟩ := hv
    exact ⟨_, _, run_append_nothing (P := Tryz.prog) W 22 22 ty 21 i Tryz.underlying22 hi B n cap hle _ hsrc, by rw [List.append_nil]; exact hown, Mvd.refl W _⟩
  · obtain ⟨v', w', hr, ho', hg, _, hb⟩ := run_append_own_at (P := Tryz.prog) W base 22 ty 21 i (.int .i32 0) 1 4 Tryz.underlying22 hi hz0 hz1 hz2 rfl (by decide) v L.length (enc L) hown ⟨b, off, none⟩ M.length c (enc M) (by rw [enc_length, Nat.mul_one]) (Pts.cells hc) (enc_one M) (by simp only [maxLen]; omega) (by omega) hbase
    refine ⟨v', w', hr, ?_, ⟨hg.os, hg.tape, hg.output, hg.size, fun k hk hn => hg.block k hk (fun e => hn e.symm), fun g hg' => ?_⟩⟩
    · unfold OwnPts
      rw [show enc (L ++ M) = enc L ++ enc M by simp [enc], List.length_append]
      exact ho'
    · rcases hb with e | e
      · rw [e] at hg'; exact .inl hg'
      · rw [e] at hg'
        injection hg' with hg'
        exact .inr (by omega)
theorem wp_append_read {o : Oper} {ac : Act} {K : Act → World → Prop} {Q : Exit → Act → World → Prop} {W : World} (s x : Operand)
    (ho : o.op = .call { callee := .builtin .append, args := #[s, x], argTypes := #[22, 22] })
    (base : Nat) (v mv : Value) (L M : List Int) (hs : ac.eval s = v) (hown : OwnPts base W v L) (hx : ac.eval x = mv) (hM : ReadPts W mv M)
    (h63 : L.length + M.length ≤ 1073741824) (hbase : base ≤ W.heap.size)
    (h : ∀ v' w', OwnPts base w' v' (L ++ M) → Mvd W w' v v' → K (ac.put o.dst v') w') : o.wp Tryz.prog ac W K Q := by
  obtain ⟨v', w', hr, h1, h2⟩ := run_append_read W o.type base v mv L M hown hM h63 hbase
  unfold Oper.wp execOp
  simp only [ho, resolve, invoke, builtin, Sem.run_bind, Sem.run_pure, Result.andThen_ok, List.map_toArray, List.map_cons, List.map_nil, hs, hx, hr]
  exact h _ _ h1 h2
theorem step_append_read {ops : Array Oper} {o : Oper} {ac : Act} {K : Act → World → Prop} {Q : Exit → Act → World → Prop} {E : Prop} {W : World} (hgd : o.guard = none) (s x : Operand)
    (ho : o.op = .call { callee := .builtin .append, args := #[s, x], argTypes := #[22, 22] })
    (base : Nat) (v mv : Value) (L M : List Int) (hs : ac.eval s = v) (hown : OwnPts base W v L) (hx : ac.eval x = mv) (hM : ReadPts W mv M)
    (h63 : L.length + M.length ≤ 1073741824) (hbase : base ≤ W.heap.size)
    (h : ∀ v' w', OwnPts base w' v' (L ++ M) → Mvd W.drew w' v v' → K (ac.put o.dst v') w') : if Region.wanted o (yielded ops ac.tmps) = true then Oper.wp Tryz.prog o ac W.drew K Q else E := by
  have hw : Region.wanted o (yielded ops ac.tmps) = true := by simp [Region.wanted, hgd]
  rw [if_pos hw]
  exact wp_append_read s x ho base v mv L M hs hown.drew hx (hM.on (Below.refl _ W).drew) h63 hbase h
end Go.Proofs.YtikpkjpnehkbfaaGreatDoor.Nw
namespace Go.Proofs.YtikpkjpnehkbfaaGreatDoor.Nw
open Go Go.RowKit Go.Shelf Go.Proofs.YtikpkjpnehkbfaaGreatDoor.Sp Go.Proofs.YtikpkjpnehkbfaaGreatDoor.Pr Go.Proofs.YtikpkjpnehkbfaaGreatDoor.Rf Go.Proofs.YtikpkjpnehkbfaaGreatDoor.Nm Go.Proofs.YtikpkjpnehkbfaaGreatDoor.Sb
structure Wrt (X : Nat) (W W' : World) (v : Value) : Prop where
  os : W'.os = W.os
  tape : W'.tape = W.tape
  output : W'.output = W.output
  size : W.heap.size ≤ W'.heap.size
  block : ∀ k, k < W.heap.size → k ≠ X → v.ownBlock ≠ some k → W'.heap[k]? = W.heap[k]?
theorem wrt_end {X : Nat} {W w1 w2 w5 : World} {v v1 : Value} (hX : X < W.heap.size) (h1 : Mvd W.drew w1 v v1) (h2 : Below w1.heap.size w1 w2) (h5 : Below w2.heap.size w2 w5) (nv : Value) : Wrt X W (w5.setCell ⟨X, 1, none⟩ nv) v := by
  have hs1 : W.heap.size ≤ w1.heap.size := h1.size
  have hs2 := h2.size
  have hs5 := h5.size
  refine ⟨?_, ?_, ?_, ?_, fun k hk hn hb => ?_⟩
  · exact h5.os.trans (h2.os.trans h1.os)
  · exact h5.tape.trans (h2.tape.trans h1.tape)
  · exact h5.output.trans (h2.output.trans h1.output)
  · rw [World.size_setCell]; omega
  · rw [heap_setCell_other _ _ _ _ hn, h5.block k (by omega), h2.block k (by omega)]
    exact h1.block k hk hb
theorem own_base {n₀ n₁ : Nat} {W : World} {v : Value} {l : List Int} (h : OwnPts n₀ W v l) (hn : n₁ ≤ n₀) : OwnPts n₁ W v l := by
  refine ⟨h.1, ?_⟩
  rcases h.2 with e | ⟨g, cap, cur, e, h1, h2⟩
  · exact .inl e
  · exact .inr ⟨g, cap, cur, e, Nat.le_trans hn h1, h2⟩
theorem own_far {X n₀ : Nat} {W : World} {v nv : Value} {l : List Int} (h : OwnPts n₀ W v l) (hX : X < n₀) : OwnPts n₀ (W.setCell ⟨X, 1, none⟩ nv) v l := by
  refine ⟨h.1, ?_⟩
  rcases h.2 with e | ⟨g, cap, cur, e, h1, h2, h3⟩
  · exact .inl e
  · exact .inr ⟨g, cap, cur, e, h1, (heap_setCell_other _ _ _ _ (show g ≠ X by omega)).trans h2, h3⟩
theorem read_far {X g m : Nat} {w2 W : World} {nv : Value} {d : List Int} {c : Nat} (hc : ∀ (i : Nat) (x : Int), d[i]? = some x → ∃ b off, some (⟨g, 0, none⟩ : Addr) = some ⟨b, off, none⟩ ∧ w2.cell? ⟨b, off + i, none⟩ = some (.int .i32 x)) (hb : Below w2.heap.size w2 W) (hg : g ≠ X) (hm : m ≤ d.length) (hl : d.length ≤ 16777216) : ReadPts (W.setCell ⟨X, 1, none⟩ nv) (.slice (some ⟨g, 0, none⟩) m c) (d.take m) := by
  have hlen : (d.take m).length = m := by rw [List.length_take]; omega
  refine ⟨by rw [hlen]; simp only [maxLen]; omega, .inr ⟨g, 0, c, by rw [hlen], fun i x hi => ?_⟩⟩
  have hi' : d[i]? = some x := by
    rw [List.getElem?_take] at hi
    split at hi
    · exact hi
    · cases hi
  obtain ⟨b, off, e, h⟩ := hc i x hi'
  injection e with e
  injection e with e1 e2
  subst e1
  subst e2
  have := Sb.later_cell hb h
  rw [World.cell?_setCell_far _ _ _ _ (Ne.symm hg)]
  exact this
set_option maxHeartbeats 4000000 in
set_option maxRecDepth 100000 in
theorem write_calls {w0 : World} {p : Nat} {D : PD} (H : PropsAt w0.heap.size w0 p D) (hgood : Nm.Good D) {W : World} {X : Nat} {rv mv : Value} {L M : List Int} (hX : w0.heap.size ≤ X) (hb : Below w0.heap.size w0 W) (hs : StrAt X W p rv) (ho : OwnPts (X + 1) W rv L) (hr : ReadPts W mv M) (hl : (flat D (L ++ M)).length ≤ 16777216) :
    Calls Tryz.prog 29 #[.pointer (some ⟨X, 0, none⟩), mv] W fun e W' => ∃ out rv' n, IsSet (classOf D) (decN D (L ++ M)) n ∧ e = .returned out ∧ ReadPts W' out ((decN D (L ++ M)).take n) ∧ StrAt X W' p rv' ∧ OwnPts W.heap.size W' rv' ((decN D (L ++ M)).drop n) ∧ Wrt X W W' rv ∧ ∀ g, out.ownBlock = some g → W.heap.size ≤ g ∧ ∀ g', rv'.ownBlock = some g' → g ≠ g' := by
  obtain ⟨c0, c1, f1⟩ := hs.cells
  have HS := Lib.hid hs
  have HO := Lib.hid ho
  have HR := Lib.hid hr
  have HFL := Lib.hid hl
  have HL : Hid (L.length + M.length ≤ 16777216) := Lib.hid (by have := Nat.le_trans (flat_length hgood _).1 hl; rwa [List.length_append] at this)
  have HB := Lib.hid hb
  have hXs : Hid (X < W.heap.size) := Lib.hid (Array.getElem?_eq_some_iff.1 hs).1
  clear hs ho hr hl hb
  obtain ⟨B, bn, bc, rfl⟩ : ∃ B bn bc, rv = .slice B bn bc := by
    rcases HO.out.2 with ⟨e, _⟩ | ⟨g, cap, cur, e, _⟩
    · exact ⟨_, _, _, e⟩
    · exact ⟨_, _, _, e⟩
  obtain ⟨A, an, ac, rfl⟩ : ∃ A an ac, mv = .slice A an ac := by
    obtain ⟨A, c, e, _⟩ := read_addr HR.out
    exact ⟨_, _, _, e⟩
  go_enter Tryz.func29, Tryz.ntmps29
  have cd0 : W.drew.cell? ⟨X, 0, none⟩ = some (.pointer (some ⟨p, 0, none⟩)) := c0
  have cd1 : W.drew.cell? ⟨X, 1, none⟩ = some (.slice B bn bc) := c1
  have hXg : (Value.slice B bn bc).ownBlock ≠ some X := fun e => by have := (own_at HO.out X e).1; omega
  have HXg := Lib.hid hXg
  clear hXg
  have HLD : Hid ((decN D (L ++ M)).length ≤ 16777216) := Lib.hid (by unfold decN; rw [ordR_length]; exact HFL.out)
  have HBW : Hid (∀ (w1 : World) {v1 : Value}, Mvd W.drew w1 (.slice B bn bc) v1 → Below w0.heap.size w0 w1) := Lib.hid (fun w1 v1 hm => HB.out.drew.trans (hm.below (n₀ := w0.heap.size) HB.out.drew.size (fun g hg => by have := (own_at HO.out g hg).1; omega)))
  go_wp2
  go_region_law (first
    | (refine step_append_read (by rfl) _ _ (by rfl) (X + 1) (.slice B bn bc) (.slice A an ac) L M (by rfl) HO.out (by rfl) HR.out (Nat.le_trans HL.out (by decide)) hXs.out ?_; intro v1 w1 ho1 hm1; have HO1 := Lib.hid ho1; have HM1 := Lib.hid hm1; have c10 : w1.cell? ⟨X, 0, none⟩ = some (.pointer (some ⟨p, 0, none⟩)) := (World.cell?_of_block (a := ⟨X, 0, none⟩) (hm1.block X hXs.out HXg.out)).trans cd0; clear ho1 hm1)
    | (go_simp; (with_reducible refine (dec_calls_any H hgood (W := w1) (HBW.out _ HM1.out) (ReadPts.own HO1.out) HFL.out).mono ?_); rintro e w2 ⟨v2, rfl, ho2, hb2⟩; obtain ⟨A2, c2, rfl, hc2⟩ := read_addr (ReadPts.own ho2); have HC2 := Lib.hid hc2; have HO2 := Lib.hid ho2; have HB2 := Lib.hid hb2; have c20 := Sb.later_cell hb2 c10; clear ho2 hb2 hc2))
  all_goals
    have HBX := Lib.hid (bl_then (HBW.out _ HM1.out) HB2.out)
    have HD : Hid (∃ d, decN D (L ++ M) = d ∧ d.length ≤ 16777216) := Lib.hid ⟨_, rfl, HLD.out⟩
    obtain ⟨d, hd, hdl⟩ := HD.out
    rw [hd] at HC2 HO2 ⊢
    obtain ⟨n, hn⟩ : ∃ n, d.length = n := ⟨_, rfl⟩
    have HN := Lib.hid hn
    rw [hn] at hdl ⊢
    have HDE := Lib.hid hd
    have HSH : Hid ((A2 = none ∧ c2 = 0 ∧ n = 0) ∨ ∃ g, A2 = some ⟨g, 0, none⟩ ∧ n ≤ c2 ∧ c2 ≤ maxLen ∧ g < w2.heap.size ∧ w1.heap.size ≤ g) := Lib.hid (by
      rcases HO2.out.2 with ⟨e, h⟩ | ⟨g, cap, cur, e, h1, h2, h3, h4, _⟩
      · injection e with e1 e2 e3
        exact .inl ⟨e1, e3, by omega⟩
      · injection e with e1 e2 e3
        exact .inr ⟨g, e1, by omega, by omega, (Array.getElem?_eq_some_iff.1 h2).1, h1⟩)
    have HSX : Hid (StrAt X w2 p (.slice B bn bc)) := Lib.hid ((HB2.out.block X (Nat.lt_of_lt_of_le hXs.out HM1.out.size)).trans ((HM1.out.block X hXs.out HXg.out).trans HS.out))
    clear hn hd HD
    go_wp2
    go_loopg [6, 21] n (fun gk vs vi wr => ∃ (k m : Nat), vi = .int .i64 k ∧ vs = .int .i64 m ∧ k ≤ n ∧ m ≤ n ∧ n - k ≤ gk ∧ Hid (IsSet (classOf D) (d.take k) m ∧ Below w2.heap.size w2 wr))
    case atStart => exact ⟨0, 0, rfl, rfl, Nat.zero_le _, Nat.zero_le _, by omega, Lib.hid ⟨set_none _ _, Below.refl _ _⟩⟩
    case round =>
      obtain ⟨k, m, rfl, rfl, hk, hm, hg1, HI⟩ := hrel
      by_cases hlt : k < n
      · have hz : (k : Int) < (n : Int) := by omega
        obtain ⟨x, hx⟩ : ∃ x, d[k]? = some x := ⟨_, List.getElem?_eq_getElem (by rw [HN.out]; exact hlt)⟩
        obtain ⟨b, off, rfl, cx0⟩ := HC2.out k x hx
        have cx := Sb.later_cell HI.out.2 cx0
        have cX := Sb.later_cell HI.out.2 c20
        have hbw : Below w0.heap.size w0 wr := bl_then HBX.out HI.out.2
        have hbl : Below w2.heap.size w2 wr := HI.out.2
        obtain ⟨cz, hcz⟩ : ∃ cz, classOf D x = cz := ⟨_, rfl⟩
        have HCC := Lib.hid (classAt (r := x) H rfl)
        have HST := Lib.hid (set_step HI.out.1 hx)
        rw [hcz] at HCC HST
        clear hx hcz cx0
        by_cases h0 : cz = 0
        · have hb2 : (cz == 0) = true := by simp [h0]
          have HST2 : Hid (IsSet (classOf D) (d.take (k + 1)) (k + 1)) := Lib.hid (by have := HST.out; rwa [if_pos h0] at this)
          clear h0 HST
          go_wp2
          go_region_held3 (fun w' => w'.cell? ⟨b, off + k, none⟩ = some (.int .i32 x) ∧ w'.cell? ⟨X, 0, none⟩ = some (.pointer (some ⟨p, 0, none⟩))) (go_keep) ((go_at_call 55; (with_reducible refine (HCC.out _ (by first | exact hbw | exact hbw.drew | exact bl_drewN hbw _)).mono ?_); rintro e w3 ⟨rfl, hb3⟩; have cx := Sb.later_cell hb3 cx; have cX := Sb.later_cell hb3 cX))
          have HBL3 : Hid (Below w2.heap.size w2 w3) := Lib.hid (bl_then (by first | exact hbl | exact hbl.drew | exact bl_drewN hbl _) hb3)
          clear hb3
          go_wp2
          go_roundg (n - (k + 1))
          case rel => exact ⟨k + 1, k + 1, by go_num, by go_num, by omega, by omega, by omega, Lib.hid ⟨HST2.out, HBL3.out⟩⟩
          case measure => omega
        · have hb2 : (cz == 0) = false := beq_eq_false_iff_ne.2 h0
          have HST2 : Hid (IsSet (classOf D) (d.take (k + 1)) m) := Lib.hid (by have := HST.out; rwa [if_neg h0] at this)
          clear h0 HST
          go_wp2
          go_region_held3 (fun w' => w'.cell? ⟨b, off + k, none⟩ = some (.int .i32 x) ∧ w'.cell? ⟨X, 0, none⟩ = some (.pointer (some ⟨p, 0, none⟩))) (go_keep) ((go_at_call 55; (with_reducible refine (HCC.out _ (by first | exact hbw | exact hbw.drew | exact bl_drewN hbw _)).mono ?_); rintro e w3 ⟨rfl, hb3⟩; have cx := Sb.later_cell hb3 cx; have cX := Sb.later_cell hb3 cX))
          have HBL3 : Hid (Below w2.heap.size w2 w3) := Lib.hid (bl_then (by first | exact hbl | exact hbl.drew | exact bl_drewN hbl _) hb3)
          clear hb3
          go_wp2
          go_roundg (n - (k + 1))
          case rel => exact ⟨k + 1, m, by go_num, rfl, by omega, by omega, by omega, Lib.hid ⟨HST2.out, HBL3.out⟩⟩
          case measure => omega
      · obtain rfl : k = n := by omega
        have HT : Hid (IsSet (classOf D) d m) := Lib.hid (by have := HI.out.1; rwa [← HN.out, List.take_of_length_le (Nat.le_refl _)] at this)
        clear hlt
        have HSr : Hid (StrAt X wr p (.slice B bn bc)) := Lib.hid ((HI.out.2.block X (Array.getElem?_eq_some_iff.1 HSX.out).1).trans HSX.out)
        obtain ⟨s0, s1, s2⟩ := HSr.out.cells
        rcases HSH.out with ⟨rfl, rfl, rfl⟩ | ⟨g, rfl, hle, hmx, hgl, hgg⟩
        · obtain rfl : m = 0 := by omega
          go_wp2_with (go_at_call 62; (with_reducible refine (clone_nil wr).mono ?_); rintro e w5 ⟨rfl, rfl⟩)
          go_ret
          have hd0 : d = [] := List.length_eq_zero_iff.1 HN.out
          exact ⟨_, .slice none 0 0, 0, by rw [HDE.out]; exact HT.out, rfl, ⟨by simp, .inl ⟨by simp, _, _, rfl⟩⟩, HSr.out.set _, by rw [HDE.out, hd0]; exact ⟨rfl, .inl ⟨rfl, rfl⟩⟩, wrt_end hXs.out HM1.out HB2.out HI.out.2 _, fun g e => (by cases e)⟩
        · have HP : Hid (Pts wr.heap.size wr (.slice (some ⟨g, m, none⟩) (k - m) (c2 - m)) (d.drop m)) := Lib.hid ⟨g, m, c2 - m, by rw [List.length_drop, HN.out], Nat.lt_of_lt_of_le hgl HI.out.2.size, by rw [List.length_drop, HN.out]; omega, by omega, fun i x hi => by
            rw [List.getElem?_drop] at hi
            obtain ⟨b, off, e, hc⟩ := HC2.out _ x hi
            injection e with e
            injection e with e1 e2
            subst e1
            subst e2
            have := Sb.later_cell HI.out.2 hc
            rwa [Nat.zero_add] at this⟩
          have HCL := Lib.hid (clone_pts_any _ (d.drop m) wr HP.out (by rw [List.length_drop, HN.out]; omega))
          have HP0 : Hid (c2 = m → Pts wr.heap.size wr (.slice (some ⟨g, 0, none⟩) 0 0) (d.drop m)) := Lib.hid (fun e => ⟨g, 0, 0, by rw [List.length_drop, HN.out, show k - m = 0 by omega], Nat.lt_of_lt_of_le hgl HI.out.2.size, by rw [List.length_drop, HN.out]; omega, Nat.zero_le _, fun i x hi => by
            have := (List.getElem?_eq_some_iff.1 hi).1
            rw [List.length_drop, HN.out] at this
            omega⟩)
          have HCL0 := Lib.hid (fun e => clone_pts_any _ (d.drop m) wr (HP0.out e) (by rw [List.length_drop, HN.out]; omega))
          have hgX : g ≠ X := by have := hXs.out; have : W.heap.size ≤ w1.heap.size := HM1.out.size; omega
          have HGX := Lib.hid hgX
          by_cases hcm : c2 = m
          · obtain rfl : k = m := by omega
            have HCL1 := Lib.hid (HCL0.out hcm)
            obtain rfl : k = c2 := by omega
            go_wp2_with (go_at_call 62; (with_reducible refine HCL1.out.mono ?_); rintro e w5 ⟨v5, rfl, ho5, hb5⟩; obtain ⟨A5, n5, c5, rfl⟩ : ∃ A5 n5 c5, v5 = .slice A5 n5 c5 := (by rcases ho5.2 with ⟨e, _⟩ | ⟨_, _, _, e, _⟩ <;> exact ⟨_, _, _, e⟩); have HS5 : Hid (StrAt X w5 p (.slice B bn bc)) := Lib.hid ((hb5.block X (Array.getElem?_eq_some_iff.1 HSr.out).1).trans HSr.out); obtain ⟨y0, y1, y2⟩ := HS5.out.cells; have HO5 := Lib.hid ho5; have HB5 := Lib.hid hb5; clear ho5 hb5)
            go_ret
            exact ⟨_, _, _, by rw [HDE.out]; exact HT.out, rfl, by rw [HDE.out]; exact read_far HC2.out (bl_then HI.out.2 HB5.out) HGX.out (by rw [HN.out]; exact hm) (by rw [HN.out]; exact hdl), HS5.out.set _, by rw [HDE.out]; exact own_base (own_far HO5.out (Array.getElem?_eq_some_iff.1 HSr.out).1) (Nat.le_trans (show W.heap.size ≤ w1.heap.size from HM1.out.size) (Nat.le_trans HB2.out.size HI.out.2.size)), wrt_end hXs.out HM1.out HB2.out (bl_then HI.out.2 HB5.out) _, fun g' e => (by obtain rfl : g = g' := (by simpa [Value.ownBlock] using e); exact ⟨Nat.le_trans (show W.heap.size ≤ w1.heap.size from HM1.out.size) hgg, fun g2 h2 e2 => (by have := (own_at HO5.out g2 h2).1; have := HI.out.2.size; omega)⟩)⟩
          · go_wp2_with (go_at_call 62; (with_reducible refine (HCL.out).mono ?_); rintro e w5 ⟨v5, rfl, ho5, hb5⟩; obtain ⟨A5, n5, c5, rfl⟩ : ∃ A5 n5 c5, v5 = .slice A5 n5 c5 := (by rcases ho5.2 with ⟨e, _⟩ | ⟨_, _, _, e, _⟩ <;> exact ⟨_, _, _, e⟩); have HS5 : Hid (StrAt X w5 p (.slice B bn bc)) := Lib.hid ((hb5.block X (Array.getElem?_eq_some_iff.1 HSr.out).1).trans HSr.out); obtain ⟨y0, y1, y2⟩ := HS5.out.cells; have HO5 := Lib.hid ho5; have HB5 := Lib.hid hb5; clear ho5 hb5)
            go_ret
            exact ⟨_, _, _, by rw [HDE.out]; exact HT.out, rfl, by rw [HDE.out]; exact read_far HC2.out (bl_then HI.out.2 HB5.out) HGX.out (by rw [HN.out]; exact hm) (by rw [HN.out]; exact hdl), HS5.out.set _, by rw [HDE.out]; exact own_base (own_far HO5.out (Array.getElem?_eq_some_iff.1 HSr.out).1) (Nat.le_trans (show W.heap.size ≤ w1.heap.size from HM1.out.size) (Nat.le_trans HB2.out.size HI.out.2.size)), wrt_end hXs.out HM1.out HB2.out (bl_then HI.out.2 HB5.out) _, fun g' e => (by obtain rfl : g = g' := (by simpa [Value.ownBlock] using e); exact ⟨Nat.le_trans (show W.heap.size ≤ w1.heap.size from HM1.out.size) hgg, fun g2 h2 e2 => (by have := (own_at HO5.out g2 h2).1; have := HI.out.2.size; omega)⟩)⟩
end Go.Proofs.YtikpkjpnehkbfaaGreatDoor.Nw
namespace Go.Proofs.YtikpkjpnehkbfaaGreatDoor.Nw
open Go Go.RowKit Go.Shelf Go.Proofs.YtikpkjpnehkbfaaGreatDoor.Sp Go.Proofs.YtikpkjpnehkbfaaGreatDoor.Pr Go.Proofs.YtikpkjpnehkbfaaGreatDoor.Rf Go.Proofs.YtikpkjpnehkbfaaGreatDoor.Nm Go.Proofs.YtikpkjpnehkbfaaGreatDoor.Sb
theorem own_set {n₀ : Nat} {W : World} {g n c : Nat} {l : List Int} (h : OwnPts n₀ W (.slice (some ⟨g, 0, none⟩) n c) l) (hn : l.length = n) {i : Nat} (hi : i < n) (x : Int) :
    OwnPts n₀ (W.setCell ⟨g, i, none⟩ (.int .i32 x)) (.slice (some ⟨g, 0, none⟩) n c) (l.set i x) ∧ Mvd W (W.setCell ⟨g, i, none⟩ (.int .i32 x)) (.slice (some ⟨g, 0, none⟩) n c) (.slice (some ⟨g, 0, none⟩) n c) ∧ W.frozen? ⟨g, i, none⟩ = false := by
  rcases own_split h with ⟨e, _⟩ | ⟨g', cap, spare, e, h1, h2, h3, h4, h5⟩
  · cases e
  · injection e with e1 e2 e3
    injection e1 with e1
    injection e1 with e1
    subst e1 e3
    have hs := h5.set (i := i) (by omega) x
    rw [List.length_nil, Nat.zero_add] at hs
    have hj := own_join (n₀ := n₀) (L := l.set i x) h1 (by rw [List.length_set]; exact h2) h3 (by rw [List.length_set]; exact h4) hs
    rw [List.length_set, hn] at hj
    refine ⟨hj, ⟨rfl, rfl, rfl, by rw [World.size_setCell]; exact Nat.le_refl _, fun k hk hne => Below.heap_setCell W ⟨g, i, none⟩ _ k (fun e => hne (by rw [e]; rfl)), fun g' hg' => .inl hg'⟩, h5.open i⟩
structure CO (D : PD) (n₀ : Nat) (w1 : World) (d : List Int) (i : Nat) (o : List Int × Option Nat) (v : Value) (lv : Int) (wr : World) : Prop where
  o_eq : o = (d.take i).foldl (compStep D) ([], none)
  own : OwnPts n₀ wr v o.1
  mv : Mvd w1 wr (.slice none 0 0) v
  inn : StIn o
  last : ∀ s, o.2 = some s → lv = lastV D o
  len : o.1.length ≤ i
theorem CO.start (D : PD) (n₀ : Nat) (w1 : World) (d : List Int) (lv : Int) : CO D n₀ w1 d 0 ([], none) (.slice none 0 0) lv w1 :=
  ⟨rfl, ⟨rfl, .inl ⟨rfl, rfl⟩⟩, Mvd.refl _ _, fun s h => (by cases h), fun s h => (by cases h), Nat.zero_le _⟩
theorem CO.next {D : PD} {n₀ : Nat} {w1 w2 : World} {d : List Int} {i : Nat} {o : List Int × Option Nat} {v v2 : Value} {lv lv2 c : Int} {wr : World} (h : CO D n₀ w1 d i o v lv wr) (hc : d[i]? = some c) (ho : OwnPts n₀ w2 v2 (compStep D o c).1) (hm : Mvd wr w2 v v2) (hl : ∀ s, (compStep D o c).2 = some s → lv2 = lastV D (compStep D o c)) :
    CO D n₀ w1 d (i + 1) (compStep D o c) v2 lv2 w2 := by
  refine ⟨?_, ho, h.mv.trans hm, h.inn.step c, hl, ?_⟩
  · rw [List.take_add_one, hc, List.foldl_append, ← h.o_eq]; rfl
  · have := compStep_length D o c
    have := h.len
    omega
theorem cs_none {D : PD} {o : List Int × Option Nat} {c : Int} (hs : o.2 = none) : compStep D o c = push D o c := by unfold compStep; rw [hs]
theorem cs_block {D : PD} {o : List Int × Option Nat} {c : Int} {s : Nat} (hs : o.2 = some s) (hf : ¬ free D o.1 s c) : compStep D o c = push D o c := by unfold compStep; rw [hs]; simp only [if_neg hf]
theorem cs_no {D : PD} {o : List Int × Option Nat} {c : Int} {s : Nat} (hs : o.2 = some s) (hf : free D o.1 s c) (hc : composeOf D (o.1.getD s 0) c = none) : compStep D o c = push D o c := by unfold compStep; rw [hs]; simp only [if_pos hf, hc]
theorem cs_yes {D : PD} {o : List Int × Option Nat} {c r : Int} {s : Nat} (hs : o.2 = some s) (hf : free D o.1 s c) (hc : composeOf D (o.1.getD s 0) c = some r) : compStep D o c = (o.1.set s r, some s) := by unfold compStep; rw [hs]; simp only [if_pos hf, hc]
theorem push_zero {D : PD} {o : List Int × Option Nat} {c : Int} (hi : StIn o) (h : classOf D c = 0) : startV (push D o c) = (o.1.length : Int) ∧ ∀ s, (push D o c).2 = some s → (-1 : Int) = lastV D (push D o c) := ⟨((push_last hi c).1 h).1, fun s _ => ((push_last hi c).1 h).2.symm⟩
theorem push_other {D : PD} {o : List Int × Option Nat} {c : Int} (hi : StIn o) (h : classOf D c ≠ 0) : startV (push D o c) = startV o ∧ ∀ s, (push D o c).2 = some s → classOf D c = lastV D (push D o c) := ⟨((push_last hi c).2 h).1, fun s hs => (((push_last hi c).2 h).2 s (by unfold push at hs; simpa [if_neg h] using hs)).symm⟩
set_option maxHeartbeats 8000000 in
set_option maxRecDepth 100000 in
theorem comp_calls_any {w0 : World} {p : Nat} {D : PD} (H : PropsAt w0.heap.size w0 p D) (hgood : Nm.Good D) {W : World} {lv : Value} {l : List Int} (hb : Below w0.heap.size w0 W) (hr : ReadPts W lv l) (hl : (flat D l).length ≤ 16777216) :
    Calls Tryz.prog 19 #[.pointer (some ⟨p, 0, none⟩), lv] W fun e W' => ∃ v, e = .returned v ∧ OwnPts W.heap.size W' v (compN D l) ∧ Below W.heap.size W W' := by
  have HDC := Lib.hid (dec_calls_any H hgood hb hr hl)
  have HB := Lib.hid hb
  have HCN : Hid (compN D l = compF D (decN D l)) := Lib.hid rfl
  have HDL : Hid ((decN D l).length ≤ 16777216) := Lib.hid (by unfold decN; rw [ordR_length]; exact hl)
  have HCL := Lib.hid (fun (x : Int) => classAt (r := x) H rfl)
  have HCB := Lib.hid hgood.cls
  have HFR := Lib.hid (fun (o : List Int × Option Nat) (s : Nat) (hs : o.2 = some s) (c : Int) => free_iff hgood hs c)
  obtain ⟨d, hd⟩ : ∃ d, decN D l = d := ⟨_, rfl⟩
  rw [hd] at HDC HCN HDL
  clear hd hb hr hl
  go_enter Tryz.func19, Tryz.ntmps19
  go_wp2_with (go_at_call 18; (with_reducible refine HDC.out.mono ?_); rintro e w1 ⟨dv, rfl, ho1, hb1⟩; obtain ⟨A, cc, rfl⟩ := YtikpkjpnehkbfaaGreatDoor.Rowl.own_slice ho1; have HO1 := Lib.hid ho1; have HB1 := Lib.hid hb1; clear ho1 hb1)
  obtain ⟨n, hn⟩ : ∃ n, d.length = n := ⟨_, rfl⟩
  have HN := Lib.hid hn
  have hn24 : n ≤ 16777216 := by rw [← hn]; exact HDL.out
  rw [hn]
  have HC : Hid (∀ (i : Nat) (x : Int), d[i]? = some x → ∃ b off, A = some ⟨b, off, none⟩ ∧ w1.cell? ⟨b, off + i, none⟩ = some (.int .i32 x)) := Lib.hid (by
    obtain ⟨A', c', e, h⟩ := read_addr (ReadPts.own HO1.out)
    injection e with e1 _ _
    subst e1
    exact h)
  clear hn HDC
  go_loopg [5, 6, 7, 17] n (fun gk v5 v6 v7 v17 wr => ∃ (i : Nat) (o : List Int × Option Nat) (lv : Int), v17 = .int .i64 i ∧ v6 = .int .i64 (startV o) ∧ v7 = .int .i64 lv ∧ i ≤ n ∧ n - i ≤ gk ∧ Hid (CO D W.heap.size w1 d i o v5 lv wr))
  case atStart => exact ⟨0, ([], none), -1, rfl, rfl, rfl, Nat.zero_le _, by omega, Lib.hid (CO.start _ _ _ _ _)⟩
  case round =>
    obtain ⟨i, o, lv, rfl, rfl, rfl, hi, hg1, HO⟩ := hrel
    have HBW : Hid (Below w1.heap.size w1 wr) := Lib.hid (HO.out.mv.below (Nat.le_refl _) (fun g h => by cases h))
    have HB0 : Hid (Below w0.heap.size w0 wr) := Lib.hid (HB.out.trans ((bl_then HB1.out HBW.out).mono HB.out.size))
    have HWS : Hid (W.heap.size ≤ wr.heap.size) := Lib.hid (Nat.le_trans HB1.out.size HBW.out.size)
    by_cases hlt : i < n
    · have hz : (i : Int) < (n : Int) := by omega
      obtain ⟨c, hc⟩ : ∃ x, d[i]? = some x := ⟨_, List.getElem?_eq_getElem (by rw [HN.out]; exact hlt)⟩
      obtain ⟨b, off, rfl, cx0⟩ := HC.out i c hc
      have cx := Sb.later_cell HBW.out cx0
      have HCC := Lib.hid (HCL.out c)
      have hb1 := HCB.out c
      obtain ⟨cc, hcc⟩ : ∃ cc, classOf D c = cc := ⟨_, rfl⟩
      rw [hcc] at HCC hb1
      have HCE := Lib.hid hcc
      have HX := Lib.hid hc
      obtain ⟨Ln, hLn⟩ : ∃ Ln, o.1.length = Ln := ⟨_, rfl⟩
      have hLi : Ln ≤ 16777216 := by rw [← hLn]; exact Nat.le_trans HO.out.len (by omega)
      have HLN := Lib.hid hLn
      have e1 : IntKind.i64.wrap ((Ln : Int) + 1 - 1) = (Ln : Int) := (IntWalk.i64_in _ (by omega)).trans (by omega)
      have e2 : IntKind.i64.wrap (Ln : Int) = (Ln : Int) := IntWalk.i64_in _ (by omega)
      have HOW : Hid (OwnPts W.heap.size wr u5 o.1) := Lib.hid HO.out.own
      have hlb : o.1.length ≤ 1073741824 := by rw [hLn]; omega
      have HLB := Lib.hid hlb
      clear hc hcc cx0 hLn hlb
      rcases ho2 : o.2 with _ | s
      · have hst : startV o = -1 := by unfold startV; rw [ho2]
        have HST := Lib.hid hst
        have HE : Hid (compStep D o c = push D o c) := Lib.hid (cs_none ho2)
        rw [hst]
        clear hst ho2
        by_cases hz0 : cc = 0
        · have hq : ((cc : Int) == 0) = true := by simp [hz0]
          have HP := Lib.hid (push_zero (D := D) HO.out.inn (HCE.out.trans hz0))
          have HZ0 := Lib.hid hz0
          clear hz0
          go_wp2_with (first
            | (go_at_call 55; (with_reducible refine (HCC.out _ HB0.out).mono ?_); rintro e w2 ⟨rfl, hb2⟩; have HB2 := Lib.hid hb2; clear hb2)
            | (at_builtin; refine wpList_append_mvd rfl _ _ rfl W.heap.size _ o.1 rfl (Rowl.own_later HOW.out HB2.out) rfl HLB.out (Nat.le_trans HWS.out HB2.out.size) ?_; rintro v' w4 ho4 hm4 ⟨g4, c4, rfl⟩; rw [HLN.out] at ho4 hm4 ⊢; have HO4 := Lib.hid ho4; have HM4 := Lib.hid (hm4.ahead HB2.out (fun g hg => (own_at HOW.out g hg).2)); clear ho4 hm4))
          go_roundg (n - (i + 1))
          case rel => exact ⟨i + 1, push D o c, -1, by go_num, by rw [HP.out.1, HLN.out], rfl, by omega, Nat.le_refl _, Lib.hid (by have := HO.out.next (lv2 := -1) HX.out (by rw [HE.out]; exact HO4.out) HM4.out (by rw [HE.out]; exact HP.out.2); rwa [HE.out] at this)⟩
          case measure => omega
        · have hq : ((cc : Int) == 0) = false := beq_eq_false_iff_ne.2 hz0
          have HP := Lib.hid (push_other (D := D) HO.out.inn (by rw [HCE.out]; exact hz0))
          clear hz0
          go_wp2_with (first
            | (go_at_call 55; (with_reducible refine (HCC.out _ HB0.out).mono ?_); rintro e w2 ⟨rfl, hb2⟩; have HB2 := Lib.hid hb2; clear hb2)
            | (at_builtin; refine wpList_append_mvd rfl _ _ rfl W.heap.size _ o.1 rfl (Rowl.own_later HOW.out HB2.out) rfl HLB.out (Nat.le_trans HWS.out HB2.out.size) ?_; rintro v' w4 ho4 hm4 ⟨g4, c4, rfl⟩; rw [HLN.out] at ho4 hm4 ⊢; have HO4 := Lib.hid ho4; have HM4 := Lib.hid (hm4.ahead HB2.out (fun g hg => (own_at HOW.out g hg).2)); clear ho4 hm4))
          go_roundg (n - (i + 1))
          case rel => exact ⟨i + 1, push D o c, cc, by go_num, by rw [HP.out.1, HST.out], rfl, by omega, Nat.le_refl _, Lib.hid (by have := HO.out.next (lv2 := cc) HX.out (by rw [HE.out]; exact HO4.out) HM4.out (by rw [HE.out, ← HCE.out]; exact HP.out.2); rwa [HE.out] at this)⟩
          case measure => omega
      · have hst : startV o = (s : Int) := by unfold startV; rw [ho2]
        have HST := Lib.hid hst
        have HLV := Lib.hid (HO.out.last s ho2)
        have hsl : s < Ln := by have := HO.out.inn s ho2; rw [HLN.out] at this; exact this
        have HFF := Lib.hid (HFR.out o s ho2 c)
        have HO2 := Lib.hid ho2
        have hs0 : (0 : Int) ≤ (s : Int) := by omega
        rw [hst]
        clear hst ho2
        by_cases hf : lv < cc
        · have HF : Hid (free D o.1 s c) := Lib.hid (HFF.out.1 (by rw [← HLV.out, HCE.out]; exact hf))
          obtain ⟨a, ha⟩ : ∃ a, o.1[s]? = some a := ⟨_, List.getElem?_eq_getElem (by rw [HLN.out]; exact hsl)⟩
          have had : Hid (o.1.getD s 0 = a) := Lib.hid (by simp [List.getD, ha])
          obtain ⟨g5, c5, hv5⟩ : ∃ g5 c5, u5 = .slice (some ⟨g5, 0, none⟩) Ln c5 := by
            rcases own_split HOW.out with ⟨_, e⟩ | ⟨g, cap, sp, e, _⟩
            · have := HLN.out; rw [e] at this; simp at this; omega
            · rw [HLN.out] at e; exact ⟨g, cap, e⟩
          subst hv5
          have ca := own_cells HOW.out ha
          have hsz : (s : Int) < (Ln : Int) := by omega
          cases hcm : composeOf D a c with
          | none =>
            have HE : Hid (compStep D o c = push D o c) := Lib.hid (cs_no HO2.out HF.out (by rw [had.out]; exact hcm))
            have HCM := Lib.hid (comp_none H hcm)
            clear hcm ha
            by_cases hz0 : cc = 0
            · have hq : ((cc : Int) == 0) = true := by simp [hz0]
              have HP := Lib.hid (push_zero (D := D) HO.out.inn (HCE.out.trans hz0))
              have HZ0 := Lib.hid hz0
              clear hz0
              go_wp2_with (first
                | (go_at_call 55; (with_reducible refine (HCC.out _ HB0.out).mono ?_); rintro e w2 ⟨rfl, hb2⟩; have ca := Sb.later_cell hb2 ca; have HB2 := Lib.hid hb2; clear hb2)
                | (go_at_call 56; (with_reducible refine (HCM.out _ (bl_then HB0.out HB2.out)).mono ?_); rintro e w3 ⟨rfl, hb3⟩; have HB3 := Lib.hid (bl_then HB2.out hb3); clear hb3)
                | (at_builtin; refine wpList_append_mvd rfl _ _ rfl W.heap.size _ o.1 rfl (Rowl.own_later HOW.out HB3.out) rfl HLB.out (Nat.le_trans HWS.out HB3.out.size) ?_; rintro v' w4 ho4 hm4 ⟨g4, c4, rfl⟩; rw [HLN.out] at ho4 hm4 ⊢; have HO4 := Lib.hid ho4; have HM4 := Lib.hid (hm4.ahead HB3.out (fun g hg => (own_at HOW.out g hg).2)); clear ho4 hm4))
              go_roundg (n - (i + 1))
              case rel => exact ⟨i + 1, push D o c, -1, by go_num, by rw [HP.out.1, HLN.out], rfl, by omega, Nat.le_refl _, Lib.hid (by have := HO.out.next (lv2 := -1) HX.out (by rw [HE.out]; exact HO4.out) HM4.out (by rw [HE.out]; exact HP.out.2); rwa [HE.out] at this)⟩
              case measure => omega
            · have hq : ((cc : Int) == 0) = false := beq_eq_false_iff_ne.2 hz0
              have HP := Lib.hid (push_other (D := D) HO.out.inn (by rw [HCE.out]; exact hz0))
              clear hz0
              go_wp2_with (first
                | (go_at_call 55; (with_reducible refine (HCC.out _ HB0.out).mono ?_); rintro e w2 ⟨rfl, hb2⟩; have ca := Sb.later_cell hb2 ca; have HB2 := Lib.hid hb2; clear hb2)
                | (go_at_call 56; (with_reducible refine (HCM.out _ (bl_then HB0.out HB2.out)).mono ?_); rintro e w3 ⟨rfl, hb3⟩; have HB3 := Lib.hid (bl_then HB2.out hb3); clear hb3)
                | (at_builtin; refine wpList_append_mvd rfl _ _ rfl W.heap.size _ o.1 rfl (Rowl.own_later HOW.out HB3.out) rfl HLB.out (Nat.le_trans HWS.out HB3.out.size) ?_; rintro v' w4 ho4 hm4 ⟨g4, c4, rfl⟩; rw [HLN.out] at ho4 hm4 ⊢; have HO4 := Lib.hid ho4; have HM4 := Lib.hid (hm4.ahead HB3.out (fun g hg => (own_at HOW.out g hg).2)); clear ho4 hm4))
              go_roundg (n - (i + 1))
              case rel => exact ⟨i + 1, push D o c, cc, by go_num, by rw [HP.out.1, HST.out], rfl, by omega, Nat.le_refl _, Lib.hid (by have := HO.out.next (lv2 := cc) HX.out (by rw [HE.out]; exact HO4.out) HM4.out (by rw [HE.out, ← HCE.out]; exact HP.out.2); rwa [HE.out] at this)⟩
              case measure => omega
          | some r =>
            have HE : Hid (compStep D o c = (o.1.set s r, some s)) := Lib.hid (cs_yes HO2.out HF.out (by rw [had.out]; exact hcm))
            have HCM := Lib.hid (comp_some H hcm)
            have HSL := Lib.hid (set_last (D := D) HO.out.inn HO2.out r)
            clear hcm ha
            go_wp2_with (first
              | (go_at_call 55; (with_reducible refine (HCC.out _ HB0.out).mono ?_); rintro e w2 ⟨rfl, hb2⟩; have ca := Sb.later_cell hb2 ca; have HB2 := Lib.hid hb2; clear hb2)
              | (go_at_call 56; (with_reducible refine (HCM.out _ (bl_then HB0.out HB2.out)).mono ?_); rintro e w3 ⟨rfl, hb3⟩; have ca := Sb.later_cell hb3 ca; have HB3 := Lib.hid (bl_then HB2.out hb3); have HSET := Lib.hid (own_set (Rowl.own_later HOW.out HB3.out) HLN.out hsl r); have f5 := HSET.out.2.2; clear hb3))
            go_roundg (n - (i + 1))
            case rel => exact ⟨i + 1, (o.1.set s r, some s), lv, by go_num, by rw [HSL.out.1, HST.out], rfl, by omega, Nat.le_refl _, Lib.hid (by have := HO.out.next (lv2 := lv) HX.out (by rw [HE.out]; exact HSET.out.1) (HSET.out.2.1.ahead HB3.out (fun g hg => (own_at HOW.out g hg).2)) (by rw [HE.out]; exact fun s' _ => HLV.out.trans HSL.out.2.symm); rwa [HE.out] at this)⟩
            case measure => omega
        · have HE : Hid (compStep D o c = push D o c) := Lib.hid (cs_block HO2.out (fun h => hf (by have := HFF.out.2 h; rw [← HLV.out, HCE.out] at this; exact this)))
          by_cases hz0 : cc = 0
          · have hq : ((cc : Int) == 0) = true := by simp [hz0]
            have HP := Lib.hid (push_zero (D := D) HO.out.inn (HCE.out.trans hz0))
            have HZ0 := Lib.hid hz0
            clear hz0
            go_wp2_with (first
              | (go_at_call 55; (with_reducible refine (HCC.out _ HB0.out).mono ?_); rintro e w2 ⟨rfl, hb2⟩; have HB2 := Lib.hid hb2; clear hb2)
              | (at_builtin; refine wpList_append_mvd rfl _ _ rfl W.heap.size _ o.1 rfl (Rowl.own_later HOW.out HB2.out) rfl HLB.out (Nat.le_trans HWS.out HB2.out.size) ?_; rintro v' w4 ho4 hm4 ⟨g4, c4, rfl⟩; rw [HLN.out] at ho4 hm4 ⊢; have HO4 := Lib.hid ho4; have HM4 := Lib.hid (hm4.ahead HB2.out (fun g hg => (own_at HOW.out g hg).2)); clear ho4 hm4))
            go_roundg (n - (i + 1))
            case rel => exact ⟨i + 1, push D o c, -1, by go_num, by rw [HP.out.1, HLN.out], rfl, by omega, Nat.le_refl _, Lib.hid (by have := HO.out.next (lv2 := -1) HX.out (by rw [HE.out]; exact HO4.out) HM4.out (by rw [HE.out]; exact HP.out.2); rwa [HE.out] at this)⟩
            case measure => omega
          · have hq : ((cc : Int) == 0) = false := beq_eq_false_iff_ne.2 hz0
            have HP := Lib.hid (push_other (D := D) HO.out.inn (by rw [HCE.out]; exact hz0))
            clear hz0
            go_wp2_with (first
              | (go_at_call 55; (with_reducible refine (HCC.out _ HB0.out).mono ?_); rintro e w2 ⟨rfl, hb2⟩; have HB2 := Lib.hid hb2; clear hb2)
              | (at_builtin; refine wpList_append_mvd rfl _ _ rfl W.heap.size _ o.1 rfl (Rowl.own_later HOW.out HB2.out) rfl HLB.out (Nat.le_trans HWS.out HB2.out.size) ?_; rintro v' w4 ho4 hm4 ⟨g4, c4, rfl⟩; rw [HLN.out] at ho4 hm4 ⊢; have HO4 := Lib.hid ho4; have HM4 := Lib.hid (hm4.ahead HB2.out (fun g hg => (own_at HOW.out g hg).2)); clear ho4 hm4))
            go_roundg (n - (i + 1))
            case rel => exact ⟨i + 1, push D o c, cc, by go_num, by rw [HP.out.1, HST.out], rfl, by omega, Nat.le_refl _, Lib.hid (by have := HO.out.next (lv2 := cc) HX.out (by rw [HE.out]; exact HO4.out) HM4.out (by rw [HE.out, ← HCE.out]; exact HP.out.2); rwa [HE.out] at this)⟩
            case measure => omega
    · have hz : ¬ (i : Int) < (n : Int) := by omega
      have hin : i = d.length := by rw [HN.out]; omega
      have HF : Hid (o.1 = compF D d) := Lib.hid (by
        have := HO.out.o_eq
        rw [hin, List.take_of_length_le (Nat.le_refl _)] at this
        unfold compF
        rw [← this])
      clear hin
      go_wp2
      go_ret
      exact ⟨_, rfl, by rw [HCN.out, ← HF.out]; exact HO.out.own, bl_then HB1.out HBW.out⟩
end Go.Proofs.YtikpkjpnehkbfaaGreatDoor.Nw
namespace Go.Proofs.YtikpkjpnehkbfaaGreatDoor.Nw
open Go Go.RowKit Go.Shelf Go.Proofs.YtikpkjpnehkbfaaGreatDoor.Sp Go.Proofs.YtikpkjpnehkbfaaGreatDoor.Pr Go.Proofs.YtikpkjpnehkbfaaGreatDoor.Rf Go.Proofs.YtikpkjpnehkbfaaGreatDoor.Nm Go.Proofs.YtikpkjpnehkbfaaGreatDoor.Sb
structure ReadNum (k : IntKind) (W : World) (v : Value) (l : List Int) : Prop where
  len : l.length ≤ maxLen
  at_ : (l = [] ∧ v = .slice none 0 0) ∨ ∃ b off c, v = .slice (some ⟨b, off, none⟩) l.length c ∧ l.length ≤ c ∧ c ≤ maxLen ∧ ∀ (i : Nat) (x : Int), l[i]? = some x → W.cell? ⟨b, off + i, none⟩ = some (.int k x)
theorem ReadNum.pts {W : World} {v : Value} {l : List Int} (h : ReadNum .i32 W v l) : ReadPts W v l := ⟨h.len, by
  rcases h.at_ with ⟨e, rfl⟩ | ⟨b, off, c, e, _, _, hc⟩
  · exact .inl ⟨e, _, _, rfl⟩
  · exact .inr ⟨b, off, c, e, hc⟩⟩
abbrev RowBack (r : List Int) (W : World) (e : Ending) (w' : World) : Prop := ∃ A c, e = .returned (.slice A r.length c) ∧ ReadPts w' (.slice A r.length c) r ∧ Below W.heap.size W w'
abbrev DecAt (w : World) (p : Nat) (l r : List Int) : Prop := ∀ W lv, Below w.heap.size w W → ReadPts W lv l → Calls Tryz.prog 18 #[.pointer (some ⟨p, 0, none⟩), lv] W (RowBack r W)
theorem decAt {w : World} {p : Nat} {D : PD} (H : PropsAt w.heap.size w p D) (hg : Nm.Good D) {l r : List Int} (h : decN D l = r) (hl : (flat D l).length ≤ 16777216) : DecAt w p l r := fun W lv hb hr =>
  (dec_calls_any H hg hb hr hl).mono fun e w' h' => by rw [h] at h'; exact rowAt_own h'
abbrev ComAt (w : World) (p : Nat) (l r : List Int) : Prop := ∀ W lv, Below w.heap.size w W → ReadPts W lv l → Calls Tryz.prog 19 #[.pointer (some ⟨p, 0, none⟩), lv] W (RowBack r W)
theorem comAt {w : World} {p : Nat} {D : PD} (H : PropsAt w.heap.size w p D) (hg : Nm.Good D) {l r : List Int} (h : compN D l = r) (hl : (flat D l).length ≤ 16777216) : ComAt w p l r := fun W lv hb hr =>
  (comp_calls_any H hg hb hr hl).mono fun e w' h' => by rw [h] at h'; exact rowAt_own h'
abbrev CutAt (w : World) (p : Nat) (l : List Int) (z : Int) (b : Bool) : Prop := ∀ W lv, Below w.heap.size w W → ReadPts W lv l → Calls Tryz.prog 23 #[.pointer (some ⟨p, 0, none⟩), lv, .int .i64 z] W fun e W' => e = .returned (.bool b) ∧ Below W.heap.size W W'
theorem cutAt {w : World} {p : Nat} {D : PD} (H : PropsAt w.heap.size w p D) (hg : Nm.Good D) {l : List Int} {z : Int} {b : Bool} (h : cutB D l z = b) (hl : l.length ≤ 1073741824) : CutAt w p l z b := fun W lv hb hr =>
  (cut_calls H hg z hb hr hl).mono fun e w' h' => by rw [h] at h'; exact h'
theorem Wrt.below {X n₀ : Nat} {W W' : World} {v : Value} (h : Wrt X W W' v) (hX : n₀ ≤ X) (hn : n₀ ≤ W.heap.size) (hv : ∀ g, v.ownBlock = some g → n₀ ≤ g) : Below n₀ W W' :=
  ⟨h.os, h.tape, h.output, h.size, fun k hk => h.block k (by omega) (by omega) (fun e => by have := hv k e; omega)⟩
theorem below_set {n₀ X : Nat} {W : World} (v : Value) (hX : n₀ ≤ X) : Below n₀ W (W.setCell ⟨X, 1, none⟩ v) :=
  ⟨rfl, rfl, rfl, by rw [World.size_setCell]; exact Nat.le_refl _, fun k hk => heap_setCell_other _ _ _ _ (show k ≠ X by omega)⟩
end Go.Proofs.YtikpkjpnehkbfaaGreatDoor.Nw
