/- normal.order, Decompose: the walks. -/
import Derived.Test.YtikpkjpnehkbfaaGreatDoorNormWhole
import Derived.Test.YtikpkjpnehkbfaaGreatDoorNormSeg
import Derived.Test.YtikpkjpnehkbfaaGreatDoorStabWhole
import Derived.RangeFuncBox
import Derived.Deep.RegionHeld3
namespace Go.Proofs.YtikpkjpnehkbfaaGreatDoor.Nw
open Go Go.RowKit Go.Shelf Go.Proofs.YtikpkjpnehkbfaaGreatDoor.Sp Go.Proofs.YtikpkjpnehkbfaaGreatDoor.Pr Go.Proofs.YtikpkjpnehkbfaaGreatDoor.Rf Go.Proofs.YtikpkjpnehkbfaaGreatDoor.Nm Go.Proofs.YtikpkjpnehkbfaaGreatDoor.Sb
set_option linter.unusedSimpArgs false
set_option linter.unusedVariables false

theorem bl_drewN {B : Nat} {a w : World} (h : Below B a w) (n : Nat) : Below B a (w.drewN n) := ⟨h.os, h.tape, h.output, h.size, h.block⟩
theorem bl_then {w W W' : World} (h : Below w.heap.size w W) (hb : Below W.heap.size W W') : Below w.heap.size w W' := h.trans (hb.mono h.size)
set_option maxHeartbeats 4000000 in
set_option maxRecDepth 100000 in
theorem cmp_order {w0 : World} {p : Nat} {D : PD} (H : PropsAt w0.heap.size w0 p D) (hgood : Nm.Good D) {g B : Nat} {W0 : World} (h0 : Below w0.heap.size w0 W0) (hg : w0.heap.size ≤ g) (hB : Boxed W0 B 23 (.pointer (some ⟨p, 0, none⟩))) (hne : B ≠ g) :
    Cmp g W0 93 #[.pointer (some ⟨B, 0, none⟩)] (classOf D) := fun x y W hW => by
  have hbw : Below w0.heap.size w0 W := h0.trans (hW.below hg h0.size)
  have hbx : Boxed W B 23 (.pointer (some ⟨p, 0, none⟩)) := (hW.block B hB.lt hne).trans hB
  have cb := hbx.cell
  have hbl : Below W.heap.size W W := Below.refl _ W
  have HA := Lib.hid (classAt (r := x) H rfl)
  have HY := Lib.hid (classAt (r := y) H rfl)
  have h1 := hgood.cls x
  have h2 := hgood.cls y
  generalize classOf D x = cx at *
  generalize classOf D y = cy at *
  obtain ⟨z, hz⟩ : ∃ z, cx - cy = z := ⟨_, rfl⟩
  have e1 : IntKind.i64.wrap (cx - cy) = z := (IntWalk.i64_in _ (by omega)).trans (by omega)
  have HZ := Lib.hid hz
  clear hz h1 h2 hB hW h0 hbx
  show Calls _ _ #[.int .i32 x, .int .i32 y, .pointer (some ⟨B, 0, none⟩)] _ _
  go_enter Tryz.func93, Tryz.ntmps93
  go_wp2
  go_region_held3 (fun w' => w'.cell? ⟨B, 0, none⟩ = some (.pointer (some ⟨p, 0, none⟩))) (go_keep) (first
    | ((go_at_call 55; (with_reducible refine (HA.out _ (by first | exact hbw | exact hbw.drew | exact bl_drewN hbw _)).mono ?_); rintro e w3 ⟨rfl, hb3⟩; have cb := Sb.later_cell hb3 cb; have hbw : Below w0.heap.size w0 w3 := bl_then (by first | exact hbw | exact hbw.drew | exact bl_drewN hbw _) hb3; have hbl : Below W.heap.size W w3 := bl_then (by first | exact hbl | exact hbl.drew | exact bl_drewN hbl _) hb3; clear hb3))
    | ((go_at_call 55; (with_reducible refine (HY.out _ (by first | exact hbw | exact hbw.drew | exact bl_drewN hbw _)).mono ?_); rintro e w4 ⟨rfl, hb4⟩; have cb := Sb.later_cell hb4 cb; have hbw : Below w0.heap.size w0 w4 := bl_then (by first | exact hbw | exact hbw.drew | exact bl_drewN hbw _) hb4; have hbl : Below W.heap.size W w4 := bl_then (by first | exact hbl | exact hbl.drew | exact bl_drewN hbl _) hb4; clear hb4)))
  go_wp2
  go_ret
  exact ⟨by rw [HZ.out]; rfl, hbl⟩
theorem rw_split {g : Nat} {spare : List Value} {W : World} {a s b : List Int} : RW g [] spare W (a ++ (s ++ b)) ↔ RW g (enc a) (enc b ++ spare) W s := by
  unfold RW enc
  simp [List.map_append, List.append_assoc]
/-- A stretch of a row is put in order. -/
theorem seg_sort {key : Int → Int} {g c cf : Nat} {lb : Array Value} {spare : List Value} {W0 : World} (eg : Sb.Enters cf) (hC : Cmp g W0 cf lb key) (hk : ∀ x, 0 ≤ key x ∧ key x ≤ 254) {li : List Int} {W : World} {fr i : Nat}
    (hr : RW g [] spare W li) (hkp : Kp g W0 W) (h1 : fr ≤ i) (h2 : i ≤ li.length) (hn : li.length ≤ 16777216) :
    Calls Tryz.prog 94 #[.slice (some ⟨g, fr, none⟩) (i - fr) c, .func (.func cf) #[] lb] W fun e W' => e = .returned (.tuple #[]) ∧ ∃ s', Mv key 0 (i - fr) (seg li fr i) s' ∧ Srt key 0 (i - fr) s' ∧ RW g [] spare W' (li.take fr ++ (s' ++ li.drop i)) ∧ Kp g W0 W' := by
  obtain ⟨e, l1, l2⟩ := seg_split h1 h2
  have hr' : RW g (enc (li.take fr)) (enc (li.drop i) ++ spare) W (seg li fr i) := by
    rw [← rw_split, ← e]; exact hr
  have hl : (enc (li.take fr)).length = fr := by unfold enc; rw [List.length_map, l1]
  have h := sort_calls (cap := c) (n := i - fr) (pre := enc (li.take fr)) (post := enc (li.drop i) ++ spare) eg hC hk (seg li fr i) W ⟨hr', hkp⟩ l2 (by omega)
  rw [hl] at h
  exact h.mono fun e' W' ⟨a, s', hs, hm, ho⟩ => ⟨a, s', hm, ho, rw_split.2 hs.row, hs.kp⟩
theorem seg_any {key : Int → Int} {g cap cf : Nat} {lb : Array Value} {spare : List Value} {W0 : World} (eg : Sb.Enters cf) (hC : Cmp g W0 cf lb key) (hk : ∀ x, 0 ≤ key x ∧ key x ≤ 254) {li : List Int} {W : World} {fr i : Nat}
    (hr : RW g [] spare W li) (hkp : Kp g W0 W) (h1 : fr ≤ i) (h2 : i ≤ li.length) (hn : li.length ≤ 16777216) (hc : li.length ≤ cap) :
    Calls Tryz.prog 94 #[.slice (if cap = fr then some ⟨g, 0, none⟩ else some ⟨g, fr, none⟩) (i - fr) (cap - fr), .func (.func cf) #[] lb] W fun e W' => e = .returned (.tuple #[]) ∧ ∃ s', Mv key 0 (i - fr) (seg li fr i) s' ∧ Srt key 0 (i - fr) s' ∧ RW g [] spare W' (li.take fr ++ (s' ++ li.drop i)) ∧ Kp g W0 W' := by
  by_cases e : fr = i
  · subst e
    obtain ⟨e, l1, l2⟩ := seg_split h1 h2
    rw [Nat.sub_self]
    refine (sort_none _ _ _ W).mono fun e' W' ⟨a, hb⟩ => ⟨a, seg li fr fr, Mv.refl _ _ _ _, Srt.short key _ (by omega), ?_, hkp.later hb⟩
    rw [← e]
    exact hr.later hb
  · rw [if_neg (by omega)]
    exact seg_sort eg hC hk hr hkp h1 h2 hn
theorem own_split {n₀ : Nat} {W : World} {v : Value} {L : List Int} (h : OwnPts n₀ W v L) : (v = .slice none 0 0 ∧ L = []) ∨ ∃ g cap spare, v = .slice (some ⟨g, 0, none⟩) L.length cap ∧ n₀ ≤ g ∧ L.length ≤ cap ∧ cap ≤ maxLen ∧ L.length + spare.length = cap ∧ RW g [] spare W L := by
  rcases h.2 with ⟨h1, h2⟩ | ⟨g, cap, cur, h1, hg, hh, hn, hm, hs, ht⟩
  · exact .inl ⟨h1, List.length_eq_zero_iff.1 h2⟩
  · refine .inr ⟨g, cap, cur.toList.drop L.length, h1, hg, hn, hm, ?_, ?_⟩
    · have e : cur.toList.length = cap := by rw [Array.length_toList, hs, Nat.mul_one]
      rw [List.length_drop, e]; omega
    · unfold RW
      rw [hh]
      congr 2
      rw [List.nil_append]
      rw [Nat.mul_one] at ht
      have : L.map (Value.int .i32) = cur.toList.take L.length := ht.symm
      rw [this, List.take_append_drop]
theorem own_join {n₀ : Nat} {W : World} {g cap : Nat} {spare : List Value} {L : List Int} (hg : n₀ ≤ g) (hn : L.length ≤ cap) (hm : cap ≤ maxLen) (hs : L.length + spare.length = cap) (h : RW g [] spare W L) : OwnPts n₀ W (.slice (some ⟨g, 0, none⟩) L.length cap) L := by
  refine ⟨by unfold enc; rw [List.length_map, Nat.mul_one], .inr ⟨g, cap, _, rfl, hg, h, hn, hm, by simp; omega, ?_⟩⟩
  simp [enc]
set_option maxHeartbeats 8000000 in
set_option maxRecDepth 100000 in
theorem order_some {w0 : World} {p : Nat} {D : PD} (H : PropsAt w0.heap.size w0 p D) (hgood : Nm.Good D) {g n cap : Nat} {spare : List Value} {W : World} {L : List Int} (hb : Below w0.heap.size w0 W) (hg : w0.heap.size ≤ g) (hr : RW g [] spare W L) (hl : L.length = n) (hn : n ≤ 16777216) (hc : n ≤ cap) (hcm : cap ≤ maxLen) :
    Calls Tryz.prog 54 #[.pointer (some ⟨p, 0, none⟩), .slice (some ⟨g, 0, none⟩) n cap] W fun e W' => e = .returned (.tuple #[]) ∧ RW g [] spare W' (ordR (classOf D) L) ∧ Kp g W W' := by
  obtain ⟨W1, hW1⟩ : ∃ W1, W.alloc (.cells #[.pointer (some ⟨p, 0, none⟩)] 23) = W1 := ⟨_, rfl⟩
  have hgW := hr.lt
  have HB1 : Hid (Boxed W1 W.heap.size 23 (.pointer (some ⟨p, 0, none⟩))) := Lib.hid (by rw [← hW1]; exact Boxed.new W _ _)
  have HBW : Hid (Below W.heap.size W W1) := Lib.hid (by rw [← hW1]; exact (Below.refl _ W).alloc (Nat.le_refl _) _)
  have HK := Lib.hid hgood.cls
  have HN := Lib.hid hgood.nn
  have HCM := Lib.hid (cmp_order H hgood (g := g) (B := W.heap.size) (W0 := W1) (bl_then hb HBW.out) hg HB1.out (by omega))
  have HCL := Lib.hid (fun (x : Int) => classAt (r := x) H rfl)
  have HBL := Lib.hid (bl_then hb HBW.out)
  have HR := Lib.hid (hr.later HBW.out)
  have HL := Lib.hid hl
  have HGW := Lib.hid hgW
  have hcap : (n : Int) ≤ (cap : Int) := by omega
  have HWW := Lib.hid hW1
  have hcz : (cap : Int) ≤ 9223372036854775807 := by unfold maxLen at hcm; omega
  clear hr hl hgW hcm hW1 hb
  go_enter Tryz.func54, Tryz.ntmps54
  go_wp2
  rw [HWW.out]
  go_loopg [5, 11] (n + 1) (fun gk vf vi wr => ∃ (i fr : Nat) (li : List Int), vi = .int .i64 i ∧ vf = .int .i64 fr ∧ i ≤ n + 1 ∧ fr ≤ i ∧ n + 1 - i ≤ gk ∧ Hid (OI (classOf D) L li i fr ∧ (i = n + 1 → fr = n + 1)) ∧ Hid (RW g [] spare wr li ∧ Kp g W1 wr))
  case atStart => exact ⟨0, 0, L, rfl, rfl, Nat.zero_le _, Nat.le_refl _, by omega, Lib.hid ⟨OI.start _ _, fun h => by omega⟩, Lib.hid ⟨HR.out, Kp.refl _ _⟩⟩
  case round =>
    obtain ⟨i, fr, li, rfl, rfl, hi, hfi, hg1, HO, HS⟩ := hrel
    have HLL : Hid (li.length = n) := Lib.hid (by rw [HO.out.1.len, HL.out])
    by_cases hlt : i < n + 1
    · have hz : (i : Int) < (n : Int) + 1 := by omega
      by_cases hcf : cap = fr
      · obtain rfl : cap = fr := hcf
        have f0 : (0 : Int) ≤ (cap : Int) := by omega
        have f1 : (cap : Int) ≤ (i : Int) := by omega
        have f2 : (i : Int) ≤ (cap : Int) := by omega
        have f3 : (i : Int) ≤ (n : Int) := by omega
        have HSRT := Lib.hid (fun (W' : World) (hr : RW g [] spare W' li) (hkp : Kp g W1 W') => (by have h := seg_any (cap := cap) (fr := cap) (i := i) (enters_of Tryz.func93 (by kernel_rfl) rfl) HCM.out HK.out hr hkp hfi (by rw [HLL.out]; omega) (by rw [HLL.out]; exact hn) (by rw [HLL.out]; exact hc); rw [if_pos rfl, Nat.sub_self] at h; exact h : Calls Tryz.prog 94 #[.slice (some ⟨g, 0, none⟩) (i - cap) 0, .func (.func 93) #[] #[.pointer (some ⟨W.heap.size, 0, none⟩)]] W' fun e w' => e = .returned (.tuple #[]) ∧ ∃ s', Mv (classOf D) 0 (i - cap) (seg li cap i) s' ∧ Srt (classOf D) 0 (i - cap) s' ∧ RW g [] spare w' (li.take cap ++ (s' ++ li.drop i)) ∧ Kp g W1 w'))
        have hin : i = n := by omega
        have hb1 : ((i : Int) == (n : Int)) = true := by simp [hin]
        have HIN := Lib.hid hin
        clear hin
        go_wp2
        go_region
        all_goals go_wp2_with (go_at_call 94; (with_reducible refine (HSRT.out _ (by first | exact HS.out.1 | exact HS.out.1.drew) (by first | exact HS.out.2 | exact HS.out.2.drew)).mono ?_); rintro e w3 ⟨rfl, s', hm, ho, hr, hk⟩; have HR3 := Lib.hid (And.intro hr hk); have HN3 : Hid (OI (classOf D) L (li.take cap ++ (s' ++ li.drop i)) (i + 1) (i + 1)) := Lib.hid (HO.out.1.sorted HN.out (by rw [HL.out, HIN.out]; exact Nat.le_refl _) (.inl (by rw [HL.out, HIN.out])) hm ho); clear hr hk hm ho)
        all_goals
          go_roundg (n - i)
          case rel => exact ⟨i + 1, i + 1, _, by go_num, by go_num, by omega, Nat.le_refl _, by omega, Lib.hid ⟨HN3.out, fun _ => by have := HIN.out; omega⟩, HR3⟩
          case measure => omega
      · skip
        have f0 : (0 : Int) ≤ (fr : Int) := by omega
        have f1 : (fr : Int) ≤ (i : Int) := by omega
        have f2 : (i : Int) ≤ (cap : Int) := by omega
        have f3 : (i : Int) ≤ (n : Int) := by omega
        have HSRT := Lib.hid (fun (W' : World) (hr : RW g [] spare W' li) (hkp : Kp g W1 W') => (by have h := seg_any (cap := cap) (fr := fr) (i := i) (enters_of Tryz.func93 (by kernel_rfl) rfl) HCM.out HK.out hr hkp hfi (by rw [HLL.out]; omega) (by rw [HLL.out]; exact hn) (by rw [HLL.out]; exact hc); rw [if_neg hcf] at h; exact h : Calls Tryz.prog 94 #[.slice (some ⟨g, fr, none⟩) (i - fr) (cap - fr), .func (.func 93) #[] #[.pointer (some ⟨W.heap.size, 0, none⟩)]] W' fun e w' => e = .returned (.tuple #[]) ∧ ∃ s', Mv (classOf D) 0 (i - fr) (seg li fr i) s' ∧ Srt (classOf D) 0 (i - fr) s' ∧ RW g [] spare w' (li.take fr ++ (s' ++ li.drop i)) ∧ Kp g W1 w'))
        by_cases hin : i = n
        · have hb1 : ((i : Int) == (n : Int)) = true := by simp [hin]
          have HIN := Lib.hid hin
          clear hin
          go_wp2
          go_region
          all_goals go_wp2_with (go_at_call 94; (with_reducible refine (HSRT.out _ (by first | exact HS.out.1 | exact HS.out.1.drew) (by first | exact HS.out.2 | exact HS.out.2.drew)).mono ?_); rintro e w3 ⟨rfl, s', hm, ho, hr, hk⟩; have HR3 := Lib.hid (And.intro hr hk); have HN3 : Hid (OI (classOf D) L (li.take fr ++ (s' ++ li.drop i)) (i + 1) (i + 1)) := Lib.hid (HO.out.1.sorted HN.out (by rw [HL.out, HIN.out]; exact Nat.le_refl _) (.inl (by rw [HL.out, HIN.out])) hm ho); clear hr hk hm ho)
          all_goals
            go_roundg (n - i)
            case rel => exact ⟨i + 1, i + 1, _, by go_num, by go_num, by omega, Nat.le_refl _, by omega, Lib.hid ⟨HN3.out, fun _ => by have := HIN.out; omega⟩, HR3⟩
            case measure => omega
        · have hb1 : ((i : Int) == (n : Int)) = false := beq_eq_false_iff_ne.2 (by omega)
          have hil : i < n := by omega
          obtain ⟨x, hx⟩ : ∃ x, li[i]? = some x := ⟨_, List.getElem?_eq_getElem (by rw [HLL.out]; exact hil)⟩
          have cx := HS.out.1.cell hx
          rw [List.length_nil, Nat.zero_add] at cx
          have cbx := (show Boxed wr W.heap.size 23 (.pointer (some ⟨p, 0, none⟩)) from (HS.out.2.block _ HB1.out.lt (by have := HGW.out; omega)).trans HB1.out).cell
          have HCC := Lib.hid (HCL.out x)
          have hbw : Below w0.heap.size w0 wr := HBL.out.trans (HS.out.2.below hg HBL.out.size)
          have HX := Lib.hid hx
          have f4 : (i : Int) < (n : Int) := by omega
          obtain ⟨cz, hcz2⟩ : ∃ cz, classOf D x = cz := ⟨_, rfl⟩
          rw [hcz2] at HCC
          have HCZ := Lib.hid hcz2
          clear hx hcz2 hin
          by_cases h0 : cz = 0
          · have hb2 : (cz == 0) = true := by simp [h0]
            have HC0 := Lib.hid h0
            clear h0
            go_wp2
            go_region_held3 (fun w' => w'.cell? ⟨g, i, none⟩ = some (.int .i32 x) ∧ w'.cell? ⟨W.heap.size, 0, none⟩ = some (.pointer (some ⟨p, 0, none⟩))) (go_keep) ((go_at_call 55; (with_reducible refine (HCC.out _ (by first | exact hbw | exact hbw.drew | exact bl_drewN hbw _)).mono ?_); rintro e w3 ⟨rfl, hb3⟩; have cx := Sb.later_cell hb3 cx; have cbx := Sb.later_cell hb3 cbx))
            have HS3 := Lib.hid (show RW g [] spare w3 li ∧ Kp g W1 w3 from ⟨HS.out.1.drew.later hb3, HS.out.2.drew.later hb3⟩)
            clear hb3
            go_wp2_with (go_at_call 94; (with_reducible refine (HSRT.out _ HS3.out.1 HS3.out.2).mono ?_); rintro e w4 ⟨rfl, s', hm, ho, hr, hk⟩; have HR3 := Lib.hid (And.intro hr hk); have HN3 : Hid (OI (classOf D) L (li.take fr ++ (s' ++ li.drop i)) (i + 1) (i + 1)) := Lib.hid (HO.out.1.sorted HN.out (by rw [HL.out]; omega) (.inr ⟨x, HX.out, by rw [HCZ.out]; exact HC0.out⟩) hm ho); clear hr hk hm ho)
            all_goals
              go_roundg (n - i)
              case rel => exact ⟨i + 1, i + 1, _, by go_num, by go_num, by omega, Nat.le_refl _, by omega, Lib.hid ⟨HN3.out, fun h => by omega⟩, HR3⟩
              case measure => omega
          · have hb2 : (cz == 0) = false := beq_eq_false_iff_ne.2 h0
            have HC0 := Lib.hid h0
            clear h0
            go_wp2
            go_region_held3 (fun w' => w'.cell? ⟨g, i, none⟩ = some (.int .i32 x) ∧ w'.cell? ⟨W.heap.size, 0, none⟩ = some (.pointer (some ⟨p, 0, none⟩))) (go_keep) ((go_at_call 55; (with_reducible refine (HCC.out _ (by first | exact hbw | exact hbw.drew | exact bl_drewN hbw _)).mono ?_); rintro e w3 ⟨rfl, hb3⟩; have cx := Sb.later_cell hb3 cx; have cbx := Sb.later_cell hb3 cbx))
            have HS3 := Lib.hid (show RW g [] spare w3 li ∧ Kp g W1 w3 from ⟨HS.out.1.drew.later hb3, HS.out.2.drew.later hb3⟩)
            clear hb3
            go_wp2
            go_roundg (n - i)
            case rel => exact ⟨i + 1, fr, li, by go_num, rfl, by omega, by omega, by omega, Lib.hid ⟨HO.out.1.skip HX.out (by rw [HCZ.out]; exact HC0.out), fun h => by omega⟩, HS3⟩
            case measure => omega
    · obtain rfl : i = n + 1 := by omega
      have HF : Hid (li = ordR (classOf D) L) := Lib.hid (by
        have h1 := HO.out.1
        rw [HO.out.2 rfl, ← HL.out] at h1
        exact h1.done HN.out)
      go_wp2
      go_end0
      exact ⟨rfl, by rw [← HF.out]; exact HS.out.1, (Kp.refl g W |>.later HBW.out).trans HS.out.2⟩
set_option maxHeartbeats 1000000 in
theorem order_none {p : Nat} (W : World) : Calls Tryz.prog 54 #[.pointer (some ⟨p, 0, none⟩), .slice none 0 0] W fun e W' => e = .returned (.tuple #[]) ∧ Below W.heap.size W W' := by
  have hbl : Below W.heap.size W (W.alloc (.cells #[.pointer (some ⟨p, 0, none⟩)] 23)) := (Below.refl _ W).alloc (Nat.le_refl _) _
  go_enter Tryz.func54, Tryz.ntmps54
  go_wp2
  refine wp_loop_rounds 2 ?_
  rw [rounds_succ]
  go_wp2
  go_region
  all_goals go_wp2_with (go_at_call 94; refine (sort_none _ _ _ _).mono ?_; rintro e w1 ⟨rfl, hb⟩)
  rw [rounds_succ]
  go_wp2
  go_end0
  exact ⟨rfl, bl_then hbl.drew hb⟩
theorem order_calls {w0 : World} {p : Nat} {D : PD} (H : PropsAt w0.heap.size w0 p D) (hgood : Nm.Good D) {n₀ : Nat} (hn0 : w0.heap.size ≤ n₀) {W : World} {v : Value} {L : List Int} (hb : Below w0.heap.size w0 W) (ho : OwnPts n₀ W v L) (hl : L.length ≤ 16777216) :
    Calls Tryz.prog 54 #[.pointer (some ⟨p, 0, none⟩), v] W fun e W' => e = .returned (.tuple #[]) ∧ OwnPts n₀ W' v (ordR (classOf D) L) ∧ Mvd W W' v v := by
  rcases own_split ho with ⟨rfl, rfl⟩ | ⟨g, cap, spare, rfl, h1, h2, h3, h4, h5⟩
  · refine (order_none W).mono fun e W' ⟨a, hb'⟩ => ⟨a, ⟨rfl, .inl ⟨rfl, rfl⟩⟩, (Mvd.refl W _).later hb'⟩
  · refine (order_some H hgood hb (by omega) h5 rfl hl h2 h3).mono fun e W' ⟨a, hr, hk⟩ => ⟨a, ?_, ?_⟩
    · have hlen := ordR_length (classOf D) L
      have := own_join (n₀ := n₀) (g := g) (cap := cap) (spare := spare) (L := ordR (classOf D) L) (W := W') h1 (by omega) h3 (by omega) hr
      rw [hlen] at this
      exact this
    · exact ⟨hk.os, hk.tape, hk.output, hk.size, fun k hk1 hne => hk.block k hk1 (fun e => hne (by rw [e]; rfl)), fun g' hg' => .inl hg'⟩
end Go.Proofs.YtikpkjpnehkbfaaGreatDoor.Nw
