/- The law NormalTwice: the walk. -/
import Derived.Test.YtikpkjpnehkbfaaGreatDoorNormWork
import Derived.Test.YtikpkjpnehkbfaaGreatDoorNormSorted
namespace Go.Proofs.YtikpkjpnehkbfaaGreatDoor.Nw
open Go Go.RowKit Go.Shelf Go.Proofs.YtikpkjpnehkbfaaGreatDoor.Sp Go.Proofs.YtikpkjpnehkbfaaGreatDoor.Pr Go.Proofs.YtikpkjpnehkbfaaGreatDoor.Rf Go.Proofs.YtikpkjpnehkbfaaGreatDoor.Nm Go.Proofs.YtikpkjpnehkbfaaGreatDoor.Sb
set_option linter.unusedSimpArgs false
set_option linter.unusedVariables false

set_option maxHeartbeats 2000000 in
theorem twice_bad (f : ByteArray) (lv mv : Value) {m0 : Int} {ev : Value} (w : World) (hv : Vars w.heap.size w m0 ev) (hs : f.size ≤ 1048576) {x : Int × Option Int} (h : parse f.data.toList = .error x) :
    Calls Tryz.prog 5 #[.string f, lv, mv] w fun e w' => e = .returned (.bool true) ∧ Below w.heap.size w w' := by
  have RD := Lib.hid (parse_err hs hv h)
  have HW := Lib.hid (worksAt hv)
  clear h hv
  go_enter Tryz.func5, Tryz.ntmps5
  go_wp2_with (first
    | (go_at_call 31; refine RD.out.mono ?_; rintro e w1 ⟨⟨te, pv, rfl⟩, hb⟩)
    | (go_at_call 16; (with_reducible refine (HW.out _ hb).mono ?_); rintro e w2 ⟨rfl, hb2⟩))
  go_ret
  exact ⟨rfl, bl_then hb hb2⟩
set_option maxHeartbeats 8000000 in
set_option maxRecDepth 100000 in
theorem twice_good (f : ByteArray) (lv : Value) (l : List Int) (mv : Value) (m : List Int) {m0 : Int} {ev : Value} (w : World) (hv : Vars w.heap.size w m0 ev) (hl : ReadPts w lv l) (hm : ReadPts w mv m) (hs : f.size + l.length + m.length ≤ 1048576) {D : PD} (h : parse f.data.toList = .ok D) :
    Calls Tryz.prog 5 #[.string f, lv, mv] w fun e w' => e = .returned (.bool true) ∧ Below w.heap.size w w' := by
  have hg := good_of h
  have PG := Lib.hid (parse_good (s := f) (by omega) hv h)
  have HW := Lib.hid (worksAt hv)
  have HG := Lib.hid hg
  have hF : (flat D l).length ≤ 16777216 := flat_le hg (by omega)
  have HFL := Lib.hid hF
  have HFM : Hid ((flat D m).length ≤ 16777216) := Lib.hid (flat_le hg (by omega))
  have HFD : Hid ((flat D (decN D l)).length ≤ 16777216) := Lib.hid (by rw [flat_dec_len hg]; exact hF)
  have HFC : Hid ((flat D (compN D l)).length ≤ 16777216) := Lib.hid (by rw [flat_comp_len hg]; exact hF)
  have HE : Hid (decN D (decN D l) = decN D l ∧ decN D (compN D l) = decN D l ∧ compN D (compN D l) = compN D l ∧ compN D (decN D l) = compN D l) := Lib.hid ⟨dec_dec hg l, dec_comp hg l, comp_comp hg l, comp_dec hg l⟩
  obtain ⟨b, hb1⟩ : ∃ b, decide (decN D m = decN D l) = b := ⟨_, rfl⟩
  have hb2 : decide (compN D m = compN D l) = b := by rw [← hb1]; exact decide_eq_decide.2 (dec_iff hg l m).symm
  have HB1 := Lib.hid hb1
  have HB2 := Lib.hid hb2
  have HDL : Hid ((decN D l).length ≤ 1073741824) := Lib.hid (by unfold decN; rw [ordR_length]; exact Nat.le_trans hF (by decide))
  have HSR : Hid (Srtd D (decN D l)) := Lib.hid (dec_srtd hg l)
  obtain ⟨A0, C0, rfl⟩ := hl.slice
  obtain ⟨A1, C1, rfl⟩ := hm.slice
  have RL := Lib.hid hl
  have RM := Lib.hid hm
  clear hg hF hb1 hb2 hl hm h hv
  obtain ⟨d, hd⟩ : ∃ d, decN D l = d := ⟨_, rfl⟩
  obtain ⟨c, hc⟩ : ∃ c, compN D l = c := ⟨_, rfl⟩
  obtain ⟨d2, hd2⟩ : ∃ d, decN D m = d := ⟨_, rfl⟩
  obtain ⟨c2, hc2⟩ : ∃ c, compN D m = c := ⟨_, rfl⟩
  rw [hd, hd2] at HB1
  rw [hc, hc2] at HB2
  rw [hd] at HSR HFD HDL
  rw [hc] at HFC
  rw [hd, hc] at HE
  have HD := Lib.hid hd
  have HC := Lib.hid hc
  have HD2 := Lib.hid hd2
  have HC2 := Lib.hid hc2
  clear hd hc hd2 hc2
  generalize l.length = ln at *
  generalize m.length = mn at *
  go_enter Tryz.func5, Tryz.ntmps5
  go_wp2_with (first
    | (go_at_call 31; refine PG.out.mono ?_; rintro e w1 ⟨p, rfl, H1, hb⟩; have HBW := Lib.hid hb; have HP1 := Lib.hid H1; have RL1 := Lib.hid (RL.out.on hb); have RM1 := Lib.hid (RM.out.on hb); have D1 := Lib.hid (decAt H1 HG.out HD.out HFL.out); have C1 := Lib.hid (comAt H1 HG.out HC.out HFL.out); clear H1 hb)
    | (go_at_call 18; (with_reducible refine (D1.out _ _ (Below.refl _ _) RL1.out).mono ?_); rintro e w2 ⟨A2, K2, rfl, R2, hb⟩; have HB2' := Lib.hid hb; clear hb D1)
    | (go_at_call 19; (with_reducible refine (C1.out _ _ HB2'.out (RL1.out.on HB2'.out)).mono ?_); rintro e w3 ⟨A3, K3, rfl, R3, hb⟩; have HB3 := Lib.hid (bl_then HB2'.out hb); replace R2 := Lib.hid (R2.on hb); replace R3 := Lib.hid R3; clear hb C1))
  have HP3 := Lib.hid (HP1.out.on HB3.out)
  have RM3 := Lib.hid (RM1.out.on HB3.out)
  have D2 := Lib.hid (decAt HP3.out HG.out HE.out.1 HFD.out)
  have D3 := Lib.hid (decAt HP3.out HG.out HE.out.2.1 HFC.out)
  have C2 := Lib.hid (comAt HP3.out HG.out HE.out.2.2.1 HFC.out)
  have C3 := Lib.hid (comAt HP3.out HG.out HE.out.2.2.2 HFD.out)
  have D4 := Lib.hid (decAt HP3.out HG.out HD2.out HFM.out)
  have C4 := Lib.hid (comAt HP3.out HG.out HC2.out HFM.out)
  have OR := Lib.hid (ordAt HP3.out HG.out HSR.out HDL.out)
  have HB := Below.refl w3.heap.size w3
  go_wp2_with (first
    | (go_at_call 18; (with_reducible refine (D2.out _ _ HB (R2.out.on HB)).mono ?_); rintro e w4 ⟨A4, K4, rfl, R4, hb⟩; replace HB := bl_then HB hb; clear hb)
    | (go_at_call 18; (with_reducible refine (D3.out _ _ HB (R3.out.on HB)).mono ?_); rintro e w4 ⟨A4, K4, rfl, R4, hb⟩; replace HB := bl_then HB hb; clear hb)
    | (go_at_call 18; (with_reducible refine (D4.out _ _ HB (RM3.out.on HB)).mono ?_); rintro e w4 ⟨A4, K4, rfl, R4, hb⟩; replace HB := bl_then HB hb; clear hb)
    | (go_at_call 19; (with_reducible refine (C2.out _ _ HB (R3.out.on HB)).mono ?_); rintro e w4 ⟨A4, K4, rfl, R4, hb⟩; replace HB := bl_then HB hb; clear hb)
    | (go_at_call 19; (with_reducible refine (C3.out _ _ HB (R2.out.on HB)).mono ?_); rintro e w4 ⟨A4, K4, rfl, R4, hb⟩; replace HB := bl_then HB hb; clear hb)
    | (go_at_call 19; (with_reducible refine (C4.out _ _ HB (RM3.out.on HB)).mono ?_); rintro e w4 ⟨A4, K4, rfl, R4, hb⟩; replace HB := bl_then HB hb; clear hb)
    | (go_at_call 22; with_reducible refine (same_true _ _ d _ R4 (R2.out.on HB)).mono ?_; rintro e w5 ⟨rfl, hb⟩; replace HB := bl_then HB hb; clear hb R4)
    | (go_at_call 22; with_reducible refine (same_true _ _ c _ R4 (R3.out.on HB)).mono ?_; rintro e w5 ⟨rfl, hb⟩; replace HB := bl_then HB hb; clear hb R4)
    | (go_at_call 22; with_reducible refine (same_is HB1.out R4 (R2.out.on HB)).mono ?_; rintro e w5 ⟨rfl, hb⟩; replace HB := bl_then HB hb; clear hb R4)
    | (go_at_call 22; with_reducible refine (same_is HB2.out R4 (R3.out.on HB)).mono ?_; rintro e w5 ⟨rfl, hb⟩; replace HB := bl_then HB hb; clear hb R4)
    | (go_at_call 32; with_reducible refine (OR.out _ _ HB (R2.out.on HB)).mono ?_; rintro e w6 ⟨rfl, hb⟩; replace HB := bl_then HB hb; clear hb)
    | (go_at_call 16; (with_reducible refine (HW.out _ (bl_then HBW.out (bl_then HB3.out HB))).mono ?_); rintro e w7 ⟨rfl, hb⟩; replace HB := bl_then HB hb; clear hb))
  go_ret
  exact ⟨rfl, bl_then HBW.out (bl_then HB3.out HB)⟩
theorem twice_calls (f : ByteArray) (lv : Value) (l : List Int) (mv : Value) (m : List Int) {m0 : Int} {ev : Value} (w : World) (hv : Vars w.heap.size w m0 ev) (hl : ReadPts w lv l) (hm : ReadPts w mv m) (hs : f.size + l.length + m.length ≤ 1048576) :
    Calls Tryz.prog 5 #[.string f, lv, mv] w fun e w' => e = .returned (.bool true) ∧ Below w.heap.size w w' := by
  cases hp : parse f.data.toList with
  | error x => exact twice_bad f lv mv w hv (by omega) hp
  | ok D => exact twice_good f lv l mv m w hv hl hm hs hp
end Go.Proofs.YtikpkjpnehkbfaaGreatDoor.Nw
