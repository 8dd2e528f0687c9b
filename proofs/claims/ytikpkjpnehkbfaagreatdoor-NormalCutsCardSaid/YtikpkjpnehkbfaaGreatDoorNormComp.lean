/- normal.Compose: the walk. -/
import Derived.Test.YtikpkjpnehkbfaaGreatDoorNormDeco
namespace Go.Proofs.YtikpkjpnehkbfaaGreatDoor.Nw
open Go Go.RowKit Go.Shelf Go.Proofs.YtikpkjpnehkbfaaGreatDoor.Sp Go.Proofs.YtikpkjpnehkbfaaGreatDoor.Pr Go.Proofs.YtikpkjpnehkbfaaGreatDoor.Rf Go.Proofs.YtikpkjpnehkbfaaGreatDoor.Nm Go.Proofs.YtikpkjpnehkbfaaGreatDoor.Sb
set_option linter.unusedSimpArgs false
set_option linter.unusedVariables false

theorem own_set {n₀ : Nat} {W : World} {g n c : Nat} {l : List Int} (h : OwnPts n₀ W (.slice (some ⟨g, 0, none⟩) n c) l) (hn : l.length = n) {i : Nat} (hi : i < n) (x : Int) :
    OwnPts n₀ (W.setCell ⟨g, i, none⟩ (.int .i32 x)) (.slice (some ⟨g, 0, none⟩) n c) (l.set i x) ∧ Mvd W (W.setCell ⟨g, i, none⟩ (.int .i32 x)) (.slice (some ⟨g, 0, none⟩) n c) (.slice (some ⟨g, 0, none⟩) n c) ∧ W.frozen? ⟨g, i, none⟩ = false := by
  rcases own_split h with ⟨e, _⟩ | ⟨g', cap, spare, e, h1, h2, h3, h4, h5⟩
  · cases e
  · injection e with e1 e2 e3
    injection e1 with e1
    injection e1 with e1
    subst e1 e3
    have hs := h5.set (i := i) (by omega) x
    rw [List.length_nil, Nat.zero_add] at hs
    have hj := own_join (n₀ := n₀) (L := l.set i x) h1 (by rw [List.length_set]; exact h2) h3 (by rw [List.length_set]; exact h4) hs
    rw [List.length_set, hn] at hj
    refine ⟨hj, ⟨rfl, rfl, rfl, by rw [World.size_setCell]; exact Nat.le_refl _, fun k hk hne => Below.heap_setCell W ⟨g, i, none⟩ _ k (fun e => hne (by rw [e]; rfl)), fun g' hg' => .inl hg'⟩, h5.open i⟩
/-- Where Compose's loop stands. -/
structure CO (D : PD) (n₀ : Nat) (w1 : World) (d : List Int) (i : Nat) (o : List Int × Option Nat) (v : Value) (lv : Int) (wr : World) : Prop where
  o_eq : o = (d.take i).foldl (compStep D) ([], none)
  own : OwnPts n₀ wr v o.1
  mv : Mvd w1 wr (.slice none 0 0) v
  inn : StIn o
  last : ∀ s, o.2 = some s → lv = lastV D o
  len : o.1.length ≤ i
theorem CO.start (D : PD) (n₀ : Nat) (w1 : World) (d : List Int) (lv : Int) : CO D n₀ w1 d 0 ([], none) (.slice none 0 0) lv w1 :=
  ⟨rfl, ⟨rfl, .inl ⟨rfl, rfl⟩⟩, Mvd.refl _ _, fun s h => (by cases h), fun s h => (by cases h), Nat.zero_le _⟩
theorem CO.next {D : PD} {n₀ : Nat} {w1 w2 : World} {d : List Int} {i : Nat} {o : List Int × Option Nat} {v v2 : Value} {lv lv2 c : Int} {wr : World} (h : CO D n₀ w1 d i o v lv wr) (hc : d[i]? = some c) (ho : OwnPts n₀ w2 v2 (compStep D o c).1) (hm : Mvd wr w2 v v2) (hl : ∀ s, (compStep D o c).2 = some s → lv2 = lastV D (compStep D o c)) :
    CO D n₀ w1 d (i + 1) (compStep D o c) v2 lv2 w2 := by
  refine ⟨?_, ho, h.mv.trans hm, h.inn.step c, hl, ?_⟩
  · rw [List.take_add_one, hc, List.foldl_append, ← h.o_eq]; rfl
  · have := compStep_length D o c
    have := h.len
    omega
theorem cs_none {D : PD} {o : List Int × Option Nat} {c : Int} (hs : o.2 = none) : compStep D o c = push D o c := by unfold compStep; rw [hs]
theorem cs_block {D : PD} {o : List Int × Option Nat} {c : Int} {s : Nat} (hs : o.2 = some s) (hf : ¬ free D o.1 s c) : compStep D o c = push D o c := by unfold compStep; rw [hs]; simp only [if_neg hf]
theorem cs_no {D : PD} {o : List Int × Option Nat} {c : Int} {s : Nat} (hs : o.2 = some s) (hf : free D o.1 s c) (hc : composeOf D (o.1.getD s 0) c = none) : compStep D o c = push D o c := by unfold compStep; rw [hs]; simp only [if_pos hf, hc]
theorem cs_yes {D : PD} {o : List Int × Option Nat} {c r : Int} {s : Nat} (hs : o.2 = some s) (hf : free D o.1 s c) (hc : composeOf D (o.1.getD s 0) c = some r) : compStep D o c = (o.1.set s r, some s) := by unfold compStep; rw [hs]; simp only [if_pos hf, hc]
theorem push_zero {D : PD} {o : List Int × Option Nat} {c : Int} (hi : StIn o) (h : classOf D c = 0) : startV (push D o c) = (o.1.length : Int) ∧ ∀ s, (push D o c).2 = some s → (-1 : Int) = lastV D (push D o c) := ⟨((push_last hi c).1 h).1, fun s _ => ((push_last hi c).1 h).2.symm⟩
theorem push_other {D : PD} {o : List Int × Option Nat} {c : Int} (hi : StIn o) (h : classOf D c ≠ 0) : startV (push D o c) = startV o ∧ ∀ s, (push D o c).2 = some s → classOf D c = lastV D (push D o c) := ⟨((push_last hi c).2 h).1, fun s hs => (((push_last hi c).2 h).2 s (by unfold push at hs; simpa [if_neg h] using hs)).symm⟩
set_option maxHeartbeats 8000000 in
set_option maxRecDepth 100000 in
theorem comp_calls_any {w0 : World} {p : Nat} {D : PD} (H : PropsAt w0.heap.size w0 p D) (hgood : Nm.Good D) {W : World} {lv : Value} {l : List Int} (hb : Below w0.heap.size w0 W) (hr : ReadPts W lv l) (hl : (flat D l).length ≤ 16777216) :
    Calls Tryz.prog 19 #[.pointer (some ⟨p, 0, none⟩), lv] W fun e W' => ∃ v, e = .returned v ∧ OwnPts W.heap.size W' v (compN D l) ∧ Below W.heap.size W W' := by
  have HDC := Lib.hid (dec_calls_any H hgood hb hr hl)
  have HB := Lib.hid hb
  have HCN : Hid (compN D l = compF D (decN D l)) := Lib.hid rfl
  have HDL : Hid ((decN D l).length ≤ 16777216) := Lib.hid (by unfold decN; rw [ordR_length]; exact hl)
  have HCL := Lib.hid (fun (x : Int) => classAt (r := x) H rfl)
  have HCB := Lib.hid hgood.cls
  have HFR := Lib.hid (fun (o : List Int × Option Nat) (s : Nat) (hs : o.2 = some s) (c : Int) => free_iff hgood hs c)
  obtain ⟨d, hd⟩ : ∃ d, decN D l = d := ⟨_, rfl⟩
  rw [hd] at HDC HCN HDL
  clear hd hb hr hl
  go_enter Tryz.func19, Tryz.ntmps19
  go_wp2_with (go_at_call 18; (with_reducible refine HDC.out.mono ?_); rintro e w1 ⟨dv, rfl, ho1, hb1⟩; obtain ⟨A, cc, rfl⟩ := YtikpkjpnehkbfaaGreatDoor.Rowl.own_slice ho1; have HO1 := Lib.hid ho1; have HB1 := Lib.hid hb1; clear ho1 hb1)
  obtain ⟨n, hn⟩ : ∃ n, d.length = n := ⟨_, rfl⟩
  have HN := Lib.hid hn
  have hn24 : n ≤ 16777216 := by rw [← hn]; exact HDL.out
  rw [hn]
  have HC : Hid (∀ (i : Nat) (x : Int), d[i]? = some x → ∃ b off, A = some ⟨b, off, none⟩ ∧ w1.cell? ⟨b, off + i, none⟩ = some (.int .i32 x)) := Lib.hid (by
    obtain ⟨A', c', e, h⟩ := read_addr (ReadPts.own HO1.out)
    injection e with e1 _ _
    subst e1
    exact h)
  clear hn HDC
  go_loopg [5, 6, 7, 17] n (fun gk v5 v6 v7 v17 wr => ∃ (i : Nat) (o : List Int × Option Nat) (lv : Int), v17 = .int .i64 i ∧ v6 = .int .i64 (startV o) ∧ v7 = .int .i64 lv ∧ i ≤ n ∧ n - i ≤ gk ∧ Hid (CO D W.heap.size w1 d i o v5 lv wr))
  case atStart => exact ⟨0, ([], none), -1, rfl, rfl, rfl, Nat.zero_le _, by omega, Lib.hid (CO.start _ _ _ _ _)⟩
  case round =>
    obtain ⟨i, o, lv, rfl, rfl, rfl, hi, hg1, HO⟩ := hrel
    have HBW : Hid (Below w1.heap.size w1 wr) := Lib.hid (HO.out.mv.below (Nat.le_refl _) (fun g h => by cases h))
    have HB0 : Hid (Below w0.heap.size w0 wr) := Lib.hid (HB.out.trans ((bl_then HB1.out HBW.out).mono HB.out.size))
    have HWS : Hid (W.heap.size ≤ wr.heap.size) := Lib.hid (Nat.le_trans HB1.out.size HBW.out.size)
    by_cases hlt : i < n
    · have hz : (i : Int) < (n : Int) := by omega
      obtain ⟨c, hc⟩ : ∃ x, d[i]? = some x := ⟨_, List.getElem?_eq_getElem (by rw [HN.out]; exact hlt)⟩
      obtain ⟨b, off, rfl, cx0⟩ := HC.out i c hc
      have cx := Sb.later_cell HBW.out cx0
      have HCC := Lib.hid (HCL.out c)
      have hb1 := HCB.out c
      obtain ⟨cc, hcc⟩ : ∃ cc, classOf D c = cc := ⟨_, rfl⟩
      rw [hcc] at HCC hb1
      have HCE := Lib.hid hcc
      have HX := Lib.hid hc
      obtain ⟨Ln, hLn⟩ : ∃ Ln, o.1.length = Ln := ⟨_, rfl⟩
      have hLi : Ln ≤ 16777216 := by rw [← hLn]; exact Nat.le_trans HO.out.len (by omega)
      have HLN := Lib.hid hLn
      have e1 : IntKind.i64.wrap ((Ln : Int) + 1 - 1) = (Ln : Int) := (IntWalk.i64_in _ (by omega)).trans (by omega)
      have e2 : IntKind.i64.wrap (Ln : Int) = (Ln : Int) := IntWalk.i64_in _ (by omega)
      have HOW : Hid (OwnPts W.heap.size wr u5 o.1) := Lib.hid HO.out.own
      have hlb : o.1.length ≤ 1073741824 := by rw [hLn]; omega
      have HLB := Lib.hid hlb
      clear hc hcc cx0 hLn hlb
      rcases ho2 : o.2 with _ | s
      · have hst : startV o = -1 := by unfold startV; rw [ho2]
        have HST := Lib.hid hst
        have HE : Hid (compStep D o c = push D o c) := Lib.hid (cs_none ho2)
        rw [hst]
        clear hst ho2
        by_cases hz0 : cc = 0
        · have hq : ((cc : Int) == 0) = true := by simp [hz0]
          have HP := Lib.hid (push_zero (D := D) HO.out.inn (HCE.out.trans hz0))
          have HZ0 := Lib.hid hz0
          clear hz0
          go_wp2_with (first
            | (go_at_call 55; (with_reducible refine (HCC.out _ HB0.out).mono ?_); rintro e w2 ⟨rfl, hb2⟩; have HB2 := Lib.hid hb2; clear hb2)
            | (at_builtin; refine wpList_append_mvd rfl _ _ rfl W.heap.size _ o.1 rfl (Rowl.own_later HOW.out HB2.out) rfl HLB.out (Nat.le_trans HWS.out HB2.out.size) ?_; rintro v' w4 ho4 hm4 ⟨g4, c4, rfl⟩; rw [HLN.out] at ho4 hm4 ⊢; have HO4 := Lib.hid ho4; have HM4 := Lib.hid (hm4.ahead HB2.out (fun g hg => (own_at HOW.out g hg).2)); clear ho4 hm4))
          go_roundg (n - (i + 1))
          case rel => exact ⟨i + 1, push D o c, -1, by go_num, by rw [HP.out.1, HLN.out], rfl, by omega, Nat.le_refl _, Lib.hid (by have := HO.out.next (lv2 := -1) HX.out (by rw [HE.out]; exact HO4.out) HM4.out (by rw [HE.out]; exact HP.out.2); rwa [HE.out] at this)⟩
          case measure => omega
        · have hq : ((cc : Int) == 0) = false := beq_eq_false_iff_ne.2 hz0
          have HP := Lib.hid (push_other (D := D) HO.out.inn (by rw [HCE.out]; exact hz0))
          clear hz0
          go_wp2_with (first
            | (go_at_call 55; (with_reducible refine (HCC.out _ HB0.out).mono ?_); rintro e w2 ⟨rfl, hb2⟩; have HB2 := Lib.hid hb2; clear hb2)
            | (at_builtin; refine wpList_append_mvd rfl _ _ rfl W.heap.size _ o.1 rfl (Rowl.own_later HOW.out HB2.out) rfl HLB.out (Nat.le_trans HWS.out HB2.out.size) ?_; rintro v' w4 ho4 hm4 ⟨g4, c4, rfl⟩; rw [HLN.out] at ho4 hm4 ⊢; have HO4 := Lib.hid ho4; have HM4 := Lib.hid (hm4.ahead HB2.out (fun g hg => (own_at HOW.out g hg).2)); clear ho4 hm4))
          go_roundg (n - (i + 1))
          case rel => exact ⟨i + 1, push D o c, cc, by go_num, by rw [HP.out.1, HST.out], rfl, by omega, Nat.le_refl _, Lib.hid (by have := HO.out.next (lv2 := cc) HX.out (by rw [HE.out]; exact HO4.out) HM4.out (by rw [HE.out, ← HCE.out]; exact HP.out.2); rwa [HE.out] at this)⟩
          case measure => omega
      · have hst : startV o = (s : Int) := by unfold startV; rw [ho2]
        have HST := Lib.hid hst
        have HLV := Lib.hid (HO.out.last s ho2)
        have hsl : s < Ln := by have := HO.out.inn s ho2; rw [HLN.out] at this; exact this
        have HFF := Lib.hid (HFR.out o s ho2 c)
        have HO2 := Lib.hid ho2
        have hs0 : (0 : Int) ≤ (s : Int) := by omega
        rw [hst]
        clear hst ho2
        by_cases hf : lv < cc
        · have HF : Hid (free D o.1 s c) := Lib.hid (HFF.out.1 (by rw [← HLV.out, HCE.out]; exact hf))
          obtain ⟨a, ha⟩ : ∃ a, o.1[s]? = some a := ⟨_, List.getElem?_eq_getElem (by rw [HLN.out]; exact hsl)⟩
          have had : Hid (o.1.getD s 0 = a) := Lib.hid (by simp [List.getD, ha])
          obtain ⟨g5, c5, hv5⟩ : ∃ g5 c5, u5 = .slice (some ⟨g5, 0, none⟩) Ln c5 := by
            rcases own_split HOW.out with ⟨_, e⟩ | ⟨g, cap, sp, e, _⟩
            · have := HLN.out; rw [e] at this; simp at this; omega
            · rw [HLN.out] at e; exact ⟨g, cap, e⟩
          subst hv5
          have ca := own_cells HOW.out ha
          have hsz : (s : Int) < (Ln : Int) := by omega
          cases hcm : composeOf D a c with
          | none =>
            have HE : Hid (compStep D o c = push D o c) := Lib.hid (cs_no HO2.out HF.out (by rw [had.out]; exact hcm))
            have HCM := Lib.hid (comp_none H hcm)
            clear hcm ha
            by_cases hz0 : cc = 0
            · have hq : ((cc : Int) == 0) = true := by simp [hz0]
              have HP := Lib.hid (push_zero (D := D) HO.out.inn (HCE.out.trans hz0))
              have HZ0 := Lib.hid hz0
              clear hz0
              go_wp2_with (first
                | (go_at_call 55; (with_reducible refine (HCC.out _ HB0.out).mono ?_); rintro e w2 ⟨rfl, hb2⟩; have ca := Sb.later_cell hb2 ca; have HB2 := Lib.hid hb2; clear hb2)
                | (go_at_call 56; (with_reducible refine (HCM.out _ (bl_then HB0.out HB2.out)).mono ?_); rintro e w3 ⟨rfl, hb3⟩; have HB3 := Lib.hid (bl_then HB2.out hb3); clear hb3)
                | (at_builtin; refine wpList_append_mvd rfl _ _ rfl W.heap.size _ o.1 rfl (Rowl.own_later HOW.out HB3.out) rfl HLB.out (Nat.le_trans HWS.out HB3.out.size) ?_; rintro v' w4 ho4 hm4 ⟨g4, c4, rfl⟩; rw [HLN.out] at ho4 hm4 ⊢; have HO4 := Lib.hid ho4; have HM4 := Lib.hid (hm4.ahead HB3.out (fun g hg => (own_at HOW.out g hg).2)); clear ho4 hm4))
              go_roundg (n - (i + 1))
              case rel => exact ⟨i + 1, push D o c, -1, by go_num, by rw [HP.out.1, HLN.out], rfl, by omega, Nat.le_refl _, Lib.hid (by have := HO.out.next (lv2 := -1) HX.out (by rw [HE.out]; exact HO4.out) HM4.out (by rw [HE.out]; exact HP.out.2); rwa [HE.out] at this)⟩
              case measure => omega
            · have hq : ((cc : Int) == 0) = false := beq_eq_false_iff_ne.2 hz0
              have HP := Lib.hid (push_other (D := D) HO.out.inn (by rw [HCE.out]; exact hz0))
              clear hz0
              go_wp2_with (first
                | (go_at_call 55; (with_reducible refine (HCC.out _ HB0.out).mono ?_); rintro e w2 ⟨rfl, hb2⟩; have ca := Sb.later_cell hb2 ca; have HB2 := Lib.hid hb2; clear hb2)
                | (go_at_call 56; (with_reducible refine (HCM.out _ (bl_then HB0.out HB2.out)).mono ?_); rintro e w3 ⟨rfl, hb3⟩; have HB3 := Lib.hid (bl_then HB2.out hb3); clear hb3)
                | (at_builtin; refine wpList_append_mvd rfl _ _ rfl W.heap.size _ o.1 rfl (Rowl.own_later HOW.out HB3.out) rfl HLB.out (Nat.le_trans HWS.out HB3.out.size) ?_; rintro v' w4 ho4 hm4 ⟨g4, c4, rfl⟩; rw [HLN.out] at ho4 hm4 ⊢; have HO4 := Lib.hid ho4; have HM4 := Lib.hid (hm4.ahead HB3.out (fun g hg => (own_at HOW.out g hg).2)); clear ho4 hm4))
              go_roundg (n - (i + 1))
              case rel => exact ⟨i + 1, push D o c, cc, by go_num, by rw [HP.out.1, HST.out], rfl, by omega, Nat.le_refl _, Lib.hid (by have := HO.out.next (lv2 := cc) HX.out (by rw [HE.out]; exact HO4.out) HM4.out (by rw [HE.out, ← HCE.out]; exact HP.out.2); rwa [HE.out] at this)⟩
              case measure => omega
          | some r =>
            have HE : Hid (compStep D o c = (o.1.set s r, some s)) := Lib.hid (cs_yes HO2.out HF.out (by rw [had.out]; exact hcm))
            have HCM := Lib.hid (comp_some H hcm)
            have HSL := Lib.hid (set_last (D := D) HO.out.inn HO2.out r)
            clear hcm ha
            go_wp2_with (first
              | (go_at_call 55; (with_reducible refine (HCC.out _ HB0.out).mono ?_); rintro e w2 ⟨rfl, hb2⟩; have ca := Sb.later_cell hb2 ca; have HB2 := Lib.hid hb2; clear hb2)
              | (go_at_call 56; (with_reducible refine (HCM.out _ (bl_then HB0.out HB2.out)).mono ?_); rintro e w3 ⟨rfl, hb3⟩; have ca := Sb.later_cell hb3 ca; have HB3 := Lib.hid (bl_then HB2.out hb3); have HSET := Lib.hid (own_set (Rowl.own_later HOW.out HB3.out) HLN.out hsl r); have f5 := HSET.out.2.2; clear hb3))
            go_roundg (n - (i + 1))
            case rel => exact ⟨i + 1, (o.1.set s r, some s), lv, by go_num, by rw [HSL.out.1, HST.out], rfl, by omega, Nat.le_refl _, Lib.hid (by have := HO.out.next (lv2 := lv) HX.out (by rw [HE.out]; exact HSET.out.1) (HSET.out.2.1.ahead HB3.out (fun g hg => (own_at HOW.out g hg).2)) (by rw [HE.out]; exact fun s' _ => HLV.out.trans HSL.out.2.symm); rwa [HE.out] at this)⟩
            case measure => omega
        · have HE : Hid (compStep D o c = push D o c) := Lib.hid (cs_block HO2.out (fun h => hf (by have := HFF.out.2 h; rw [← HLV.out, HCE.out] at this; exact this)))
          by_cases hz0 : cc = 0
          · have hq : ((cc : Int) == 0) = true := by simp [hz0]
            have HP := Lib.hid (push_zero (D := D) HO.out.inn (HCE.out.trans hz0))
            have HZ0 := Lib.hid hz0
            clear hz0
            go_wp2_with (first
              | (go_at_call 55; (with_reducible refine (HCC.out _ HB0.out).mono ?_); rintro e w2 ⟨rfl, hb2⟩; have HB2 := Lib.hid hb2; clear hb2)
              | (at_builtin; refine wpList_append_mvd rfl _ _ rfl W.heap.size _ o.1 rfl (Rowl.own_later HOW.out HB2.out) rfl HLB.out (Nat.le_trans HWS.out HB2.out.size) ?_; rintro v' w4 ho4 hm4 ⟨g4, c4, rfl⟩; rw [HLN.out] at ho4 hm4 ⊢; have HO4 := Lib.hid ho4; have HM4 := Lib.hid (hm4.ahead HB2.out (fun g hg => (own_at HOW.out g hg).2)); clear ho4 hm4))
            go_roundg (n - (i + 1))
            case rel => exact ⟨i + 1, push D o c, -1, by go_num, by rw [HP.out.1, HLN.out], rfl, by omega, Nat.le_refl _, Lib.hid (by have := HO.out.next (lv2 := -1) HX.out (by rw [HE.out]; exact HO4.out) HM4.out (by rw [HE.out]; exact HP.out.2); rwa [HE.out] at this)⟩
            case measure => omega
          · have hq : ((cc : Int) == 0) = false := beq_eq_false_iff_ne.2 hz0
            have HP := Lib.hid (push_other (D := D) HO.out.inn (by rw [HCE.out]; exact hz0))
            clear hz0
            go_wp2_with (first
              | (go_at_call 55; (with_reducible refine (HCC.out _ HB0.out).mono ?_); rintro e w2 ⟨rfl, hb2⟩; have HB2 := Lib.hid hb2; clear hb2)
              | (at_builtin; refine wpList_append_mvd rfl _ _ rfl W.heap.size _ o.1 rfl (Rowl.own_later HOW.out HB2.out) rfl HLB.out (Nat.le_trans HWS.out HB2.out.size) ?_; rintro v' w4 ho4 hm4 ⟨g4, c4, rfl⟩; rw [HLN.out] at ho4 hm4 ⊢; have HO4 := Lib.hid ho4; have HM4 := Lib.hid (hm4.ahead HB2.out (fun g hg => (own_at HOW.out g hg).2)); clear ho4 hm4))
            go_roundg (n - (i + 1))
            case rel => exact ⟨i + 1, push D o c, cc, by go_num, by rw [HP.out.1, HST.out], rfl, by omega, Nat.le_refl _, Lib.hid (by have := HO.out.next (lv2 := cc) HX.out (by rw [HE.out]; exact HO4.out) HM4.out (by rw [HE.out, ← HCE.out]; exact HP.out.2); rwa [HE.out] at this)⟩
            case measure => omega
    · have hz : ¬ (i : Int) < (n : Int) := by omega
      have hin : i = d.length := by rw [HN.out]; omega
      have HF : Hid (o.1 = compF D d) := Lib.hid (by
        have := HO.out.o_eq
        rw [hin, List.take_of_length_le (Nat.le_refl _)] at this
        unfold compF
        rw [← this])
      clear hin
      go_wp2
      go_ret
      exact ⟨_, rfl, by rw [HCN.out, ← HF.out]; exact HO.out.own, bl_then HB1.out HBW.out⟩
theorem comp_calls {w0 : World} {p : Nat} {D : PD} (H : PropsAt w0.heap.size w0 p D) (hgood : Nm.Good D) {W : World} {lv : Value} {l : List Int} (hb : Below w0.heap.size w0 W) (hr : ReadPts W lv l) (hl : l.length ≤ 2097152) :
    Calls Tryz.prog 19 #[.pointer (some ⟨p, 0, none⟩), lv] W fun e W' => ∃ v, e = .returned v ∧ OwnPts W.heap.size W' v (compN D l) ∧ Below W.heap.size W W' := comp_calls_any H hgood hb hr (flat_le hgood hl)
end Go.Proofs.YtikpkjpnehkbfaaGreatDoor.Nw
