/- The law NormalCuts: the walk. -/
import Derived.Test.YtikpkjpnehkbfaaGreatDoorNormWork
import Derived.Test.YtikpkjpnehkbfaaGreatDoorNormJoin
namespace Go.Proofs.YtikpkjpnehkbfaaGreatDoor.Pr
open Go Go.RowKit Go.Shelf Go.Proofs.YtikpkjpnehkbfaaGreatDoor.Sp Go.Proofs.YtikpkjpnehkbfaaGreatDoor.Mapl Go.Proofs.YtikpkjpnehkbfaaGreatDoor.Rowl
set_option linter.unusedSimpArgs false
set_option linter.unusedVariables false

set_option maxRecDepth 100000 in
set_option maxHeartbeats 4000000 in
theorem parse_great (n : Nat) (hn : 1 ≤ n) (s : ByteArray) (c : Int) (hc : Hid (CountNl s c)) (hc0 : 0 ≤ c) (hc1 : c ≤ 9223372036854775807) (hbig : 1048576 < s.size) (hs : s.size ≤ 9223372036854775807) (w : World) :
    CallsIn .wide n Tryz.prog 31 #[.string s] w fun e W' => e = .returned (.tuple #[.pointer none, errV 5]) ∧ Below w.heap.size w W' := by
  have hp : 0 < s.size := by omega
  refine callsIn_of_wp_marks Tryz.func31 rfl trivial ?_ rfl
  simp only [Tryz.ntmps31, List.size_toArray, List.length_cons, List.length_nil, Nat.reduceAdd, Nat.reduceSub, Array.replicate_succ, Array.replicate_zero, List.push_toArray, List.append_toArray, List.nil_append, List.cons_append]
  gi_wp2_with (refine ⟨trivial, ?_⟩; gi_at_call 63; refine (callsIn_wide.2 (hc.out _)).mono ?_; rintro e w' ⟨rfl, hw⟩; subst w')
  all_goals
    refine ⟨.tuple #[.pointer none, errV 5], ?_, rfl, ((Below.refl _ w).alloc (Nat.le_refl _) _).alloc (by simp) _⟩
    simp [results, Tryz.f31, go_sem, errV]
theorem parse_any (s : ByteArray) (hs : s.size ≤ 9223372036854775807) {m : Int} {ev : Value} (w : World) (hv : Vars w.heap.size w m ev) :
    Calls Tryz.prog 31 #[.string s] w fun e W' => ParseOut w.heap.size (parse s.data.toList) e W' ∧ Below w.heap.size w W' := by
  by_cases h : s.size ≤ 1048576
  · exact parse_calls s h w hv
  · refine (callsIn_wide (n := 3)).1 ?_
    have hz : (s.data.toList.filter (· == 10)).length ≤ s.size := by rw [Lib.size_eq]; exact List.length_filter_le _ _
    refine (parse_great 3 (by omega) s _ (Lib.hid (countNl s)) (by omega) (by omega) (by omega) hs w).mono ?_
    rintro e W' ⟨rfl, hb⟩
    unfold parse
    rw [if_pos (.inl (by rw [← Lib.size_eq]; omega))]
    exact ⟨rfl, hb⟩
theorem parse_err_any {s : ByteArray} (hs : s.size ≤ 9223372036854775807) {m : Int} {ev : Value} {w : World} (hv : Vars w.heap.size w m ev) {x : Int × Option Int} (h : parse s.data.toList = .error x) :
    Calls Tryz.prog 31 #[.string s] w fun e w' => (∃ te pv, e = .returned (.tuple #[.pointer none, .iface te pv])) ∧ Below w.heap.size w w' := by
  refine (parse_any s hs w hv).mono fun e w' ⟨h1, h2⟩ => ⟨?_, h2⟩
  rw [h] at h1
  obtain ⟨k, l⟩ := x
  cases l with
  | none => exact ⟨_, _, h1⟩
  | some l => exact ⟨_, _, h1⟩
theorem parse_size {s : ByteArray} {D : PD} (h : parse s.data.toList = .ok D) : s.size ≤ 1048576 := by
  unfold parse at h
  by_cases h1 : 1048576 < s.data.toList.length ∨ 65536 < lineCount s.data.toList
  · rw [if_pos h1] at h; cases h
  · rw [Lib.size_eq]; omega
end Go.Proofs.YtikpkjpnehkbfaaGreatDoor.Pr
namespace Go.Proofs.YtikpkjpnehkbfaaGreatDoor.Nw
open Go Go.RowKit Go.Shelf Go.Proofs.YtikpkjpnehkbfaaGreatDoor.Sp Go.Proofs.YtikpkjpnehkbfaaGreatDoor.Pr Go.Proofs.YtikpkjpnehkbfaaGreatDoor.Rf Go.Proofs.YtikpkjpnehkbfaaGreatDoor.Nm Go.Proofs.YtikpkjpnehkbfaaGreatDoor.Sb
set_option linter.unusedSimpArgs false
set_option linter.unusedVariables false

set_option maxHeartbeats 2000000 in
theorem cuts_bad (f : ByteArray) (lv : Value) {m0 : Int} {ev : Value} (w : World) (hv : Vars w.heap.size w m0 ev) (hs : f.size ≤ 9223372036854775807) {x : Int × Option Int} (h : parse f.data.toList = .error x) :
    Calls Tryz.prog 6 #[.string f, lv] w fun e w' => e = .returned (.bool true) ∧ Below w.heap.size w w' := by
  have RD := Lib.hid (parse_err_any hs hv h)
  have HW := Lib.hid (worksAt hv)
  clear h hv
  go_enter Tryz.func6, Tryz.ntmps6
  go_wp2_with (first
    | (go_at_call 31; refine RD.out.mono ?_; rintro e w1 ⟨⟨te, pv, rfl⟩, hb⟩)
    | (go_at_call 16; (with_reducible refine (HW.out _ hb).mono ?_); rintro e w2 ⟨rfl, hb2⟩))
  go_ret
  exact ⟨rfl, bl_then hb hb2⟩
set_option maxHeartbeats 2000000 in
theorem cuts_long (f : ByteArray) (A : Option Addr) (n c : Nat) {m0 : Int} {ev : Value} (w : World) (hv : Vars w.heap.size w m0 ev) (hs : f.size ≤ 1048576) (hn : 300 < n) (hn2 : n ≤ 9223372036854775807) {D : PD} (h : parse f.data.toList = .ok D) :
    Calls Tryz.prog 6 #[.string f, .slice A n c] w fun e w' => e = .returned (.bool true) ∧ Below w.heap.size w w' := by
  have PG := Lib.hid (parse_good hs hv h)
  have HW := Lib.hid (worksAt hv)
  have hz : (300 : Int) < (n : Int) := by omega
  clear h hv
  go_enter Tryz.func6, Tryz.ntmps6
  go_wp2_with (first
    | (go_at_call 31; refine PG.out.mono ?_; rintro e w1 ⟨p, rfl, H1, hb⟩; clear H1)
    | (go_at_call 16; (with_reducible refine (HW.out _ hb).mono ?_); rintro e w2 ⟨rfl, hb2⟩))
  go_ret
  exact ⟨rfl, bl_then hb hb2⟩
/-- What a row's pieces are as values. -/
structure Piece (w : World) (A : Option Addr) (n c : Nat) (l : List Int) : Prop where
  left : ∀ i, i ≤ n → ReadPts w (.slice A i c) (l.take i)
  full : n ≤ c
  right : ∀ i, i ≤ n → (A = none ∧ c = 0 ∧ l = []) ∨ ∃ b off, A = some ⟨b, off, none⟩ ∧ ReadPts w (.slice (some ⟨b, off + i, none⟩) (n - i) (c - i)) (l.drop i) ∧ (n ≤ i → ReadPts w (.slice (some ⟨b, off, none⟩) 0 0) (l.drop i))
theorem ReadNum.pieces {w : World} {v : Value} {l : List Int} (h : ReadNum .i32 w v l) : ∃ A c, v = .slice A l.length c ∧ Piece w A l.length c l := by
  have hlen := h.len
  rcases h.at_ with ⟨rfl, rfl⟩ | ⟨b, off, c, rfl, h1, h2, hc⟩
  · exact ⟨none, 0, rfl, ⟨fun i hi => (by obtain rfl : i = 0 := (by simpa using hi); exact ⟨by simp, .inl ⟨rfl, _, _, rfl⟩⟩), Nat.le_refl _, fun i _ => .inl ⟨rfl, rfl, rfl⟩⟩⟩
  · refine ⟨_, c, rfl, ⟨fun i hi => ?_, h1, fun i hi => .inr ⟨b, off, rfl, ?_, fun hn => ?_⟩⟩⟩
    · have e : (l.take i).length = i := by rw [List.length_take]; omega
      refine ⟨by rw [e]; omega, .inr ⟨b, off, c, by rw [e], fun j x hj => ?_⟩⟩
      rw [List.getElem?_take] at hj
      split at hj
      · exact hc j x hj
      · cases hj
    · refine ⟨by rw [List.length_drop]; omega, .inr ⟨b, off + i, c - i, by rw [List.length_drop], fun j x hj => ?_⟩⟩
      rw [List.getElem?_drop] at hj
      have := hc _ x hj
      rwa [← Nat.add_assoc] at this
    · rw [List.drop_eq_nil_of_le hn]
      exact ⟨by simp, .inl ⟨rfl, _, _, rfl⟩⟩
theorem cut_ends (D : PD) (l : List Int) : cutB D l ((0 : Nat) : Int) = true ∧ cutB D l (l.length : Int) = true := by
  refine ⟨?_, ?_⟩
  · rw [cut_out (.inl (by simp))]; rfl
  · rw [cut_out (.inr (Int.le_refl _))]; simp
theorem cut_join {D : PD} (hg : Nm.Good D) {l : List Int} {i : Nat} (hi : i ≤ l.length) (h : cutB D l (i : Int) = true) : decN D (l.take i) ++ decN D (l.drop i) = decN D l := by
  by_cases h0 : i = 0
  · subst h0
    simp [dec_nil]
  · rw [← dec_append hg (fun x hx => ?_), List.take_append_drop]
    obtain ⟨r, t, e, hw⟩ := flat_head hg _ x hx
    have hlt : i < l.length := by
      by_cases hl : i < l.length
      · exact hl
      · rw [List.drop_eq_nil_of_le (by omega)] at e; cases e
    have hr : l[i]? = some r := by
      have := congrArg (·[0]?) e
      simpa using this
    rw [cut_in (by omega) hr hw] at h
    simpa using h
set_option maxHeartbeats 8000000 in
set_option maxRecDepth 100000 in
theorem cuts_good (f : ByteArray) (A : Option Addr) (c : Nat) (l : List Int) {m0 : Int} {ev : Value} (w : World) (hv : Vars w.heap.size w m0 ev) (hl : ReadPts w (.slice A l.length c) l) (hp : Piece w A l.length c l) (hs : f.size ≤ 1048576) (hn : l.length ≤ 300) {D : PD} (h : parse f.data.toList = .ok D) :
    Calls Tryz.prog 6 #[.string f, .slice A l.length c] w fun e w' => e = .returned (.bool true) ∧ Below w.heap.size w w' := by
  have hg := good_of h
  have PG := Lib.hid (parse_good hs hv h)
  have HW := Lib.hid (worksAt hv)
  have HG := Lib.hid hg
  have HF : Hid (∀ i, (flat D (l.take i)).length ≤ 16777216 ∧ (flat D (l.drop i)).length ≤ 16777216) := Lib.hid (fun i => ⟨flat_le hg (by rw [List.length_take]; omega), flat_le hg (by rw [List.length_drop]; omega)⟩)
  have HF0 : Hid ((flat D l).length ≤ 16777216) := Lib.hid (flat_le hg (by omega))
  have HCJ := Lib.hid (fun (i : Nat) (hi : i ≤ l.length) (h : cutB D l (i : Int) = true) => cut_join hg hi h)
  have HCE := Lib.hid (cut_ends D l)
  have HL := Lib.hid hl
  have HPC := Lib.hid hp
  have HCA := Lib.hid (fun (w1 : World) (p : Nat) (H : PropsAt w1.heap.size w1 p D) (i : Nat) => cutAt (z := (i : Int)) H hg (l := l) rfl (by omega))
  obtain ⟨n, hnl⟩ : ∃ n, l.length = n := ⟨_, rfl⟩
  rw [hnl] at hn HL HPC HCJ HCE ⊢
  have HN := Lib.hid hnl
  have hnz : ¬ (300 : Int) < (n : Int) := by omega
  clear hg hl hp h hv hnl
  go_enter Tryz.func6, Tryz.ntmps6
  go_wp2_with (first
    | (go_at_call 31; refine PG.out.mono ?_; rintro e w1 ⟨p, rfl, H1, hb⟩; have HB1 := Lib.hid hb; have HP1 := Lib.hid H1; have D1 := Lib.hid (decAt H1 HG.out (l := l) rfl HF0.out); clear H1 hb)
    | (go_at_call 18; (with_reducible refine (D1.out _ _ (Below.refl _ _) (HL.out.on HB1.out)).mono ?_); rintro e w2 ⟨A2, K2, rfl, R2, hb⟩; have HB2 := Lib.hid hb; have HR2 := Lib.hid R2; clear hb D1 R2))
  have HP2 := Lib.hid (HP1.out.on HB2.out)
  have HBW := Lib.hid (bl_then HB1.out HB2.out)
  go_loopg [8] (n + 1) (fun gk vi wr => ∃ (i : Nat), vi = .int .i64 i ∧ i ≤ n + 1 ∧ n + 1 - i ≤ gk ∧ Hid (Below w2.heap.size w2 wr))
  case atStart => exact ⟨0, rfl, Nat.zero_le _, by omega, Lib.hid (Below.refl _ _)⟩
  case round =>
    obtain ⟨i, rfl, hi, hg1, HI⟩ := hrel
    by_cases hlt : i ≤ n
    · have hz : (i : Int) ≤ (n : Int) := by omega
      have HBX := Lib.hid (bl_then HBW.out HI.out)
      have HCC := Lib.hid (HCA.out w2 p HP2.out i)
      have HRX := Lib.hid (HL.out.on HBX.out)
      obtain ⟨b, hbb⟩ : ∃ b, cutB D l (i : Int) = b := ⟨_, rfl⟩
      rw [hbb] at HCC
      cases b
      · have hi0 : ¬ (i : Int) = 0 := by
          intro e
          obtain rfl : i = 0 := by omega
          rw [HCE.out.1] at hbb; cases hbb
        have hin : ¬ (i : Int) = (n : Int) := by
          intro e
          obtain rfl : i = n := by omega
          rw [HCE.out.2] at hbb; cases hbb
        have q1 : ((i : Int) == 0) = false := beq_eq_false_iff_ne.2 hi0
        have q2 : ((i : Int) == (n : Int)) = false := beq_eq_false_iff_ne.2 hin
        clear hbb hi0 hin
        go_wp2_with (go_at_call 23; (with_reducible refine (HCC.out _ _ HI.out HRX.out).mono ?_); rintro e w3 ⟨rfl, hb3⟩; have HB3 := Lib.hid (bl_then HI.out hb3); clear hb3)
        go_roundg (n + 1 - (i + 1))
        case rel => exact ⟨i + 1, by go_num, by omega, by omega, HB3⟩
        case measure => omega
      · have HJ := Lib.hid (HCJ.out i hlt hbb)
        have HJL : Hid ((decN D (l.take i)).length + (decN D (l.drop i)).length ≤ 1073741824) := Lib.hid (by rw [← List.length_append, HJ.out]; exact Nat.le_trans (dec_length HG.out l).2 (by rw [HN.out]; omega))
        have hi64 : (0 : Int) ≤ (i : Int) := by omega
        have DL := Lib.hid (decAt HP2.out HG.out (l := l.take i) rfl (HF.out i).1)
        have DR := Lib.hid (decAt HP2.out HG.out (l := l.drop i) rfl (HF.out i).2)
        generalize decN D (l.take i) = da at HJ HJL DL
        generalize decN D (l.drop i) = db at HJ HJL DR
        have HLP := Lib.hid ((HPC.out.left i hlt).on HBX.out)
        have hcap := HPC.out.full
        clear hbb
        rcases HPC.out.right i hlt with ⟨rfl, rfl, hl0⟩ | ⟨b, off, rfl, hr, hr0⟩
        · have HRP : Hid (ReadPts wr (.slice none 0 0) (l.drop i)) := Lib.hid (by rw [hl0]; exact ⟨by simp, .inl ⟨by simp, _, _, rfl⟩⟩)
          obtain rfl : n = 0 := by rw [← HN.out, hl0]; rfl
          obtain rfl : i = 0 := by omega
          clear hl0
          replace HCC : Hid (CutAt w2 p l 0 true) := HCC
          go_wp2_with (first
            | (go_at_call 23; (with_reducible refine (HCC.out _ _ HI.out HRX.out).mono ?_); rintro e w3 ⟨rfl, hb3⟩; have HB3 := Lib.hid hb3; clear hb3)
            | (go_at_call 18; (with_reducible refine (DL.out _ _ (bl_then HI.out HB3.out) (HLP.out.on HB3.out)).mono ?_); rintro e w4 ⟨A4, K4, rfl, R4, hb4⟩; have HB4 := Lib.hid (bl_then HB3.out hb4); clear hb4 DL)
            | (go_at_call 18; (with_reducible refine (DR.out _ _ (bl_then HI.out HB4.out) (HRP.out.on HB4.out)).mono ?_); rintro e w5 ⟨A5, K5, rfl, R5, hb5⟩; replace R4 := R4.on hb5; have HB5 := Lib.hid (bl_then HB4.out hb5); clear hb5 DR)
            | (go_at_call 33; (with_reducible refine (joined_calls R4 R5 HJL.out).mono ?_); rintro e w6 ⟨A6, K6, rfl, R6, hb6⟩; rw [HJ.out] at R6 ⊢; have HB6 := Lib.hid (bl_then HB5.out hb6); clear hb6)
            | (go_at_call 22; with_reducible refine (same_true _ _ (decN D l) _ R6 (HR2.out.on (bl_then HI.out HB6.out))).mono ?_; rintro e w7 ⟨rfl, hb7⟩; have HB7 := Lib.hid (bl_then HB6.out hb7); clear hb7))
          go_roundg 0
          case rel => exact ⟨1, by go_num, by omega, by omega, Lib.hid (bl_then HI.out HB7.out)⟩
          case measure => omega
        · have hic : (i : Int) ≤ (c : Int) := by omega
          have hnc : (n : Int) ≤ (c : Int) := by omega
          by_cases hci : c = i
          · subst hci
            obtain rfl : n = c := by omega
            have HRP := Lib.hid ((hr0 (Nat.le_refl _)).on HBX.out)
            clear hr hr0
            go_wp2_with (first
              | (go_at_call 23; (with_reducible refine (HCC.out _ _ HI.out HRX.out).mono ?_); rintro e w3 ⟨rfl, hb3⟩; have HB3 := Lib.hid hb3; clear hb3)
              | (go_at_call 18; (with_reducible refine (DL.out _ _ (bl_then HI.out HB3.out) (HLP.out.on HB3.out)).mono ?_); rintro e w4 ⟨A4, K4, rfl, R4, hb4⟩; have HB4 := Lib.hid (bl_then HB3.out hb4); clear hb4 DL)
              | (go_at_call 18; (with_reducible refine (DR.out _ _ (bl_then HI.out HB4.out) (HRP.out.on HB4.out)).mono ?_); rintro e w5 ⟨A5, K5, rfl, R5, hb5⟩; replace R4 := R4.on hb5; have HB5 := Lib.hid (bl_then HB4.out hb5); clear hb5 DR)
              | (go_at_call 33; (with_reducible refine (joined_calls R4 R5 HJL.out).mono ?_); rintro e w6 ⟨A6, K6, rfl, R6, hb6⟩; rw [HJ.out] at R6 ⊢; have HB6 := Lib.hid (bl_then HB5.out hb6); clear hb6)
              | (go_at_call 22; with_reducible refine (same_true _ _ (decN D l) _ R6 (HR2.out.on (bl_then HI.out HB6.out))).mono ?_; rintro e w7 ⟨rfl, hb7⟩; have HB7 := Lib.hid (bl_then HB6.out hb7); clear hb7))
            go_roundg (n + 1 - (n + 1))
            case rel => exact ⟨n + 1, by go_num, by omega, by omega, Lib.hid (bl_then HI.out HB7.out)⟩
            case measure => omega
          · have HRP := Lib.hid (hr.on HBX.out)
            clear hr hr0
            go_wp2_with (first
              | (go_at_call 23; (with_reducible refine (HCC.out _ _ HI.out HRX.out).mono ?_); rintro e w3 ⟨rfl, hb3⟩; have HB3 := Lib.hid hb3; clear hb3)
              | (go_at_call 18; (with_reducible refine (DL.out _ _ (bl_then HI.out HB3.out) (HLP.out.on HB3.out)).mono ?_); rintro e w4 ⟨A4, K4, rfl, R4, hb4⟩; have HB4 := Lib.hid (bl_then HB3.out hb4); clear hb4 DL)
              | (go_at_call 18; (with_reducible refine (DR.out _ _ (bl_then HI.out HB4.out) (HRP.out.on HB4.out)).mono ?_); rintro e w5 ⟨A5, K5, rfl, R5, hb5⟩; replace R4 := R4.on hb5; have HB5 := Lib.hid (bl_then HB4.out hb5); clear hb5 DR)
              | (go_at_call 33; (with_reducible refine (joined_calls R4 R5 HJL.out).mono ?_); rintro e w6 ⟨A6, K6, rfl, R6, hb6⟩; rw [HJ.out] at R6 ⊢; have HB6 := Lib.hid (bl_then HB5.out hb6); clear hb6)
              | (go_at_call 22; with_reducible refine (same_true _ _ (decN D l) _ R6 (HR2.out.on (bl_then HI.out HB6.out))).mono ?_; rintro e w7 ⟨rfl, hb7⟩; have HB7 := Lib.hid (bl_then HB6.out hb7); clear hb7))
            go_roundg (n + 1 - (i + 1))
            case rel => exact ⟨i + 1, by go_num, by omega, by omega, Lib.hid (bl_then HI.out HB7.out)⟩
            case measure => omega
    · have hz : ¬ (i : Int) ≤ (n : Int) := by omega
      have HBX := Lib.hid (bl_then HBW.out HI.out)
      go_wp2_with (go_at_call 16; (with_reducible refine (HW.out _ HBX.out).mono ?_); rintro e w3 ⟨rfl, hb3⟩)
      go_ret
      exact ⟨rfl, bl_then HBX.out hb3⟩
theorem cuts_calls (f : ByteArray) (lv : Value) (l : List Int) {m0 : Int} {ev : Value} (w : World) (hv : Vars w.heap.size w m0 ev) (hl : ReadNum .i32 w lv l) (hs : f.size ≤ 9223372036854775807) :
    Calls Tryz.prog 6 #[.string f, lv] w fun e w' => e = .returned (.bool true) ∧ Below w.heap.size w w' := by
  cases hp : parse f.data.toList with
  | error x => exact cuts_bad f lv w hv hs hp
  | ok D =>
    have hfz := parse_size hp
    have hlen := hl.len
    obtain ⟨A, c, rfl, hpc⟩ := hl.pieces
    by_cases hn : 300 < l.length
    · exact cuts_long f A _ c w hv hfz hn (by unfold maxLen at hlen; omega) hp
    · exact cuts_good f A c l w hv hl.pts hpc hfz (by omega) hp
end Go.Proofs.YtikpkjpnehkbfaaGreatDoor.Nw
