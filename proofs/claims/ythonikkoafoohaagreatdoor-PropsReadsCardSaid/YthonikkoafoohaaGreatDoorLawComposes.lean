/- The law PropsComposes. -/
import Derived.Test.YthonikkoafoohaaGreatDoorAsked
import Derived.Test.YthonikkoafoohaaGreatDoorRefParse
import Derived.Test.YthonikkoafoohaaGreatDoorBParse
namespace Go.Proofs.YthonikkoafoohaaGreatDoor.Rf
open Go Go.RowKit Go.Shelf Go.Proofs.YthonikkoafoohaaGreatDoor.Sp Go.Proofs.YthonikkoafoohaaGreatDoor.Pr Go.Proofs.YthonikkoafoohaaGreatDoor.Rowl
set_option linter.unusedSimpArgs false
set_option linter.unusedVariables false

theorem three_err {w : List Bytes} {k : Int} (h : threeOf w = .error k) : 0 < k := by
  unfold threeOf at h
  split at h
  · injection h with h; omega
  · split at h
    · injection h with h; omega
    · exact span_err h
theorem some_err {w : List Bytes} {k : Int} (h : someOf w = .error k) : 0 < k := by
  unfold someOf at h
  split at h
  · injection h with h; omega
  · split at h
    · injection h with h; omega
    · exact points_err h
theorem line_err {st : St} {w : List Bytes} {n k : Int} (h : doLine st w n = .error k) : 0 < k := by
  unfold doLine at h
  split at h
  · cases h
  · split at h
    · unfold doClass at h
      split at h
      · rename_i e; injection h with h; subst h; exact three_err e
      · split at h
        · rename_i e; injection h with h; subst h; exact class_err e
        · cases h
    · split at h
      · unfold doKind at h
        split at h
        · rename_i e; injection h with h; subst h; exact three_err e
        · split at h
          · injection h with h; omega
          · cases h
      · split at h
        · unfold doFold at h
          split at h
          · rename_i e; injection h with h; subst h; exact some_err e
          · injection h with h; omega
          · split at h
            · injection h with h; omega
            · cases h
        · split at h
          · unfold doDecomp at h
            split at h
            · rename_i e; injection h with h; subst h; exact some_err e
            · injection h with h; omega
            · split at h
              · injection h with h; omega
              · split at h
                · injection h with h; omega
                · cases h
          · injection h with h; omega
theorem lines_err : ∀ {ls : List Bytes} {st : St} {n : Int} {x : Int × Int}, doLines st ls n = .error x → 0 < x.1
  | [], st, n, x, h => by cases h
  | l :: ls, st, n, x, h => by
    simp only [doLines] at h
    cases hl : doLine st (wordsOf l) n with
    | error e => rw [hl] at h; injection h with h; subst h; exact line_err hl
    | ok s => rw [hl] at h; exact lines_err h
theorem bad_err {st : St} {x : Int × Int × Int} (h : badLeast st = some x) : 0 < x.2.1 := by
  obtain ⟨k1, _, _⟩ := (bad_fold st.d st.lines none).2 x h
  rcases k1 with k1 | ⟨_, k1⟩
  · cases k1
  · unfold badOf at k1
    split at k1
    · cases k1
    · split at k1
      · injection k1 with k1; omega
      · injection k1 with k1; omega
theorem parse_err {s : Bytes} {k : Int} {o : Option Int} (h : parse s = .error (k, o)) : 0 < k := by
  unfold parse at h
  split at h
  · injection h with h; injection h with h _; omega
  · cases hd : doLines {} (pieces 10 s) 1 with
    | error x =>
      rw [hd] at h
      injection h with h
      injection h with h _
      subst h
      exact lines_err hd
    | ok st =>
      rw [hd] at h
      simp only at h
      cases hb : badLeast st with
      | none => rw [hb] at h; cases h
      | some x =>
        obtain ⟨x1, x2, x3⟩ := x
        rw [hb] at h
        injection h with h
        injection h with h _
        subst h
        exact bad_err hb
theorem compose_bounds {st : St} (hok : StOk st) {a b r : Int} (h : composeOf st.d a b = some r) : -2147483648 ≤ r ∧ r ≤ 2147483647 := by
  unfold composeOf at h
  split at h
  · rename_i hc
    injection h with h
    omega
  · split at h
    · rename_i hc
      injection h with h
      have hs : 44032 ≤ a ∧ a < 55204 := by simpa [isSyl] using hc.1
      omega
    · split at h
      · cases h
      · have hm := (least_some h).1
        have := char_bounds (hok.chars _ hm).1
        simp only at this
        omega
theorem compose_three {st : St} {D : PD} (hok : StOk st) (hd : st.d = D) {a b cm : Int} {ct : Bool} (ha : -2147483648 ≤ a ∧ a ≤ 2147483647) (hb : -2147483648 ≤ b ∧ b ≤ 2147483647) (h : pairOut (composeOf D a b) = .tuple #[.int .i32 cm, .bool ct]) : ∀ x ∈ [a, b, cm], -2147483648 ≤ x ∧ x ≤ 2147483647 := by
  intro x hx
  simp only [List.mem_cons, List.not_mem_nil, or_false] at hx
  rcases hx with rfl | rfl | rfl
  · exact ha
  · exact hb
  · rw [← hd] at h
    cases hc : composeOf st.d a b with
    | none =>
      rw [hc] at h
      simp only [pairOut, Value.tuple.injEq, Array.mk.injEq, List.cons.injEq, Value.int.injEq, true_and] at h
      omega
    | some r =>
      rw [hc] at h
      simp only [pairOut, Value.tuple.injEq, Array.mk.injEq, List.cons.injEq, Value.int.injEq, true_and] at h
      rw [← h.1]
      exact compose_bounds hok hc
theorem composes_long (s : ByteArray) (a b : Int) (w : World) (h : 4096 < (s.size : Int)) : Calls Tryz.prog 3 #[.string s, .int .i32 a, .int .i32 b] w fun e w' => e = .returned (.bool true) ∧ Below w.heap.size w w' := by
  go_enter Tryz.func3, Tryz.ntmps3
  go_wp2
  go_ret
  exact ⟨rfl, Below.refl _ _⟩
abbrev RP (s : ByteArray) (k l : Int) : Prop := ∀ W, KindsAt W → Calls Tryz.prog 8 #[.string s] W fun e w' => e = .returned (.tuple #[.pointer none, .agg #[.int .i64 k, .int .i64 l]]) ∧ Below W.heap.size W w'
set_option maxHeartbeats 4000000 in
set_option maxRecDepth 100000 in
theorem composes_bad (s : ByteArray) (a b : Int) {m : Int} {ev : Value} (w : World) (hv : Vars w.heap.size w m ev) (hkd : KindsAt w) (hs : (s.size : Int) ≤ 4096) {k : Int} {o : Option Int} (h : parse s.data.toList = .error (k, o)) : Calls Tryz.prog 3 #[.string s, .int .i32 a, .int .i32 b] w fun e w' => e = .returned (.bool true) ∧ Below w.heap.size w w' := by
  have hk := parse_err h
  have hkn : (k != 0) = true := bne_iff_ne.2 (by omega)
  have HRP : Hid (RP s k (o.getD 0)) := Lib.hid fun W hW => (rparse_calls s W hW).mono fun e w' ho => by
    rw [h] at ho
    exact ⟨ho.2, ho.1⟩
  have HPP : Hid (∀ W, Vars W.heap.size W m ev → Calls Tryz.prog 9 #[.string s] W fun e w' => ∃ t v, e = .returned (.tuple #[.pointer none, .iface t v]) ∧ Below W.heap.size W w') := Lib.hid fun W hW => (parse_calls s (by omega) W hW).mono fun e w' ⟨ho, hb⟩ => by
    rw [h] at ho
    cases o with
    | none => exact ⟨_, _, ho, hb⟩
    | some l => exact ⟨_, _, ho, hb⟩
  have HV := Lib.hid hv
  have HK := Lib.hid hkd
  clear h hv hkd hk
  generalize o.getD 0 = l at *
  go_enter Tryz.func3, Tryz.ntmps3
  go_wp2_with (first
    | (go_at_call 8; (with_reducible refine (HRP.out _ HK.out).mono ?_); rintro e w1 ⟨rfl, hb⟩; have HB1 := Lib.hid hb; clear hb)
    | (go_at_call 9; (with_reducible refine (HPP.out _ ((HV.out.on HB1.out).on ((Below.refl _ w1).alloc (Nat.le_refl _) _))).mono ?_); rintro e w2 ⟨t, v, rfl, hb⟩; have hT := (Two.start w1 (.int .i64 k) (.int .i64 l) 24).later hb; have hc0 := hT.c0; have HB2 := Lib.hid (HB1.out.trans (hT.below.mono HB1.out.size)); clear hT hb)
    | (go_at_call 10; (with_reducible refine (works_calls _ (HV.out.on HB2.out)).mono ?_); rintro e w3 ⟨rfl, hb3⟩))
  go_ret
  exact ⟨rfl, below_then HB2.out hb3⟩
set_option maxHeartbeats 8000000 in
set_option maxRecDepth 100000 in
theorem composes_good (s : ByteArray) (a b : Int) {m : Int} {ev : Value} (w : World) (hv : Vars w.heap.size w m ev) (hkd : KindsAt w) (ha : -2147483648 ≤ a ∧ a ≤ 2147483647) (hb : -2147483648 ≤ b ∧ b ≤ 2147483647) (hs : (s.size : Int) ≤ 4096) {D : PD} (h : parse s.data.toList = .ok D) : Calls Tryz.prog 3 #[.string s, .int .i32 a, .int .i32 b] w fun e w' => e = .returned (.bool true) ∧ Below w.heap.size w w' := by
  have HRP : Hid (∀ W, KindsAt W → Calls Tryz.prog 8 #[.string s] W fun e w' => ∃ q st, e = .returned (.tuple #[.pointer (some ⟨q, 0, none⟩), .agg #[.int .i64 0, .int .i64 0]]) ∧ RefAt q w' st ∧ st.d = D ∧ Below W.heap.size W w') := Lib.hid fun W hW => (rparse_calls s W hW).mono fun e w' ho => by
    rw [h] at ho
    obtain ⟨hb, q, st, e1, e2, e3, _⟩ := ho
    exact ⟨q, st, e1, e2, e3, hb⟩
  have HPP : Hid (∀ W, Vars W.heap.size W m ev → Calls Tryz.prog 9 #[.string s] W fun e w' => ∃ p, e = .returned (.tuple #[.pointer (some ⟨p, 0, none⟩), .nilIface]) ∧ PropsAt w'.heap.size w' p D ∧ Below W.heap.size W w') := Lib.hid fun W hW => parse_good (by omega) hW h
  obtain ⟨cm, ct, hcm⟩ := pair_lit (composeOf D a b)
  have HCM := Lib.hid hcm
  have HAB := Lib.hid (And.intro ha hb)
  have HV := Lib.hid hv
  have HK := Lib.hid hkd
  clear h hv hkd hcm ha hb
  cases ct
  all_goals
    go_enter Tryz.func3, Tryz.ntmps3
    go_wp2_with (first
      | (go_at_call 8; (with_reducible refine (HRP.out _ HK.out).mono ?_); rintro e w1 ⟨q, st, rfl, hr, hd, hb⟩; have HB1 := Lib.hid hb; have HR1 := Lib.hid hr; have HD := Lib.hid hd; clear hb hr hd)
      | (go_at_call 9; (with_reducible refine (HPP.out _ ((HV.out.on HB1.out).on ((Below.refl _ w1).alloc (Nat.le_refl _) _))).mono ?_); rintro e w2 ⟨p, rfl, hp, hb⟩; have hT := (Two.start w1 (.int .i64 0) (.int .i64 0) 24).later hb; have hc0 := hT.c0; have HB2 := Lib.hid (HB1.out.trans (hT.below.mono HB1.out.size)); have HR2 := Lib.hid (HR1.out.on hT.below); have HP2 := Lib.hid hp; have CM := Lib.hid (compAt hp HCM.out); have RC := Lib.hid (rcAt HR2.out HAB.out.1.1 HAB.out.1.2 HAB.out.2.1 HAB.out.2.2 (by rw [HD.out]; exact HCM.out)); have hbx := Below.refl w2.heap.size w2; clear hT hb hp)
      | (go_at_call 11; (with_reducible refine (CM.out _ hbx).mono ?_); rintro e w3 ⟨rfl, hb⟩; clear CM; replace hbx := hbx.trans (hb.mono hbx.size); clear hb)
      | (go_at_call 12; (with_reducible refine (RC.out _ hbx).mono ?_); rintro e w4 ⟨rfl, hb⟩; clear RC; replace hbx := hbx.trans (hb.mono hbx.size); have HA4 := Lib.hid (hbx.alloc hbx.size (.cells #[.int .i32 a, .int .i32 b, .int .i32 cm] 21)); clear hb)
      | (go_at_call 13; go_must (refine (asked_calls p q D st HD.out (.slice (some ⟨w4.heap.size, 0, none⟩) 3 3) [a, b, cm] (w4.alloc (.cells #[.int .i32 a, .int .i32 b, .int .i32 cm] 21)) (HP2.out.on HA4.out) (HR2.out.on HA4.out) (ReadPts.new w4 [a, b, cm] (by simp [maxLen])) (compose_three HR2.out.2.1 HD.out HAB.out.1 HAB.out.2 HCM.out)).mono ?_; rintro e w5 ⟨rfl, hb⟩; replace hbx := below_then HA4.out hb; clear hb))
      | (go_at_call 10; (with_reducible refine (works_calls _ ((HV.out.on HB2.out).on hbx)).mono ?_); rintro e w6 ⟨rfl, hb6⟩))
    go_ret
    exact ⟨rfl, below_then (below_then HB2.out hbx) hb6⟩
theorem composes_calls (s : ByteArray) (a b : Int) {m : Int} {ev : Value} (w : World) (hv : Vars w.heap.size w m ev) (hkd : KindsAt w) (ha : -2147483648 ≤ a ∧ a ≤ 2147483647) (hb : -2147483648 ≤ b ∧ b ≤ 2147483647) : Calls Tryz.prog 3 #[.string s, .int .i32 a, .int .i32 b] w fun e w' => e = .returned (.bool true) ∧ Below w.heap.size w w' := by
  by_cases h : 4096 < (s.size : Int)
  · exact composes_long s a b w h
  · cases hp : parse s.data.toList with
    | error x => exact composes_bad s a b w hv hkd (by omega) (k := x.1) (o := x.2) hp
    | ok D => exact composes_good s a b w hv hkd ha hb (by omega) hp
end Go.Proofs.YthonikkoafoohaaGreatDoor.Rf
