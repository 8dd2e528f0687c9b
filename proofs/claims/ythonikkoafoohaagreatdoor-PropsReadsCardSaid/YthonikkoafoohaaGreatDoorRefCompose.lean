/- What the reference answers of two points: Compose. -/
import Derived.Test.YthonikkoafoohaaGreatDoorRefAsk
namespace Go.Proofs.YthonikkoafoohaaGreatDoor.Rf
open Go Go.RowKit Go.Shelf Go.Proofs.YthonikkoafoohaaGreatDoor.Sp Go.Proofs.YthonikkoafoohaaGreatDoor.Pr Go.Proofs.YthonikkoafoohaaGreatDoor.Rowl
set_option linter.unusedSimpArgs false

/-- What Compose hands out. -/
def composeV (o : Option Int) : Value := .tuple #[.int .i32 (o.getD 0), .bool o.isSome]
def accL (l : List (Int × List Int)) (a b : Int) (i : Nat) : Option Int := (l.take i).foldl (leastF a b) none
theorem accL_all (l : List (Int × List Int)) (a b : Int) : accL l a b l.length = least l a b := by
  unfold accL
  rw [List.take_of_length_le (Nat.le_refl _)]
  rfl
theorem accL_step {l : List (Int × List Int)} {a b : Int} {i : Nat} {p : Int × List Int} (h : l[i]? = some p) : accL l a b (i + 1) = leastF a b (accL l a b i) p := by
  unfold accL
  rw [List.take_add_one, h, List.foldl_append]
  rfl
abbrev ccArms (q : Nat) (D : PD) (r : Int) : Prop := ∀ w, Calls Tryz.prog 46 #[.pointer (some ⟨q, 0, none⟩), .int .i32 r] w fun e w' => e = .returned (.int .i64 (classOf D r)) ∧ w = w'
set_option maxHeartbeats 8000000 in
set_option maxRecDepth 100000 in
theorem rcompose_lead (q : Nat) (a b : Int) (w : World) (h1 : 4352 ≤ a) (h2 : a < 4371) (h3 : 4449 ≤ b) (h4 : b < 4470) : Calls Tryz.prog 12 #[.pointer (some ⟨q, 0, none⟩), .int .i32 a, .int .i32 b] w fun e w' => e = .returned (composeV (some (44032 + ((a - 4352) * 21 + b - 4449) * 28))) ∧ Below w.heap.size w w' := by
  have g1 : a ≤ 4370 := by omega
  have g2 : b ≤ 4469 := by omega
  go_enter Tryz.func12, Tryz.ntmps12
  go_wp2
  go_ret2
  exact ⟨rfl, Below.refl _ _⟩
set_option maxHeartbeats 8000000 in
set_option maxRecDepth 100000 in
theorem rcompose_tail (q : Nat) (a b : Int) (w : World) (h1 : isSyl a = true) (h2 : (a - 44032) % 28 = 0) (h3 : 4519 < b) (h4 : b < 4547) : Calls Tryz.prog 12 #[.pointer (some ⟨q, 0, none⟩), .int .i32 a, .int .i32 b] w fun e w' => e = .returned (composeV (some (a + b - 4519))) ∧ Below w.heap.size w w' := by
  have h0 : 44032 ≤ a ∧ a < 55204 := by simpa [isSyl] using h1
  obtain ⟨g1, g2⟩ := h0
  have g3 : ¬ a ≤ 4370 := by omega
  have g4 : 4520 ≤ b := by omega
  have g5 : b ≤ 4546 := by omega
  have hb28 : ((a - 44032) % 28 == 0) = true := by rw [h2]; rfl
  clear h2
  go_enter Tryz.func12, Tryz.ntmps12
  go_wp2_with (go_at_call 45; (with_reducible refine (syl_calls _ _).mono ?_); rintro e w6 ⟨rfl, hw⟩; subst w6)
  go_ret2
  exact ⟨rfl, Below.refl _ _⟩
/-- What the loop holds. -/
def CA (l : List (Int × List Int)) (a b : Int) (i : Nat) (lv : Int) (fd : Bool) : Prop := (fd = false → accL l a b i = none ∧ lv = 0) ∧ (fd = true → accL l a b i = some lv)
theorem CA.skip {l : List (Int × List Int)} {a b : Int} {i : Nat} {lv : Int} {fd : Bool} (h : CA l a b i lv fd) {p : Int × List Int} (hp : l[i]? = some p) (hn : p.2 ≠ [a, b]) : CA l a b (i + 1) lv fd := by
  have e : accL l a b (i + 1) = accL l a b i := by rw [accL_step hp]; unfold leastF; rw [if_neg hn]
  unfold CA
  rw [e]
  exact h
theorem CA.take {l : List (Int × List Int)} {a b : Int} {i : Nat} {lv : Int} {fd : Bool} (h : CA l a b i lv fd) {r : Int} (hp : l[i]? = some (r, [a, b])) (hc : fd = false ∨ r < lv) : CA l a b (i + 1) r true := by
  refine ⟨fun e => (by cases e), fun _ => ?_⟩
  rw [accL_step hp]
  unfold leastF
  rw [if_pos rfl]
  cases fd with
  | false => rw [(h.1 rfl).1]
  | true =>
    rw [h.2 rfl]
    simp only
    rw [if_pos (hc.resolve_left (fun e => by cases e))]
theorem CA.keep {l : List (Int × List Int)} {a b : Int} {i : Nat} {lv : Int} (h : CA l a b i lv true) {r : Int} (hp : l[i]? = some (r, [a, b])) (hc : ¬ r < lv) : CA l a b (i + 1) lv true := by
  refine ⟨fun e => (by cases e), fun _ => ?_⟩
  rw [accL_step hp]
  unfold leastF
  rw [if_pos rfl, h.2 rfl]
  simp only
  rw [if_neg hc]
theorem CA.out {l : List (Int × List Int)} {a b : Int} {i : Nat} {lv : Int} {fd : Bool} (h : CA l a b i lv fd) : composeV (accL l a b i) = .tuple #[.int .i32 lv, .bool fd] := by
  unfold composeV
  cases fd with
  | false => rw [(h.1 rfl).1, (h.1 rfl).2]; rfl
  | true => rw [h.2 rfl]; rfl
set_option maxHeartbeats 8000000 in
set_option maxRecDepth 100000 in
theorem rcompose_A (q : Nat) (st : St) (a b : Int) (ha0 : -2147483648 ≤ a) (ha1 : a ≤ 2147483647) (hb0 : -2147483648 ≤ b) (hb1 : b ≤ 2147483647) (w : World) (h : RefAt q w st) (h1 : ¬ 4352 ≤ a) (hs : isSyl a = false) : Calls Tryz.prog 12 #[.pointer (some ⟨q, 0, none⟩), .int .i32 a, .int .i32 b] w fun e w' => e = .returned (composeV (if classOf st.d a ≠ 0 then none else least st.d.decomps a b)) ∧ Below w.heap.size w w' := by
  have HR := Lib.hid h
  have HCL := Lib.hid (rclass_calls q st a ha0 ha1 w h)
  have HOK := Lib.hid h.2.1
  have hlm : st.d.decomps.length ≤ 1048576 := h.2.2.2.2.2
  clear h
  generalize classOf st.d a = cl at *
  by_cases hcl : cl = 0
  · have hclb : (cl != 0) = false := by rw [hcl]; rfl
    rw [if_neg (fun e => e hcl)]
    clear hcl
    go_enter Tryz.func12, Tryz.ntmps12
    go_wp2_with (first | (go_at_call 45; (with_reducible refine (syl_calls _ _).mono ?_); rintro e w6 ⟨rfl, hw⟩; subst w6) | (go_at_call 46; (with_reducible refine HCL.out.mono ?_); rintro e w6 ⟨rfl, hw⟩; subst w6))
    go_loopw [8, 9, 10] (fun vl vf vi wr => ∃ (i : Nat) (lv : Int) (fd : Bool), vl = .int .i32 lv ∧ vf = .bool fd ∧ vi = .int .i64 i ∧ i ≤ st.d.decomps.length ∧ Hid (CA st.d.decomps a b i lv fd) ∧ Hid (Below w.heap.size w wr)) (fun _ _ vi _ => st.d.decomps.length - (intOf vi).toNat)
    case atStart => exact ⟨0, 0, false, rfl, rfl, rfl, by omega, Lib.hid ⟨fun _ => ⟨rfl, rfl⟩, fun e => by cases e⟩, Lib.hid (Below.refl _ _)⟩
    case round =>
      obtain ⟨i, lv, fd, rfl, rfl, rfl, hi, HA, HW⟩ := hrel
      rename World => w2
      obtain ⟨A, c, hq3, _, hlc⟩ := (HR.out.on HW.out).decomps
      by_cases hlt : i < st.d.decomps.length
      · obtain ⟨p, hp⟩ : ∃ p, st.d.decomps[i]? = some p := ⟨_, List.getElem?_eq_getElem hlt⟩
        obtain ⟨g, rfl, tv, kk, c0, c1, c2, hpt⟩ := hlc i p hp
        obtain ⟨bt, ot, ct, rfl, hpc⟩ := pts_cell hpt
        obtain ⟨hp0, hp1⟩ := char_bounds (HOK.out.chars p (List.mem_of_getElem? hp)).1
        have HP := Lib.hid hp
        have HWA : Hid (Below w.heap.size w (w2.alloc (.cells #[.int .i64 p.1, .slice (some ⟨bt, ot, none⟩) p.2.length ct, .int .i64 kk] 58))) := Lib.hid (HW.out.alloc HW.out.size _)
        have f1 : (0 : Int) ≤ (i : Int) := by omega
        have f2 : (i : Int) < (st.d.decomps.length : Int) := by omega
        have hcase : (p.2.length ≠ 2 ∧ p.2 ≠ [a, b]) ∨ ∃ u v, p.2 = [u, v] := by
          by_cases hl : p.2.length = 2
          · match hm : p.2, hl with
            | [u, v], _ => exact .inr ⟨u, v, rfl⟩
          · exact .inl ⟨hl, fun e => hl (by rw [e]; rfl)⟩
        clear hlc hp hpt
        obtain ⟨p1, p2⟩ := p
        simp only at c0 c1 hpc hp0 hp1 HP HWA hcase ⊢
        rcases hcase with ⟨hl, hne⟩ | ⟨u, v, rfl⟩
        · have hlb : ((p2.length : Int) == 2) = false := beq_eq_false_iff_ne.2 (by omega)
          have HN := Lib.hid (HA.out.skip HP.out hne)
          clear hpc hl hne
          go_wp2
          go_roundw
          case rel => exact ⟨i + 1, lv, fd, rfl, rfl, by go_num, by omega, HN, HWA⟩
          case measure => simp [intOf]; omega
        · have hu := Lib.cell?_alloc_some (.cells #[.int .i64 p1, .slice (some ⟨bt, ot, none⟩) 2 ct, .int .i64 kk] 58) (hpc 0 u rfl)
          have hv := Lib.cell?_alloc_some (.cells #[.int .i64 p1, .slice (some ⟨bt, ot, none⟩) 2 ct, .int .i64 kk] 58) (hpc 1 v rfl)
          simp only [Nat.add_zero] at hu
          clear hpc
          by_cases hua : u = a
          · by_cases hvb : v = b
            · subst hua
              subst hvb
              cases fd with
              | false =>
                have HN := Lib.hid (HA.out.take HP.out (.inl rfl))
                go_wp2
                go_roundw
                case rel => exact ⟨i + 1, p1, true, rfl, rfl, by go_num, by omega, HN, HWA⟩
                case measure => simp [intOf]; omega
              | true =>
                by_cases hlv : p1 < lv
                · have HN := Lib.hid (HA.out.take HP.out (.inr hlv))
                  go_wp2
                  go_roundw
                  case rel => exact ⟨i + 1, p1, true, rfl, rfl, by go_num, by omega, HN, HWA⟩
                  case measure => simp [intOf]; omega
                · have HN := Lib.hid (HA.out.keep HP.out hlv)
                  go_wp2
                  go_roundw
                  case rel => exact ⟨i + 1, lv, true, rfl, rfl, by go_num, by omega, HN, HWA⟩
                  case measure => simp [intOf]; omega
            · have hvf : (v == b) = false := beq_eq_false_iff_ne.2 hvb
              have HN := Lib.hid (HA.out.skip HP.out (fun e => hvb (by injection e with _ e; injection e)))
              subst hua
              clear hvb
              go_wp2
              go_roundw
              case rel => exact ⟨i + 1, lv, fd, rfl, rfl, by go_num, by omega, HN, HWA⟩
              case measure => simp [intOf]; omega
          · have huf : (u == a) = false := beq_eq_false_iff_ne.2 hua
            have HN := Lib.hid (HA.out.skip HP.out (fun e => hua (by injection e)))
            clear hua
            go_wp2
            go_roundw
            case rel => exact ⟨i + 1, lv, fd, rfl, rfl, by go_num, by omega, HN, HWA⟩
            case measure => simp [intOf]; omega
      · have hie : i = st.d.decomps.length := by omega
        subst hie
        have HL : Hid (composeV (least st.d.decomps a b) = .tuple #[.int .i32 lv, .bool fd]) := Lib.hid (by
          rw [← accL_all]
          exact HA.out.out)
        clear hlc
        go_wp2
        go_ret2
        rw [HL.out]
        exact ⟨rfl, HW.out⟩
  · have hclb : (cl != 0) = true := bne_iff_ne.2 hcl
    rw [if_pos hcl]
    clear hcl
    go_enter Tryz.func12, Tryz.ntmps12
    go_wp2_with (first | (go_at_call 45; (with_reducible refine (syl_calls _ _).mono ?_); rintro e w6 ⟨rfl, hw⟩; subst w6) | (go_at_call 46; (with_reducible refine HCL.out.mono ?_); rintro e w6 ⟨rfl, hw⟩; subst w6))
    go_ret2
    exact ⟨rfl, Below.refl _ _⟩
set_option maxHeartbeats 8000000 in
set_option maxRecDepth 100000 in
theorem rcompose_B (q : Nat) (st : St) (a b : Int) (ha0 : -2147483648 ≤ a) (ha1 : a ≤ 2147483647) (hb0 : -2147483648 ≤ b) (hb1 : b ≤ 2147483647) (w : World) (h : RefAt q w st) (h1 : 4352 ≤ a) (h2 : ¬ a ≤ 4370) (hs : isSyl a = false) : Calls Tryz.prog 12 #[.pointer (some ⟨q, 0, none⟩), .int .i32 a, .int .i32 b] w fun e w' => e = .returned (composeV (if classOf st.d a ≠ 0 then none else least st.d.decomps a b)) ∧ Below w.heap.size w w' := by
  have HR := Lib.hid h
  have HCL := Lib.hid (rclass_calls q st a ha0 ha1 w h)
  have HOK := Lib.hid h.2.1
  have hlm : st.d.decomps.length ≤ 1048576 := h.2.2.2.2.2
  clear h
  generalize classOf st.d a = cl at *
  by_cases hcl : cl = 0
  · have hclb : (cl != 0) = false := by rw [hcl]; rfl
    rw [if_neg (fun e => e hcl)]
    clear hcl
    go_enter Tryz.func12, Tryz.ntmps12
    go_wp2_with (first | (go_at_call 45; (with_reducible refine (syl_calls _ _).mono ?_); rintro e w6 ⟨rfl, hw⟩; subst w6) | (go_at_call 46; (with_reducible refine HCL.out.mono ?_); rintro e w6 ⟨rfl, hw⟩; subst w6))
    go_loopw [8, 9, 10] (fun vl vf vi wr => ∃ (i : Nat) (lv : Int) (fd : Bool), vl = .int .i32 lv ∧ vf = .bool fd ∧ vi = .int .i64 i ∧ i ≤ st.d.decomps.length ∧ Hid (CA st.d.decomps a b i lv fd) ∧ Hid (Below w.heap.size w wr)) (fun _ _ vi _ => st.d.decomps.length - (intOf vi).toNat)
    case atStart => exact ⟨0, 0, false, rfl, rfl, rfl, by omega, Lib.hid ⟨fun _ => ⟨rfl, rfl⟩, fun e => by cases e⟩, Lib.hid (Below.refl _ _)⟩
    case round =>
      obtain ⟨i, lv, fd, rfl, rfl, rfl, hi, HA, HW⟩ := hrel
      rename World => w2
      obtain ⟨A, c, hq3, _, hlc⟩ := (HR.out.on HW.out).decomps
      by_cases hlt : i < st.d.decomps.length
      · obtain ⟨p, hp⟩ : ∃ p, st.d.decomps[i]? = some p := ⟨_, List.getElem?_eq_getElem hlt⟩
        obtain ⟨g, rfl, tv, kk, c0, c1, c2, hpt⟩ := hlc i p hp
        obtain ⟨bt, ot, ct, rfl, hpc⟩ := pts_cell hpt
        obtain ⟨hp0, hp1⟩ := char_bounds (HOK.out.chars p (List.mem_of_getElem? hp)).1
        have HP := Lib.hid hp
        have HWA : Hid (Below w.heap.size w (w2.alloc (.cells #[.int .i64 p.1, .slice (some ⟨bt, ot, none⟩) p.2.length ct, .int .i64 kk] 58))) := Lib.hid (HW.out.alloc HW.out.size _)
        have f1 : (0 : Int) ≤ (i : Int) := by omega
        have f2 : (i : Int) < (st.d.decomps.length : Int) := by omega
        have hcase : (p.2.length ≠ 2 ∧ p.2 ≠ [a, b]) ∨ ∃ u v, p.2 = [u, v] := by
          by_cases hl : p.2.length = 2
          · match hm : p.2, hl with
            | [u, v], _ => exact .inr ⟨u, v, rfl⟩
          · exact .inl ⟨hl, fun e => hl (by rw [e]; rfl)⟩
        clear hlc hp hpt
        obtain ⟨p1, p2⟩ := p
        simp only at c0 c1 hpc hp0 hp1 HP HWA hcase ⊢
        rcases hcase with ⟨hl, hne⟩ | ⟨u, v, rfl⟩
        · have hlb : ((p2.length : Int) == 2) = false := beq_eq_false_iff_ne.2 (by omega)
          have HN := Lib.hid (HA.out.skip HP.out hne)
          clear hpc hl hne
          go_wp2
          go_roundw
          case rel => exact ⟨i + 1, lv, fd, rfl, rfl, by go_num, by omega, HN, HWA⟩
          case measure => simp [intOf]; omega
        · have hu := Lib.cell?_alloc_some (.cells #[.int .i64 p1, .slice (some ⟨bt, ot, none⟩) 2 ct, .int .i64 kk] 58) (hpc 0 u rfl)
          have hv := Lib.cell?_alloc_some (.cells #[.int .i64 p1, .slice (some ⟨bt, ot, none⟩) 2 ct, .int .i64 kk] 58) (hpc 1 v rfl)
          simp only [Nat.add_zero] at hu
          clear hpc
          by_cases hua : u = a
          · by_cases hvb : v = b
            · subst hua
              subst hvb
              cases fd with
              | false =>
                have HN := Lib.hid (HA.out.take HP.out (.inl rfl))
                go_wp2
                go_roundw
                case rel => exact ⟨i + 1, p1, true, rfl, rfl, by go_num, by omega, HN, HWA⟩
                case measure => simp [intOf]; omega
              | true =>
                by_cases hlv : p1 < lv
                · have HN := Lib.hid (HA.out.take HP.out (.inr hlv))
                  go_wp2
                  go_roundw
                  case rel => exact ⟨i + 1, p1, true, rfl, rfl, by go_num, by omega, HN, HWA⟩
                  case measure => simp [intOf]; omega
                · have HN := Lib.hid (HA.out.keep HP.out hlv)
                  go_wp2
                  go_roundw
                  case rel => exact ⟨i + 1, lv, true, rfl, rfl, by go_num, by omega, HN, HWA⟩
                  case measure => simp [intOf]; omega
            · have hvf : (v == b) = false := beq_eq_false_iff_ne.2 hvb
              have HN := Lib.hid (HA.out.skip HP.out (fun e => hvb (by injection e with _ e; injection e)))
              subst hua
              clear hvb
              go_wp2
              go_roundw
              case rel => exact ⟨i + 1, lv, fd, rfl, rfl, by go_num, by omega, HN, HWA⟩
              case measure => simp [intOf]; omega
          · have huf : (u == a) = false := beq_eq_false_iff_ne.2 hua
            have HN := Lib.hid (HA.out.skip HP.out (fun e => hua (by injection e)))
            clear hua
            go_wp2
            go_roundw
            case rel => exact ⟨i + 1, lv, fd, rfl, rfl, by go_num, by omega, HN, HWA⟩
            case measure => simp [intOf]; omega
      · have hie : i = st.d.decomps.length := by omega
        subst hie
        have HL : Hid (composeV (least st.d.decomps a b) = .tuple #[.int .i32 lv, .bool fd]) := Lib.hid (by
          rw [← accL_all]
          exact HA.out.out)
        clear hlc
        go_wp2
        go_ret2
        rw [HL.out]
        exact ⟨rfl, HW.out⟩
  · have hclb : (cl != 0) = true := bne_iff_ne.2 hcl
    rw [if_pos hcl]
    clear hcl
    go_enter Tryz.func12, Tryz.ntmps12
    go_wp2_with (first | (go_at_call 45; (with_reducible refine (syl_calls _ _).mono ?_); rintro e w6 ⟨rfl, hw⟩; subst w6) | (go_at_call 46; (with_reducible refine HCL.out.mono ?_); rintro e w6 ⟨rfl, hw⟩; subst w6))
    go_ret2
    exact ⟨rfl, Below.refl _ _⟩
set_option maxHeartbeats 8000000 in
set_option maxRecDepth 100000 in
theorem rcompose_C (q : Nat) (st : St) (a b : Int) (ha0 : -2147483648 ≤ a) (ha1 : a ≤ 2147483647) (hb0 : -2147483648 ≤ b) (hb1 : b ≤ 2147483647) (w : World) (h : RefAt q w st) (h1 : 4352 ≤ a) (h2 : a ≤ 4370) (h3 : ¬ 4449 ≤ b) (hs : isSyl a = false) : Calls Tryz.prog 12 #[.pointer (some ⟨q, 0, none⟩), .int .i32 a, .int .i32 b] w fun e w' => e = .returned (composeV (if classOf st.d a ≠ 0 then none else least st.d.decomps a b)) ∧ Below w.heap.size w w' := by
  have HR := Lib.hid h
  have HCL := Lib.hid (rclass_calls q st a ha0 ha1 w h)
  have HOK := Lib.hid h.2.1
  have hlm : st.d.decomps.length ≤ 1048576 := h.2.2.2.2.2
  clear h
  generalize classOf st.d a = cl at *
  by_cases hcl : cl = 0
  · have hclb : (cl != 0) = false := by rw [hcl]; rfl
    rw [if_neg (fun e => e hcl)]
    clear hcl
    go_enter Tryz.func12, Tryz.ntmps12
    go_wp2_with (first | (go_at_call 45; (with_reducible refine (syl_calls _ _).mono ?_); rintro e w6 ⟨rfl, hw⟩; subst w6) | (go_at_call 46; (with_reducible refine HCL.out.mono ?_); rintro e w6 ⟨rfl, hw⟩; subst w6))
    go_loopw [8, 9, 10] (fun vl vf vi wr => ∃ (i : Nat) (lv : Int) (fd : Bool), vl = .int .i32 lv ∧ vf = .bool fd ∧ vi = .int .i64 i ∧ i ≤ st.d.decomps.length ∧ Hid (CA st.d.decomps a b i lv fd) ∧ Hid (Below w.heap.size w wr)) (fun _ _ vi _ => st.d.decomps.length - (intOf vi).toNat)
    case atStart => exact ⟨0, 0, false, rfl, rfl, rfl, by omega, Lib.hid ⟨fun _ => ⟨rfl, rfl⟩, fun e => by cases e⟩, Lib.hid (Below.refl _ _)⟩
    case round =>
      obtain ⟨i, lv, fd, rfl, rfl, rfl, hi, HA, HW⟩ := hrel
      rename World => w2
      obtain ⟨A, c, hq3, _, hlc⟩ := (HR.out.on HW.out).decomps
      by_cases hlt : i < st.d.decomps.length
      · obtain ⟨p, hp⟩ : ∃ p, st.d.decomps[i]? = some p := ⟨_, List.getElem?_eq_getElem hlt⟩
        obtain ⟨g, rfl, tv, kk, c0, c1, c2, hpt⟩ := hlc i p hp
        obtain ⟨bt, ot, ct, rfl, hpc⟩ := pts_cell hpt
        obtain ⟨hp0, hp1⟩ := char_bounds (HOK.out.chars p (List.mem_of_getElem? hp)).1
        have HP := Lib.hid hp
        have HWA : Hid (Below w.heap.size w (w2.alloc (.cells #[.int .i64 p.1, .slice (some ⟨bt, ot, none⟩) p.2.length ct, .int .i64 kk] 58))) := Lib.hid (HW.out.alloc HW.out.size _)
        have f1 : (0 : Int) ≤ (i : Int) := by omega
        have f2 : (i : Int) < (st.d.decomps.length : Int) := by omega
        have hcase : (p.2.length ≠ 2 ∧ p.2 ≠ [a, b]) ∨ ∃ u v, p.2 = [u, v] := by
          by_cases hl : p.2.length = 2
          · match hm : p.2, hl with
            | [u, v], _ => exact .inr ⟨u, v, rfl⟩
          · exact .inl ⟨hl, fun e => hl (by rw [e]; rfl)⟩
        clear hlc hp hpt
        obtain ⟨p1, p2⟩ := p
        simp only at c0 c1 hpc hp0 hp1 HP HWA hcase ⊢
        rcases hcase with ⟨hl, hne⟩ | ⟨u, v, rfl⟩
        · have hlb : ((p2.length : Int) == 2) = false := beq_eq_false_iff_ne.2 (by omega)
          have HN := Lib.hid (HA.out.skip HP.out hne)
          clear hpc hl hne
          go_wp2
          go_roundw
          case rel => exact ⟨i + 1, lv, fd, rfl, rfl, by go_num, by omega, HN, HWA⟩
          case measure => simp [intOf]; omega
        · have hu := Lib.cell?_alloc_some (.cells #[.int .i64 p1, .slice (some ⟨bt, ot, none⟩) 2 ct, .int .i64 kk] 58) (hpc 0 u rfl)
          have hv := Lib.cell?_alloc_some (.cells #[.int .i64 p1, .slice (some ⟨bt, ot, none⟩) 2 ct, .int .i64 kk] 58) (hpc 1 v rfl)
          simp only [Nat.add_zero] at hu
          clear hpc
          by_cases hua : u = a
          · by_cases hvb : v = b
            · subst hua
              subst hvb
              cases fd with
              | false =>
                have HN := Lib.hid (HA.out.take HP.out (.inl rfl))
                go_wp2
                go_roundw
                case rel => exact ⟨i + 1, p1, true, rfl, rfl, by go_num, by omega, HN, HWA⟩
                case measure => simp [intOf]; omega
              | true =>
                by_cases hlv : p1 < lv
                · have HN := Lib.hid (HA.out.take HP.out (.inr hlv))
                  go_wp2
                  go_roundw
                  case rel => exact ⟨i + 1, p1, true, rfl, rfl, by go_num, by omega, HN, HWA⟩
                  case measure => simp [intOf]; omega
                · have HN := Lib.hid (HA.out.keep HP.out hlv)
                  go_wp2
                  go_roundw
                  case rel => exact ⟨i + 1, lv, true, rfl, rfl, by go_num, by omega, HN, HWA⟩
                  case measure => simp [intOf]; omega
            · have hvf : (v == b) = false := beq_eq_false_iff_ne.2 hvb
              have HN := Lib.hid (HA.out.skip HP.out (fun e => hvb (by injection e with _ e; injection e)))
              subst hua
              clear hvb
              go_wp2
              go_roundw
              case rel => exact ⟨i + 1, lv, fd, rfl, rfl, by go_num, by omega, HN, HWA⟩
              case measure => simp [intOf]; omega
          · have huf : (u == a) = false := beq_eq_false_iff_ne.2 hua
            have HN := Lib.hid (HA.out.skip HP.out (fun e => hua (by injection e)))
            clear hua
            go_wp2
            go_roundw
            case rel => exact ⟨i + 1, lv, fd, rfl, rfl, by go_num, by omega, HN, HWA⟩
            case measure => simp [intOf]; omega
      · have hie : i = st.d.decomps.length := by omega
        subst hie
        have HL : Hid (composeV (least st.d.decomps a b) = .tuple #[.int .i32 lv, .bool fd]) := Lib.hid (by
          rw [← accL_all]
          exact HA.out.out)
        clear hlc
        go_wp2
        go_ret2
        rw [HL.out]
        exact ⟨rfl, HW.out⟩
  · have hclb : (cl != 0) = true := bne_iff_ne.2 hcl
    rw [if_pos hcl]
    clear hcl
    go_enter Tryz.func12, Tryz.ntmps12
    go_wp2_with (first | (go_at_call 45; (with_reducible refine (syl_calls _ _).mono ?_); rintro e w6 ⟨rfl, hw⟩; subst w6) | (go_at_call 46; (with_reducible refine HCL.out.mono ?_); rintro e w6 ⟨rfl, hw⟩; subst w6))
    go_ret2
    exact ⟨rfl, Below.refl _ _⟩
set_option maxHeartbeats 8000000 in
set_option maxRecDepth 100000 in
theorem rcompose_D (q : Nat) (st : St) (a b : Int) (ha0 : -2147483648 ≤ a) (ha1 : a ≤ 2147483647) (hb0 : -2147483648 ≤ b) (hb1 : b ≤ 2147483647) (w : World) (h : RefAt q w st) (h1 : 4352 ≤ a) (h2 : a ≤ 4370) (h3 : 4449 ≤ b) (h4 : ¬ b ≤ 4469) (hs : isSyl a = false) : Calls Tryz.prog 12 #[.pointer (some ⟨q, 0, none⟩), .int .i32 a, .int .i32 b] w fun e w' => e = .returned (composeV (if classOf st.d a ≠ 0 then none else least st.d.decomps a b)) ∧ Below w.heap.size w w' := by
  have HR := Lib.hid h
  have HCL := Lib.hid (rclass_calls q st a ha0 ha1 w h)
  have HOK := Lib.hid h.2.1
  have hlm : st.d.decomps.length ≤ 1048576 := h.2.2.2.2.2
  clear h
  generalize classOf st.d a = cl at *
  by_cases hcl : cl = 0
  · have hclb : (cl != 0) = false := by rw [hcl]; rfl
    rw [if_neg (fun e => e hcl)]
    clear hcl
    go_enter Tryz.func12, Tryz.ntmps12
    go_wp2_with (first | (go_at_call 45; (with_reducible refine (syl_calls _ _).mono ?_); rintro e w6 ⟨rfl, hw⟩; subst w6) | (go_at_call 46; (with_reducible refine HCL.out.mono ?_); rintro e w6 ⟨rfl, hw⟩; subst w6))
    go_loopw [8, 9, 10] (fun vl vf vi wr => ∃ (i : Nat) (lv : Int) (fd : Bool), vl = .int .i32 lv ∧ vf = .bool fd ∧ vi = .int .i64 i ∧ i ≤ st.d.decomps.length ∧ Hid (CA st.d.decomps a b i lv fd) ∧ Hid (Below w.heap.size w wr)) (fun _ _ vi _ => st.d.decomps.length - (intOf vi).toNat)
    case atStart => exact ⟨0, 0, false, rfl, rfl, rfl, by omega, Lib.hid ⟨fun _ => ⟨rfl, rfl⟩, fun e => by cases e⟩, Lib.hid (Below.refl _ _)⟩
    case round =>
      obtain ⟨i, lv, fd, rfl, rfl, rfl, hi, HA, HW⟩ := hrel
      rename World => w2
      obtain ⟨A, c, hq3, _, hlc⟩ := (HR.out.on HW.out).decomps
      by_cases hlt : i < st.d.decomps.length
      · obtain ⟨p, hp⟩ : ∃ p, st.d.decomps[i]? = some p := ⟨_, List.getElem?_eq_getElem hlt⟩
        obtain ⟨g, rfl, tv, kk, c0, c1, c2, hpt⟩ := hlc i p hp
        obtain ⟨bt, ot, ct, rfl, hpc⟩ := pts_cell hpt
        obtain ⟨hp0, hp1⟩ := char_bounds (HOK.out.chars p (List.mem_of_getElem? hp)).1
        have HP := Lib.hid hp
        have HWA : Hid (Below w.heap.size w (w2.alloc (.cells #[.int .i64 p.1, .slice (some ⟨bt, ot, none⟩) p.2.length ct, .int .i64 kk] 58))) := Lib.hid (HW.out.alloc HW.out.size _)
        have f1 : (0 : Int) ≤ (i : Int) := by omega
        have f2 : (i : Int) < (st.d.decomps.length : Int) := by omega
        have hcase : (p.2.length ≠ 2 ∧ p.2 ≠ [a, b]) ∨ ∃ u v, p.2 = [u, v] := by
          by_cases hl : p.2.length = 2
          · match hm : p.2, hl with
            | [u, v], _ => exact .inr ⟨u, v, rfl⟩
          · exact .inl ⟨hl, fun e => hl (by rw [e]; rfl)⟩
        clear hlc hp hpt
        obtain ⟨p1, p2⟩ := p
        simp only at c0 c1 hpc hp0 hp1 HP HWA hcase ⊢
        rcases hcase with ⟨hl, hne⟩ | ⟨u, v, rfl⟩
        · have hlb : ((p2.length : Int) == 2) = false := beq_eq_false_iff_ne.2 (by omega)
          have HN := Lib.hid (HA.out.skip HP.out hne)
          clear hpc hl hne
          go_wp2
          go_roundw
          case rel => exact ⟨i + 1, lv, fd, rfl, rfl, by go_num, by omega, HN, HWA⟩
          case measure => simp [intOf]; omega
        · have hu := Lib.cell?_alloc_some (.cells #[.int .i64 p1, .slice (some ⟨bt, ot, none⟩) 2 ct, .int .i64 kk] 58) (hpc 0 u rfl)
          have hv := Lib.cell?_alloc_some (.cells #[.int .i64 p1, .slice (some ⟨bt, ot, none⟩) 2 ct, .int .i64 kk] 58) (hpc 1 v rfl)
          simp only [Nat.add_zero] at hu
          clear hpc
          by_cases hua : u = a
          · by_cases hvb : v = b
            · subst hua
              subst hvb
              cases fd with
              | false =>
                have HN := Lib.hid (HA.out.take HP.out (.inl rfl))
                go_wp2
                go_roundw
                case rel => exact ⟨i + 1, p1, true, rfl, rfl, by go_num, by omega, HN, HWA⟩
                case measure => simp [intOf]; omega
              | true =>
                by_cases hlv : p1 < lv
                · have HN := Lib.hid (HA.out.take HP.out (.inr hlv))
                  go_wp2
                  go_roundw
                  case rel => exact ⟨i + 1, p1, true, rfl, rfl, by go_num, by omega, HN, HWA⟩
                  case measure => simp [intOf]; omega
                · have HN := Lib.hid (HA.out.keep HP.out hlv)
                  go_wp2
                  go_roundw
                  case rel => exact ⟨i + 1, lv, true, rfl, rfl, by go_num, by omega, HN, HWA⟩
                  case measure => simp [intOf]; omega
            · have hvf : (v == b) = false := beq_eq_false_iff_ne.2 hvb
              have HN := Lib.hid (HA.out.skip HP.out (fun e => hvb (by injection e with _ e; injection e)))
              subst hua
              clear hvb
              go_wp2
              go_roundw
              case rel => exact ⟨i + 1, lv, fd, rfl, rfl, by go_num, by omega, HN, HWA⟩
              case measure => simp [intOf]; omega
          · have huf : (u == a) = false := beq_eq_false_iff_ne.2 hua
            have HN := Lib.hid (HA.out.skip HP.out (fun e => hua (by injection e)))
            clear hua
            go_wp2
            go_roundw
            case rel => exact ⟨i + 1, lv, fd, rfl, rfl, by go_num, by omega, HN, HWA⟩
            case measure => simp [intOf]; omega
      · have hie : i = st.d.decomps.length := by omega
        subst hie
        have HL : Hid (composeV (least st.d.decomps a b) = .tuple #[.int .i32 lv, .bool fd]) := Lib.hid (by
          rw [← accL_all]
          exact HA.out.out)
        clear hlc
        go_wp2
        go_ret2
        rw [HL.out]
        exact ⟨rfl, HW.out⟩
  · have hclb : (cl != 0) = true := bne_iff_ne.2 hcl
    rw [if_pos hcl]
    clear hcl
    go_enter Tryz.func12, Tryz.ntmps12
    go_wp2_with (first | (go_at_call 45; (with_reducible refine (syl_calls _ _).mono ?_); rintro e w6 ⟨rfl, hw⟩; subst w6) | (go_at_call 46; (with_reducible refine HCL.out.mono ?_); rintro e w6 ⟨rfl, hw⟩; subst w6))
    go_ret2
    exact ⟨rfl, Below.refl _ _⟩
set_option maxHeartbeats 8000000 in
set_option maxRecDepth 100000 in
theorem rcompose_E (q : Nat) (st : St) (a b : Int) (ha0 : -2147483648 ≤ a) (ha1 : a ≤ 2147483647) (hb0 : -2147483648 ≤ b) (hb1 : b ≤ 2147483647) (w : World) (h : RefAt q w st) (hs : isSyl a = true) (hm : (a - 44032) % 28 ≠ 0) : Calls Tryz.prog 12 #[.pointer (some ⟨q, 0, none⟩), .int .i32 a, .int .i32 b] w fun e w' => e = .returned (composeV (if classOf st.d a ≠ 0 then none else least st.d.decomps a b)) ∧ Below w.heap.size w w' := by
  have HR := Lib.hid h
  have HCL := Lib.hid (rclass_calls q st a ha0 ha1 w h)
  have HOK := Lib.hid h.2.1
  have hlm : st.d.decomps.length ≤ 1048576 := h.2.2.2.2.2
  clear h
  have h0 : 44032 ≤ a ∧ a < 55204 := by simpa [isSyl] using hs
  obtain ⟨g1, g2⟩ := h0
  have g3 : ¬ a ≤ 4370 := by omega
  have hb28 : ((a - 44032) % 28 == 0) = false := beq_eq_false_iff_ne.2 hm
  clear hm
  generalize classOf st.d a = cl at *
  by_cases hcl : cl = 0
  · have hclb : (cl != 0) = false := by rw [hcl]; rfl
    rw [if_neg (fun e => e hcl)]
    clear hcl
    go_enter Tryz.func12, Tryz.ntmps12
    go_wp2_with (first | (go_at_call 45; (with_reducible refine (syl_calls _ _).mono ?_); rintro e w6 ⟨rfl, hw⟩; subst w6) | (go_at_call 46; (with_reducible refine HCL.out.mono ?_); rintro e w6 ⟨rfl, hw⟩; subst w6))
    go_loopw [8, 9, 10] (fun vl vf vi wr => ∃ (i : Nat) (lv : Int) (fd : Bool), vl = .int .i32 lv ∧ vf = .bool fd ∧ vi = .int .i64 i ∧ i ≤ st.d.decomps.length ∧ Hid (CA st.d.decomps a b i lv fd) ∧ Hid (Below w.heap.size w wr)) (fun _ _ vi _ => st.d.decomps.length - (intOf vi).toNat)
    case atStart => exact ⟨0, 0, false, rfl, rfl, rfl, by omega, Lib.hid ⟨fun _ => ⟨rfl, rfl⟩, fun e => by cases e⟩, Lib.hid (Below.refl _ _)⟩
    case round =>
      obtain ⟨i, lv, fd, rfl, rfl, rfl, hi, HA, HW⟩ := hrel
      rename World => w2
      obtain ⟨A, c, hq3, _, hlc⟩ := (HR.out.on HW.out).decomps
      by_cases hlt : i < st.d.decomps.length
      · obtain ⟨p, hp⟩ : ∃ p, st.d.decomps[i]? = some p := ⟨_, List.getElem?_eq_getElem hlt⟩
        obtain ⟨g, rfl, tv, kk, c0, c1, c2, hpt⟩ := hlc i p hp
        obtain ⟨bt, ot, ct, rfl, hpc⟩ := pts_cell hpt
        obtain ⟨hp0, hp1⟩ := char_bounds (HOK.out.chars p (List.mem_of_getElem? hp)).1
        have HP := Lib.hid hp
        have HWA : Hid (Below w.heap.size w (w2.alloc (.cells #[.int .i64 p.1, .slice (some ⟨bt, ot, none⟩) p.2.length ct, .int .i64 kk] 58))) := Lib.hid (HW.out.alloc HW.out.size _)
        have f1 : (0 : Int) ≤ (i : Int) := by omega
        have f2 : (i : Int) < (st.d.decomps.length : Int) := by omega
        have hcase : (p.2.length ≠ 2 ∧ p.2 ≠ [a, b]) ∨ ∃ u v, p.2 = [u, v] := by
          by_cases hl : p.2.length = 2
          · match hm : p.2, hl with
            | [u, v], _ => exact .inr ⟨u, v, rfl⟩
          · exact .inl ⟨hl, fun e => hl (by rw [e]; rfl)⟩
        clear hlc hp hpt
        obtain ⟨p1, p2⟩ := p
        simp only at c0 c1 hpc hp0 hp1 HP HWA hcase ⊢
        rcases hcase with ⟨hl, hne⟩ | ⟨u, v, rfl⟩
        · have hlb : ((p2.length : Int) == 2) = false := beq_eq_false_iff_ne.2 (by omega)
          have HN := Lib.hid (HA.out.skip HP.out hne)
          clear hpc hl hne
          go_wp2
          go_roundw
          case rel => exact ⟨i + 1, lv, fd, rfl, rfl, by go_num, by omega, HN, HWA⟩
          case measure => simp [intOf]; omega
        · have hu := Lib.cell?_alloc_some (.cells #[.int .i64 p1, .slice (some ⟨bt, ot, none⟩) 2 ct, .int .i64 kk] 58) (hpc 0 u rfl)
          have hv := Lib.cell?_alloc_some (.cells #[.int .i64 p1, .slice (some ⟨bt, ot, none⟩) 2 ct, .int .i64 kk] 58) (hpc 1 v rfl)
          simp only [Nat.add_zero] at hu
          clear hpc
          by_cases hua : u = a
          · by_cases hvb : v = b
            · subst hua
              subst hvb
              cases fd with
              | false =>
                have HN := Lib.hid (HA.out.take HP.out (.inl rfl))
                go_wp2
                go_roundw
                case rel => exact ⟨i + 1, p1, true, rfl, rfl, by go_num, by omega, HN, HWA⟩
                case measure => simp [intOf]; omega
              | true =>
                by_cases hlv : p1 < lv
                · have HN := Lib.hid (HA.out.take HP.out (.inr hlv))
                  go_wp2
                  go_roundw
                  case rel => exact ⟨i + 1, p1, true, rfl, rfl, by go_num, by omega, HN, HWA⟩
                  case measure => simp [intOf]; omega
                · have HN := Lib.hid (HA.out.keep HP.out hlv)
                  go_wp2
                  go_roundw
                  case rel => exact ⟨i + 1, lv, true, rfl, rfl, by go_num, by omega, HN, HWA⟩
                  case measure => simp [intOf]; omega
            · have hvf : (v == b) = false := beq_eq_false_iff_ne.2 hvb
              have HN := Lib.hid (HA.out.skip HP.out (fun e => hvb (by injection e with _ e; injection e)))
              subst hua
              clear hvb
              go_wp2
              go_roundw
              case rel => exact ⟨i + 1, lv, fd, rfl, rfl, by go_num, by omega, HN, HWA⟩
              case measure => simp [intOf]; omega
          · have huf : (u == a) = false := beq_eq_false_iff_ne.2 hua
            have HN := Lib.hid (HA.out.skip HP.out (fun e => hua (by injection e)))
            clear hua
            go_wp2
            go_roundw
            case rel => exact ⟨i + 1, lv, fd, rfl, rfl, by go_num, by omega, HN, HWA⟩
            case measure => simp [intOf]; omega
      · have hie : i = st.d.decomps.length := by omega
        subst hie
        have HL : Hid (composeV (least st.d.decomps a b) = .tuple #[.int .i32 lv, .bool fd]) := Lib.hid (by
          rw [← accL_all]
          exact HA.out.out)
        clear hlc
        go_wp2
        go_ret2
        rw [HL.out]
        exact ⟨rfl, HW.out⟩
  · have hclb : (cl != 0) = true := bne_iff_ne.2 hcl
    rw [if_pos hcl]
    clear hcl
    go_enter Tryz.func12, Tryz.ntmps12
    go_wp2_with (first | (go_at_call 45; (with_reducible refine (syl_calls _ _).mono ?_); rintro e w6 ⟨rfl, hw⟩; subst w6) | (go_at_call 46; (with_reducible refine HCL.out.mono ?_); rintro e w6 ⟨rfl, hw⟩; subst w6))
    go_ret2
    exact ⟨rfl, Below.refl _ _⟩
set_option maxHeartbeats 8000000 in
set_option maxRecDepth 100000 in
theorem rcompose_F (q : Nat) (st : St) (a b : Int) (ha0 : -2147483648 ≤ a) (ha1 : a ≤ 2147483647) (hb0 : -2147483648 ≤ b) (hb1 : b ≤ 2147483647) (w : World) (h : RefAt q w st) (hs : isSyl a = true) (hm : (a - 44032) % 28 = 0) (h5 : ¬ 4520 ≤ b) : Calls Tryz.prog 12 #[.pointer (some ⟨q, 0, none⟩), .int .i32 a, .int .i32 b] w fun e w' => e = .returned (composeV (if classOf st.d a ≠ 0 then none else least st.d.decomps a b)) ∧ Below w.heap.size w w' := by
  have HR := Lib.hid h
  have HCL := Lib.hid (rclass_calls q st a ha0 ha1 w h)
  have HOK := Lib.hid h.2.1
  have hlm : st.d.decomps.length ≤ 1048576 := h.2.2.2.2.2
  clear h
  have h0 : 44032 ≤ a ∧ a < 55204 := by simpa [isSyl] using hs
  obtain ⟨g1, g2⟩ := h0
  have g3 : ¬ a ≤ 4370 := by omega
  have hb28 : ((a - 44032) % 28 == 0) = true := by rw [hm]; rfl
  clear hm
  generalize classOf st.d a = cl at *
  by_cases hcl : cl = 0
  · have hclb : (cl != 0) = false := by rw [hcl]; rfl
    rw [if_neg (fun e => e hcl)]
    clear hcl
    go_enter Tryz.func12, Tryz.ntmps12
    go_wp2_with (first | (go_at_call 45; (with_reducible refine (syl_calls _ _).mono ?_); rintro e w6 ⟨rfl, hw⟩; subst w6) | (go_at_call 46; (with_reducible refine HCL.out.mono ?_); rintro e w6 ⟨rfl, hw⟩; subst w6))
    go_loopw [8, 9, 10] (fun vl vf vi wr => ∃ (i : Nat) (lv : Int) (fd : Bool), vl = .int .i32 lv ∧ vf = .bool fd ∧ vi = .int .i64 i ∧ i ≤ st.d.decomps.length ∧ Hid (CA st.d.decomps a b i lv fd) ∧ Hid (Below w.heap.size w wr)) (fun _ _ vi _ => st.d.decomps.length - (intOf vi).toNat)
    case atStart => exact ⟨0, 0, false, rfl, rfl, rfl, by omega, Lib.hid ⟨fun _ => ⟨rfl, rfl⟩, fun e => by cases e⟩, Lib.hid (Below.refl _ _)⟩
    case round =>
      obtain ⟨i, lv, fd, rfl, rfl, rfl, hi, HA, HW⟩ := hrel
      rename World => w2
      obtain ⟨A, c, hq3, _, hlc⟩ := (HR.out.on HW.out).decomps
      by_cases hlt : i < st.d.decomps.length
      · obtain ⟨p, hp⟩ : ∃ p, st.d.decomps[i]? = some p := ⟨_, List.getElem?_eq_getElem hlt⟩
        obtain ⟨g, rfl, tv, kk, c0, c1, c2, hpt⟩ := hlc i p hp
        obtain ⟨bt, ot, ct, rfl, hpc⟩ := pts_cell hpt
        obtain ⟨hp0, hp1⟩ := char_bounds (HOK.out.chars p (List.mem_of_getElem? hp)).1
        have HP := Lib.hid hp
        have HWA : Hid (Below w.heap.size w (w2.alloc (.cells #[.int .i64 p.1, .slice (some ⟨bt, ot, none⟩) p.2.length ct, .int .i64 kk] 58))) := Lib.hid (HW.out.alloc HW.out.size _)
        have f1 : (0 : Int) ≤ (i : Int) := by omega
        have f2 : (i : Int) < (st.d.decomps.length : Int) := by omega
        have hcase : (p.2.length ≠ 2 ∧ p.2 ≠ [a, b]) ∨ ∃ u v, p.2 = [u, v] := by
          by_cases hl : p.2.length = 2
          · match hm : p.2, hl with
            | [u, v], _ => exact .inr ⟨u, v, rfl⟩
          · exact .inl ⟨hl, fun e => hl (by rw [e]; rfl)⟩
        clear hlc hp hpt
        obtain ⟨p1, p2⟩ := p
        simp only at c0 c1 hpc hp0 hp1 HP HWA hcase ⊢
        rcases hcase with ⟨hl, hne⟩ | ⟨u, v, rfl⟩
        · have hlb : ((p2.length : Int) == 2) = false := beq_eq_false_iff_ne.2 (by omega)
          have HN := Lib.hid (HA.out.skip HP.out hne)
          clear hpc hl hne
          go_wp2
          go_roundw
          case rel => exact ⟨i + 1, lv, fd, rfl, rfl, by go_num, by omega, HN, HWA⟩
          case measure => simp [intOf]; omega
        · have hu := Lib.cell?_alloc_some (.cells #[.int .i64 p1, .slice (some ⟨bt, ot, none⟩) 2 ct, .int .i64 kk] 58) (hpc 0 u rfl)
          have hv := Lib.cell?_alloc_some (.cells #[.int .i64 p1, .slice (some ⟨bt, ot, none⟩) 2 ct, .int .i64 kk] 58) (hpc 1 v rfl)
          simp only [Nat.add_zero] at hu
          clear hpc
          by_cases hua : u = a
          · by_cases hvb : v = b
            · subst hua
              subst hvb
              cases fd with
              | false =>
                have HN := Lib.hid (HA.out.take HP.out (.inl rfl))
                go_wp2
                go_roundw
                case rel => exact ⟨i + 1, p1, true, rfl, rfl, by go_num, by omega, HN, HWA⟩
                case measure => simp [intOf]; omega
              | true =>
                by_cases hlv : p1 < lv
                · have HN := Lib.hid (HA.out.take HP.out (.inr hlv))
                  go_wp2
                  go_roundw
                  case rel => exact ⟨i + 1, p1, true, rfl, rfl, by go_num, by omega, HN, HWA⟩
                  case measure => simp [intOf]; omega
                · have HN := Lib.hid (HA.out.keep HP.out hlv)
                  go_wp2
                  go_roundw
                  case rel => exact ⟨i + 1, lv, true, rfl, rfl, by go_num, by omega, HN, HWA⟩
                  case measure => simp [intOf]; omega
            · have hvf : (v == b) = false := beq_eq_false_iff_ne.2 hvb
              have HN := Lib.hid (HA.out.skip HP.out (fun e => hvb (by injection e with _ e; injection e)))
              subst hua
              clear hvb
              go_wp2
              go_roundw
              case rel => exact ⟨i + 1, lv, fd, rfl, rfl, by go_num, by omega, HN, HWA⟩
              case measure => simp [intOf]; omega
          · have huf : (u == a) = false := beq_eq_false_iff_ne.2 hua
            have HN := Lib.hid (HA.out.skip HP.out (fun e => hua (by injection e)))
            clear hua
            go_wp2
            go_roundw
            case rel => exact ⟨i + 1, lv, fd, rfl, rfl, by go_num, by omega, HN, HWA⟩
            case measure => simp [intOf]; omega
      · have hie : i = st.d.decomps.length := by omega
        subst hie
        have HL : Hid (composeV (least st.d.decomps a b) = .tuple #[.int .i32 lv, .bool fd]) := Lib.hid (by
          rw [← accL_all]
          exact HA.out.out)
        clear hlc
        go_wp2
        go_ret2
        rw [HL.out]
        exact ⟨rfl, HW.out⟩
  · have hclb : (cl != 0) = true := bne_iff_ne.2 hcl
    rw [if_pos hcl]
    clear hcl
    go_enter Tryz.func12, Tryz.ntmps12
    go_wp2_with (first | (go_at_call 45; (with_reducible refine (syl_calls _ _).mono ?_); rintro e w6 ⟨rfl, hw⟩; subst w6) | (go_at_call 46; (with_reducible refine HCL.out.mono ?_); rintro e w6 ⟨rfl, hw⟩; subst w6))
    go_ret2
    exact ⟨rfl, Below.refl _ _⟩
set_option maxHeartbeats 8000000 in
set_option maxRecDepth 100000 in
theorem rcompose_G (q : Nat) (st : St) (a b : Int) (ha0 : -2147483648 ≤ a) (ha1 : a ≤ 2147483647) (hb0 : -2147483648 ≤ b) (hb1 : b ≤ 2147483647) (w : World) (h : RefAt q w st) (hs : isSyl a = true) (hm : (a - 44032) % 28 = 0) (h5 : 4520 ≤ b) (h6 : ¬ b ≤ 4546) : Calls Tryz.prog 12 #[.pointer (some ⟨q, 0, none⟩), .int .i32 a, .int .i32 b] w fun e w' => e = .returned (composeV (if classOf st.d a ≠ 0 then none else least st.d.decomps a b)) ∧ Below w.heap.size w w' := by
  have HR := Lib.hid h
  have HCL := Lib.hid (rclass_calls q st a ha0 ha1 w h)
  have HOK := Lib.hid h.2.1
  have hlm : st.d.decomps.length ≤ 1048576 := h.2.2.2.2.2
  clear h
  have h0 : 44032 ≤ a ∧ a < 55204 := by simpa [isSyl] using hs
  obtain ⟨g1, g2⟩ := h0
  have g3 : ¬ a ≤ 4370 := by omega
  have hb28 : ((a - 44032) % 28 == 0) = true := by rw [hm]; rfl
  clear hm
  generalize classOf st.d a = cl at *
  by_cases hcl : cl = 0
  · have hclb : (cl != 0) = false := by rw [hcl]; rfl
    rw [if_neg (fun e => e hcl)]
    clear hcl
    go_enter Tryz.func12, Tryz.ntmps12
    go_wp2_with (first | (go_at_call 45; (with_reducible refine (syl_calls _ _).mono ?_); rintro e w6 ⟨rfl, hw⟩; subst w6) | (go_at_call 46; (with_reducible refine HCL.out.mono ?_); rintro e w6 ⟨rfl, hw⟩; subst w6))
    go_loopw [8, 9, 10] (fun vl vf vi wr => ∃ (i : Nat) (lv : Int) (fd : Bool), vl = .int .i32 lv ∧ vf = .bool fd ∧ vi = .int .i64 i ∧ i ≤ st.d.decomps.length ∧ Hid (CA st.d.decomps a b i lv fd) ∧ Hid (Below w.heap.size w wr)) (fun _ _ vi _ => st.d.decomps.length - (intOf vi).toNat)
    case atStart => exact ⟨0, 0, false, rfl, rfl, rfl, by omega, Lib.hid ⟨fun _ => ⟨rfl, rfl⟩, fun e => by cases e⟩, Lib.hid (Below.refl _ _)⟩
    case round =>
      obtain ⟨i, lv, fd, rfl, rfl, rfl, hi, HA, HW⟩ := hrel
      rename World => w2
      obtain ⟨A, c, hq3, _, hlc⟩ := (HR.out.on HW.out).decomps
      by_cases hlt : i < st.d.decomps.length
      · obtain ⟨p, hp⟩ : ∃ p, st.d.decomps[i]? = some p := ⟨_, List.getElem?_eq_getElem hlt⟩
        obtain ⟨g, rfl, tv, kk, c0, c1, c2, hpt⟩ := hlc i p hp
        obtain ⟨bt, ot, ct, rfl, hpc⟩ := pts_cell hpt
        obtain ⟨hp0, hp1⟩ := char_bounds (HOK.out.chars p (List.mem_of_getElem? hp)).1
        have HP := Lib.hid hp
        have HWA : Hid (Below w.heap.size w (w2.alloc (.cells #[.int .i64 p.1, .slice (some ⟨bt, ot, none⟩) p.2.length ct, .int .i64 kk] 58))) := Lib.hid (HW.out.alloc HW.out.size _)
        have f1 : (0 : Int) ≤ (i : Int) := by omega
        have f2 : (i : Int) < (st.d.decomps.length : Int) := by omega
        have hcase : (p.2.length ≠ 2 ∧ p.2 ≠ [a, b]) ∨ ∃ u v, p.2 = [u, v] := by
          by_cases hl : p.2.length = 2
          · match hm : p.2, hl with
            | [u, v], _ => exact .inr ⟨u, v, rfl⟩
          · exact .inl ⟨hl, fun e => hl (by rw [e]; rfl)⟩
        clear hlc hp hpt
        obtain ⟨p1, p2⟩ := p
        simp only at c0 c1 hpc hp0 hp1 HP HWA hcase ⊢
        rcases hcase with ⟨hl, hne⟩ | ⟨u, v, rfl⟩
        · have hlb : ((p2.length : Int) == 2) = false := beq_eq_false_iff_ne.2 (by omega)
          have HN := Lib.hid (HA.out.skip HP.out hne)
          clear hpc hl hne
          go_wp2
          go_roundw
          case rel => exact ⟨i + 1, lv, fd, rfl, rfl, by go_num, by omega, HN, HWA⟩
          case measure => simp [intOf]; omega
        · have hu := Lib.cell?_alloc_some (.cells #[.int .i64 p1, .slice (some ⟨bt, ot, none⟩) 2 ct, .int .i64 kk] 58) (hpc 0 u rfl)
          have hv := Lib.cell?_alloc_some (.cells #[.int .i64 p1, .slice (some ⟨bt, ot, none⟩) 2 ct, .int .i64 kk] 58) (hpc 1 v rfl)
          simp only [Nat.add_zero] at hu
          clear hpc
          by_cases hua : u = a
          · by_cases hvb : v = b
            · subst hua
              subst hvb
              cases fd with
              | false =>
                have HN := Lib.hid (HA.out.take HP.out (.inl rfl))
                go_wp2
                go_roundw
                case rel => exact ⟨i + 1, p1, true, rfl, rfl, by go_num, by omega, HN, HWA⟩
                case measure => simp [intOf]; omega
              | true =>
                by_cases hlv : p1 < lv
                · have HN := Lib.hid (HA.out.take HP.out (.inr hlv))
                  go_wp2
                  go_roundw
                  case rel => exact ⟨i + 1, p1, true, rfl, rfl, by go_num, by omega, HN, HWA⟩
                  case measure => simp [intOf]; omega
                · have HN := Lib.hid (HA.out.keep HP.out hlv)
                  go_wp2
                  go_roundw
                  case rel => exact ⟨i + 1, lv, true, rfl, rfl, by go_num, by omega, HN, HWA⟩
                  case measure => simp [intOf]; omega
            · have hvf : (v == b) = false := beq_eq_false_iff_ne.2 hvb
              have HN := Lib.hid (HA.out.skip HP.out (fun e => hvb (by injection e with _ e; injection e)))
              subst hua
              clear hvb
              go_wp2
              go_roundw
              case rel => exact ⟨i + 1, lv, fd, rfl, rfl, by go_num, by omega, HN, HWA⟩
              case measure => simp [intOf]; omega
          · have huf : (u == a) = false := beq_eq_false_iff_ne.2 hua
            have HN := Lib.hid (HA.out.skip HP.out (fun e => hua (by injection e)))
            clear hua
            go_wp2
            go_roundw
            case rel => exact ⟨i + 1, lv, fd, rfl, rfl, by go_num, by omega, HN, HWA⟩
            case measure => simp [intOf]; omega
      · have hie : i = st.d.decomps.length := by omega
        subst hie
        have HL : Hid (composeV (least st.d.decomps a b) = .tuple #[.int .i32 lv, .bool fd]) := Lib.hid (by
          rw [← accL_all]
          exact HA.out.out)
        clear hlc
        go_wp2
        go_ret2
        rw [HL.out]
        exact ⟨rfl, HW.out⟩
  · have hclb : (cl != 0) = true := bne_iff_ne.2 hcl
    rw [if_pos hcl]
    clear hcl
    go_enter Tryz.func12, Tryz.ntmps12
    go_wp2_with (first | (go_at_call 45; (with_reducible refine (syl_calls _ _).mono ?_); rintro e w6 ⟨rfl, hw⟩; subst w6) | (go_at_call 46; (with_reducible refine HCL.out.mono ?_); rintro e w6 ⟨rfl, hw⟩; subst w6))
    go_ret2
    exact ⟨rfl, Below.refl _ _⟩
theorem rcompose_calls (q : Nat) (st : St) (a b : Int) (ha0 : -2147483648 ≤ a) (ha1 : a ≤ 2147483647) (hb0 : -2147483648 ≤ b) (hb1 : b ≤ 2147483647) (w : World) (h : RefAt q w st) : Calls Tryz.prog 12 #[.pointer (some ⟨q, 0, none⟩), .int .i32 a, .int .i32 b] w fun e w' => e = .returned (composeV (composeOf st.d a b)) ∧ Below w.heap.size w w' := by
  unfold composeOf
  by_cases hlead : 4352 ≤ a ∧ a < 4371 ∧ 4449 ≤ b ∧ b < 4470
  · rw [if_pos hlead]
    exact rcompose_lead q a b w hlead.1 hlead.2.1 hlead.2.2.1 hlead.2.2.2
  rw [if_neg hlead]
  by_cases htail : isSyl a = true ∧ (a - 44032) % 28 = 0 ∧ 4519 < b ∧ b < 4547
  · rw [if_pos htail]
    exact rcompose_tail q a b w htail.1 htail.2.1 htail.2.2.1 htail.2.2.2
  rw [if_neg htail]
  cases hs : isSyl a with
  | false =>
    by_cases h1 : 4352 ≤ a
    · by_cases h2 : a ≤ 4370
      · by_cases h3 : 4449 ≤ b
        · exact rcompose_D q st a b ha0 ha1 hb0 hb1 w h h1 h2 h3 (by omega) hs
        · exact rcompose_C q st a b ha0 ha1 hb0 hb1 w h h1 h2 h3 hs
      · exact rcompose_B q st a b ha0 ha1 hb0 hb1 w h h1 h2 hs
    · exact rcompose_A q st a b ha0 ha1 hb0 hb1 w h h1 hs
  | true =>
    by_cases hm : (a - 44032) % 28 = 0
    · by_cases h5 : 4520 ≤ b
      · exact rcompose_G q st a b ha0 ha1 hb0 hb1 w h hs hm h5 (fun h6 => htail ⟨hs, hm, by omega, by omega⟩)
      · exact rcompose_F q st a b ha0 ha1 hb0 hb1 w h hs hm h5
    · exact rcompose_E q st a b ha0 ha1 hb0 hb1 w h hs hm
end Go.Proofs.YthonikkoafoohaaGreatDoor.Rf
