/- PropsPlain: the walk: blanks, remarks, ends of lines, further lines. -/
import Derived.Test.YthonikkoafoohaaGreatDoorBParse
import Derived.Test.YthonikkoafoohaaGreatDoorBPlain
import Derived.Deep.RegionHeld3
namespace Go.Proofs.YthonikkoafoohaaGreatDoor.Pr
open Go Go.RowKit Go.Shelf Go.Proofs.YthonikkoafoohaaGreatDoor.Sp Go.Proofs.YthonikkoafoohaaGreatDoor.Mapl Go.Proofs.YthonikkoafoohaaGreatDoor.Rowl
set_option linter.unusedSimpArgs false

theorem ReadPts.addr' {W : World} {A : Option Addr} {n c : Nat} {l : List Int} (h : ReadPts W (.slice A n c) l) (hl : 0 < l.length) : ∃ b off, A = some ⟨b, off, none⟩ := by
  obtain ⟨b, off, c', e⟩ := h.pos hl
  simp only [Value.slice.injEq] at e
  exact ⟨b, off, e.1⟩
theorem bytes_one (o s : ByteArray) (k : Nat) (h : k < s.size) : (o ++ s.extract k (k + 1)).data.toList = o.data.toList ++ [s[k]] := by
  have hk : k < s.data.toList.length := by rw [← Lib.size_eq]; exact h
  rw [ByteArray.data_append, Array.toList_append, ByteArray.data_extract, Array.toList_extract]
  congr 1
  rw [List.extract_eq_take_drop, show k + 1 - k = 1 by omega, List.drop_eq_getElem_cons hk, List.take_succ_cons, List.take_zero]
  rfl
theorem bytes_lit (o t : ByteArray) : (o ++ t).data.toList = o.data.toList ++ t.data.toList := by
  rw [ByteArray.data_append, Array.toList_append]
theorem drop_at (s : ByteArray) (k : Nat) (h : k < s.size) : s.data.toList.drop k = s[k] :: s.data.toList.drop (k + 1) := by
  have hk : k < s.data.toList.length := by rw [← Lib.size_eq]; exact h
  rw [List.drop_eq_getElem_cons hk]
  rfl
theorem take_at (s : ByteArray) (k : Nat) (h : k < s.size) : s.data.toList.take (k + 1) = s.data.toList.take k ++ [s[k]] := by
  rw [List.take_succ_eq_append_getElem (by simpa using h)]; rfl
def moreB : ByteArray := ⟨#[10, 99, 108, 97, 115, 115, 32, 50, 70, 65, 48, 48, 32, 55, 55, 10, 107, 105, 110, 100, 32, 50, 70, 65, 48, 48, 46, 46, 50, 70, 65, 48, 49, 32, 106, 111, 105, 110, 101, 114]⟩
section
variable {s : ByteArray} {k : Nat}
theorem drop_head (hlt : k < s.size) : (s.data.toList.drop (k + 1) = [] ∨ (s.data.toList.drop (k + 1)).head? = some 10) ↔ (k + 1 = s.size ∨ ∃ h : k + 1 < s.size, s[k + 1] = 10) := by
  by_cases h1 : k + 1 < s.size
  · rw [drop_at s (k + 1) h1]
    constructor
    · rintro (h | h)
      · cases h
      · simp only [List.head?_cons, Option.some.injEq] at h
        exact .inr ⟨h1, h⟩
    · rintro (h | ⟨_, h⟩)
      · omega
      · exact .inr (by rw [h]; rfl)
  · have e : s.data.toList.drop (k + 1) = [] := List.drop_eq_nil_of_le (by rw [← Lib.size_eq]; omega)
    rw [e]
    exact ⟨fun _ => .inl (by omega), fun _ => .inl rfl⟩
theorem turn_skip (hlt : k < s.size) (r : Bool) (hc : s[k] = 13) (hn : k + 1 = s.size ∨ ∃ h : k + 1 < s.size, s[k + 1] = 10) : turn r (s.data.toList.drop k) = turn r (s.data.toList.drop (k + 1)) := by
  rw [drop_at s k hlt, turn, if_pos ⟨hc, (drop_head hlt).2 hn⟩]
theorem turn_plain (hlt : k < s.size) (r : Bool) (h13 : ¬ (s[k] = 13 ∧ (k + 1 = s.size ∨ ∃ h : k + 1 < s.size, s[k + 1] = 10))) (h32 : ¬ (s[k] = 32 ∧ r = false)) (h10 : s[k] ≠ 10) : turn r (s.data.toList.drop k) = [s[k]] ++ turn (r || s[k] == 35) (s.data.toList.drop (k + 1)) := by
  rw [drop_at s k hlt, turn, if_neg (fun e => h13 ⟨e.1, (drop_head hlt).1 e.2⟩), if_neg h32, if_neg h10]
  rfl
theorem turn_wide (hlt : k < s.size) (hc : s[k] = 32) : turn false (s.data.toList.drop k) = [9, 32, 32] ++ turn false (s.data.toList.drop (k + 1)) := by
  rw [drop_at s k hlt, turn, if_neg (fun e => by rw [hc] at e; exact absurd e.1 (by decide)), if_pos ⟨hc, rfl⟩]
  rfl
theorem turn_nl (hlt : k < s.size) (r : Bool) (hc : s[k] = 10) : turn r (s.data.toList.drop k) = [32, 35, 32, 120, 13, 10, 32, 10] ++ turn false (s.data.toList.drop (k + 1)) := by
  rw [drop_at s k hlt, turn, if_neg (fun e => by rw [hc] at e; exact absurd e.1 (by decide)), if_neg (fun e => by rw [hc] at e; exact absurd e.1 (by decide)), if_pos hc]
end
set_option maxHeartbeats 8000000 in
set_option maxRecDepth 100000 in
theorem plain_good (s note : ByteArray) (av : Value) (ask : List Int) {m : Int} {ev : Value} (w : World) (hv : Vars w.heap.size w m ev) (hask : ReadPts w av ask) (hs : (s.size : Int) ≤ 4096) (hn : (note.size : Int) ≤ 4096) {D : PD} (h : parse s.data.toList = .ok D) : Calls Tryz.prog 5 #[.string s, .string note, av] w fun e w' => e = .returned (.bool true) ∧ Below w.heap.size w w' := by
  have RD := Lib.hid (read_good (by omega) hv h)
  have HV := Lib.hid hv
  have HP := Lib.hid h
  have hal := hask.len
  unfold maxLen at hal
  obtain ⟨A0, C0, rfl⟩ := hask.slice
  have HA := Lib.hid hask
  clear h hv hask
  go_enter Tryz.func5, Tryz.ntmps5
  go_wp2_with fail
  refine RD.out.mono ?_
  rintro e w1 ⟨p, rfl, H1, hb1⟩
  have HB1 := Lib.hid hb1
  have HP1 := Lib.hid H1
  clear hb1 H1
  go_wp2
  go_loop [8, 9] (fun vo vi => ∃ (k : Nat) (o : ByteArray), vi = .int .i64 k ∧ vo = .string o ∧ k ≤ note.size ∧ o.size ≤ 4 + k ∧ Hid (o.data.toList = [9, 32, 35, 32] ++ (note.data.toList.take k).filter (fun c => c ≠ 10))) (fun _ vi => note.size - (intOf vi).toNat)
  case atStart => exact ⟨0, _, rfl, rfl, Nat.zero_le _, by decide, Lib.hid (by simp)⟩
  case round =>
    obtain ⟨k, o, rfl, rfl, hk, ho, HO⟩ := hrel
    by_cases hlt : k < note.size
    · by_cases hc : note[k] = 10
      · have hc1 : ((note[k].toNat : Int) != 10) = false := by rw [hc]; rfl
        have HN : Hid (o.data.toList = [9, 32, 35, 32] ++ (note.data.toList.take (k + 1)).filter (fun c => c ≠ 10)) := Lib.hid (by rw [HO.out, take_at note k hlt, List.filter_append, hc]; simp)
        clear hc
        go_wp2
        go_round
        case rel => exact ⟨k + 1, o, by go_num, rfl, by omega, by omega, HN⟩
        case measure => simp [intOf]; omega
      · have hc1 : ((note[k].toNat : Int) != 10) = true := bne_iff_ne.2 (fun e => hc (UInt8.toNat_inj.1 (by show note[k].toNat = 10; omega)))
        have HN : Hid ((o ++ note.extract k (k + 1)).data.toList = [9, 32, 35, 32] ++ (note.data.toList.take (k + 1)).filter (fun c => c ≠ 10)) := Lib.hid (by rw [bytes_one o note k hlt, HO.out, take_at note k hlt, List.filter_append]; simp [hc])
        have hsz : (o ++ note.extract k (k + 1)).size ≤ 4 + (k + 1) := by rw [ByteArray.size_append, ByteArray.size_extract]; omega
        clear hc
        go_wp2
        go_round
        case rel => exact ⟨k + 1, _, by go_num, rfl, by omega, hsz, HN⟩
        case measure => simp [intOf]; omega
    · have hke : k = note.size := by omega
      subst hke
      have HO2 : Hid (o.data.toList = [9, 32, 35, 32] ++ note.data.toList.filter (fun c => c ≠ 10)) := Lib.hid (by
        have := HO.out
        rwa [List.take_of_length_le (by rw [Lib.size_eq]; exact Nat.le_refl _)] at this)
      clear HO
      obtain ⟨PRE, hpre⟩ : ∃ PRE, [9, 32, 35, 32] ++ note.data.toList.filter (fun c => decide (c ≠ 10)) ++ [10, 13, 10] = PRE := ⟨_, rfl⟩
      have HPRE := Lib.hid hpre
      have HS : Hid ((o ++ ⟨#[10, 13, 10]⟩).data.toList ++ turn false (s.data.toList.drop 0) = PRE ++ turn false s.data.toList) := Lib.hid (by rw [bytes_lit, HO2.out, ← hpre]; rfl)
      have hsz : (o ++ ⟨#[10, 13, 10]⟩).size ≤ 4103 := by rw [ByteArray.size_append]; show o.size + 3 ≤ _; omega
      clear hpre HO2
      go_wp2
      go_loop [8, 10, 11] (fun vo vr vi => ∃ (k : Nat) (o : ByteArray) (rm : Bool), vi = .int .i64 k ∧ vo = .string o ∧ vr = .bool rm ∧ k ≤ s.size ∧ o.size ≤ 4103 + 8 * k ∧ Hid (o.data.toList ++ turn rm (s.data.toList.drop k) = PRE ++ turn false s.data.toList)) (fun _ _ vi => s.size - (intOf vi).toNat)
      case atStart => exact ⟨0, _, false, rfl, rfl, rfl, Nat.zero_le _, by omega, HS⟩
      case round =>
        clear HS hsz ho
        obtain ⟨k, o, rm, rfl, rfl, rfl, hk, ho, HO⟩ := hrel
        by_cases hlt : k < s.size
        · by_cases hc : s[k] = 13
          · by_cases hk1 : k + 1 = s.size
            · have hd : (((k : Int) + 1) == (s.size : Int)) = true := by rw [beq_iff_eq]; omega
              have bk_13 : ((s[k].toNat : Int) == 13) = true := by rw [hc]; rfl
              have HN : Hid (o.data.toList ++ turn rm (s.data.toList.drop (k + 1)) = PRE ++ turn false s.data.toList) := Lib.hid (by rw [← HO.out, turn_skip hlt rm hc (.inl hk1)])
              clear HO hc
              go_wp2
              go_round
              case rel => exact ⟨k + 1, o, rm, by go_num, rfl, rfl, by omega, (by omega), HN⟩
              case measure => simp [intOf]; omega
            · have hd : (((k : Int) + 1) == (s.size : Int)) = false := by rw [beq_eq_false_iff_ne]; omega
              have hk2 : k + 1 < s.size := by omega
              have bk_13 : ((s[k].toNat : Int) == 13) = true := by rw [hc]; rfl
              by_cases hc2 : s[k + 1] = 10
              · have b2 : ((s[k + 1].toNat : Int) == 10) = true := by rw [hc2]; rfl
                have HN : Hid (o.data.toList ++ turn rm (s.data.toList.drop (k + 1)) = PRE ++ turn false s.data.toList) := Lib.hid (by rw [← HO.out, turn_skip hlt rm hc (.inr ⟨hk2, hc2⟩)])
                clear HO hc hc2
                go_wp2
                go_round
                case rel => exact ⟨k + 1, o, rm, by go_num, rfl, rfl, by omega, (by omega), HN⟩
                case measure => simp [intOf]; omega
              · have b2 : ((s[k + 1].toNat : Int) == 10) = false := beq_eq_false_iff_ne.2 (fun e => hc2 (UInt8.toNat_inj.1 (by show s[k + 1].toNat = 10; omega)))
                have b3 : ((s[k].toNat : Int) == 32) = false := by rw [hc]; rfl
                have b4 : ((s[k].toNat : Int) == 10) = false := by rw [hc]; rfl
                have b5 : ((s[k].toNat : Int) == 35) = false := by rw [hc]; rfl
                have hnot : ¬ (s[k] = 13 ∧ (k + 1 = s.size ∨ ∃ h : k + 1 < s.size, s[k + 1] = 10)) := by rintro ⟨_, e | ⟨_, e⟩⟩ <;> contradiction
                have e1 : (s[k] == 35) = false := by rw [hc]; rfl
                cases rm
                · have HN : Hid ((o ++ s.extract k (k + 1)).data.toList ++ turn false (s.data.toList.drop (k + 1)) = PRE ++ turn false s.data.toList) := Lib.hid (by rw [← HO.out, bytes_one o s k hlt, turn_plain hlt false hnot (by rw [hc]; decide) (by rw [hc]; decide), List.append_assoc]; rw [e1]; rfl)
                  clear HO hc hc2 hnot e1
                  go_wp2
                  go_round
                  case rel => exact ⟨k + 1, _, false, by go_num, rfl, rfl, by omega, (by rw [ByteArray.size_append, ByteArray.size_extract]; omega), HN⟩
                  case measure => simp [intOf]; omega
                · have HN : Hid ((o ++ s.extract k (k + 1)).data.toList ++ turn true (s.data.toList.drop (k + 1)) = PRE ++ turn false s.data.toList) := Lib.hid (by rw [← HO.out, bytes_one o s k hlt, turn_plain hlt true hnot (by rw [hc]; decide) (by rw [hc]; decide), List.append_assoc]; rw [e1]; rfl)
                  clear HO hc hc2 hnot e1
                  go_wp2
                  go_round
                  case rel => exact ⟨k + 1, _, true, by go_num, rfl, rfl, by omega, (by rw [ByteArray.size_append, ByteArray.size_extract]; omega), HN⟩
                  case measure => simp [intOf]; omega
          · have b1 : ((s[k].toNat : Int) == 13) = false := beq_eq_false_iff_ne.2 (fun e => hc (UInt8.toNat_inj.1 (by show s[k].toNat = 13; omega)))
            have hnot : ¬ (s[k] = 13 ∧ (k + 1 = s.size ∨ ∃ h : k + 1 < s.size, s[k + 1] = 10)) := fun e => hc e.1
            clear hc
            by_cases hc : s[k] = 32
            · have b3 : ((s[k].toNat : Int) == 32) = true := by rw [hc]; rfl
              have b4 : ((s[k].toNat : Int) == 10) = false := by rw [hc]; rfl
              cases rm
              · have HN : Hid ((o ++ ⟨#[9, 32, 32]⟩).data.toList ++ turn false (s.data.toList.drop (k + 1)) = PRE ++ turn false s.data.toList) := Lib.hid (by rw [← HO.out, bytes_lit, turn_wide hlt hc, List.append_assoc])
                clear HO hc hnot
                go_wp2
                go_round
                case rel => exact ⟨k + 1, _, false, by go_num, rfl, rfl, by omega, (by rw [ByteArray.size_append]; show o.size + 3 ≤ _; omega), HN⟩
                case measure => simp [intOf]; omega
              · have HN : Hid ((o ++ s.extract k (k + 1)).data.toList ++ turn true (s.data.toList.drop (k + 1)) = PRE ++ turn false s.data.toList) := Lib.hid (by rw [← HO.out, bytes_one o s k hlt, turn_plain hlt true hnot (by simp) (by rw [hc]; decide), List.append_assoc]; rfl)
                clear HO hc hnot
                go_wp2
                go_round
                case rel => exact ⟨k + 1, _, true, by go_num, rfl, rfl, by omega, (by rw [ByteArray.size_append, ByteArray.size_extract]; omega), HN⟩
                case measure => simp [intOf]; omega
            · have b3 : ((s[k].toNat : Int) == 32) = false := beq_eq_false_iff_ne.2 (fun e => hc (UInt8.toNat_inj.1 (by show s[k].toNat = 32; omega)))
              have h32 := hc
              clear hc
              by_cases hc : s[k] = 10
              · have b4 : ((s[k].toNat : Int) == 10) = true := by rw [hc]; rfl
                have HN : Hid ((o ++ ⟨#[32, 35, 32, 120, 13, 10, 32, 10]⟩).data.toList ++ turn false (s.data.toList.drop (k + 1)) = PRE ++ turn false s.data.toList) := Lib.hid (by rw [← HO.out, bytes_lit, turn_nl hlt rm hc, List.append_assoc])
                clear HO hc hnot h32
                go_wp2
                go_round
                case rel => exact ⟨k + 1, _, false, by go_num, rfl, rfl, by omega, (by rw [ByteArray.size_append]; show o.size + 8 ≤ _; omega), HN⟩
                case measure => simp [intOf]; omega
              · have b4 : ((s[k].toNat : Int) == 10) = false := beq_eq_false_iff_ne.2 (fun e => hc (UInt8.toNat_inj.1 (by show s[k].toNat = 10; omega)))
                have h10 := hc
                clear hc
                cases rm
                · by_cases hc : s[k] = 35
                  · have b5 : ((s[k].toNat : Int) == 35) = true := by rw [hc]; rfl
                    have e1 : (s[k] == 35) = true := by rw [hc]; rfl
                    have HN : Hid ((o ++ s.extract k (k + 1)).data.toList ++ turn true (s.data.toList.drop (k + 1)) = PRE ++ turn false s.data.toList) := Lib.hid (by rw [← HO.out, bytes_one o s k hlt, turn_plain hlt false hnot (fun e => h32 e.1) h10, List.append_assoc]; rw [e1]; rfl)
                    clear HO hc hnot h32 h10 e1
                    go_wp2
                    go_round
                    case rel => exact ⟨k + 1, _, true, by go_num, rfl, rfl, by omega, (by rw [ByteArray.size_append, ByteArray.size_extract]; omega), HN⟩
                    case measure => simp [intOf]; omega
                  · have b5 : ((s[k].toNat : Int) == 35) = false := beq_eq_false_iff_ne.2 (fun e => hc (UInt8.toNat_inj.1 (by show s[k].toNat = 35; omega)))
                    have e1 : (s[k] == 35) = false := beq_eq_false_iff_ne.2 hc
                    have HN : Hid ((o ++ s.extract k (k + 1)).data.toList ++ turn false (s.data.toList.drop (k + 1)) = PRE ++ turn false s.data.toList) := Lib.hid (by rw [← HO.out, bytes_one o s k hlt, turn_plain hlt false hnot (fun e => h32 e.1) h10, List.append_assoc]; rw [e1]; rfl)
                    clear HO hc hnot h32 h10 e1
                    go_wp2
                    go_round
                    case rel => exact ⟨k + 1, _, false, by go_num, rfl, rfl, by omega, (by rw [ByteArray.size_append, ByteArray.size_extract]; omega), HN⟩
                    case measure => simp [intOf]; omega
                · have HN : Hid ((o ++ s.extract k (k + 1)).data.toList ++ turn true (s.data.toList.drop (k + 1)) = PRE ++ turn false s.data.toList) := Lib.hid (by rw [← HO.out, bytes_one o s k hlt, turn_plain hlt true hnot (fun e => h32 e.1) h10, List.append_assoc]; rfl)
                  clear HO hnot h32 h10
                  go_wp2
                  go_round
                  case rel => exact ⟨k + 1, _, true, by go_num, rfl, rfl, by omega, (by rw [ByteArray.size_append, ByteArray.size_extract]; omega), HN⟩
                  case measure => simp [intOf]; omega
        · have hke : k = s.size := by omega
          subst hke
          have HO2 : o.data.toList = PRE ++ turn false s.data.toList := by
            have := HO.out
            rwa [List.drop_eq_nil_of_le (by rw [Lib.size_eq]; exact Nat.le_refl _), turn, List.append_nil] at this
          have hq : parse o.data.toList = .ok D := by
            rw [HO2, ← HPRE.out]
            exact parse_turn HP.out (by rw [← Lib.size_eq]; omega) (by rw [← Lib.size_eq]; omega)
          have HQ := Lib.hid hq
          have HT : Hid (parse (s ++ moreB).data.toList = .ok (moreOf D)) := Lib.hid (by
            rw [bytes_lit]
            exact parse_more HP.out (by rw [← Lib.size_eq]; omega))
          have hot : o.size ≤ 1048576 := by omega
          clear HO HO2 hq ho HPRE
          go_wp2_with fail
          refine (read_good hot (HV.out.on HB1.out) HQ.out).mono ?_
          rintro e w2 ⟨q, rfl, H2, hb2⟩
          have HV2 := Lib.hid ((HV.out.on HB1.out).on hb2)
          have HPA := Lib.hid (HP1.out.on hb2)
          have HQA := Lib.hid H2
          have HB2 := Lib.hid (HB1.out.trans (hb2.mono HB1.out.size))
          clear H2 hb2 HP1 HB1 HV HQ
          go_wp2_with fail
          refine (read_good (s := s ++ moreB) (by rw [ByteArray.size_append]; show s.size + 40 ≤ _; omega) HV2.out HT.out).mono ?_
          rintro e w3 ⟨z, rfl, H3, hb3⟩
          have HV3 := Lib.hid (HV2.out.on hb3)
          have HP3 := Lib.hid (HPA.out.on hb3)
          have HQ3 := Lib.hid (HQA.out.on hb3)
          have HM3 := Lib.hid H3
          have HB3 := Lib.hid (HB2.out.trans (hb3.mono HB2.out.size))
          have c1 := Lib.hid (classAt H3 (more_told D).1)
          have k1 := Lib.hid (kindAt H3 (more_told D).2)
          have hbx := Below.refl w3.heap.size w3
          clear HV2 HPA HQA H3 hb3 HB2 HT
          go_wp2_with (first
            | (go_at_call 17; (with_reducible refine (c1.out _ hbx).mono ?_); rintro e w4 ⟨rfl, hb⟩; replace hbx := hbx.trans (hb.mono hbx.size); clear hb)
            | (go_at_call 18; (with_reducible refine (k1.out _ hbx).mono ?_); rintro e w4 ⟨rfl, hb⟩; replace hbx := hbx.trans (hb.mono hbx.size); clear hb))
          have HBX := Lib.hid hbx
          clear hbx c1 k1
          go_loopw [15] (fun vi wr => ∃ k : Nat, vi = .int .i64 k ∧ k ≤ ask.length ∧ Hid (Below w3.heap.size w3 wr)) (fun vi _ => ask.length - (intOf vi).toNat)
          case atStart => exact ⟨0, rfl, Nat.zero_le _, HBX⟩
          case round =>
            obtain ⟨k, rfl, hk, HR⟩ := hrel
            by_cases hlt : k < ask.length
            · by_cases h300 : k < 300
              · obtain ⟨b0, o0, rfl⟩ := HA.out.addr' (by omega)
                obtain ⟨r, hq⟩ : ∃ r, ask[k]? = some r := ⟨_, List.getElem?_eq_getElem hlt⟩
                have RA := Lib.hid ((HA.out.on HB3.out).on HR.out)
                have hcq : wr.cell? ⟨b0, o0 + k, none⟩ = some (.int .i32 r) := RA.out.cell k r hq
                have a1 := Lib.hid (alike_calls p q D D r wr (HP3.out.on HR.out) (HQ3.out.on HR.out) rfl rfl rfl rfl rfl)
                have HK := Lib.hid hq
                clear hq
                by_cases e1 : r = 195072
                · have f1 : (r != 195072) = false := by rw [e1]; rfl
                  clear e1
                  go_wp2_with (go_at_call 19; (with_reducible refine a1.out.mono ?_); rintro e w4 ⟨rfl, hb⟩; have hcq4 : w4.cell? ⟨b0, o0 + k, none⟩ = some (.int .i32 r) := (RA.out.on hb).cell k r HK.out; have HR4 := Lib.hid (HR.out.trans (hb.mono HR.out.size)); clear hb)
                  refine ⟨⟨k + 1, by go_num, by omega, HR4⟩, ?_⟩
                  simp [intOf]
                  omega
                · have f1 : (r != 195072) = true := bne_iff_ne.2 e1
                  by_cases e2 : r = 195073
                  · have f2 : (r != 195073) = false := by rw [e2]; rfl
                    clear e1 e2
                    go_wp2_with (go_at_call 19; (with_reducible refine a1.out.mono ?_); rintro e w4 ⟨rfl, hb⟩; have hcq4 : w4.cell? ⟨b0, o0 + k, none⟩ = some (.int .i32 r) := (RA.out.on hb).cell k r HK.out; have HR4 := Lib.hid (HR.out.trans (hb.mono HR.out.size)); clear hb)
                    refine ⟨⟨k + 1, by go_num, by omega, HR4⟩, ?_⟩
                    simp [intOf]
                    omega
                  · have f2 : (r != 195073) = true := bne_iff_ne.2 e2
                    have g1 := Lib.hid (more_class D r e1)
                    have g2 := Lib.hid (more_kind D r e1 e2)
                    have g3 := Lib.hid (more_comp D r 769 e1)
                    clear e1 e2
                    go_wp2_with (first
                      | (go_at_call 19; (with_reducible refine a1.out.mono ?_); rintro e w4 ⟨rfl, hb⟩; have hcq4 : w4.cell? ⟨b0, o0 + k, none⟩ = some (.int .i32 r) := (RA.out.on hb).cell k r HK.out; have HR4 := Lib.hid (HR.out.trans (hb.mono HR.out.size)); clear hb a1)
                      | (go_at_call 19; refine (alike_calls p z D (moreOf D) r w4 (HP3.out.on HR4.out) (HM3.out.on HR4.out) g1.out g2.out rfl rfl g3.out).mono ?_; rintro e w5 ⟨rfl, hb⟩; have HR5 := Lib.hid (HR4.out.trans (hb.mono HR4.out.size)); clear hb))
                    refine ⟨⟨k + 1, by go_num, by omega, HR5⟩, ?_⟩
                    simp [intOf]
                    omega
              · have hge : 300 ≤ k := by omega
                go_wp2_with (go_at_call 10; refine (works_calls _ (HV3.out.on HR.out)).mono ?_; rintro e w9 ⟨rfl, hb9⟩)
                go_ret
                exact ⟨rfl, (HB3.out.trans (HR.out.mono HB3.out.size)).trans (hb9.mono (Nat.le_trans HB3.out.size HR.out.size))⟩
            · have hge : ask.length ≤ k := by omega
              go_wp2_with (go_at_call 10; refine (works_calls _ (HV3.out.on HR.out)).mono ?_; rintro e w9 ⟨rfl, hb9⟩)
              go_ret
              exact ⟨rfl, (HB3.out.trans (HR.out.mono HB3.out.size)).trans (hb9.mono (Nat.le_trans HB3.out.size HR.out.size))⟩
set_option maxRecDepth 100000 in
theorem plain_long (s note : ByteArray) (av : Value) (w : World) (h : 4096 < (s.size : Int) ∨ ((s.size : Int) ≤ 4096 ∧ 4096 < (note.size : Int))) : Calls Tryz.prog 5 #[.string s, .string note, av] w fun e w' => e = .returned (.bool true) ∧ Below w.heap.size w w' := by
  rcases h with h | ⟨h1, h2⟩
  all_goals
    go_enter Tryz.func5, Tryz.ntmps5
    go_wp2
    go_ret
    exact ⟨rfl, Below.refl _ _⟩
set_option maxHeartbeats 4000000 in
set_option maxRecDepth 100000 in
theorem plain_bad (s note : ByteArray) (av : Value) {m : Int} {ev : Value} (w : World) (hv : Vars w.heap.size w m ev) (hs : (s.size : Int) ≤ 4096) (hn : (note.size : Int) ≤ 4096) {x : Int × Option Int} (h : parse s.data.toList = .error x) : Calls Tryz.prog 5 #[.string s, .string note, av] w fun e w' => e = .returned (.bool true) ∧ Below w.heap.size w w' := by
  have RD := Lib.hid (read_bad (by omega) hv h)
  have HV := Lib.hid hv
  clear h hv
  go_enter Tryz.func5, Tryz.ntmps5
  go_wp2_with (first
    | (go_at_call 14; refine RD.out.mono ?_; rintro e w1 ⟨rfl, hb⟩; have WK := Lib.hid (works_calls w1 (HV.out.on hb)))
    | (go_at_call 10; refine WK.out.mono ?_; rintro e w2 ⟨rfl, hb2⟩))
  go_ret
  exact ⟨rfl, hb.trans (hb2.mono hb.size)⟩
theorem plain_calls (s note : ByteArray) (av : Value) (ask : List Int) {m : Int} {ev : Value} (w : World) (hv : Vars w.heap.size w m ev) (hask : ReadPts w av ask) : Calls Tryz.prog 5 #[.string s, .string note, av] w fun e w' => e = .returned (.bool true) ∧ Below w.heap.size w w' := by
  by_cases h : 4096 < (s.size : Int)
  · exact plain_long s note av w (.inl h)
  · by_cases hn : 4096 < (note.size : Int)
    · exact plain_long s note av w (.inr ⟨by omega, hn⟩)
    · cases hp : parse s.data.toList with
      | error x => exact plain_bad s note av w hv (by omega) (by omega) hp
      | ok D => exact plain_good s note av ask w hv hask (by omega) (by omega) hp
end Go.Proofs.YthonikkoafoohaaGreatDoor.Pr
