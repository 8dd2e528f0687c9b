/- slices.stableCmpFunc and SortStableFunc at points: the walks. -/
import Derived.Test.YtikpkjpnehkbfaaGreatDoorStabMerge
namespace Go.Proofs.YtikpkjpnehkbfaaGreatDoor.Sb
open Go Go.RowKit Go.Shelf
set_option linter.unusedSimpArgs false
set_option linter.unusedVariables false

theorem ins_none (v cv : Value) (w : World) : Calls Tryz.prog 157 #[v, .int .i64 0, .int .i64 0, cv] w fun e w' => e = .returned (.tuple #[]) ∧ Below w.heap.size w w' := by
  go_enter Tryz.func157, Tryz.ntmps157
  go_wp2
  refine wp_loop_rounds 1 ?_
  rw [rounds_succ]
  go_wp2
  go_end0
  exact ⟨rfl, Below.refl _ _⟩
set_option maxHeartbeats 1000000 in
theorem stable_none (v cv : Value) (w : World) : Calls Tryz.prog 132 #[v, .int .i64 0, cv] w fun e w' => e = .returned (.tuple #[]) ∧ Below w.heap.size w w' := by
  go_enter Tryz.func132, Tryz.ntmps132
  go_wp2
  refine wp_loop_rounds 1 ?_
  rw [rounds_succ]
  go_wp2_with (go_at_call 157; refine (ins_none _ _ _).mono ?_; rintro e w1 ⟨rfl, hb⟩)
  refine wp_loop_rounds 1 ?_
  rw [rounds_succ]
  go_wp2
  go_end0
  exact ⟨rfl, hb⟩
set_option maxHeartbeats 8000000 in
set_option maxRecDepth 100000 in
theorem stable_calls {key : Int → Int} {g cap n cf : Nat} {lb : Array Value} {pre post : List Value} {W0 : World} (eg : Enters cf) (hC : Cmp g W0 cf lb key) (hk : ∀ x, 0 ≤ key x ∧ key x ≤ 254) (l : List Int) (w : World)
    (hI : SI g pre post W0 w l) (hl : l.length = n) (hn : n ≤ 16777216) :
    Calls Tryz.prog 132 #[.slice (some ⟨g, pre.length, none⟩) n cap, .int .i64 n, .func (.func cf) #[] lb] w fun e w' => SymOut key g pre post W0 0 n l e w' := by
  have HI := Lib.hid hI
  have HL := Lib.hid hl
  have HINS := Lib.hid (fun (a b : Nat) (li : List Int) (W : World) (hW : SI g pre post W0 W li) (h1 : li.length = n) (h2 : a ≤ b) (h3 : b ≤ n) => ins_calls (cap := cap) eg hC hk a b li W hW h1 hn h2 h3)
  have HSYM := Lib.hid (fun (a m b : Nat) (li : List Int) (W : World) (hW : SI g pre post W0 W li) (h1 : li.length = n) (h2 : a < m) (h3 : m < b) (h4 : b ≤ n) (h5 : Srt key a m li) (h6 : Srt key m b li) => sym_calls (cap := cap) eg hC hn (b - a + 1) a m b li W (by omega) hW h1 h2 h3 h4 h5 h6)
  clear hC hk hI hl
  go_enter Tryz.func132, Tryz.ntmps132
  go_wp2
  go_loopg [7, 8] n (fun gk va vb wr => ∃ (a b : Nat) (li : List Int), va = .int .i64 a ∧ vb = .int .i64 b ∧ Hid (b = a + 20) ∧ a ≤ n ∧ n - a ≤ gk ∧ Hid (SI g pre post W0 wr li) ∧ Hid (Mv key 0 n l li) ∧ Hid (Ahd key 20 a li))
  case atStart => exact ⟨0, 20, l, rfl, rfl, Lib.hid rfl, Nat.zero_le _, by omega, HI, Lib.hid (Mv.refl _ _ _ _), Lib.hid (Ahd.zero _ _ _)⟩
  case round =>
    obtain ⟨a, b, li, rfl, rfl, HB, han, hg1, HS, HM, HA⟩ := hrel
    have HLI : Hid (li.length = n) := Lib.hid (by rw [HM.out.len, HL.out])
    by_cases hlt : b ≤ n
    · have hz : (b : Int) ≤ (n : Int) := by omega
      have hbb := HB.out
      have hab : a ≤ b := by omega
      have hab2 : a < b := by omega
      clear hbb
      go_wp2_with (go_at_call 157; refine (HINS.out a b li _ HS.out HLI.out hab hlt).mono ?_; rintro e w2 ⟨rfl, l2, hs, hm, ho⟩; have HS2 := Lib.hid hs; have HM2 := Lib.hid hm; have HO2 := Lib.hid ho; clear hs hm ho)
      go_roundg (n - b)
      case rel => exact ⟨b, b + 20, l2, rfl, by go_num, Lib.hid rfl, hlt, Nat.le_refl _, HS2, Lib.hid (HM.out.trans (HM2.out.wide (Nat.zero_le _) hlt)), Lib.hid (by have h1 := HM2.out; have h2 := HO2.out; rw [HB.out] at h1 h2 ⊢; exact HA.out.step h1 h2 (by omega))⟩
      case measure => omega
    · have hz : ¬ (b : Int) ≤ (n : Int) := by omega
      have hbn : Hid (n < a + 20) := Lib.hid (by have := HB.out; omega)
      go_wp2_with (go_at_call 157; refine (HINS.out a n li _ HS.out HLI.out han (Nat.le_refl _)).mono ?_; rintro e w2 ⟨rfl, l2, hs, hm, ho⟩; have HS2 := Lib.hid hs; have HM2 := Lib.hid (HM.out.trans (hm.wide (Nat.zero_le _) (Nat.le_refl _))); have HT2 := Lib.hid (HA.out.done hm ho hbn.out han); clear hs hm ho)
      clear HS HM HA HB hlt hz hg1 hbn HLI
      go_loopg [6, 7, 8, 9] n (fun gk v6 v7 v8 v9 wr => ∃ (bs : Nat) (li : List Int), v6 = .int .i64 bs ∧ 0 < bs ∧ bs ≤ 33554432 ∧ n - bs ≤ gk ∧ Hid (SI g pre post W0 wr li) ∧ Hid (Mv key 0 n l li) ∧ Hid (Tl key bs 0 n li))
      case atStart => exact ⟨20, l2, rfl, by omega, by omega, by omega, HS2, HM2, HT2⟩
      case round =>
        obtain ⟨bs, li, rfl, hb0, hb1, hg1, HS, HM, HT⟩ := hrel
        by_cases hlt : bs < n
        · have hz : (bs : Int) < (n : Int) := by omega
          obtain ⟨d, hd⟩ : ∃ d, d = 2 * bs := ⟨_, rfl⟩
          have e1 : IntKind.i64.wrap ((2 : Int) * (bs : Int)) = (d : Int) := (IntWalk.i64_in _ (by omega)).trans (by omega)
          have e2 : IntKind.i64.wrap (d : Int) = (d : Int) := IntWalk.i64_in _ (by omega)
          have e3 : IntKind.i64.wrap ((bs : Int) * (2 : Int)) = (d : Int) := (IntWalk.i64_in _ (by omega)).trans (by omega)
          have hd1 : d ≤ 67108864 := by omega
          have hdb : bs < d := by omega
          have HD := Lib.hid hd
          clear hd
          go_wp2
          go_loopg [7, 8] n (fun gk va vb wr => ∃ (a b : Nat) (li : List Int), va = .int .i64 a ∧ vb = .int .i64 b ∧ Hid (b = a + d) ∧ a ≤ n ∧ n - a ≤ gk ∧ b ≤ n + 67108864 ∧ Hid (SI g pre post W0 wr li) ∧ Hid (Mv key 0 n l li) ∧ Hid (Ahd key d a li) ∧ Hid (Tl key bs a n li))
          case atStart => exact ⟨0, d, li, rfl, rfl, Lib.hid (by omega), Nat.zero_le _, by omega, by omega, HS, HM, Lib.hid (Ahd.zero _ _ _), HT⟩
          case round =>
            clear HS HM HT
            obtain ⟨a, b, li, rfl, rfl, HB, han, hg1, hbn, HS, HM, HA, HT⟩ := hrel
            have HLI : Hid (li.length = n) := Lib.hid (by rw [HM.out.len, HL.out])
            have HDV : Hid (bs ∣ a) := Lib.hid (dvd_two (by have := HA.out.1; rwa [HD.out] at this))
            obtain ⟨m, hm⟩ : ∃ m, m = a + bs := ⟨_, rfl⟩
            have f1 : IntKind.i64.wrap ((a : Int) + (bs : Int)) = (m : Int) := (IntWalk.i64_in _ (by omega)).trans (by omega)
            have f2 : IntKind.i64.wrap (m : Int) = (m : Int) := IntWalk.i64_in _ (by omega)
            have HMM := Lib.hid hm
            have hbb := HB.out
            have ham : a < m := by omega
            have hmb : m < b := by omega
            clear hm hbb
            by_cases hlt2 : b ≤ n
            · have hz2 : (b : Int) ≤ (n : Int) := by omega
              have HP : Hid (Srt key a m li ∧ Srt key m b li) := Lib.hid (by
                have := HT.out.pair HDV.out (by have := HB.out; have := HD.out; omega)
                rw [← HMM.out, ← HD.out, ← HB.out] at this
                exact this)
              obtain ⟨b2, hb2⟩ : ∃ b2, b2 = b + d := ⟨_, rfl⟩
              have f3 : IntKind.i64.wrap ((b : Int) + (d : Int)) = (b2 : Int) := (IntWalk.i64_in _ (by omega)).trans (by omega)
              have f4 : IntKind.i64.wrap (b2 : Int) = (b2 : Int) := IntWalk.i64_in _ (by omega)
              have hb2n : b2 ≤ n + 67108864 := by omega
              have HB2 := Lib.hid hb2
              clear hb2
              go_wp2_with (go_at_call 158; refine (HSYM.out a m b li _ HS.out HLI.out ham hmb hlt2 HP.out.1 HP.out.2).mono ?_; rintro e w3 ⟨rfl, l3, hs, hm, ho⟩; have HS3 := Lib.hid hs; have HM3 := Lib.hid hm; have HO3 := Lib.hid ho; clear hs hm ho)
              go_roundg (n - b)
              case rel => exact ⟨b, b2, l3, rfl, rfl, HB2, hlt2, Nat.le_refl _, hb2n, HS3, Lib.hid (HM.out.trans (HM3.out.wide (Nat.zero_le _) hlt2)), Lib.hid (by have h1 := HM3.out; have h2 := HO3.out; rw [HB.out] at h1 h2 ⊢; exact HA.out.step h1 h2 (by omega)), Lib.hid (HT.out.on (by omega) (Nat.le_refl _) HM3.out)⟩
              case measure => omega
            · have hz2 : ¬ (b : Int) ≤ (n : Int) := by omega
              have hna : Hid (n < a + d) := Lib.hid (by have := HB.out; omega)
              by_cases hmn : m < n
              · have hz3 : (m : Int) < (n : Int) := by omega
                have HP : Hid (Srt key a m li ∧ Srt key m n li) := Lib.hid (by
                  have := HT.out.last HDV.out (by have := hna.out; have := HD.out; omega) (by have := HMM.out; omega)
                  rw [← HMM.out] at this
                  exact this)
                go_wp2_with (go_at_call 158; refine (HSYM.out a m n li _ HS.out HLI.out ham hmn (Nat.le_refl _) HP.out.1 HP.out.2).mono ?_; rintro e w3 ⟨rfl, l3, hs, hm, ho⟩; have HS3 := Lib.hid hs; have HM3 := Lib.hid hm; have HO3 := Lib.hid ho; clear hs hm ho)
                go_roundg (n - d)
                case rel => exact ⟨d, l3, rfl, by omega, by have := HD.out; omega, Nat.le_refl _, HS3, Lib.hid (HM.out.trans (HM3.out.wide (Nat.zero_le _) (Nat.le_refl _))), Lib.hid (HA.out.done HM3.out HO3.out hna.out han)⟩
                case measure => omega
              · have hz3 : ¬ (m : Int) < (n : Int) := by omega
                have HSi := Lib.hid (HT.out.single HDV.out (by have := HMM.out; omega))
                go_wp2
                go_roundg (n - d)
                case rel => exact ⟨d, li, rfl, by omega, by have := HD.out; omega, Nat.le_refl _, HS, HM, Lib.hid (HA.out.done (Mv.refl _ _ _ _) HSi.out hna.out han)⟩
                case measure => omega
        · have hz : ¬ (bs : Int) < (n : Int) := by omega
          have HF := Lib.hid (HT.out.full (by omega))
          go_wp2
          go_end0
          exact ⟨rfl, li, HS.out, HM.out, HF.out⟩
theorem sort_none (A : Option Addr) (c : Nat) (cv : Value) (w : World) : Calls Tryz.prog 94 #[.slice A 0 c, cv] w fun e w' => e = .returned (.tuple #[]) ∧ Below w.heap.size w w' := by
  go_enter Tryz.func94, Tryz.ntmps94
  go_wp2_with (go_at_call 132; refine (stable_none _ _ _).mono ?_; rintro e w1 ⟨rfl, hb⟩)
  go_end0
  exact ⟨rfl, hb⟩
theorem sort_calls {key : Int → Int} {g cap n cf : Nat} {lb : Array Value} {pre post : List Value} {W0 : World} (eg : Enters cf) (hC : Cmp g W0 cf lb key) (hk : ∀ x, 0 ≤ key x ∧ key x ≤ 254) (l : List Int) (w : World)
    (hI : SI g pre post W0 w l) (hl : l.length = n) (hn : n ≤ 16777216) :
    Calls Tryz.prog 94 #[.slice (some ⟨g, pre.length, none⟩) n cap, .func (.func cf) #[] lb] w fun e w' => SymOut key g pre post W0 0 n l e w' := by
  have HS := Lib.hid (stable_calls (cap := cap) eg hC hk l w hI hl hn)
  clear eg hC hk hI hl
  go_enter Tryz.func94, Tryz.ntmps94
  go_wp2_with (go_at_call 132; refine HS.out.mono ?_; rintro e w1 ⟨rfl, l2, hs⟩)
  go_end0
  exact ⟨rfl, l2, hs⟩
end Go.Proofs.YtikpkjpnehkbfaaGreatDoor.Sb
