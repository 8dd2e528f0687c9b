/- The reference's decoder (glossaryref01): the walks. -/
import Derived.Test.YtfmcadobpgpajaaGreatDoorRefUtf
import Derived.IntWalk
namespace Go.Proofs.YtfmcadobpgpajaaGreatDoor.Ru
open Go Go.RowKit Go.Lib Go.Proofs.YtfmcadobpgpajaaGreatDoor.Ut
set_option linter.unusedSimpArgs false
set_option linter.unusedVariables false

theorem within_calls (c lo hi : Int) (b : Bool) (h : (decide (lo ≤ c) && decide (c ≤ hi)) = b) (W : World) : Calls Tryz.prog 158 #[.int .u8 c, .int .u8 lo, .int .u8 hi] W fun e w' => e = .returned (.bool b) ∧ W = w' := by
  subst h
  by_cases h1 : lo ≤ c <;> by_cases h2 : c ≤ hi
  all_goals
    go_enter Tryz.func158, Tryz.ntmps158
    go_wp2
    go_ret
    refine ⟨?_, rfl⟩
    simp [h1, h2]
abbrev LeadV (c : Int) : Value := .tuple #[.int .i64 (leadN c), .int .u8 (leadLo c), .int .u8 (leadHi c)]
set_option maxHeartbeats 4000000 in
theorem lead_calls (c : Int) (h0 : 0 ≤ c) (h1 : c ≤ 255) (W : World) : Calls Tryz.prog 157 #[.int .u8 c] W fun e w' => e = .returned (LeadV c) ∧ W = w' := by
  have hc : c < 128 ∨ (128 ≤ c ∧ c < 194) ∨ (194 ≤ c ∧ c < 224) ∨ c = 224 ∨ (225 ≤ c ∧ c < 237) ∨ c = 237 ∨ (238 ≤ c ∧ c < 240) ∨ c = 240 ∨ (241 ≤ c ∧ c < 244) ∨ c = 244 ∨ 245 ≤ c := by omega
  obtain ⟨n, lo, hi, e⟩ : ∃ n lo hi, LeadV c = .tuple #[.int .i64 n, .int .u8 lo, .int .u8 hi] ∧ (leadN c = n ∧ leadLo c = lo ∧ leadHi c = hi) := ⟨_, _, _, rfl, rfl, rfl, rfl⟩
  rw [e.1]
  have e2 := Lib.hid e.2
  clear e
  obtain ⟨b1, f1⟩ : ∃ b, (c == (224 : Int)) = b := ⟨_, rfl⟩
  obtain ⟨b2, f2⟩ : ∃ b, (c == (237 : Int)) = b := ⟨_, rfl⟩
  obtain ⟨b3, f3⟩ : ∃ b, (c == (240 : Int)) = b := ⟨_, rfl⟩
  obtain ⟨b4, f4⟩ : ∃ b, (c == (244 : Int)) = b := ⟨_, rfl⟩
  obtain ⟨b5, f5⟩ : ∃ b, decide (c < (128 : Int)) = b := ⟨_, rfl⟩
  obtain ⟨b6, f6⟩ : ∃ b, (decide ((194 : Int) ≤ c) && decide (c ≤ (223 : Int))) = b := ⟨_, rfl⟩
  obtain ⟨b7, f7⟩ : ∃ b, (decide ((225 : Int) ≤ c) && decide (c ≤ (239 : Int))) = b := ⟨_, rfl⟩
  obtain ⟨b8, f8⟩ : ∃ b, (decide ((241 : Int) ≤ c) && decide (c ≤ (243 : Int))) = b := ⟨_, rfl⟩
  have c6 := Lib.hid (within_calls c 194 223 b6 f6)
  have c7 := Lib.hid (within_calls c 225 239 b7 f7)
  have c8 := Lib.hid (within_calls c 241 243 b8 f8)
  have HF := Lib.hid (And.intro f1 (And.intro f2 (And.intro f3 (And.intro f4 (And.intro f5 (And.intro f6 (And.intro f7 f8)))))))
  clear f6 f7 f8
  rcases hc with hc | hc | hc | hc | hc | hc | hc | hc | hc | hc | hc
  all_goals obtain ⟨g1, g2, g3, g4, g5, g6, g7, g8⟩ := HF.out
  all_goals cases b1
  all_goals first | (exfalso; simp only [beq_iff_eq, beq_eq_false_iff_ne, ne_eq] at g1; omega) | skip
  all_goals cases b2
  all_goals first | (exfalso; simp only [beq_iff_eq, beq_eq_false_iff_ne, ne_eq] at g2; omega) | skip
  all_goals cases b3
  all_goals first | (exfalso; simp only [beq_iff_eq, beq_eq_false_iff_ne, ne_eq] at g3; omega) | skip
  all_goals cases b4
  all_goals first | (exfalso; simp only [beq_iff_eq, beq_eq_false_iff_ne, ne_eq] at g4; omega) | skip
  all_goals cases b5
  all_goals first | (exfalso; simp only [decide_eq_true_eq, decide_eq_false_iff_not] at g5; omega) | skip
  all_goals cases b6
  all_goals first | (exfalso; simp only [Bool.and_eq_true, Bool.and_eq_false_iff, decide_eq_true_eq, decide_eq_false_iff_not] at g6; omega) | skip
  all_goals cases b7
  all_goals first | (exfalso; simp only [Bool.and_eq_true, Bool.and_eq_false_iff, decide_eq_true_eq, decide_eq_false_iff_not] at g7; omega) | skip
  all_goals cases b8
  all_goals first | (exfalso; simp only [Bool.and_eq_true, Bool.and_eq_false_iff, decide_eq_true_eq, decide_eq_false_iff_not] at g8; omega) | skip
  all_goals clear g1 g2 g3 g4 g5 g6 g7 g8 HF
  all_goals
    have hn := e2.out.1
    have hlo := e2.out.2.1
    have hhi := e2.out.2.2
    unfold leadN at hn
    unfold leadLo at hlo
    unfold leadHi at hhi
    repeat' split at hn
    all_goals first | (exfalso; omega) | skip
    repeat' split at hlo
    all_goals first | (exfalso; omega) | skip
    repeat' split at hhi
    all_goals first | (exfalso; omega) | skip
    clear e2
    have HC9 := Lib.hid hc
    clear hc
    subst hn hlo hhi
    go_enter Tryz.func157, Tryz.ntmps157
    go_wp2_with (first
      | (go_at_call 158; (with_reducible refine (c6.out _).mono ?_); rintro e w' ⟨rfl, rfl⟩)
      | (go_at_call 158; (with_reducible refine (c7.out _).mono ?_); rintro e w' ⟨rfl, rfl⟩)
      | (go_at_call 158; (with_reducible refine (c8.out _).mono ?_); rintro e w' ⟨rfl, rfl⟩))
    go_ret3
    exact ⟨rfl, rfl⟩

/-! ### Begun, Wide -/
def BegunOut (l : List UInt8) (i : Nat) (w : World) (e : Ending) (w' : World) : Prop := w = w' ∧ ((leadN (by_ l i) = 0 ∧ e = .returned (.tuple #[.int .i64 0, .int .i64 0])) ∨ (∃ k, Begun l i k ∧ e = .returned (.tuple #[.int .i64 (k : Int), .int .i64 (leadN (by_ l i))])))
theorem byte_at (s : ByteArray) (i : Nat) (h : i < s.size) : ((s[i]'h).toNat : Int) = by_ s.data.toList i := by
  unfold by_
  rw [Lib.getD_at s i h]
theorem lead_le (c : Int) : 0 ≤ leadN c ∧ leadN c ≤ 4 := by
  unfold leadN
  repeat' split
  all_goals omega
theorem lo_le (c : Int) : 0 ≤ leadLo c ∧ leadLo c ≤ 255 ∧ 0 ≤ leadHi c ∧ leadHi c ≤ 255 := by
  unfold leadLo leadHi
  repeat' split
  all_goals omega
set_option maxHeartbeats 4000000 in
set_option maxRecDepth 100000 in
theorem begun_calls (s : ByteArray) (i : Nat) (hs : s.size ≤ 1048576) (hi : i < s.size) (W : World) : Calls Tryz.prog 150 #[.string s, .int .i64 (i : Int)] W fun e w' => BegunOut s.data.toList i W e w' := by
  have hb0 := byte_at s i hi
  have hbl : 0 ≤ by_ s.data.toList i ∧ by_ s.data.toList i ≤ 255 := by unfold by_; have := (s.data.toList.getD i 0).toNat_lt; omega
  have HL := Lib.hid (fun W => lead_calls (by_ s.data.toList i) hbl.1 hbl.2 W)
  have hiz : (i : Int) < (s.size : Int) := by omega
  have hn4 := lead_le (by_ s.data.toList i)
  have HSZ := Lib.hid (Lib.size_eq s)
  obtain ⟨n, hn⟩ : ∃ n, leadN (by_ s.data.toList i) = n := ⟨_, rfl⟩
  unfold LeadV at HL
  rw [hn] at HL hn4
  by_cases hz : n = 0
  · have HO : Hid (BegunOut s.data.toList i W (.returned (.tuple #[.int .i64 0, .int .i64 0])) W) := Lib.hid ⟨rfl, .inl ⟨hn.trans hz, rfl⟩⟩
    subst hz
    have HN := Lib.hid hn
    clear hn
    go_enter Tryz.func150, Tryz.ntmps150
    go_wp2_with (go_at_call 157; (refine (HL.out _).mono ?_); rintro e w' ⟨rfl, rfl⟩)
    go_ret2
    exact HO.out
  · have hz' : (n == 0) = false := beq_eq_false_iff_ne.2 hz
    have hn1 : 1 ≤ n := by omega
    have hbl2 := lo_le (by_ s.data.toList i)
    have HW := Lib.hid (fun (b : Int) (W : World) => within_calls b (leadLo (by_ s.data.toList i)) (leadHi (by_ s.data.toList i)) (okB (by_ s.data.toList i) 1 b) (by unfold okB; rw [if_pos rfl]) W)
    have HM := Lib.hid (fun (k : Nat) (hk : k ≠ 1) (b : Int) (W : World) => within_calls b 128 191 (okB (by_ s.data.toList i) k b) (by unfold okB; rw [if_neg hk]) W)
    have HN := Lib.hid hn
    have HB0 := Lib.hid hb0
    clear hn hz
    generalize hlo : leadLo (by_ s.data.toList i) = lo at *
    generalize hhi : leadHi (by_ s.data.toList i) = hi2 at *
    clear hlo hhi
    go_enter Tryz.func150, Tryz.ntmps150
    go_wp2_with (go_at_call 157; (refine (HL.out _).mono ?_); rintro e w' ⟨rfl, rfl⟩)
    clear hb0
    go_loop [9] (fun v => ∃ k : Nat, v = .int .i64 (k : Int) ∧ 1 ≤ k ∧ (k : Int) ≤ n ∧ Hid (∀ j, 1 ≤ j → j < k → i + j < s.data.toList.length ∧ okB (by_ s.data.toList i) j (by_ s.data.toList (i + j)) = true)) (fun v => 4 - (intOf v).toNat)
    case atStart => exact ⟨1, rfl, Nat.le_refl _, hn1, Lib.hid (fun j h1 h2 => by omega)⟩
    case round =>
      obtain ⟨k, rfl, hk1, hkn, hA⟩ := hrel
      by_cases h1 : (k : Int) < n
      · by_cases h2 : i + k < s.size
        · have h2z : (i : Int) + (k : Int) < (s.size : Int) := by omega
          have hik : (i : Int) + (k : Int) = ((i + k : Nat) : Int) := by omega
          have hby := byte_at s (i + k) h2
          have hnn : (0 : Int) ≤ (i : Int) + (k : Int) := by omega
          have HBD := Lib.hid (And.intro hn4 (And.intro hkn hn1))
          have hbk : (i : Int) + (k : Int) ≤ 2000000 := by omega
          obtain ⟨ob, hob⟩ : ∃ ob, okB (by_ s.data.toList i) k (by_ s.data.toList (i + k)) = ob := ⟨_, rfl⟩
          have HOB := Lib.hid hob
          have HC : Hid (∀ W, ∃ lo' hi', (k = 1 → lo' = lo ∧ hi' = hi2) ∧ (k ≠ 1 → lo' = 128 ∧ hi' = 191) ∧ Calls Tryz.prog 158 #[.int .u8 ((s[i + k]'h2).toNat : Int), .int .u8 lo', .int .u8 hi'] W fun e w' => e = .returned (.bool ob) ∧ W = w') := Lib.hid (by
            rw [hby, ← hob]
            intro W
            by_cases hk : k = 1
            · refine ⟨lo, hi2, fun _ => ⟨rfl, rfl⟩, fun h => absurd hk h, ?_⟩
              rw [hk]; exact HW.out _ W
            · exact ⟨128, 191, fun h => absurd h hk, fun _ => ⟨rfl, rfl⟩, HM.out k hk _ W⟩)
          clear hob hby hik
          by_cases hk : k = 1
          · have b1 : ((k : Int) == (1 : Int)) = true := beq_iff_eq.2 (by omega)
            have hgt : decide ((1 : Int) < (k : Int)) = false := decide_eq_false (by omega)
            have HK := Lib.hid hk
            have HC2 : Hid (∀ W, Calls Tryz.prog 158 #[.int .u8 ((s[i + k]'h2).toNat : Int), .int .u8 lo, .int .u8 hi2] W fun e w' => e = .returned (.bool ob) ∧ W = w') := Lib.hid fun W => by
              obtain ⟨a, b, e1, _, e3⟩ := HC.out W
              obtain ⟨rfl, rfl⟩ := e1 HK.out
              exact e3
            clear hk hn4 hkn hn1 hbl hbl2 HC HM HW
            cases ob
            · go_wp2_with (go_at_call 158; (refine (HC2.out _).mono ?_); rintro e w' ⟨rfl, rfl⟩)
              go_ret2
              exact ⟨rfl, .inr ⟨k, ⟨hk1, by rw [HN.out]; omega, hA.out, .inr (fun h => by rw [HOB.out] at h; exact absurd h.2 (by decide))⟩, by rw [HN.out]; rfl⟩⟩
            · go_wp2_with (go_at_call 158; (refine (HC2.out _).mono ?_); rintro e w' ⟨rfl, rfl⟩)
              go_round
              case rel =>
                refine ⟨k + 1, by go_num, by omega, by omega, Lib.hid (fun j g1 g2 => ?_)⟩
                by_cases e : j = k
                · subst e; exact ⟨by rw [← HSZ.out]; exact h2, HOB.out⟩
                · exact hA.out j g1 (by omega)
              case measure => have := HBD.out; simp [intOf]; omega
          · have b1 : ((k : Int) == (1 : Int)) = false := beq_eq_false_iff_ne.2 (by omega)
            have hgt : decide ((1 : Int) < (k : Int)) = true := decide_eq_true (by omega)
            have HK := Lib.hid hk
            have HC2 : Hid (∀ W, Calls Tryz.prog 158 #[.int .u8 ((s[i + k]'h2).toNat : Int), .int .u8 128, .int .u8 191] W fun e w' => e = .returned (.bool ob) ∧ W = w') := Lib.hid fun W => by
              obtain ⟨a, b, _, e1, e3⟩ := HC.out W
              obtain ⟨rfl, rfl⟩ := e1 HK.out
              exact e3
            clear hk hn4 hkn hn1 hbl hbl2 HC HM HW
            cases ob
            · go_wp2_with (go_at_call 158; (refine (HC2.out _).mono ?_); rintro e w' ⟨rfl, rfl⟩)
              go_ret2
              exact ⟨rfl, .inr ⟨k, ⟨hk1, by rw [HN.out]; omega, hA.out, .inr (fun h => by rw [HOB.out] at h; exact absurd h.2 (by decide))⟩, by rw [HN.out]; rfl⟩⟩
            · go_wp2_with (go_at_call 158; (refine (HC2.out _).mono ?_); rintro e w' ⟨rfl, rfl⟩)
              go_round
              case rel =>
                refine ⟨k + 1, by go_num, by omega, by omega, Lib.hid (fun j g1 g2 => ?_)⟩
                by_cases e : j = k
                · subst e; exact ⟨by rw [← HSZ.out]; exact h2, HOB.out⟩
                · exact hA.out j g1 (by omega)
              case measure => have := HBD.out; simp [intOf]; omega
        · have h2z : decide ((i : Int) + (k : Int) < (s.size : Int)) = false := decide_eq_false (by omega)
          have hbk : (i : Int) + (k : Int) ≤ 2000000 := by omega
          have HBD := Lib.hid (And.intro hn4 (And.intro hkn hn1))
          clear hn4 hkn hn1 hbl hbl2 HM HW
          go_wp2
          go_ret2
          exact ⟨rfl, .inr ⟨k, ⟨hk1, by rw [HN.out]; omega, hA.out, .inr (fun h => h2 (by rw [HSZ.out]; exact h.1))⟩, by rw [HN.out]; rfl⟩⟩
      · have h1z : decide ((k : Int) < n) = false := decide_eq_false h1
        have HBD := Lib.hid (And.intro hn4 (And.intro hkn hn1))
        have hkn2 := Lib.hid (show (k : Int) = n by omega)
        clear hn4 hkn hn1 hbl hbl2 HM HW
        go_wp2
        go_ret2
        exact ⟨rfl, .inr ⟨k, ⟨hk1, by rw [HN.out]; exact HBD.out.2.1, hA.out, .inl (by rw [HN.out]; exact hkn2.out)⟩, by rw [HN.out]; rfl⟩⟩
/-- What Wide says: the width of what the library decodes; 0 where that is ill-formed. -/
def wideV (l : List UInt8) (i : Nat) : Int := if decodeL (l.drop i) = (65533, 1) ∧ 128 ≤ (l.getD i 0).toNat then 0 else (wid l i : Int)
theorem wide_some {l : List UInt8} {i k : Nat} (hi : i < l.length) (h : Begun l i k) (hk : (k : Int) = leadN (by_ l i)) : wideV l i = (k : Int) := by
  obtain ⟨h1, h2, _⟩ := begun_all hi h hk
  unfold wideV
  rw [if_neg, h1]
  rintro ⟨e1, e2⟩
  have e3 : wid l i = 1 := congrArg Prod.snd e1
  have := (h2 (by omega)).1
  omega
theorem wide_none {l : List UInt8} {i : Nat} (hi : i < l.length) (h : leadN (by_ l i) = 0 ∨ ∃ k, Begun l i k ∧ (k : Int) ≠ leadN (by_ l i)) : wideV l i = 0 := by
  unfold wideV
  rw [if_pos (begun_not hi h)]
theorem begun_two (s : ByteArray) (i : Nat) (hs : s.size ≤ 1048576) (hi : i < s.size) (W : World) : Calls Tryz.prog 150 #[.string s, .int .i64 (i : Int)] W fun e w' => ∃ a b, e = .returned (.tuple #[.int .i64 a, .int .i64 b]) ∧ Hid ((a = b → wideV s.data.toList i = b) ∧ (a ≠ b → wideV s.data.toList i = 0)) ∧ W = w' := by
  have hil : i < s.data.toList.length := by rw [← Lib.size_eq]; exact hi
  refine (begun_calls s i hs hi W).mono ?_
  rintro e w' ⟨rfl, (⟨h, rfl⟩ | ⟨k, h, rfl⟩)⟩
  · exact ⟨0, 0, rfl, Lib.hid ⟨fun _ => wide_none hil (.inl h), fun h => absurd rfl h⟩, rfl⟩
  · exact ⟨_, _, rfl, Lib.hid ⟨fun e => by rw [wide_some hil h e, e], fun e => wide_none hil (.inr ⟨k, h, e⟩)⟩, rfl⟩
set_option maxHeartbeats 1000000 in
theorem wide_calls (s : ByteArray) (i : Nat) (hs : s.size ≤ 1048576) (hi : i < s.size) (W : World) : Calls Tryz.prog 132 #[.string s, .int .i64 (i : Int)] W fun e w' => e = .returned (.int .i64 (wideV s.data.toList i)) ∧ W = w' := by
  have HB := Lib.hid (begun_two s i hs hi W)
  go_enter Tryz.func132, Tryz.ntmps132
  go_wp2_with (go_at_call 150; (refine HB.out.mono ?_); rintro e w' ⟨a, b, rfl, hab, rfl⟩)
  all_goals go_ret
  · rename_i h
    exact ⟨by rw [hab.out.2 (by simpa using h)]; rfl, rfl⟩
  · rename_i h
    exact ⟨by rw [hab.out.1 (by simpa using h)]; rfl, rfl⟩
theorem w32 (n : Int) (h0 : -2147483648 ≤ n) (h1 : n ≤ 2147483647) : wrap32 n = n := by unfold wrap32; omega
/-! ### number -/
def numB (bs : Nat → Int) (n : Nat) : Nat → Int
  | 0 => 0
  | k + 1 => if n = 1 then bs k else if 0 < k then numB bs n k * 64 + bs k % 64 else if n = 2 then bs k % 32 else if n = 3 then bs k % 16 else bs k % 8
theorem numB_one (bs : Nat → Int) (n : Nat) (h : n ≠ 1) : numB bs n 1 = if n = 2 then bs 0 % 32 else if n = 3 then bs 0 % 16 else bs 0 % 8 := by simp [numB, h]
theorem numB_more (bs : Nat → Int) (n k : Nat) (h : n ≠ 1) (hk : 0 < k) : numB bs n (k + 1) = numB bs n k * 64 + bs k % 64 := by
  rw [numB, if_neg h, if_pos hk]
theorem numB_le {bs : Nat → Int} (h : ∀ j, 0 ≤ bs j ∧ bs j ≤ 255) {n : Nat} (hn : n ≤ 4) (hn1 : 1 ≤ n) : ∀ k, k < n → 0 ≤ numB bs n k ∧ numB bs n k ≤ 65535
  | 0, _ => by simp [numB]
  | 1, hk => by
    have := h 0
    rw [numB_one _ _ (by omega)]
    repeat' split
    all_goals omega
  | 2, hk => by
    have h0 := h 0
    have h1 := h 1
    rw [numB_more bs n 1 (by omega) (by omega), numB_one _ _ (by omega), if_neg (by omega)]
    split <;> omega
  | 3, hk => by
    have h0 := h 0
    have h1 := h 1
    have h2 := h 2
    rw [numB_more bs n 2 (by omega) (by omega), numB_more bs n 1 (by omega) (by omega), numB_one _ _ (by omega), if_neg (by omega), if_neg (by omega)]
    omega
  | k + 4, hk => by omega
set_option maxHeartbeats 4000000 in
set_option maxRecDepth 100000 in
theorem number_calls (t : ByteArray) (h1 : 1 ≤ t.size) (h4 : t.size ≤ 4) (W : World) : Calls Tryz.prog 133 #[.string t] W fun e w' => e = .returned (.int .i32 (numB (by_ t.data.toList) t.size t.size)) ∧ W = w' := by
  have hbl : ∀ j, 0 ≤ by_ t.data.toList j ∧ by_ t.data.toList j ≤ 255 := fun j => by unfold by_; have := (t.data.toList.getD j 0).toNat_lt; omega
  have HBL := Lib.hid hbl
  have h4z : (t.size : Int) ≤ 4 := by omega
  have HNB := Lib.hid (fun k hk => numB_le hbl h4 h1 k hk)
  obtain ⟨c1, f1⟩ : ∃ b, ((t.size : Int) == (1 : Int)) = b := ⟨_, rfl⟩
  obtain ⟨c2, f2⟩ : ∃ b, ((t.size : Int) == (2 : Int)) = b := ⟨_, rfl⟩
  obtain ⟨c3, f3⟩ : ∃ b, ((t.size : Int) == (3 : Int)) = b := ⟨_, rfl⟩
  have H1 := Lib.hid f1
  have H2 := Lib.hid f2
  have H3 := Lib.hid f3
  clear hbl
  cases c1 <;> cases c2 <;> cases c3
  all_goals first
    | (exfalso; simp only [beq_iff_eq, beq_eq_false_iff_ne, ne_eq] at f1 f2 f3; omega)
    | skip
  all_goals
    go_enter Tryz.func133, Tryz.ntmps133
    go_wp2
    go_loop [3, 4] (fun v f => ∃ k : Nat, f = .int .i64 (k : Int) ∧ k ≤ t.size ∧ ∃ z, v = .int .i32 z ∧ Hid (z = numB (by_ t.data.toList) t.size k)) (fun _ f => t.size - (intOf f).toNat)
    case atStart => exact ⟨0, rfl, Nat.zero_le _, 0, rfl, Lib.hid rfl⟩
    case round =>
      obtain ⟨k, rfl, hk, z, rfl, hz⟩ := hrel
      by_cases hlt : k < t.size
      · have hltz : (k : Int) < (t.size : Int) := by omega
        have hby := Lib.hid (byte_at t k hlt)
        have hzb := HNB.out k hlt
        rw [← hz.out] at hzb
        obtain ⟨hzb0, hzb1⟩ := hzb
        by_cases hk0 : 0 < k
        · have hk0z : decide ((0 : Int) < (k : Int)) = true := decide_eq_true (by omega)
          go_wp2
          go_round
          case rel =>
            refine ⟨k + 1, by go_num, by omega, _, rfl, Lib.hid ?_⟩
            have g1 := H1.out
            have g2 := H2.out
            have g3 := H3.out
            simp only [beq_iff_eq, beq_eq_false_iff_ne, ne_eq] at g1 g2 g3
            have hbb : (0 : Int) ≤ ((t[k]'hlt).toNat : Int) ∧ ((t[k]'hlt).toNat : Int) ≤ 255 := by have := (t[k]'hlt).toNat_lt; omega
            have hby2 := hby.out
            have hzz := hz.out
            generalize ((t[k]'hlt).toNat : Int) = bv at *
            simp only [w32 bv (by omega) (by omega), Int.tmod_eq_emod_of_nonneg hbb.1]
            rw [numB, ← hzz, ← hby2]
            first
              | rw [w32 _ (by omega) (by omega)]
              | skip
            repeat' split
            all_goals first | rfl | (exfalso; omega)
          case measure => simp [intOf]; omega
        · have hk0z : decide ((0 : Int) < (k : Int)) = false := decide_eq_false (by omega)
          go_wp2
          go_round
          case rel =>
            refine ⟨k + 1, by go_num, by omega, _, rfl, Lib.hid ?_⟩
            have g1 := H1.out
            have g2 := H2.out
            have g3 := H3.out
            simp only [beq_iff_eq, beq_eq_false_iff_ne, ne_eq] at g1 g2 g3
            have hbb : (0 : Int) ≤ ((t[k]'hlt).toNat : Int) ∧ ((t[k]'hlt).toNat : Int) ≤ 255 := by have := (t[k]'hlt).toNat_lt; omega
            have hby2 := hby.out
            have hzz := hz.out
            generalize ((t[k]'hlt).toNat : Int) = bv at *
            simp only [w32 bv (by omega) (by omega), Int.tmod_eq_emod_of_nonneg hbb.1]
            rw [numB, ← hzz, ← hby2]
            first
              | rw [w32 _ (by omega) (by omega)]
              | skip
            repeat' split
            all_goals first | rfl | (exfalso; omega)
          case measure => simp [intOf]; omega
      · have hke : k = t.size := by omega
        have HZ := Lib.hid hz.out
        rw [hke] at HZ
        have hltz : decide ((k : Int) < (t.size : Int)) = false := decide_eq_false (by omega)
        clear hke
        go_wp2
        go_ret
        exact ⟨by rw [HZ.out]; rfl, rfl⟩

/-! ### Decode -/
theorem ext_mid (s : ByteArray) (a b : Nat) : (s.extract a b).data.toList = (s.data.toList.drop a).take (b - a) := by rw [Lib.extract_data]
theorem number_same {l : List UInt8} {i : Nat} (hi : i < l.length) (hv : ¬ (decodeL (l.drop i) = (65533, 1) ∧ 128 ≤ (l.getD i 0).toNat)) : numB (by_ ((l.drop i).take (wid l i))) (wid l i) (wid l i) = (run l i : Int) ∧ 1 ≤ wid l i ∧ wid l i ≤ 4 := by
  have hle := wid_le hi
  have hp := wid_pos l i
  have hg : ∀ j, j < wid l i → by_ ((l.drop i).take (wid l i)) j = by_ l (i + j) := fun j hj => by
    unfold by_
    rw [getD_takeU _ _ _ hj, getD_dropU]
  have k0 := (l.getD i 0).toNat_lt
  by_cases hw : wid l i = 1
  · rcases one hw with ⟨h1, h2⟩ | ⟨h1, h2⟩
    · rw [hw] at hg ⊢
      refine ⟨?_, Nat.le_refl _, by omega⟩
      unfold numB
      rw [if_pos rfl, hg 0 (by omega)]
      unfold run by_
      rw [h2]
      rfl
    · exact absurd ⟨h2, h1⟩ hv
  · have hw2 : 1 < wid l i := by omega
    obtain ⟨_, h4, _, _, _⟩ := wide hw2
    have hd := wid_at l i
    have hwd : wid l i = (decodeN (l.length - i) (l.getD i 0).toNat (l.getD (i + 1) 0).toNat (l.getD (i + 2) 0).toNat (l.getD (i + 3) 0).toNat).2 := congrArg Prod.snd hd
    have hrd : run l i = (decodeN (l.length - i) (l.getD i 0).toNat (l.getD (i + 1) 0).toNat (l.getD (i + 2) 0).toNat (l.getD (i + 3) 0).toNat).1 := congrArg Prod.fst hd
    refine ⟨?_, hp, h4⟩
    rw [hrd]
    rcases decodeN_shape (l.length - i) (l.getD i 0).toNat (l.getD (i + 1) 0).toNat (l.getD (i + 2) 0).toNat (l.getD (i + 3) 0).toNat with ⟨c, e⟩ | ⟨c1, c2, c3, cv, e⟩ | ⟨c1, c2, c3, c4, cv, cs, e⟩ | ⟨c1, c2, c3, c4, c5, cv, cw, e⟩ | e
    · rw [e] at hwd; simp at hwd; omega
    · rw [e] at hwd ⊢
      simp only at hwd
      have g0 := hg 0 (by omega)
      have g1 := hg 1 (by omega)
      rw [hwd] at g0 g1 ⊢
      rw [numB_more _ _ 1 (by omega) (by omega), numB_one _ _ (by omega), if_pos rfl, g0, g1]
      unfold by_
      simp only [Nat.add_zero]
      omega
    · rw [e] at hwd ⊢
      simp only at hwd
      have g0 := hg 0 (by omega)
      have g1 := hg 1 (by omega)
      have g2 := hg 2 (by omega)
      rw [hwd] at g0 g1 g2 ⊢
      rw [numB_more _ _ 2 (by omega) (by omega), numB_more _ _ 1 (by omega) (by omega), numB_one _ _ (by omega), if_neg (by omega), if_pos rfl, g0, g1, g2]
      unfold by_
      simp only [Nat.add_zero]
      omega
    · rw [e] at hwd ⊢
      simp only at hwd
      have g0 := hg 0 (by omega)
      have g1 := hg 1 (by omega)
      have g2 := hg 2 (by omega)
      have g3 := hg 3 (by omega)
      rw [hwd] at g0 g1 g2 g3 ⊢
      rw [numB_more _ _ 3 (by omega) (by omega), numB_more _ _ 2 (by omega) (by omega), numB_more _ _ 1 (by omega) (by omega), numB_one _ _ (by omega), if_neg (by omega), if_neg (by omega), g0, g1, g2, g3]
      unfold by_
      simp only [Nat.add_zero]
      omega
    · rw [e] at hwd; simp at hwd; omega
set_option maxHeartbeats 2000000 in
theorem Decode_calls (s : ByteArray) (i : Nat) (hs : s.size ≤ 1048576) (hi : i < s.size) (W : World) : Calls Tryz.prog 101 #[.string s, .int .i64 (i : Int)] W fun e w' => e = .returned (.tuple #[.int .i32 (run s.data.toList i : Nat), .int .i64 (wid s.data.toList i : Nat)]) ∧ W = w' := by
  have hil : i < s.data.toList.length := by rw [← Lib.size_eq]; exact hi
  have hiz : ¬ (s.size : Int) ≤ (i : Int) := by omega
  have HW := Lib.hid (wide_calls s i hs hi W)
  by_cases hv : decodeL (s.data.toList.drop i) = (65533, 1) ∧ 128 ≤ (s.data.toList.getD i 0).toNat
  · have e1 : wideV s.data.toList i = 0 := by unfold wideV; rw [if_pos hv]
    have e2 : run s.data.toList i = 65533 := congrArg Prod.fst hv.1
    have e3 : wid s.data.toList i = 1 := congrArg Prod.snd hv.1
    rw [e1] at HW
    rw [e2, e3]
    clear e1 e2 e3 hv
    go_enter Tryz.func101, Tryz.ntmps101
    go_wp2_with (go_at_call 132; (refine HW.out.mono ?_); rintro e w' ⟨rfl, rfl⟩)
    go_ret2
    exact ⟨rfl, rfl⟩
  · have e1 : wideV s.data.toList i = (wid s.data.toList i : Int) := by unfold wideV; rw [if_neg hv]
    obtain ⟨n1, n2, n3⟩ := number_same hil hv
    rw [e1] at HW
    have hle := wid_le hil
    rw [← Lib.size_eq] at hle
    have hex : (s.extract i (i + wid s.data.toList i)).data.toList = (s.data.toList.drop i).take (wid s.data.toList i) := by rw [ext_mid, Nat.add_sub_cancel_left]
    have hsz : (s.extract i (i + wid s.data.toList i)).size = wid s.data.toList i := by
      rw [Lib.size_eq, hex, List.length_take, List.length_drop, ← Lib.size_eq]; omega
    have HN := Lib.hid (number_calls (s.extract i (i + wid s.data.toList i)) (by rw [hsz]; exact n2) (by rw [hsz]; exact n3) W)
    rw [hsz, hex, n1] at HN
    clear e1 hv n1 hex hsz
    generalize wid s.data.toList i = K at *
    generalize (run s.data.toList i : Int) = r at *
    have hKz : ((K : Int) == 0) = false := beq_eq_false_iff_ne.2 (by omega)
    have hb1 : (i : Int) + (K : Int) ≤ (s.size : Int) := by omega
    have hb2 : (i : Int) ≤ (i : Int) + (K : Int) := by omega
    have hb3 : (0 : Int) ≤ (i : Int) + (K : Int) := by omega
    go_enter Tryz.func101, Tryz.ntmps101
    go_wp2_with (first
      | (go_at_call 132; (refine HW.out.mono ?_); rintro e w' ⟨rfl, rfl⟩)
      | (go_at_call 133; (refine HN.out.mono ?_); rintro e w' ⟨rfl, rfl⟩))
    go_ret2
    exact ⟨rfl, rfl⟩
end Go.Proofs.YtfmcadobpgpajaaGreatDoor.Ru
