/- The reference's characters, numbers, points: the walks. -/
import Derived.Test.YtikpkjpnehkbfaaGreatDoorBTell
import Derived.Lib.Strings
namespace Go.Proofs.YtikpkjpnehkbfaaGreatDoor.Rf
open Go Go.RowKit Go.Shelf Go.Proofs.YtikpkjpnehkbfaaGreatDoor.Sp
set_option linter.unusedSimpArgs false

theorem syl_calls (r : Int) (w : World) : Calls Tryz.prog 101 #[.int .i64 r] w fun e w' => e = .returned (.bool (isSyl r)) ∧ w' = w := by
  by_cases h1 : 44032 ≤ r
  · by_cases h2 : r < 55204
    · have hr : isSyl r = true := by simp [isSyl, h1, h2]
      rw [hr]
      have h2' : r ≤ 55203 := by omega
      go_enter Tryz.func101, Tryz.ntmps101
      go_wp2
      go_ret
      exact ⟨rfl, rfl⟩
    · have hr : isSyl r = false := by simp [isSyl, h2]
      rw [hr]
      have h2' : ¬ r ≤ 55203 := by omega
      go_enter Tryz.func101, Tryz.ntmps101
      go_wp2
      go_ret
      exact ⟨rfl, rfl⟩
  · have hr : isSyl r = false := by simp [isSyl, h1]
    rw [hr]
    have h1' : r < 44032 := by omega
    go_enter Tryz.func101, Tryz.ntmps101
    go_wp2
    go_ret
    exact ⟨rfl, rfl⟩
theorem char_calls (r : Int) (w : World) : Calls Tryz.prog 100 #[.int .i64 r] w fun e w' => e = .returned (.bool (isChar r)) ∧ w' = w := by
  by_cases h1 : 0 ≤ r
  · by_cases h2 : r ≤ 1114111
    · by_cases h3 : r < 55296
      · have hr : isChar r = true := by simp [isChar, h1, h2, h3]
        rw [hr]
        go_enter Tryz.func100, Tryz.ntmps100
        go_wp2
        go_ret
        exact ⟨rfl, rfl⟩
      · by_cases h4 : 57343 < r
        · have hr : isChar r = true := by simp [isChar, h1, h2, h4]
          rw [hr]
          have h3' : 55296 ≤ r := by omega
          go_enter Tryz.func100, Tryz.ntmps100
          go_wp2
          go_ret
          exact ⟨rfl, rfl⟩
        · have hr : isChar r = false := by simp [isChar, h3, h4]
          rw [hr]
          have h3' : 55296 ≤ r := by omega
          have h4' : r ≤ 57343 := by omega
          go_enter Tryz.func100, Tryz.ntmps100
          go_wp2
          go_ret
          exact ⟨rfl, rfl⟩
    · have hr : isChar r = false := by simp [isChar, h2]
      rw [hr]
      have h2' : 1114111 < r := by omega
      go_enter Tryz.func100, Tryz.ntmps100
      go_wp2
      go_ret
      exact ⟨rfl, rfl⟩
  · have hr : isChar r = false := by simp [isChar, h1]
    rw [hr]
    have h1' : r < 0 := by omega
    go_enter Tryz.func100, Tryz.ntmps100
    go_wp2
    go_ret
    exact ⟨rfl, rfl⟩
theorem jamo_cases (r : Int) : (isJamo r = true ∧ ((4352 ≤ r ∧ r ≤ 4370) ∨ (4449 ≤ r ∧ r ≤ 4469) ∨ (4520 ≤ r ∧ r ≤ 4546))) ∨ (isJamo r = false ∧ (r < 4352 ∨ (4370 < r ∧ r < 4449) ∨ (4469 < r ∧ r < 4520) ∨ 4546 < r)) := by
  by_cases h : isJamo r = true
  · refine .inl ⟨h, ?_⟩
    simp [isJamo] at h
    omega
  · refine .inr ⟨by simpa using h, ?_⟩
    simp [isJamo] at h
    omega
theorem jam_calls (r : Int) (w : World) : Calls Tryz.prog 102 #[.int .i64 r] w fun e w' => e = .returned (.bool (isJamo r)) ∧ w' = w := by
  have hj := jamo_cases r
  by_cases a1 : 4352 ≤ r <;> by_cases a2 : r ≤ 4370 <;> by_cases a3 : 4449 ≤ r <;> by_cases a4 : r ≤ 4469 <;> by_cases a5 : 4520 ≤ r <;> by_cases a6 : r ≤ 4546
  all_goals try (exfalso; omega)
  all_goals
    rcases hj with ⟨hr, hj⟩ | ⟨hr, hj⟩
    all_goals try (exfalso; omega)
  all_goals
    rw [hr]
    clear hr hj
    go_enter Tryz.func102, Tryz.ntmps102
    go_wp2
    go_ret
    exact ⟨rfl, rfl⟩

/-! ### number -/
set_option maxRecDepth 100000 in
theorem hex_tab : ∀ n, n < 256 → ∀ (j : Nat) (h : j < 16), (hexVal (UInt8.ofNat n) = some j ↔ (UInt8.ofNat n = (⟨#[48, 49, 50, 51, 52, 53, 54, 55, 56, 57, 97, 98, 99, 100, 101, 102]⟩ : ByteArray)[j]'h ∨ UInt8.ofNat n = (⟨#[48, 49, 50, 51, 52, 53, 54, 55, 56, 57, 65, 66, 67, 68, 69, 70]⟩ : ByteArray)[j]'h)) := by decide +kernel
theorem hex_at (c : UInt8) (j : Nat) (h : j < 16) : hexVal c = some j ↔ (c = (⟨#[48, 49, 50, 51, 52, 53, 54, 55, 56, 57, 97, 98, 99, 100, 101, 102]⟩ : ByteArray)[j]'h ∨ c = (⟨#[48, 49, 50, 51, 52, 53, 54, 55, 56, 57, 65, 66, 67, 68, 69, 70]⟩ : ByteArray)[j]'h) := by
  have := hex_tab c.toNat c.toNat_lt j h
  rwa [UInt8.ofNat_toNat] at this
theorem hex_lt {c : UInt8} {v : Nat} (h : hexVal c = some v) : v < 16 := by
  unfold hexVal at h
  split at h
  · rename_i h1
    have h2 : c.toNat ≤ 57 := UInt8.le_iff_toNat_le.1 h1.2
    injection h with h; omega
  · split at h
    · rename_i h1
      have h2 : c.toNat ≤ 102 := UInt8.le_iff_toNat_le.1 h1.2
      injection h with h; omega
    · split at h
      · rename_i h1
        have h2 : c.toNat ≤ 70 := UInt8.le_iff_toNat_le.1 h1.2
        injection h with h; omega
      · cases h
/-- What the digits ahead of j say of a byte. -/
def dAt (c : UInt8) (j : Nat) : Int := match hexVal c with | some v => if v < j then v else -1 | none => -1
theorem dAt_zero (c : UInt8) : dAt c 0 = -1 := by
  unfold dAt
  split <;> rfl
theorem dAt_hit {c : UInt8} {j : Nat} (h : hexVal c = some j) : dAt c (j + 1) = j := by
  unfold dAt
  rw [h]
  simp
theorem dAt_miss {c : UInt8} {j : Nat} (h : hexVal c ≠ some j) : dAt c (j + 1) = dAt c j := by
  unfold dAt
  split
  · rename_i v hv
    have : v ≠ j := fun e => h (by rw [hv, e])
    by_cases h1 : v < j
    · rw [if_pos h1, if_pos (by omega)]
    · rw [if_neg h1, if_neg (by omega)]
  · rfl
/-- Digits to a base. -/
def numGo (base : Nat) : Bytes → Nat → Option Nat
  | [], n => some n
  | c :: l, n => match hexVal c with | none => none | some d => if d < base then numGo base l (base * n + d) else none
def numB (base : Nat) (l : Bytes) (least most : Nat) : Int := if least ≤ l.length ∧ l.length ≤ most then (match numGo base l 0 with | some n => n | none => -1) else -1
theorem numGo_snoc (base : Nat) : ∀ (l : Bytes) (c : UInt8) (n : Nat), numGo base (l ++ [c]) n = (numGo base l n).bind fun m => numGo base [c] m
  | [], c, n => rfl
  | b :: l, c, n => by
    simp only [List.cons_append, numGo]
    cases hexVal b with
    | none => rfl
    | some d =>
      simp only
      by_cases h : d < base
      · rw [if_pos h, if_pos h]; exact numGo_snoc base l c _
      · rw [if_neg h, if_neg h]; rfl
theorem numGo_le (base : Nat) (hb : 1 ≤ base) : ∀ (l : Bytes) (n m : Nat), numGo base l n = some m → m < base ^ l.length * (n + 1)
  | [], n, m, h => by simp only [numGo, Option.some.injEq] at h; simp; omega
  | b :: l, n, m, h => by
    simp only [numGo] at h
    cases hv : hexVal b with
    | none => rw [hv] at h; cases h
    | some d =>
      rw [hv] at h
      simp only at h
      by_cases hd : d < base
      · rw [if_pos hd] at h
        have := numGo_le base hb l _ m h
        rw [List.length_cons, Nat.pow_succ]
        refine Nat.lt_of_lt_of_le this ?_
        rw [Nat.mul_assoc]
        refine Nat.mul_le_mul_left _ ?_
        rw [Nat.mul_add]
        omega
      · rw [if_neg hd] at h; cases h
theorem numGo_none (base : Nat) {l m : Bytes} {n : Nat} (h : numGo base l n = none) : numGo base (l ++ m) n = none := by
  induction m generalizing l with
  | nil => simpa using h
  | cons c m ih =>
    rw [show l ++ c :: m = (l ++ [c]) ++ m by simp]
    refine ih ?_
    rw [numGo_snoc, h]
    rfl
theorem take_at' (s : ByteArray) (k : Nat) (h : k < s.size) : s.data.toList.take (k + 1) = s.data.toList.take k ++ [s[k]] := by
  rw [List.take_succ_eq_append_getElem (by simpa using h)]; rfl
set_option maxHeartbeats 4000000 in
set_option maxRecDepth 100000 in
theorem number16_calls (s : ByteArray) (least : Nat) (w : World) : Calls Tryz.prog 128 #[.string s, .int .i64 16, .int .i64 least, .int .i64 6] w fun e w' => e = .returned (.int .i64 (numB 16 s.data.toList least 6)) ∧ Below w.heap.size w w' := by
  have hsz := Lib.size_eq s
  by_cases h1 : least ≤ s.size
  · by_cases h2 : s.size ≤ 6
    · have HF : Hid (numB 16 s.data.toList least 6 = (match numGo 16 s.data.toList 0 with | some n => (n : Int) | none => -1)) := Lib.hid (by unfold numB; rw [if_pos (by omega)])
      have hbig : ∀ l : Bytes, l.length ≤ 6 → ∀ m, numGo 16 l 0 = some m → m < 1000000000000000000 := by
        intro l hl m hm'
        have := numGo_le 16 (by decide) l 0 m hm'
        exact Nat.lt_of_lt_of_le this (by have := Nat.pow_le_pow_right (show 0 < 16 by omega) hl; simp at this ⊢; omega)
      have HB := Lib.hid hbig
      clear hbig hsz
      go_enter Tryz.func128, Tryz.ntmps128
      go_wp2
      go_loopw [9, 10] (fun vn vi wr => ∃ (k n : Nat), vi = .int .i64 k ∧ vn = .int .i64 n ∧ k ≤ s.size ∧ n < 1000000000000000000 ∧ Hid (numGo 16 (s.data.toList.take k) 0 = some n) ∧ Hid (Below w.heap.size w wr)) (fun _ vi _ => s.size - (intOf vi).toNat)
      case atStart => exact ⟨0, 0, rfl, rfl, by omega, by omega, Lib.hid rfl, Lib.hid (Below.refl _ _)⟩
      case round =>
        obtain ⟨k, n, rfl, rfl, hk, hn1, HN, HW⟩ := hrel
        by_cases hlt : k < s.size
        · go_wp2
          go_loopw [11, 12] (fun vd vj wq => ∃ (j : Nat), vj = .int .i64 j ∧ vd = .int .i64 (dAt s[k] j) ∧ j ≤ 16 ∧ Hid (Below w.heap.size w wq)) (fun _ vj _ => 16 - (intOf vj).toNat)
          case atStart => exact ⟨0, rfl, by rw [dAt_zero], by omega, HW⟩
          case round =>
            obtain ⟨j, rfl, rfl, hj, HW2⟩ := hrel
            by_cases hjb : j < 16
            · have hj16 : (j : Int) < 16 := by omega
              have hj17 : j < 16 := by omega
              by_cases k1 : s[k] = (⟨#[48, 49, 50, 51, 52, 53, 54, 55, 56, 57, 97, 98, 99, 100, 101, 102]⟩ : ByteArray)[j]'hj17
              · have e1 : ((s[k].toNat : Int) == (((⟨#[48, 49, 50, 51, 52, 53, 54, 55, 56, 57, 97, 98, 99, 100, 101, 102]⟩ : ByteArray)[j]'hj17).toNat : Int)) = true := by rw [k1]; simp
                have HD := Lib.hid (dAt_hit ((hex_at s[k] j hj17).2 (.inl k1)))
                clear k1
                go_wp2
                go_region
                go_wp2
                refine ⟨⟨j + 1, by go_num, by rw [HD.out], by omega, Lib.hid ((HW2.out).trans ⟨rfl, rfl, rfl, Nat.le_refl _, fun _ _ => rfl⟩)⟩, ?_⟩
                simp [intOf]
                omega
              · by_cases k2 : s[k] = (⟨#[48, 49, 50, 51, 52, 53, 54, 55, 56, 57, 65, 66, 67, 68, 69, 70]⟩ : ByteArray)[j]'hj17
                · have e1 : ((s[k].toNat : Int) == (((⟨#[48, 49, 50, 51, 52, 53, 54, 55, 56, 57, 97, 98, 99, 100, 101, 102]⟩ : ByteArray)[j]'hj17).toNat : Int)) = false := beq_eq_false_iff_ne.2 (fun e => k1 (UInt8.toNat_inj.1 (by omega)))
                  have e2 : ((s[k].toNat : Int) == (((⟨#[48, 49, 50, 51, 52, 53, 54, 55, 56, 57, 65, 66, 67, 68, 69, 70]⟩ : ByteArray)[j]'hj17).toNat : Int)) = true := by rw [k2]; simp
                  have HD := Lib.hid (dAt_hit ((hex_at s[k] j hj17).2 (.inr k2)))
                  clear k1 k2
                  go_wp2
                  go_region
                  go_wp2
                  refine ⟨⟨j + 1, by go_num, by rw [HD.out], by omega, Lib.hid ((HW2.out).trans ⟨rfl, rfl, rfl, Nat.le_refl _, fun _ _ => rfl⟩)⟩, ?_⟩
                  simp [intOf]
                  omega
                · have e1 : ((s[k].toNat : Int) == (((⟨#[48, 49, 50, 51, 52, 53, 54, 55, 56, 57, 97, 98, 99, 100, 101, 102]⟩ : ByteArray)[j]'hj17).toNat : Int)) = false := beq_eq_false_iff_ne.2 (fun e => k1 (UInt8.toNat_inj.1 (by omega)))
                  have e2 : ((s[k].toNat : Int) == (((⟨#[48, 49, 50, 51, 52, 53, 54, 55, 56, 57, 65, 66, 67, 68, 69, 70]⟩ : ByteArray)[j]'hj17).toNat : Int)) = false := beq_eq_false_iff_ne.2 (fun e => k2 (UInt8.toNat_inj.1 (by omega)))
                  have HD := Lib.hid (dAt_miss (fun h => by rcases (hex_at s[k] j hj17).1 h with h | h; exact k1 h; exact k2 h))
                  clear k1 k2
                  go_wp2
                  go_region
                  go_wp2
                  refine ⟨⟨j + 1, by go_num, by rw [HD.out], by omega, Lib.hid ((HW2.out).trans ⟨rfl, rfl, rfl, Nat.le_refl _, fun _ _ => rfl⟩)⟩, ?_⟩
                  simp [intOf]
                  omega
            · have hje : j = 16 := by omega
              subst hje
              cases hv : hexVal s[k] with
              | none =>
                have hd : dAt s[k] 16 = -1 := by unfold dAt; rw [hv]
                have HR : Hid (numB 16 s.data.toList least 6 = -1) := Lib.hid (by
                  rw [HF.out]
                  have e : numGo 16 (s.data.toList.take (k + 1)) 0 = none := by rw [take_at' s k hlt, numGo_snoc, HN.out]; simp [numGo, hv]
                  have := numGo_none 16 (m := s.data.toList.drop (k + 1)) e
                  rw [List.take_append_drop] at this
                  rw [this])
                rw [hd]
                clear hd hv
                go_wp2
                go_ret
                rw [HR.out]
                exact ⟨rfl, HW2.out⟩
              | some v =>
                by_cases hvb : v < 16
                · have hd : dAt s[k] 16 = v := by unfold dAt; rw [hv]; simp [hvb]
                  have HN2 : Hid (numGo 16 (s.data.toList.take (k + 1)) 0 = some (16 * n + v)) := Lib.hid (by rw [take_at' s k hlt, numGo_snoc, HN.out]; simp [numGo, hv, hvb])
                  have hn2 := HB.out (s.data.toList.take (k + 1)) (by rw [List.length_take]; omega) _ HN2.out
                  rw [hd]
                  clear hd hv
                  go_wp2
                  refine ⟨⟨k + 1, 16 * n + v, by go_num, by simp, by omega, hn2, HN2, HW2⟩, ?_⟩
                  simp [intOf]
                  omega
                · have hd : dAt s[k] 16 = -1 := by unfold dAt; rw [hv]; simp [hvb]
                  have HR : Hid (numB 16 s.data.toList least 6 = -1) := Lib.hid (by
                    rw [HF.out]
                    have e : numGo 16 (s.data.toList.take (k + 1)) 0 = none := by rw [take_at' s k hlt, numGo_snoc, HN.out]; simp [numGo, hv, hvb]
                    have := numGo_none 16 (m := s.data.toList.drop (k + 1)) e
                    rw [List.take_append_drop] at this
                    rw [this])
                  rw [hd]
                  clear hd hv
                  go_wp2
                  go_ret
                  rw [HR.out]
                  exact ⟨rfl, HW2.out⟩
        · have hke : k = s.size := by omega
          subst hke
          have HR : Hid (numB 16 s.data.toList least 6 = n) := Lib.hid (by
            rw [HF.out]
            have := HN.out
            rw [List.take_of_length_le (by rw [Lib.size_eq]; exact Nat.le_refl _)] at this
            rw [this])
          go_wp2
          go_ret
          rw [HR.out]
          exact ⟨rfl, HW.out⟩
    · have HR : Hid (numB 16 s.data.toList least 6 = -1) := Lib.hid (by unfold numB; rw [if_neg (by omega)])
      have h2' : 6 < s.size := by omega
      clear hsz
      have h2'' : (6 : Int) < (s.size : Int) := by omega
      go_enter Tryz.func128, Tryz.ntmps128
      go_wp2
      go_ret
      rw [HR.out]
      exact ⟨rfl, Below.refl _ _⟩
  · have HR : Hid (numB 16 s.data.toList least 6 = -1) := Lib.hid (by unfold numB; rw [if_neg (by omega)])
    have h1' : s.size < least := by omega
    clear hsz
    go_enter Tryz.func128, Tryz.ntmps128
    go_wp2
    go_ret
    rw [HR.out]
    exact ⟨rfl, Below.refl _ _⟩
set_option maxHeartbeats 4000000 in
set_option maxRecDepth 100000 in
theorem number10_calls (s : ByteArray) (least : Nat) (w : World) : Calls Tryz.prog 128 #[.string s, .int .i64 10, .int .i64 least, .int .i64 18] w fun e w' => e = .returned (.int .i64 (numB 10 s.data.toList least 18)) ∧ Below w.heap.size w w' := by
  have hsz := Lib.size_eq s
  by_cases h1 : least ≤ s.size
  · by_cases h2 : s.size ≤ 18
    · have HF : Hid (numB 10 s.data.toList least 18 = (match numGo 10 s.data.toList 0 with | some n => (n : Int) | none => -1)) := Lib.hid (by unfold numB; rw [if_pos (by omega)])
      have hbig : ∀ l : Bytes, l.length ≤ 18 → ∀ m, numGo 10 l 0 = some m → m < 1000000000000000000 := by
        intro l hl m hm'
        have := numGo_le 10 (by decide) l 0 m hm'
        exact Nat.lt_of_lt_of_le this (by have := Nat.pow_le_pow_right (show 0 < 10 by omega) hl; simp at this ⊢; omega)
      have HB := Lib.hid hbig
      clear hbig hsz
      go_enter Tryz.func128, Tryz.ntmps128
      go_wp2
      go_loopw [9, 10] (fun vn vi wr => ∃ (k n : Nat), vi = .int .i64 k ∧ vn = .int .i64 n ∧ k ≤ s.size ∧ n < 1000000000000000000 ∧ Hid (numGo 10 (s.data.toList.take k) 0 = some n) ∧ Hid (Below w.heap.size w wr)) (fun _ vi _ => s.size - (intOf vi).toNat)
      case atStart => exact ⟨0, 0, rfl, rfl, by omega, by omega, Lib.hid rfl, Lib.hid (Below.refl _ _)⟩
      case round =>
        obtain ⟨k, n, rfl, rfl, hk, hn1, HN, HW⟩ := hrel
        by_cases hlt : k < s.size
        · go_wp2
          go_loopw [11, 12] (fun vd vj wq => ∃ (j : Nat), vj = .int .i64 j ∧ vd = .int .i64 (dAt s[k] j) ∧ j ≤ 10 ∧ Hid (Below w.heap.size w wq)) (fun _ vj _ => 10 - (intOf vj).toNat)
          case atStart => exact ⟨0, rfl, by rw [dAt_zero], by omega, HW⟩
          case round =>
            obtain ⟨j, rfl, rfl, hj, HW2⟩ := hrel
            by_cases hjb : j < 10
            · have hj16 : (j : Int) < 16 := by omega
              have hj17 : j < 16 := by omega
              by_cases k1 : s[k] = (⟨#[48, 49, 50, 51, 52, 53, 54, 55, 56, 57, 97, 98, 99, 100, 101, 102]⟩ : ByteArray)[j]'hj17
              · have e1 : ((s[k].toNat : Int) == (((⟨#[48, 49, 50, 51, 52, 53, 54, 55, 56, 57, 97, 98, 99, 100, 101, 102]⟩ : ByteArray)[j]'hj17).toNat : Int)) = true := by rw [k1]; simp
                have HD := Lib.hid (dAt_hit ((hex_at s[k] j hj17).2 (.inl k1)))
                clear k1
                go_wp2
                go_region
                go_wp2
                refine ⟨⟨j + 1, by go_num, by rw [HD.out], by omega, Lib.hid ((HW2.out).trans ⟨rfl, rfl, rfl, Nat.le_refl _, fun _ _ => rfl⟩)⟩, ?_⟩
                simp [intOf]
                omega
              · by_cases k2 : s[k] = (⟨#[48, 49, 50, 51, 52, 53, 54, 55, 56, 57, 65, 66, 67, 68, 69, 70]⟩ : ByteArray)[j]'hj17
                · have e1 : ((s[k].toNat : Int) == (((⟨#[48, 49, 50, 51, 52, 53, 54, 55, 56, 57, 97, 98, 99, 100, 101, 102]⟩ : ByteArray)[j]'hj17).toNat : Int)) = false := beq_eq_false_iff_ne.2 (fun e => k1 (UInt8.toNat_inj.1 (by omega)))
                  have e2 : ((s[k].toNat : Int) == (((⟨#[48, 49, 50, 51, 52, 53, 54, 55, 56, 57, 65, 66, 67, 68, 69, 70]⟩ : ByteArray)[j]'hj17).toNat : Int)) = true := by rw [k2]; simp
                  have HD := Lib.hid (dAt_hit ((hex_at s[k] j hj17).2 (.inr k2)))
                  clear k1 k2
                  go_wp2
                  go_region
                  go_wp2
                  refine ⟨⟨j + 1, by go_num, by rw [HD.out], by omega, Lib.hid ((HW2.out).trans ⟨rfl, rfl, rfl, Nat.le_refl _, fun _ _ => rfl⟩)⟩, ?_⟩
                  simp [intOf]
                  omega
                · have e1 : ((s[k].toNat : Int) == (((⟨#[48, 49, 50, 51, 52, 53, 54, 55, 56, 57, 97, 98, 99, 100, 101, 102]⟩ : ByteArray)[j]'hj17).toNat : Int)) = false := beq_eq_false_iff_ne.2 (fun e => k1 (UInt8.toNat_inj.1 (by omega)))
                  have e2 : ((s[k].toNat : Int) == (((⟨#[48, 49, 50, 51, 52, 53, 54, 55, 56, 57, 65, 66, 67, 68, 69, 70]⟩ : ByteArray)[j]'hj17).toNat : Int)) = false := beq_eq_false_iff_ne.2 (fun e => k2 (UInt8.toNat_inj.1 (by omega)))
                  have HD := Lib.hid (dAt_miss (fun h => by rcases (hex_at s[k] j hj17).1 h with h | h; exact k1 h; exact k2 h))
                  clear k1 k2
                  go_wp2
                  go_region
                  go_wp2
                  refine ⟨⟨j + 1, by go_num, by rw [HD.out], by omega, Lib.hid ((HW2.out).trans ⟨rfl, rfl, rfl, Nat.le_refl _, fun _ _ => rfl⟩)⟩, ?_⟩
                  simp [intOf]
                  omega
            · have hje : j = 10 := by omega
              subst hje
              cases hv : hexVal s[k] with
              | none =>
                have hd : dAt s[k] 10 = -1 := by unfold dAt; rw [hv]
                have HR : Hid (numB 10 s.data.toList least 18 = -1) := Lib.hid (by
                  rw [HF.out]
                  have e : numGo 10 (s.data.toList.take (k + 1)) 0 = none := by rw [take_at' s k hlt, numGo_snoc, HN.out]; simp [numGo, hv]
                  have := numGo_none 10 (m := s.data.toList.drop (k + 1)) e
                  rw [List.take_append_drop] at this
                  rw [this])
                rw [hd]
                clear hd hv
                go_wp2
                go_ret
                rw [HR.out]
                exact ⟨rfl, HW2.out⟩
              | some v =>
                by_cases hvb : v < 10
                · have hd : dAt s[k] 10 = v := by unfold dAt; rw [hv]; simp [hvb]
                  have HN2 : Hid (numGo 10 (s.data.toList.take (k + 1)) 0 = some (10 * n + v)) := Lib.hid (by rw [take_at' s k hlt, numGo_snoc, HN.out]; simp [numGo, hv, hvb])
                  have hn2 := HB.out (s.data.toList.take (k + 1)) (by rw [List.length_take]; omega) _ HN2.out
                  rw [hd]
                  clear hd hv
                  go_wp2
                  refine ⟨⟨k + 1, 10 * n + v, by go_num, by simp, by omega, hn2, HN2, HW2⟩, ?_⟩
                  simp [intOf]
                  omega
                · have hd : dAt s[k] 10 = -1 := by unfold dAt; rw [hv]; simp [hvb]
                  have HR : Hid (numB 10 s.data.toList least 18 = -1) := Lib.hid (by
                    rw [HF.out]
                    have e : numGo 10 (s.data.toList.take (k + 1)) 0 = none := by rw [take_at' s k hlt, numGo_snoc, HN.out]; simp [numGo, hv, hvb]
                    have := numGo_none 10 (m := s.data.toList.drop (k + 1)) e
                    rw [List.take_append_drop] at this
                    rw [this])
                  rw [hd]
                  clear hd hv
                  go_wp2
                  go_ret
                  rw [HR.out]
                  exact ⟨rfl, HW2.out⟩
        · have hke : k = s.size := by omega
          subst hke
          have HR : Hid (numB 10 s.data.toList least 18 = n) := Lib.hid (by
            rw [HF.out]
            have := HN.out
            rw [List.take_of_length_le (by rw [Lib.size_eq]; exact Nat.le_refl _)] at this
            rw [this])
          go_wp2
          go_ret
          rw [HR.out]
          exact ⟨rfl, HW.out⟩
    · have HR : Hid (numB 10 s.data.toList least 18 = -1) := Lib.hid (by unfold numB; rw [if_neg (by omega)])
      have h2' : 18 < s.size := by omega
      clear hsz
      have h2'' : (18 : Int) < (s.size : Int) := by omega
      go_enter Tryz.func128, Tryz.ntmps128
      go_wp2
      go_ret
      rw [HR.out]
      exact ⟨rfl, Below.refl _ _⟩
  · have HR : Hid (numB 10 s.data.toList least 18 = -1) := Lib.hid (by unfold numB; rw [if_neg (by omega)])
    have h1' : s.size < least := by omega
    clear hsz
    go_enter Tryz.func128, Tryz.ntmps128
    go_wp2
    go_ret
    rw [HR.out]
    exact ⟨rfl, Below.refl _ _⟩
end Go.Proofs.YtikpkjpnehkbfaaGreatDoor.Rf
