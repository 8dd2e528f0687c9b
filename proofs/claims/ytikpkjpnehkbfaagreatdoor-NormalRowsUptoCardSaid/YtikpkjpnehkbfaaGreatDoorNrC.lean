/- The reference's characters, numbers, points: the walks; The reference's points and rows of points out of words: the walks; The reference's words of a line, and lines of a file: the walks; The reference's lines of a file: the walk; What the reference keeps of a file, as it lies in memory: four rows; The reference's lines of class and kind: the walks; The reference: does one of these lines speak of a point? The walk; The reference's lines of fold and decomp: the walk. -/
import Derived.Test.YtikpkjpnehkbfaaGreatDoorNrBTell
import Derived.Lib.Strings
import Derived.Deep.RegionHeld3
import Derived.IntWalk
import Derived.Test.YtikpkjpnehkbfaaGreatDoorNrBPoints
import Derived.Deep.AppendLies
import Derived.BigRegion
set_option linter.unusedSimpArgs false
namespace Go.Proofs.YtikpkjpnehkbfaaGreatDoor.Rf
open Go Go.RowKit Go.Shelf Go.Proofs.YtikpkjpnehkbfaaGreatDoor.Sp
theorem syl_calls (r : Int) (w : World) : Calls Tryz.prog 101 #[.int .i64 r] w fun e w' => e = .returned (.bool (isSyl r)) ∧ w' = w := by
  by_cases h1 : 44032 ≤ r
  · by_cases h2 : r < 55204
    · have hr : isSyl r = true := by simp [isSyl, h1, h2]
      rw [hr]
      have h2' : r ≤ 55203 := by omega
      go_enter Tryz.func101, Tryz.ntmps101
      go_wp2
      go_ret
      exact ⟨rfl, rfl⟩
    · have hr : isSyl r = false := by simp [isSyl, h2]
      rw [hr]
      have h2' : ¬ r ≤ 55203 := by omega
      go_enter Tryz.func101, Tryz.ntmps101
      go_wp2
      go_ret
      exact ⟨rfl, rfl⟩
  · have hr : isSyl r = false := by simp [isSyl, h1]
    rw [hr]
    have h1' : r < 44032 := by omega
    go_enter Tryz.func101, Tryz.ntmps101
    go_wp2
    go_ret
    exact ⟨rfl, rfl⟩
theorem char_calls (r : Int) (w : World) : Calls Tryz.prog 100 #[.int .i64 r] w fun e w' => e = .returned (.bool (isChar r)) ∧ w' = w := by
  by_cases h1 : 0 ≤ r
  · by_cases h2 : r ≤ 1114111
    · by_cases h3 : r < 55296
      · have hr : isChar r = true := by simp [isChar, h1, h2, h3]
        rw [hr]
        go_enter Tryz.func100, Tryz.ntmps100
        go_wp2
        go_ret
        exact ⟨rfl, rfl⟩
      · by_cases h4 : 57343 < r
        · have hr : isChar r = true := by simp [isChar, h1, h2, h4]
          rw [hr]
          have h3' : 55296 ≤ r := by omega
          go_enter Tryz.func100, Tryz.ntmps100
          go_wp2
          go_ret
          exact ⟨rfl, rfl⟩
        · have hr : isChar r = false := by simp [isChar, h3, h4]
          rw [hr]
          have h3' : 55296 ≤ r := by omega
          have h4' : r ≤ 57343 := by omega
          go_enter Tryz.func100, Tryz.ntmps100
          go_wp2
          go_ret
          exact ⟨rfl, rfl⟩
    · have hr : isChar r = false := by simp [isChar, h2]
      rw [hr]
      have h2' : 1114111 < r := by omega
      go_enter Tryz.func100, Tryz.ntmps100
      go_wp2
      go_ret
      exact ⟨rfl, rfl⟩
  · have hr : isChar r = false := by simp [isChar, h1]
    rw [hr]
    have h1' : r < 0 := by omega
    go_enter Tryz.func100, Tryz.ntmps100
    go_wp2
    go_ret
    exact ⟨rfl, rfl⟩
theorem jamo_cases (r : Int) : (isJamo r = true ∧ ((4352 ≤ r ∧ r ≤ 4370) ∨ (4449 ≤ r ∧ r ≤ 4469) ∨ (4520 ≤ r ∧ r ≤ 4546))) ∨ (isJamo r = false ∧ (r < 4352 ∨ (4370 < r ∧ r < 4449) ∨ (4469 < r ∧ r < 4520) ∨ 4546 < r)) := by
  by_cases h : isJamo r = true
  · refine .inl ⟨h, ?_⟩
    simp [isJamo] at h
    omega
  · refine .inr ⟨by simpa using h, ?_⟩
    simp [isJamo] at h
    omega
theorem jam_calls (r : Int) (w : World) : Calls Tryz.prog 102 #[.int .i64 r] w fun e w' => e = .returned (.bool (isJamo r)) ∧ w' = w := by
  have hj := jamo_cases r
  by_cases a1 : 4352 ≤ r <;> by_cases a2 : r ≤ 4370 <;> by_cases a3 : 4449 ≤ r <;> by_cases a4 : r ≤ 4469 <;> by_cases a5 : 4520 ≤ r <;> by_cases a6 : r ≤ 4546
  all_goals try (exfalso; omega)
  all_goals
    rcases hj with ⟨hr, hj⟩ | ⟨hr, hj⟩
    all_goals try (exfalso; omega)
  all_goals
    rw [hr]
    clear hr hj
    go_enter Tryz.func102, Tryz.ntmps102
    go_wp2
    go_ret
    exact ⟨rfl, rfl⟩
set_option maxRecDepth 100000 in
theorem hex_tab : ∀ n, n < 256 → ∀ (j : Nat) (h : j < 16), (hexVal (UInt8.ofNat n) = some j ↔ (UInt8.ofNat n = (⟨#[48, 49, 50, 51, 52, 53, 54, 55, 56, 57, 97, 98, 99, 100, 101, 102]⟩ : ByteArray)[j]'h ∨ UInt8.ofNat n = (⟨#[48, 49, 50, 51, 52, 53, 54, 55, 56, 57, 65, 66, 67, 68, 69, 70]⟩ : ByteArray)[j]'h)) := by decide +kernel
theorem hex_at (c : UInt8) (j : Nat) (h : j < 16) : hexVal c = some j ↔ (c = (⟨#[48, 49, 50, 51, 52, 53, 54, 55, 56, 57, 97, 98, 99, 100, 101, 102]⟩ : ByteArray)[j]'h ∨ c = (⟨#[48, 49, 50, 51, 52, 53, 54, 55, 56, 57, 65, 66, 67, 68, 69, 70]⟩ : ByteArray)[j]'h) := by
  have := hex_tab c.toNat c.toNat_lt j h
  rwa [UInt8.ofNat_toNat] at this
theorem hex_lt {c : UInt8} {v : Nat} (h : hexVal c = some v) : v < 16 := by
  unfold hexVal at h
  split at h
  · rename_i h1
    have h2 : c.toNat ≤ 57 := UInt8.le_iff_toNat_le.1 h1.2
    injection h with h; omega
  · split at h
    · rename_i h1
      have h2 : c.toNat ≤ 102 := UInt8.le_iff_toNat_le.1 h1.2
      injection h with h; omega
    · split at h
      · rename_i h1
        have h2 : c.toNat ≤ 70 := UInt8.le_iff_toNat_le.1 h1.2
        injection h with h; omega
      · cases h
def dAt (c : UInt8) (j : Nat) : Int := match hexVal c with | some v => if v < j then v else -1 | none => -1
theorem dAt_zero (c : UInt8) : dAt c 0 = -1 := by
  unfold dAt
  split <;> rfl
theorem dAt_hit {c : UInt8} {j : Nat} (h : hexVal c = some j) : dAt c (j + 1) = j := by
  unfold dAt
  rw [h]
  simp
theorem dAt_miss {c : UInt8} {j : Nat} (h : hexVal c ≠ some j) : dAt c (j + 1) = dAt c j := by
  unfold dAt
  split
  · rename_i v hv
    have : v ≠ j := fun e => h (by rw [hv, e])
    by_cases h1 : v < j
    · rw [if_pos h1, if_pos (by omega)]
    · rw [if_neg h1, if_neg (by omega)]
  · rfl
def numGo (base : Nat) : Bytes → Nat → Option Nat
  | [], n => some n
  | c :: l, n => match hexVal c with | none => none | some d => if d < base then numGo base l (base * n + d) else none
def numB (base : Nat) (l : Bytes) (least most : Nat) : Int := if least ≤ l.length ∧ l.length ≤ most then (match numGo base l 0 with | some n => n | none => -1) else -1
theorem numGo_snoc (base : Nat) : ∀ (l : Bytes) (c : UInt8) (n : Nat), numGo base (l ++ [c]) n = (numGo base l n).bind fun m => numGo base [c] m
  | [], c, n => rfl
  | b :: l, c, n => by
    simp only [List.cons_append, numGo]
    cases hexVal b with
    | none => rfl
    | some d =>
      simp only
      by_cases h : d < base
      · rw [if_pos h, if_pos h]; exact numGo_snoc base l c _
      · rw [if_neg h, if_neg h]; rfl
theorem numGo_le (base : Nat) (hb : 1 ≤ base) : ∀ (l : Bytes) (n m : Nat), numGo base l n = some m → m < base ^ l.length * (n + 1)
  | [], n, m, h => by simp only [numGo, Option.some.injEq] at h; simp; omega
  | b :: l, n, m, h => by
    simp only [numGo] at h
    cases hv : hexVal b with
    | none => rw [hv] at h; cases h
    | some d =>
      rw [hv] at h
      simp only at h
      by_cases hd : d < base
      · rw [if_pos hd] at h
        have := numGo_le base hb l _ m h
        rw [List.length_cons, Nat.pow_succ]
        refine Nat.lt_of_lt_of_le this ?_
        rw [Nat.mul_assoc]
        refine Nat.mul_le_mul_left _ ?_
        rw [Nat.mul_add]
        omega
      · rw [if_neg hd] at h; cases h
theorem numGo_none (base : Nat) {l m : Bytes} {n : Nat} (h : numGo base l n = none) : numGo base (l ++ m) n = none := by
  induction m generalizing l with
  | nil => simpa using h
  | cons c m ih =>
    rw [show l ++ c :: m = (l ++ [c]) ++ m by simp]
    refine ih ?_
    rw [numGo_snoc, h]
    rfl
theorem take_at' (s : ByteArray) (k : Nat) (h : k < s.size) : s.data.toList.take (k + 1) = s.data.toList.take k ++ [s[k]] := by
  rw [List.take_succ_eq_append_getElem (by simpa using h)]; rfl
set_option maxHeartbeats 4000000 in
set_option maxRecDepth 100000 in
theorem number16_calls (s : ByteArray) (least : Nat) (w : World) : Calls Tryz.prog 128 #[.string s, .int .i64 16, .int .i64 least, .int .i64 6] w fun e w' => e = .returned (.int .i64 (numB 16 s.data.toList least 6)) ∧ Below w.heap.size w w' := by
  have hsz := Lib.size_eq s
  by_cases h1 : least ≤ s.size
  · by_cases h2 : s.size ≤ 6
    · have HF : Hid (numB 16 s.data.toList least 6 = (match numGo 16 s.data.toList 0 with | some n => (n : Int) | none => -1)) := Lib.hid (by unfold numB; rw [if_pos (by omega)])
      have hbig : ∀ l : Bytes, l.length ≤ 6 → ∀ m, numGo 16 l 0 = some m → m < 1000000000000000000 := by
        intro l hl m hm'
        have := numGo_le 16 (by decide) l 0 m hm'
        exact Nat.lt_of_lt_of_le this (by have := Nat.pow_le_pow_right (show 0 < 16 by omega) hl; simp at this ⊢; omega)
      have HB := Lib.hid hbig
      clear hbig hsz
      go_enter Tryz.func128, Tryz.ntmps128
      go_wp2
      go_loopw [9, 10] (fun vn vi wr => ∃ (k n : Nat), vi = .int .i64 k ∧ vn = .int .i64 n ∧ k ≤ s.size ∧ n < 1000000000000000000 ∧ Hid (numGo 16 (s.data.toList.take k) 0 = some n) ∧ Hid (Below w.heap.size w wr)) (fun _ vi _ => s.size - (intOf vi).toNat)
      case atStart => exact ⟨0, 0, rfl, rfl, by omega, by omega, Lib.hid rfl, Lib.hid (Below.refl _ _)⟩
      case round =>
        obtain ⟨k, n, rfl, rfl, hk, hn1, HN, HW⟩ := hrel
        by_cases hlt : k < s.size
        · go_wp2
          go_loopw [11, 12] (fun vd vj wq => ∃ (j : Nat), vj = .int .i64 j ∧ vd = .int .i64 (dAt s[k] j) ∧ j ≤ 16 ∧ Hid (Below w.heap.size w wq)) (fun _ vj _ => 16 - (intOf vj).toNat)
          case atStart => exact ⟨0, rfl, by rw [dAt_zero], by omega, HW⟩
          case round =>
            obtain ⟨j, rfl, rfl, hj, HW2⟩ := hrel
            by_cases hjb : j < 16
            · have hj16 : (j : Int) < 16 := by omega
              have hj17 : j < 16 := by omega
              by_cases k1 : s[k] = (⟨#[48, 49, 50, 51, 52, 53, 54, 55, 56, 57, 97, 98, 99, 100, 101, 102]⟩ : ByteArray)[j]'hj17
              · have e1 : ((s[k].toNat : Int) == (((⟨#[48, 49, 50, 51, 52, 53, 54, 55, 56, 57, 97, 98, 99, 100, 101, 102]⟩ : ByteArray)[j]'hj17).toNat : Int)) = true := by rw [k1]; simp
                have HD := Lib.hid (dAt_hit ((hex_at s[k] j hj17).2 (.inl k1)))
                clear k1
                go_wp2
                go_region
                go_wp2
                refine ⟨⟨j + 1, by go_num, by rw [HD.out], by omega, Lib.hid ((HW2.out).trans ⟨rfl, rfl, rfl, Nat.le_refl _, fun _ _ => rfl⟩)⟩, ?_⟩
                simp [intOf]
                omega
              · by_cases k2 : s[k] = (⟨#[48, 49, 50, 51, 52, 53, 54, 55, 56, 57, 65, 66, 67, 68, 69, 70]⟩ : ByteArray)[j]'hj17
                · have e1 : ((s[k].toNat : Int) == (((⟨#[48, 49, 50, 51, 52, 53, 54, 55, 56, 57, 97, 98, 99, 100, 101, 102]⟩ : ByteArray)[j]'hj17).toNat : Int)) = false := beq_eq_false_iff_ne.2 (fun e => k1 (UInt8.toNat_inj.1 (by omega)))
                  have e2 : ((s[k].toNat : Int) == (((⟨#[48, 49, 50, 51, 52, 53, 54, 55, 56, 57, 65, 66, 67, 68, 69, 70]⟩ : ByteArray)[j]'hj17).toNat : Int)) = true := by rw [k2]; simp
                  have HD := Lib.hid (dAt_hit ((hex_at s[k] j hj17).2 (.inr k2)))
                  clear k1 k2
                  go_wp2
                  go_region
                  go_wp2
                  refine ⟨⟨j + 1, by go_num, by rw [HD.out], by omega, Lib.hid ((HW2.out).trans ⟨rfl, rfl, rfl, Nat.le_refl _, fun _ _ => rfl⟩)⟩, ?_⟩
                  simp [intOf]
                  omega
                · have e1 : ((s[k].toNat : Int) == (((⟨#[48, 49, 50, 51, 52, 53, 54, 55, 56, 57, 97, 98, 99, 100, 101, 102]⟩ : ByteArray)[j]'hj17).toNat : Int)) = false := beq_eq_false_iff_ne.2 (fun e => k1 (UInt8.toNat_inj.1 (by omega)))
                  have e2 : ((s[k].toNat : Int) == (((⟨#[48, 49, 50, 51, 52, 53, 54, 55, 56, 57, 65, 66, 67, 68, 69, 70]⟩ : ByteArray)[j]'hj17).toNat : Int)) = false := beq_eq_false_iff_ne.2 (fun e => k2 (UInt8.toNat_inj.1 (by omega)))
                  have HD := Lib.hid (dAt_miss (fun h => by rcases (hex_at s[k] j hj17).1 h with h | h; exact k1 h; exact k2 h))
                  clear k1 k2
                  go_wp2
                  go_region
                  go_wp2
                  refine ⟨⟨j + 1, by go_num, by rw [HD.out], by omega, Lib.hid ((HW2.out).trans ⟨rfl, rfl, rfl, Nat.le_refl _, fun _ _ => rfl⟩)⟩, ?_⟩
                  simp [intOf]
                  omega
            · have hje : j = 16 := by omega
              subst hje
              cases hv : hexVal s[k] with
              | none =>
                have hd : dAt s[k] 16 = -1 := by unfold dAt; rw [hv]
                have HR : Hid (numB 16 s.data.toList least 6 = -1) := Lib.hid (by
                  rw [HF.out]
                  have e : numGo 16 (s.data.toList.take (k + 1)) 0 = none := by rw [take_at' s k hlt, numGo_snoc, HN.out]; simp [numGo, hv]
                  have := numGo_none 16 (m := s.data.toList.drop (k + 1)) e
                  rw [List.take_append_drop] at this
                  rw [this])
                rw [hd]
                clear hd hv
                go_wp2
                go_ret
                rw [HR.out]
                exact ⟨rfl, HW2.out⟩
              | some v =>
                by_cases hvb : v < 16
                · have hd : dAt s[k] 16 = v := by unfold dAt; rw [hv]; simp [hvb]
                  have HN2 : Hid (numGo 16 (s.data.toList.take (k + 1)) 0 = some (16 * n + v)) := Lib.hid (by rw [take_at' s k hlt, numGo_snoc, HN.out]; simp [numGo, hv, hvb])
                  have hn2 := HB.out (s.data.toList.take (k + 1)) (by rw [List.length_take]; omega) _ HN2.out
                  rw [hd]
                  clear hd hv
                  go_wp2
                  refine ⟨⟨k + 1, 16 * n + v, by go_num, by simp, by omega, hn2, HN2, HW2⟩, ?_⟩
                  simp [intOf]
                  omega
                · have hd : dAt s[k] 16 = -1 := by unfold dAt; rw [hv]; simp [hvb]
                  have HR : Hid (numB 16 s.data.toList least 6 = -1) := Lib.hid (by
                    rw [HF.out]
                    have e : numGo 16 (s.data.toList.take (k + 1)) 0 = none := by rw [take_at' s k hlt, numGo_snoc, HN.out]; simp [numGo, hv, hvb]
                    have := numGo_none 16 (m := s.data.toList.drop (k + 1)) e
                    rw [List.take_append_drop] at this
                    rw [this])
                  rw [hd]
                  clear hd hv
                  go_wp2
                  go_ret
                  rw [HR.out]
                  exact ⟨rfl, HW2.out⟩
        · have hke : k = s.size := by omega
          subst hke
          have HR : Hid (numB 16 s.data.toList least 6 = n) := Lib.hid (by
            rw [HF.out]
            have := HN.out
            rw [List.take_of_length_le (by rw [Lib.size_eq]; exact Nat.le_refl _)] at this
            rw [this])
          go_wp2
          go_ret
          rw [HR.out]
          exact ⟨rfl, HW.out⟩
    · have HR : Hid (numB 16 s.data.toList least 6 = -1) := Lib.hid (by unfold numB; rw [if_neg (by omega)])
      have h2' : 6 < s.size := by omega
      clear hsz
      have h2'' : (6 : Int) < (s.size : Int) := by omega
      go_enter Tryz.func128, Tryz.ntmps128
      go_wp2
      go_ret
      rw [HR.out]
      exact ⟨rfl, Below.refl _ _⟩
  · have HR : Hid (numB 16 s.data.toList least 6 = -1) := Lib.hid (by unfold numB; rw [if_neg (by omega)])
    have h1' : s.size < least := by omega
    clear hsz
    go_enter Tryz.func128, Tryz.ntmps128
    go_wp2
    go_ret
    rw [HR.out]
    exact ⟨rfl, Below.refl _ _⟩
set_option maxHeartbeats 4000000 in
set_option maxRecDepth 100000 in
theorem number10_calls (s : ByteArray) (least : Nat) (w : World) : Calls Tryz.prog 128 #[.string s, .int .i64 10, .int .i64 least, .int .i64 18] w fun e w' => e = .returned (.int .i64 (numB 10 s.data.toList least 18)) ∧ Below w.heap.size w w' := by
  have hsz := Lib.size_eq s
  by_cases h1 : least ≤ s.size
  · by_cases h2 : s.size ≤ 18
    · have HF : Hid (numB 10 s.data.toList least 18 = (match numGo 10 s.data.toList 0 with | some n => (n : Int) | none => -1)) := Lib.hid (by unfold numB; rw [if_pos (by omega)])
      have hbig : ∀ l : Bytes, l.length ≤ 18 → ∀ m, numGo 10 l 0 = some m → m < 1000000000000000000 := by
        intro l hl m hm'
        have := numGo_le 10 (by decide) l 0 m hm'
        exact Nat.lt_of_lt_of_le this (by have := Nat.pow_le_pow_right (show 0 < 10 by omega) hl; simp at this ⊢; omega)
      have HB := Lib.hid hbig
      clear hbig hsz
      go_enter Tryz.func128, Tryz.ntmps128
      go_wp2
      go_loopw [9, 10] (fun vn vi wr => ∃ (k n : Nat), vi = .int .i64 k ∧ vn = .int .i64 n ∧ k ≤ s.size ∧ n < 1000000000000000000 ∧ Hid (numGo 10 (s.data.toList.take k) 0 = some n) ∧ Hid (Below w.heap.size w wr)) (fun _ vi _ => s.size - (intOf vi).toNat)
      case atStart => exact ⟨0, 0, rfl, rfl, by omega, by omega, Lib.hid rfl, Lib.hid (Below.refl _ _)⟩
      case round =>
        obtain ⟨k, n, rfl, rfl, hk, hn1, HN, HW⟩ := hrel
        by_cases hlt : k < s.size
        · go_wp2
          go_loopw [11, 12] (fun vd vj wq => ∃ (j : Nat), vj = .int .i64 j ∧ vd = .int .i64 (dAt s[k] j) ∧ j ≤ 10 ∧ Hid (Below w.heap.size w wq)) (fun _ vj _ => 10 - (intOf vj).toNat)
          case atStart => exact ⟨0, rfl, by rw [dAt_zero], by omega, HW⟩
          case round =>
            obtain ⟨j, rfl, rfl, hj, HW2⟩ := hrel
            by_cases hjb : j < 10
            · have hj16 : (j : Int) < 16 := by omega
              have hj17 : j < 16 := by omega
              by_cases k1 : s[k] = (⟨#[48, 49, 50, 51, 52, 53, 54, 55, 56, 57, 97, 98, 99, 100, 101, 102]⟩ : ByteArray)[j]'hj17
              · have e1 : ((s[k].toNat : Int) == (((⟨#[48, 49, 50, 51, 52, 53, 54, 55, 56, 57, 97, 98, 99, 100, 101, 102]⟩ : ByteArray)[j]'hj17).toNat : Int)) = true := by rw [k1]; simp
                have HD := Lib.hid (dAt_hit ((hex_at s[k] j hj17).2 (.inl k1)))
                clear k1
                go_wp2
                go_region
                go_wp2
                refine ⟨⟨j + 1, by go_num, by rw [HD.out], by omega, Lib.hid ((HW2.out).trans ⟨rfl, rfl, rfl, Nat.le_refl _, fun _ _ => rfl⟩)⟩, ?_⟩
                simp [intOf]
                omega
              · by_cases k2 : s[k] = (⟨#[48, 49, 50, 51, 52, 53, 54, 55, 56, 57, 65, 66, 67, 68, 69, 70]⟩ : ByteArray)[j]'hj17
                · have e1 : ((s[k].toNat : Int) == (((⟨#[48, 49, 50, 51, 52, 53, 54, 55, 56, 57, 97, 98, 99, 100, 101, 102]⟩ : ByteArray)[j]'hj17).toNat : Int)) = false := beq_eq_false_iff_ne.2 (fun e => k1 (UInt8.toNat_inj.1 (by omega)))
                  have e2 : ((s[k].toNat : Int) == (((⟨#[48, 49, 50, 51, 52, 53, 54, 55, 56, 57, 65, 66, 67, 68, 69, 70]⟩ : ByteArray)[j]'hj17).toNat : Int)) = true := by rw [k2]; simp
                  have HD := Lib.hid (dAt_hit ((hex_at s[k] j hj17).2 (.inr k2)))
                  clear k1 k2
                  go_wp2
                  go_region
                  go_wp2
                  refine ⟨⟨j + 1, by go_num, by rw [HD.out], by omega, Lib.hid ((HW2.out).trans ⟨rfl, rfl, rfl, Nat.le_refl _, fun _ _ => rfl⟩)⟩, ?_⟩
                  simp [intOf]
                  omega
                · have e1 : ((s[k].toNat : Int) == (((⟨#[48, 49, 50, 51, 52, 53, 54, 55, 56, 57, 97, 98, 99, 100, 101, 102]⟩ : ByteArray)[j]'hj17).toNat : Int)) = false := beq_eq_false_iff_ne.2 (fun e => k1 (UInt8.toNat_inj.1 (by omega)))
                  have e2 : ((s[k].toNat : Int) == (((⟨#[48, 49, 50, 51, 52, 53, 54, 55, 56, 57, 65, 66, 67, 68, 69, 70]⟩ : ByteArray)[j]'hj17).toNat : Int)) = false := beq_eq_false_iff_ne.2 (fun e => k2 (UInt8.toNat_inj.1 (by omega)))
                  have HD := Lib.hid (dAt_miss (fun h => by rcases (hex_at s[k] j hj17).1 h with h | h; exact k1 h; exact k2 h))
                  clear k1 k2
                  go_wp2
                  go_region
                  go_wp2
                  refine ⟨⟨j + 1, by go_num, by rw [HD.out], by omega, Lib.hid ((HW2.out).trans ⟨rfl, rfl, rfl, Nat.le_refl _, fun _ _ => rfl⟩)⟩, ?_⟩
                  simp [intOf]
                  omega
            · have hje : j = 10 := by omega
              subst hje
              cases hv : hexVal s[k] with
              | none =>
                have hd : dAt s[k] 10 = -1 := by unfold dAt; rw [hv]
                have HR : Hid (numB 10 s.data.toList least 18 = -1) := Lib.hid (by
                  rw [HF.out]
                  have e : numGo 10 (s.data.toList.take (k + 1)) 0 = none := by rw [take_at' s k hlt, numGo_snoc, HN.out]; simp [numGo, hv]
                  have := numGo_none 10 (m := s.data.toList.drop (k + 1)) e
                  rw [List.take_append_drop] at this
                  rw [this])
                rw [hd]
                clear hd hv
                go_wp2
                go_ret
                rw [HR.out]
                exact ⟨rfl, HW2.out⟩
              | some v =>
                by_cases hvb : v < 10
                · have hd : dAt s[k] 10 = v := by unfold dAt; rw [hv]; simp [hvb]
                  have HN2 : Hid (numGo 10 (s.data.toList.take (k + 1)) 0 = some (10 * n + v)) := Lib.hid (by rw [take_at' s k hlt, numGo_snoc, HN.out]; simp [numGo, hv, hvb])
                  have hn2 := HB.out (s.data.toList.take (k + 1)) (by rw [List.length_take]; omega) _ HN2.out
                  rw [hd]
                  clear hd hv
                  go_wp2
                  refine ⟨⟨k + 1, 10 * n + v, by go_num, by simp, by omega, hn2, HN2, HW2⟩, ?_⟩
                  simp [intOf]
                  omega
                · have hd : dAt s[k] 10 = -1 := by unfold dAt; rw [hv]; simp [hvb]
                  have HR : Hid (numB 10 s.data.toList least 18 = -1) := Lib.hid (by
                    rw [HF.out]
                    have e : numGo 10 (s.data.toList.take (k + 1)) 0 = none := by rw [take_at' s k hlt, numGo_snoc, HN.out]; simp [numGo, hv, hvb]
                    have := numGo_none 10 (m := s.data.toList.drop (k + 1)) e
                    rw [List.take_append_drop] at this
                    rw [this])
                  rw [hd]
                  clear hd hv
                  go_wp2
                  go_ret
                  rw [HR.out]
                  exact ⟨rfl, HW2.out⟩
        · have hke : k = s.size := by omega
          subst hke
          have HR : Hid (numB 10 s.data.toList least 18 = n) := Lib.hid (by
            rw [HF.out]
            have := HN.out
            rw [List.take_of_length_le (by rw [Lib.size_eq]; exact Nat.le_refl _)] at this
            rw [this])
          go_wp2
          go_ret
          rw [HR.out]
          exact ⟨rfl, HW.out⟩
    · have HR : Hid (numB 10 s.data.toList least 18 = -1) := Lib.hid (by unfold numB; rw [if_neg (by omega)])
      have h2' : 18 < s.size := by omega
      clear hsz
      have h2'' : (18 : Int) < (s.size : Int) := by omega
      go_enter Tryz.func128, Tryz.ntmps128
      go_wp2
      go_ret
      rw [HR.out]
      exact ⟨rfl, Below.refl _ _⟩
  · have HR : Hid (numB 10 s.data.toList least 18 = -1) := Lib.hid (by unfold numB; rw [if_neg (by omega)])
    have h1' : s.size < least := by omega
    clear hsz
    go_enter Tryz.func128, Tryz.ntmps128
    go_wp2
    go_ret
    rw [HR.out]
    exact ⟨rfl, Below.refl _ _⟩
end Go.Proofs.YtikpkjpnehkbfaaGreatDoor.Rf
namespace Go.Proofs.YtikpkjpnehkbfaaGreatDoor.Rf
open Go Go.RowKit Go.Shelf Go.Proofs.YtikpkjpnehkbfaaGreatDoor.Sp
theorem numGo_hex : ∀ (l : Bytes) (n : Nat), numGo 16 l n = hexGo l n
  | [], n => rfl
  | c :: l, n => by
    simp only [numGo, hexGo]
    cases hv : hexVal c with
    | none => rfl
    | some d => simp only [if_pos (hex_lt hv)]; exact numGo_hex l _
theorem numB_of (l : Bytes) : numB 16 l 4 6 = match numberOf l with | some n => n | none => -1 := by
  unfold numB numberOf
  by_cases h : 4 ≤ l.length ∧ l.length ≤ 6
  · rw [if_pos h, if_pos h, numGo_hex]
    cases hexGo l 0 <;> rfl
  · rw [if_neg h, if_neg h]
theorem numberOf_pos {l : Bytes} {n : Int} (h : numberOf l = some n) : 0 ≤ n := by
  unfold numberOf at h
  split at h
  · obtain ⟨m, _, rfl⟩ := Option.map_eq_some_iff.1 h
    exact Int.natCast_nonneg m
  · cases h
abbrev NumAt (s : ByteArray) (v : Int) : Prop := ∀ w : World, Calls Tryz.prog 128 #[.string s, .int .i64 16, .int .i64 4, .int .i64 6] w fun e w' => e = .returned (.int .i64 v) ∧ Below w.heap.size w w'
theorem num_some {s : ByteArray} {n : Int} (h : numberOf s.data.toList = some n) : NumAt s n := fun w => (number16_calls s 4 w).mono fun e w' ⟨h1, h2⟩ => ⟨by rw [h1, numB_of, h], h2⟩
theorem num_none {s : ByteArray} (h : numberOf s.data.toList = none) : NumAt s (-1) := fun w => (number16_calls s 4 w).mono fun e w' ⟨h1, h2⟩ => ⟨by rw [h1, numB_of, h], h2⟩
theorem point_ok {s : ByteArray} {n : Int} (h : pointOf s.data.toList = .ok n) (w : World) : Calls Tryz.prog 129 #[.string s] w fun e w' => e = .returned (.tuple #[.int .i64 n, .int .i64 0]) ∧ Below w.heap.size w w' := by
  unfold pointOf at h
  cases hn : numberOf s.data.toList with
  | none => rw [hn] at h; cases h
  | some m =>
    rw [hn] at h
    simp only at h
    by_cases hc : isChar m = true
    · rw [if_pos hc] at h
      injection h with h
      subst h
      have c1 := Lib.hid (num_some hn)
      have hp := numberOf_pos hn
      have c2 : Hid (∀ W, Calls Tryz.prog 100 #[.int .i64 m] W fun e w' => e = .returned (.bool true) ∧ w' = W) := Lib.hid (fun W => by rw [← hc]; exact char_calls m W)
      clear hn hc
      go_enter Tryz.func129, Tryz.ntmps129
      go_wp2_with (first
        | (go_at_call 128; refine (c1.out _).mono ?_; rintro e w1 ⟨rfl, hb⟩)
        | (go_at_call 100; refine (c2.out _).mono ?_; rintro e w2 ⟨rfl, hw⟩; subst w2))
      go_ret2
      exact ⟨rfl, hb⟩
    · rw [if_neg hc] at h; cases h
theorem point_err {s : ByteArray} {k : Int} (h : pointOf s.data.toList = .error k) (w : World) : Calls Tryz.prog 129 #[.string s] w fun e w' => e = .returned (.tuple #[.int .i64 0, .int .i64 k]) ∧ Below w.heap.size w w' := by
  unfold pointOf at h
  cases hn : numberOf s.data.toList with
  | none =>
    rw [hn] at h
    injection h with h
    subst h
    have c1 := Lib.hid (num_none hn)
    clear hn
    go_enter Tryz.func129, Tryz.ntmps129
    go_wp2_with (go_at_call 128; refine (c1.out _).mono ?_; rintro e w1 ⟨rfl, hb⟩)
    go_ret2
    exact ⟨rfl, hb⟩
  | some m =>
    rw [hn] at h
    simp only at h
    by_cases hc : isChar m = true
    · rw [if_pos hc] at h; cases h
    · rw [if_neg hc] at h
      injection h with h
      subst h
      have c1 := Lib.hid (num_some hn)
      have hp := numberOf_pos hn
      have hc' : isChar m = false := by simpa using hc
      have c2 : Hid (∀ W, Calls Tryz.prog 100 #[.int .i64 m] W fun e w' => e = .returned (.bool false) ∧ w' = W) := Lib.hid (fun W => by rw [← hc']; exact char_calls m W)
      clear hn hc hc'
      go_enter Tryz.func129, Tryz.ntmps129
      go_wp2_with (first
        | (go_at_call 128; refine (c1.out _).mono ?_; rintro e w1 ⟨rfl, hb⟩)
        | (go_at_call 100; refine (c2.out _).mono ?_; rintro e w2 ⟨rfl, hw⟩; subst w2))
      go_ret2
      exact ⟨rfl, hb⟩
theorem ext_toList (s : ByteArray) (a b : Nat) : (s.extract a b).data.toList = (s.data.toList.drop a).take (b - a) := by
  rw [ByteArray.data_extract, Array.toList_extract, List.extract_eq_take_drop]
theorem drop_two (s : ByteArray) (k : Nat) (h : k + 1 < s.size) : s.data.toList.drop k = s[k] :: s[k + 1] :: s.data.toList.drop (k + 2) := by
  have e : s.data.toList.length = s.size := (Lib.size_eq s).symm
  rw [List.drop_eq_getElem_cons (by omega), List.drop_eq_getElem_cons (i := k + 1) (by omega)]
  rfl
theorem dots_hit {s : ByteArray} {k : Nat} (h : k + 1 < s.size) (hq : ((s.extract k (k + 2)).toList == [46, 46]) = true) : dots (s.data.toList.drop k) = some ([], s.data.toList.drop (k + 2)) := by
  rw [beq_iff_eq, Lib.toList_data, ext_toList, drop_two s k h, show k + 2 - k = 2 by omega] at hq
  simp only [List.take_succ_cons, List.take_zero, List.cons.injEq, and_true] at hq
  rw [drop_two s k h, hq.1, hq.2]
  rfl
theorem dots_miss {s : ByteArray} {k : Nat} (h : k + 1 < s.size) (hq : ((s.extract k (k + 2)).toList == [46, 46]) = false) : dots (s.data.toList.drop k) = (dots (s.data.toList.drop (k + 1))).map fun p => (s[k] :: p.1, p.2) := by
  rw [beq_eq_false_iff_ne, Lib.toList_data, ext_toList, drop_two s k h, show k + 2 - k = 2 by omega] at hq
  simp only [List.take_succ_cons, List.take_zero, ne_eq, List.cons.injEq, and_true] at hq
  have e : s.data.toList.length = s.size := (Lib.size_eq s).symm
  have e2 : s.data.toList.drop k = s[k] :: s.data.toList.drop (k + 1) := by rw [List.drop_eq_getElem_cons (by omega)]; rfl
  have e3 : s.data.toList.drop (k + 1) = s[k + 1] :: s.data.toList.drop (k + 2) := by rw [List.drop_eq_getElem_cons (by omega)]; rfl
  rw [e2]
  conv => lhs; unfold dots
  split
  · rename_i l' e'
    rw [e3] at e'
    simp only [List.cons.injEq] at e'
    exact absurd ⟨e'.1, e'.2.1⟩ hq
  · rename_i e'; injection e' with e1 e2; subst e1; subst e2; rfl
  · rename_i e'; cases e'
theorem dots_short : ∀ l : Bytes, l.length ≤ 1 → dots l = none
  | [], _ => rfl
  | [c], _ => by
    unfold dots
    split
    · rename_i e; simp at e
    · rename_i e; injection e with e1 e2; subst e2; rfl
    · rfl
  | _ :: _ :: _, h => by simp at h
def endsV : Except Int (Int × Int) → Value
  | .ok p => .tuple #[.int .i64 p.1, .int .i64 p.2, .int .i64 0]
  | .error e => .tuple #[.int .i64 0, .int .i64 0, .int .i64 e]
def twoOf (a b : Bytes) : Except Int (Int × Int) :=
  match numberOf a, numberOf b with
  | some x, some y => if isChar x && isChar y then (if y < x then .error 1 else .ok (x, y)) else .error 8
  | _, _ => .error 11
theorem span_dots {l a b : Bytes} (h : dots l = some (a, b)) : spanOf l = twoOf a b := by unfold spanOf twoOf; rw [h]; rfl
theorem span_none {l : Bytes} (h : dots l = none) : spanOf l = (match pointOf l with | .ok n => .ok (n, n) | .error e => .error e) := by
  unfold spanOf pointOf
  rw [h]
  simp only
  cases numberOf l with
  | none => rfl
  | some n =>
    simp only
    by_cases hc : isChar n = true
    · simp [hc]
    · have : isChar n = false := by simpa using hc
      simp [this]
theorem ends_cases (a b : ByteArray) : ∃ va vb A B N : Int, NumAt a va ∧ NumAt b vb ∧ endsV (twoOf a.data.toList b.data.toList) = .tuple #[.int .i64 A, .int .i64 B, .int .i64 N] ∧
    ((va < 0 ∧ A = 0 ∧ B = 0 ∧ N = 11) ∨ (0 ≤ va ∧ vb < 0 ∧ A = 0 ∧ B = 0 ∧ N = 11) ∨ (0 ≤ va ∧ 0 ≤ vb ∧ isChar va = false ∧ A = 0 ∧ B = 0 ∧ N = 8) ∨ (0 ≤ va ∧ 0 ≤ vb ∧ isChar va = true ∧ isChar vb = false ∧ A = 0 ∧ B = 0 ∧ N = 8) ∨
      (0 ≤ va ∧ 0 ≤ vb ∧ isChar va = true ∧ isChar vb = true ∧ vb < va ∧ A = 0 ∧ B = 0 ∧ N = 1) ∨ (0 ≤ va ∧ 0 ≤ vb ∧ isChar va = true ∧ isChar vb = true ∧ va ≤ vb ∧ A = va ∧ B = vb ∧ N = 0)) := by
  unfold twoOf
  cases ha : numberOf a.data.toList with
  | none =>
    cases hb : numberOf b.data.toList with
    | none => exact ⟨-1, -1, 0, 0, 11, num_none ha, num_none hb, rfl, .inl ⟨by omega, rfl, rfl, rfl⟩⟩
    | some y => exact ⟨-1, y, 0, 0, 11, num_none ha, num_some hb, rfl, .inl ⟨by omega, rfl, rfl, rfl⟩⟩
  | some x =>
    have hx := numberOf_pos ha
    cases hb : numberOf b.data.toList with
    | none => exact ⟨x, -1, 0, 0, 11, num_some ha, num_none hb, rfl, .inr (.inl ⟨hx, by omega, rfl, rfl, rfl⟩)⟩
    | some y =>
      have hy := numberOf_pos hb
      by_cases c1 : isChar x = true
      · by_cases c2 : isChar y = true
        · by_cases hl : y < x
          · exact ⟨x, y, 0, 0, 1, num_some ha, num_some hb, by simp [c1, c2, hl, endsV], .inr (.inr (.inr (.inr (.inl ⟨hx, hy, c1, c2, hl, rfl, rfl, rfl⟩))))⟩
          · exact ⟨x, y, x, y, 0, num_some ha, num_some hb, by simp [c1, c2, hl, endsV], .inr (.inr (.inr (.inr (.inr ⟨hx, hy, c1, c2, by omega, rfl, rfl, rfl⟩))))⟩
        · have c2' : isChar y = false := by simpa using c2
          exact ⟨x, y, 0, 0, 8, num_some ha, num_some hb, by simp [c2', endsV], .inr (.inr (.inr (.inl ⟨hx, hy, c1, c2', rfl, rfl, rfl⟩)))⟩
      · have c1' : isChar x = false := by simpa using c1
        exact ⟨x, y, 0, 0, 8, num_some ha, num_some hb, by simp [c1', endsV], .inr (.inr (.inl ⟨hx, hy, c1', rfl, rfl, rfl⟩))⟩
theorem point_cases (s : ByteArray) : ∃ n no : Int, (∀ w : World, Calls Tryz.prog 129 #[.string s] w fun e w' => e = .returned (.tuple #[.int .i64 n, .int .i64 no]) ∧ Below w.heap.size w w') ∧
    endsV (match pointOf s.data.toList with | .ok n => .ok (n, n) | .error e => .error e) = .tuple #[.int .i64 n, .int .i64 n, .int .i64 no] := by
  cases h : pointOf s.data.toList with
  | ok n => exact ⟨n, 0, point_ok h, rfl⟩
  | error e => exact ⟨0, e, point_err h, rfl⟩
theorem below_drawn {w W W' : World} (h : Below w.heap.size w W) (hb : Below W.drew.heap.size W.drew W') : Below w.heap.size w W' := h.drew.trans (hb.mono h.drew.size)
theorem below_then {w W W' : World} (h : Below w.heap.size w W) (hb : Below W.heap.size W W') : Below w.heap.size w W' := h.trans (hb.mono h.size)
set_option maxHeartbeats 8000000 in
set_option maxRecDepth 100000 in
theorem ends_calls (s : ByteArray) (hs : s.size ≤ 1048576) (w : World) : Calls Tryz.prog 127 #[.string s] w fun e w' => e = .returned (endsV (spanOf s.data.toList)) ∧ Below w.heap.size w w' := by
  go_enter Tryz.func127, Tryz.ntmps127
  go_wp2
  go_loop [5] (fun vi => ∃ k : Nat, vi = .int .i64 k ∧ k ≤ s.size ∧ Hid (dots s.data.toList = (dots (s.data.toList.drop k)).map fun p => (s.data.toList.take k ++ p.1, p.2))) (fun vi => s.size - (intOf vi).toNat)
  case atStart => exact ⟨0, rfl, by omega, Lib.hid (by simp)⟩
  case round =>
    obtain ⟨k, rfl, hk, HI⟩ := hrel
    by_cases hlt : k + 1 < s.size
    · cases hq : ((s.extract k (k + 2)).toList == [46, 46]) with
      | false =>
        have HN : Hid (dots s.data.toList = (dots (s.data.toList.drop (k + 1))).map fun p => (s.data.toList.take (k + 1) ++ p.1, p.2)) := Lib.hid (by
          rw [HI.out, dots_miss hlt hq, take_at' s k (by omega)]
          cases dots (s.data.toList.drop (k + 1)) with
          | none => rfl
          | some p => simp)
        clear HI
        go_wp2
        go_round
        case rel => exact ⟨k + 1, by go_num, by omega, HN⟩
        case measure => simp [intOf]; omega
      | true =>
        have hd : dots s.data.toList = some ((s.extract 0 k).data.toList, (s.extract (k + 2) s.size).data.toList) := by
          rw [HI.out, dots_hit hlt hq, ext_toList, ext_toList]
          have e : s.data.toList.length = s.size := (Lib.size_eq s).symm
          simp [List.take_of_length_le, e]
        obtain ⟨va, vb, A, B, N, n1, n2, hv, hcases⟩ := ends_cases (s.extract 0 k) (s.extract (k + 2) s.size)
        rw [← span_dots hd] at hv
        have HV := Lib.hid hv
        have c1 := Lib.hid n1
        have c2 := Lib.hid n2
        have hbx := Below.refl w.heap.size w
        clear hd hv n1 n2 HI
        have f1 : IntKind.i64.wrap ((k : Int) + 2) = (k : Int) + 2 := IntWalk.i64_in _ (by omega)
        have f2 : (0 : Int) ≤ (k : Int) + 2 := by omega
        have f3 : ((k : Int) + 2).toNat = k + 2 := by omega
        have f4 : (k : Int) + 2 ≤ (s.size : Int) := by omega
        have f5 : k + 2 ≤ s.size := by omega
        go_wp2
        go_region_held3 (fun _ => True) (go_keep) ((first
          | (go_at_call 128; (with_reducible refine (c1.out _).mono ?_); rintro e w1 ⟨rfl, hb⟩; have hby : Below w.heap.size w w1 := (by first | exact below_drawn hbx hb | exact below_then hbx hb); clear hbx hb; have hbx := hby; clear hby)
          | (go_at_call 128; (with_reducible refine (c2.out _).mono ?_); rintro e w1 ⟨rfl, hb⟩; have hby : Below w.heap.size w w1 := (by first | exact below_drawn hbx hb | exact below_then hbx hb); clear hbx hb; have hbx := hby; clear hby)))
        clear f1 f2 f3 f4 f5 hq
        rcases hcases with ⟨z1, rfl, rfl, rfl⟩ | ⟨z1, z2, rfl, rfl, rfl⟩ | ⟨z1, z2, z3, rfl, rfl, rfl⟩ | ⟨z1, z2, z3, z4, rfl, rfl, rfl⟩ | ⟨z1, z2, z3, z4, z5, rfl, rfl, rfl⟩ | ⟨z1, z2, z3, z4, z5, rfl, rfl, rfl⟩
        all_goals
          go_wp2_with (go_at_call 100; (with_reducible refine (char_calls _ _).mono ?_); rintro e w2 ⟨rfl, hw⟩; subst w2)
          go_ret3
          rw [HV.out]
          exact ⟨rfl, hbx⟩
    · obtain ⟨n, no, hp, hv⟩ := point_cases s
      have hd : dots s.data.toList = none := by
        rw [HI.out, dots_short _ (by have e : s.data.toList.length = s.size := (Lib.size_eq s).symm
                                     rw [List.length_drop]; omega)]
        rfl
      rw [← span_none hd] at hv
      have HV := Lib.hid hv
      have HP := Lib.hid hp
      clear hd hv hp HI
      go_wp2_with (go_at_call 129; refine (HP.out _).mono ?_; rintro e w1 ⟨rfl, hb⟩)
      go_ret3
      rw [HV.out]
      exact ⟨rfl, hb⟩
end Go.Proofs.YtikpkjpnehkbfaaGreatDoor.Rf
namespace Go.Proofs.YtikpkjpnehkbfaaGreatDoor.Rf
open Go Go.RowKit Go.Shelf Go.Proofs.YtikpkjpnehkbfaaGreatDoor.Sp Go.Proofs.YtikpkjpnehkbfaaGreatDoor.Pr
def encS (l : List ByteArray) : List Value := l.map Value.string
theorem encS_one (l : List ByteArray) : ∀ u ∈ encS l, u.oneCell' = true := by
  intro u hu
  simp only [encS, List.mem_map] at hu
  obtain ⟨x, _, rfl⟩ := hu
  rfl
def OwnStrs (n₀ : Nat) (w : World) (v : Value) (l : List ByteArray) : Prop := w.ownsRow n₀ 9 1 v l.length (encS l)
theorem ownS_nil (base : Nat) (W : World) : OwnStrs base W (.slice none 0 0) [] := ⟨rfl, .inl ⟨rfl, rfl⟩⟩
theorem infoStr : (Tryz.prog.info? 9).map (fun i => (i.zero, i.size, i.bytes)) = some (some (.string ⟨#[]⟩), 1, 16) := by kernel_rfl
theorem wpList_append_str {ops : Array Oper} {rest : List Oper} {o : Oper} {ac : Act} {Q : Exit → Act → World → Prop} {W : World} {b : ByteArray} (hgd : o.guard = none) (s x : Operand)
    (ho : o.op = .call { callee := .builtin .append, args := #[s, x], argTypes := #[105, 105] })
    (base : Nat) (v : Value) (L : List ByteArray) (hs : ac.eval s = v) (hown : OwnStrs base W v L) (hx : ac.eval x = .slice (some ⟨W.heap.size, 0, none⟩) 1 1)
    (h63 : L.length ≤ 1048577) (hbase : base ≤ W.heap.size)
    (h : ∀ v' w', OwnStrs base w' v' (L ++ [b]) → Below base W w' → wpList Tryz.prog ops Q rest (ac.put o.dst v') w') :
    wpList Tryz.prog ops Q (o :: rest) ac (W.alloc (.cells #[.string b] 9)) := by
  obtain ⟨i, hi, hz0, hz1, hz2⟩ := info_parts infoStr
  refine wpList_append_own_at (W.alloc (.cells #[.string b] 9)) hgd s x 105 ho base 9 i (.string ⟨#[]⟩) 1 16 Tryz.underlying105 hi hz0 hz1 hz2 rfl (by decide) v L.length (encS L) hs (World.ownsRow.alloc hown _) ⟨W.heap.size, 0, none⟩ 1 1 (encS [b]) hx (by simp [encS]) (cells_laid W (encS [b]) rfl (by simp [encS, maxLen])) (encS_one [b]) (by simp only [maxLen]; omega) (by omega) (by rw [World.size_alloc]; omega) ?_
  intro v' w' ho' hg _ _
  refine h v' w' ?_ (((Below.refl _ W).alloc hbase _).grown hg (by rw [World.size_alloc]; omega) (fun k e => (own_block hown e).1))
  unfold OwnStrs
  rw [show encS (L ++ [b]) = encS L ++ encS [b] by simp [encS], List.length_append]
  exact ho'
theorem OwnStrs.slice {n₀ : Nat} {W : World} {v : Value} {l : List ByteArray} (h : OwnStrs n₀ W v l) : ∃ A c, v = .slice A l.length c := YtikpkjpnehkbfaaGreatDoor.Rowl.own_slice h
def WI (s : ByteArray) (k : Nat) (ws : List ByteArray) (word : ByteArray) : Prop :=
  wordsGo (beforeHash s.data.toList) [] = wl ws ++ wordsGo (beforeHash (s.data.toList.drop k)) word.data.toList ∧ (∀ x ∈ ws, x.size ≤ s.size ∧ 0 < x.size) ∧ word.size ≤ k ∧ ws.length ≤ k
theorem drop_cons (s : ByteArray) (k : Nat) (h : k < s.size) : s.data.toList.drop k = s[k] :: s.data.toList.drop (k + 1) := by
  have hk : k < s.data.toList.length := by rw [← Lib.size_eq]; exact h
  rw [List.drop_eq_getElem_cons hk]
  rfl
theorem bytes_nil (b : ByteArray) : b.data.toList = [] ↔ b.size = 0 := by
  rw [Lib.size_eq]
  exact List.length_eq_zero_iff.symm
section
variable {s word : ByteArray} {k : Nat} {ws : List ByteArray}
theorem WI.start (s : ByteArray) : WI s 0 [] ⟨#[]⟩ := ⟨rfl, by simp, Nat.le_refl _, Nat.le_refl _⟩
theorem WI.blank (h : WI s k ws word) (hlt : k < s.size) (hc : isBlank s[k] = true) (h35 : s[k] ≠ 35) (hw : 0 < word.size) : WI s (k + 1) (ws ++ [word]) ⟨#[]⟩ := by
  obtain ⟨h1, h2, h3, h4⟩ := h
  have hne : word.data.toList ≠ [] := fun e => by rw [bytes_nil] at e; omega
  refine ⟨?_, ?_, Nat.zero_le _, by simp; omega⟩
  · rw [h1, drop_cons s k hlt]
    unfold beforeHash
    rw [List.takeWhile_cons, if_pos (by simpa using h35)]
    simp only [wordsGo, hc, if_true, if_neg hne]
    simp [wl]
  · intro x hx
    rcases List.mem_append.1 hx with hx | hx
    · exact h2 x hx
    · simp only [List.mem_singleton] at hx
      subst hx
      exact ⟨by omega, hw⟩
theorem WI.blank0 (h : WI s k ws word) (hlt : k < s.size) (hc : isBlank s[k] = true) (h35 : s[k] ≠ 35) (hw : word.size = 0) : WI s (k + 1) ws ⟨#[]⟩ := by
  obtain ⟨h1, h2, h3, h4⟩ := h
  refine ⟨?_, h2, Nat.zero_le _, by omega⟩
  rw [h1, drop_cons s k hlt, (bytes_nil word).2 hw]
  unfold beforeHash
  rw [List.takeWhile_cons, if_pos (by simpa using h35)]
  simp only [wordsGo, hc, if_true]
theorem WI.char (h : WI s k ws word) (hlt : k < s.size) (hc : isBlank s[k] = false) (h35 : s[k] ≠ 35) : WI s (k + 1) ws (word ++ s.extract k (k + 1)) := by
  obtain ⟨h1, h2, h3, h4⟩ := h
  have hb : (word ++ s.extract k (k + 1)).data.toList = word.data.toList ++ [s[k]] := by
    rw [ByteArray.data_append, Array.toList_append, ext_toList, drop_cons s k hlt, show k + 1 - k = 1 by omega, List.take_succ_cons, List.take_zero]
  refine ⟨?_, h2, by rw [ByteArray.size_append, ByteArray.size_extract]; omega, by omega⟩
  rw [h1, hb, drop_cons s k hlt]
  unfold beforeHash
  rw [List.takeWhile_cons, if_pos (by simpa using h35)]
  simp only [wordsGo, hc, Bool.false_eq_true, if_false]
theorem WI.done (h : WI s k ws word) (he : k = s.size ∨ ∃ hlt : k < s.size, s[k] = 35) : (word.size = 0 → wl ws = wordsGo (beforeHash s.data.toList) []) ∧ (0 < word.size → wl (ws ++ [word]) = wordsGo (beforeHash s.data.toList) []) := by
  obtain ⟨h1, h2, h3, h4⟩ := h
  have hd : beforeHash (s.data.toList.drop k) = [] := by
    rcases he with rfl | ⟨hlt, hc⟩
    · rw [List.drop_eq_nil_of_le (by rw [Lib.size_eq]; exact Nat.le_refl _)]; rfl
    · rw [drop_cons s k hlt, hc]; rfl
  rw [h1, hd]
  constructor
  · intro h0
    rw [(bytes_nil word).2 h0]
    simp [wordsGo]
  · intro h0
    have hne : word.data.toList ≠ [] := fun e => by rw [bytes_nil] at e; omega
    simp [wordsGo, hne, wl]
theorem WI.sizes (h : WI s k ws word) (hk : k ≤ s.size) : (∀ x ∈ ws, x.size ≤ s.size ∧ 0 < x.size) ∧ (0 < word.size → ∀ x ∈ ws ++ [word], x.size ≤ s.size ∧ 0 < x.size) := by
  refine ⟨h.2.1, fun h0 x hx => ?_⟩
  rcases List.mem_append.1 hx with hx | hx
  · exact h.2.1 x hx
  · simp only [List.mem_singleton] at hx
    subst hx
    exact ⟨by have := h.2.2.1; omega, h0⟩
end
def WordsOut (s : ByteArray) (n₀ : Nat) (e : Ending) (w' : World) : Prop := ∃ v ws, e = .returned v ∧ OwnStrs n₀ w' v ws ∧ wl ws = wordsGo (beforeHash s.data.toList) [] ∧ (∀ x ∈ ws, x.size ≤ s.size ∧ 0 < x.size) ∧ ws.length ≤ s.size + 1
set_option maxHeartbeats 8000000 in
set_option maxRecDepth 100000 in
theorem words_calls (s : ByteArray) (hs : s.size ≤ 1048576) (w : World) : Calls Tryz.prog 88 #[.string s] w fun e w' => WordsOut s w.heap.size e w' ∧ Below w.heap.size w w' := by
  go_enter Tryz.func88, Tryz.ntmps88
  go_wp2
  go_loopw [3, 4, 5] (fun vl vw vi wr => ∃ (k : Nat) (v : Value) (ws : List ByteArray) (word : ByteArray), vi = .int .i64 k ∧ vw = .string word ∧ vl = v ∧ k ≤ s.size + 1 ∧ Hid (OwnStrs w.heap.size wr v ws) ∧ Hid (Below w.heap.size w wr) ∧
    ((k ≤ s.size ∧ Hid (WI s k ws word)) ∨ (k = s.size + 1 ∧ Hid (wl ws = wordsGo (beforeHash s.data.toList) [] ∧ (∀ x ∈ ws, x.size ≤ s.size ∧ 0 < x.size) ∧ ws.length ≤ s.size + 1)))) (fun _ _ vi _ => s.size + 1 - (intOf vi).toNat)
  case atStart => exact ⟨0, _, [], _, rfl, rfl, rfl, by omega, Lib.hid (ownS_nil _ _), Lib.hid (Below.refl _ _), .inl ⟨by omega, Lib.hid (WI.start s)⟩⟩
  case round =>
    obtain ⟨k, v, ws, word, rfl, rfl, rfl, hk, HO, HW, hI⟩ := hrel
    obtain ⟨A, C, rfl⟩ := HO.out.slice
    have HWz : w.heap.size ≤ wr.heap.size := HW.out.size
    rcases hI with ⟨hk2, HI⟩ | ⟨hk2, HD⟩
    · have hwl : ws.length ≤ 1048577 := by have := HI.out.2.2.2; omega
      by_cases hke : k = s.size
      · subst hke
        by_cases h0 : word.size = 0
        · have e0 : word.toList = [] := by rw [Lib.toList_data]; exact (bytes_nil word).2 h0
          have e1 : word.toList.isEmpty = true := by rw [e0]; rfl
          have HD := Lib.hid (And.intro ((HI.out.done (.inl rfl)).1 h0) (And.intro (HI.out.sizes hk2).1 (show ws.length ≤ s.size + 1 by have := HI.out.2.2.2; omega)))
          clear h0 HI
          go_wp2
          refine ⟨⟨s.size + 1, _, _, _, by go_num, rfl, rfl, by omega, HO, HW, .inr ⟨rfl, HD⟩⟩, ?_⟩
          simp [intOf]
          try omega
        · have hp : 0 < word.size := by omega
          have e0 : ¬ word.toList = [] := by rw [Lib.toList_data, bytes_nil]; exact h0
          have e1 : word.toList.isEmpty = false := by cases h : word.toList with
            | nil => exact absurd h e0
            | cons => rfl
          have HD := Lib.hid (And.intro ((HI.out.done (.inl rfl)).2 hp) (And.intro ((HI.out.sizes hk2).2 hp) (show (ws ++ [word]).length ≤ s.size + 1 by have := HI.out.2.2.2; simp; omega)))
          clear h0 hp HI
          go_wp2_with (at_builtin; refine wpList_append_str rfl _ _ rfl w.heap.size _ ws rfl HO.out rfl (by omega) HWz ?_; intro v2 w2 ho2 hb2; obtain ⟨A2, C2, rfl⟩ := ho2.slice; rw [List.length_append] at ho2; have HO2 : Hid (OwnStrs w.heap.size w2 (.slice A2 (ws.length + 1) C2) (ws ++ [word])) := Lib.hid ho2; have HW2 := Lib.hid (HW.out.trans hb2); clear ho2 hb2)
          refine ⟨⟨s.size + 1, _, _, _, by go_num, rfl, rfl, by omega, HO2, HW2, .inr ⟨rfl, HD⟩⟩, ?_⟩
          simp [intOf]
          try omega
      · have hlt : k < s.size := by omega
        have hne : ((k : Int) == (s.size : Int)) = false := by rw [beq_eq_false_iff_ne]; omega
        by_cases h35 : s[k] = 35
        · have b35 : ((s[k].toNat : Int) == 35) = true := by rw [h35]; rfl
          by_cases h0 : word.size = 0
          · have e0 : word.toList = [] := by rw [Lib.toList_data]; exact (bytes_nil word).2 h0
            have e1 : word.toList.isEmpty = true := by rw [e0]; rfl
            have HD := Lib.hid (And.intro ((HI.out.done (.inr ⟨hlt, h35⟩)).1 h0) (And.intro (HI.out.sizes hk2).1 (show ws.length ≤ s.size + 1 by have := HI.out.2.2.2; omega)))
            clear h0 HI h35
            go_wp2
            go_ret
            exact ⟨⟨_, _, rfl, HO.out, HD.out⟩, HW.out⟩
          · have hp : 0 < word.size := by omega
            have e0 : ¬ word.toList = [] := by rw [Lib.toList_data, bytes_nil]; exact h0
            have e1 : word.toList.isEmpty = false := by cases h : word.toList with
              | nil => exact absurd h e0
              | cons => rfl
            have HD := Lib.hid (And.intro ((HI.out.done (.inr ⟨hlt, h35⟩)).2 hp) (And.intro ((HI.out.sizes hk2).2 hp) (show (ws ++ [word]).length ≤ s.size + 1 by have := HI.out.2.2.2; simp; omega)))
            clear h0 hp HI h35
            go_wp2_with (at_builtin; refine wpList_append_str rfl _ _ rfl w.heap.size _ ws rfl HO.out rfl (by omega) HWz ?_; intro v2 w2 ho2 hb2; obtain ⟨A2, C2, rfl⟩ := ho2.slice; rw [List.length_append] at ho2; have HO2 : Hid (OwnStrs w.heap.size w2 (.slice A2 (ws.length + 1) C2) (ws ++ [word])) := Lib.hid ho2; have HW2 := Lib.hid (HW.out.trans hb2); clear ho2 hb2)
            go_ret
            exact ⟨⟨_, _, rfl, HO2.out, HD.out⟩, HW2.out⟩
        · have b35 : ((s[k].toNat : Int) == 35) = false := beq_eq_false_iff_ne.2 (fun e => h35 (UInt8.toNat_inj.1 (by show s[k].toNat = 35; omega)))
          by_cases hb : isBlank s[k] = true
          · by_cases h32 : s[k] = 32
            · have b32 : ((s[k].toNat : Int) == 32) = true := by rw [h32]; rfl
              clear h32
              by_cases h0 : word.size = 0
              · have e0 : word.toList = [] := by rw [Lib.toList_data]; exact (bytes_nil word).2 h0
                have e1 : word.toList.isEmpty = true := by rw [e0]; rfl
                have HN := Lib.hid (HI.out.blank0 hlt hb h35 h0)
                clear h0 HI h35 hb
                go_wp2
                refine ⟨⟨k + 1, _, _, _, by go_num, rfl, rfl, by omega, HO, HW, .inl ⟨by omega, HN⟩⟩, ?_⟩
                simp [intOf]
                try omega
              · have hp : 0 < word.size := by omega
                have e0 : ¬ word.toList = [] := by rw [Lib.toList_data, bytes_nil]; exact h0
                have e1 : word.toList.isEmpty = false := by cases h : word.toList with
                  | nil => exact absurd h e0
                  | cons => rfl
                have HN := Lib.hid (HI.out.blank hlt hb h35 hp)
                clear h0 hp HI h35 hb
                go_wp2_with (at_builtin; refine wpList_append_str rfl _ _ rfl w.heap.size _ ws rfl HO.out rfl (by omega) HWz ?_; intro v2 w2 ho2 hb2; obtain ⟨A2, C2, rfl⟩ := ho2.slice; rw [List.length_append] at ho2; have HO2 : Hid (OwnStrs w.heap.size w2 (.slice A2 (ws.length + 1) C2) (ws ++ [word])) := Lib.hid ho2; have HW2 := Lib.hid (HW.out.trans hb2); clear ho2 hb2)
                refine ⟨⟨k + 1, _, _, _, by go_num, rfl, rfl, by omega, HO2, HW2, .inl ⟨by omega, HN⟩⟩, ?_⟩
                simp [intOf]
                try omega
            · have h9 : s[k] = 9 := by
                unfold isBlank at hb
                simp only [Bool.or_eq_true, beq_iff_eq] at hb
                exact hb.resolve_left h32
              have b32 : ((s[k].toNat : Int) == 32) = false := beq_eq_false_iff_ne.2 (fun e => h32 (UInt8.toNat_inj.1 (by show s[k].toNat = 32; omega)))
              have b9 : ((s[k].toNat : Int) == 9) = true := by rw [h9]; rfl
              clear h32 h9
              by_cases h0 : word.size = 0
              · have e0 : word.toList = [] := by rw [Lib.toList_data]; exact (bytes_nil word).2 h0
                have e1 : word.toList.isEmpty = true := by rw [e0]; rfl
                have HN := Lib.hid (HI.out.blank0 hlt hb h35 h0)
                clear h0 HI h35 hb
                go_wp2
                refine ⟨⟨k + 1, _, _, _, by go_num, rfl, rfl, by omega, HO, HW, .inl ⟨by omega, HN⟩⟩, ?_⟩
                simp [intOf]
                try omega
              · have hp : 0 < word.size := by omega
                have e0 : ¬ word.toList = [] := by rw [Lib.toList_data, bytes_nil]; exact h0
                have e1 : word.toList.isEmpty = false := by cases h : word.toList with
                  | nil => exact absurd h e0
                  | cons => rfl
                have HN := Lib.hid (HI.out.blank hlt hb h35 hp)
                clear h0 hp HI h35 hb
                go_wp2_with (at_builtin; refine wpList_append_str rfl _ _ rfl w.heap.size _ ws rfl HO.out rfl (by omega) HWz ?_; intro v2 w2 ho2 hb2; obtain ⟨A2, C2, rfl⟩ := ho2.slice; rw [List.length_append] at ho2; have HO2 : Hid (OwnStrs w.heap.size w2 (.slice A2 (ws.length + 1) C2) (ws ++ [word])) := Lib.hid ho2; have HW2 := Lib.hid (HW.out.trans hb2); clear ho2 hb2)
                refine ⟨⟨k + 1, _, _, _, by go_num, rfl, rfl, by omega, HO2, HW2, .inl ⟨by omega, HN⟩⟩, ?_⟩
                simp [intOf]
                try omega
          · have hb' : isBlank s[k] = false := by simpa using hb
            have hb2 : s[k] ≠ 32 ∧ s[k] ≠ 9 := by
              unfold isBlank at hb'
              simpa using hb'
            have h32 := hb2.1
            have h9 := hb2.2
            have b32 : ((s[k].toNat : Int) == 32) = false := beq_eq_false_iff_ne.2 (fun e => h32 (UInt8.toNat_inj.1 (by show s[k].toNat = 32; omega)))
            have b9 : ((s[k].toNat : Int) == 9) = false := beq_eq_false_iff_ne.2 (fun e => h9 (UInt8.toNat_inj.1 (by show s[k].toNat = 9; omega)))
            have HN := Lib.hid (HI.out.char hlt hb' h35)
            have hws : word.size ≤ 1048576 := by have := HI.out.2.2.1; omega
            clear HI h35 hb hb' hb2 h32 h9
            go_wp2
            refine ⟨⟨k + 1, _, _, _, by go_num, rfl, rfl, by omega, HO, HW, .inl ⟨by omega, HN⟩⟩, ?_⟩
            simp [intOf]
            try omega
    · have hgt : (s.size : Int) < (k : Int) := by omega
      go_wp2
      go_ret
      exact ⟨⟨_, ws, rfl, HO.out, HD.out⟩, HW.out⟩
end Go.Proofs.YtikpkjpnehkbfaaGreatDoor.Rf
namespace Go.Proofs.YtikpkjpnehkbfaaGreatDoor.Rf
open Go Go.RowKit Go.Shelf Go.Proofs.YtikpkjpnehkbfaaGreatDoor.Sp Go.Proofs.YtikpkjpnehkbfaaGreatDoor.Pr
def lg : Bytes → Bytes → List Bytes
  | cur, [] => if cur = [] then [] else [stripCR cur]
  | cur, c :: l => if c = 10 then stripCR cur :: lg [] l else lg (cur ++ [c]) l
def LI (s : ByteArray) (a k : Nat) (ws : List ByteArray) : Prop := lg [] s.data.toList = wl ws ++ lg (s.extract a k).data.toList (s.data.toList.drop k) ∧ (∀ x ∈ ws, x.size ≤ s.size) ∧ a ≤ k ∧ ws.length ≤ k
theorem LI.start (s : ByteArray) : LI s 0 0 [] := ⟨by rw [ext_toList]; rfl, by simp, Nat.le_refl _, Nat.le_refl _⟩
theorem strip_drop {t : ByteArray} (hp : 0 < t.size) (h : t[t.size - 1] = 13) : (t.extract 0 (t.size - 1)).data.toList = stripCR t.data.toList := by
  have hl : t.data.toList.getLast? = some 13 := by
    rw [List.getLast?_eq_getElem?, ← Lib.size_eq, ← h]
    have hl : t.size - 1 < t.data.toList.length := by rw [← Lib.size_eq]; omega
    rw [List.getElem?_eq_getElem hl]
    rfl
  rw [ext_toList]
  unfold stripCR
  rw [if_pos hl, List.dropLast_eq_take, ← Lib.size_eq]
  rfl
theorem strip_keep {t : ByteArray} (h : t.size = 0 ∨ ∃ hp : 0 < t.size, t[t.size - 1] ≠ 13) : stripCR t.data.toList = t.data.toList := by
  unfold stripCR
  rcases h with h | ⟨hp, h⟩
  · rw [(bytes_nil t).2 h]; rfl
  · have hl : t.data.toList.getLast? = some t[t.size - 1] := by
      rw [List.getLast?_eq_getElem?, ← Lib.size_eq]
      have hl : t.size - 1 < t.data.toList.length := by rw [← Lib.size_eq]; omega
      rw [List.getElem?_eq_getElem hl]
      rfl
    rw [hl, if_neg (by simpa using h)]
section
variable {s : ByteArray} {a k : Nat} {ws : List ByteArray}
theorem ext_snoc (h : a ≤ k) (hlt : k < s.size) : (s.extract a (k + 1)).data.toList = (s.extract a k).data.toList ++ [s[k]] := by
  rw [ext_toList, ext_toList]
  have e : s.data.toList.length = s.size := (Lib.size_eq s).symm
  rw [show k + 1 - a = (k - a) + 1 by omega, List.take_add_one, List.getElem?_drop, show a + (k - a) = k by omega, List.getElem?_eq_getElem (by omega)]
  rfl
theorem LI.next (h : LI s a k ws) (hlt : k < s.size) (hc : s[k] ≠ 10) : LI s a (k + 1) ws := by
  obtain ⟨h1, h2, h3, h4⟩ := h
  refine ⟨?_, h2, by omega, by omega⟩
  rw [h1, drop_cons s k hlt, ext_snoc h3 hlt]
  conv => lhs; rw [lg, if_neg hc]
theorem LI.line (h : LI s a k ws) (hlt : k < s.size) (hc : s[k] = 10) {x : ByteArray} (hx : x.data.toList = stripCR (s.extract a k).data.toList) (hxs : x.size ≤ s.size) : LI s (k + 1) (k + 1) (ws ++ [x]) := by
  obtain ⟨h1, h2, h3, h4⟩ := h
  refine ⟨?_, ?_, Nat.le_refl _, by simp; omega⟩
  · rw [h1, drop_cons s k hlt]
    conv => lhs; rw [lg, if_pos hc]
    have e : (s.extract (k + 1) (k + 1)).data.toList = [] := by rw [ext_toList]; simp
    rw [e]
    simp [wl, hx]
  · intro y hy
    rcases List.mem_append.1 hy with hy | hy
    · exact h2 y hy
    · simp only [List.mem_singleton] at hy
      subst hy
      exact hxs
theorem LI.last (h : LI s a s.size ws) (he : (s.extract a s.size).data.toList ≠ []) {x : ByteArray} (hx : x.data.toList = stripCR (s.extract a s.size).data.toList) : wl (ws ++ [x]) = lg [] s.data.toList := by
  obtain ⟨h1, _⟩ := h
  rw [h1, List.drop_eq_nil_of_le (by rw [Lib.size_eq]; exact Nat.le_refl _)]
  rw [lg, if_neg he]
  simp [wl, hx]
theorem LI.none (h : LI s s.size s.size ws) : wl ws = lg [] s.data.toList := by
  obtain ⟨h1, _⟩ := h
  rw [h1, List.drop_eq_nil_of_le (by rw [Lib.size_eq]; exact Nat.le_refl _)]
  have e : (s.extract s.size s.size).data.toList = [] := by rw [ext_toList]; simp
  rw [e, lg, if_pos rfl, List.append_nil]
end
def LinesOut (s : ByteArray) (n₀ : Nat) (e : Ending) (w' : World) : Prop := ∃ v ws, e = .returned v ∧ OwnStrs n₀ w' v ws ∧ wl ws = lg [] s.data.toList ∧ (∀ x ∈ ws, x.size ≤ s.size) ∧ ws.length ≤ s.size + 1
set_option maxHeartbeats 8000000 in
set_option maxRecDepth 100000 in
theorem lines_calls (s : ByteArray) (hs : s.size ≤ 1048576) (w : World) : Calls Tryz.prog 87 #[.string s] w fun e w' => LinesOut s w.heap.size e w' ∧ Below w.heap.size w w' := by
  go_enter Tryz.func87, Tryz.ntmps87
  go_wp2
  go_loopw [3, 4, 5] (fun vl va vi wr => ∃ (k a : Nat) (v : Value) (ws : List ByteArray), vi = .int .i64 k ∧ va = .int .i64 a ∧ vl = v ∧ k ≤ s.size + 1 ∧ Hid (OwnStrs w.heap.size wr v ws) ∧ Hid (Below w.heap.size w wr) ∧
    ((k ≤ s.size ∧ Hid (LI s a k ws)) ∨ (k = s.size + 1 ∧ Hid (wl ws = lg [] s.data.toList ∧ (∀ x ∈ ws, x.size ≤ s.size) ∧ ws.length ≤ s.size + 1)))) (fun _ _ vi _ => s.size + 1 - (intOf vi).toNat)
  case atStart => exact ⟨0, 0, _, [], rfl, rfl, rfl, by omega, Lib.hid (ownS_nil _ _), Lib.hid (Below.refl _ _), .inl ⟨by omega, Lib.hid (LI.start s)⟩⟩
  case round =>
    obtain ⟨k, a, v, ws, rfl, rfl, rfl, hk, HO, HW, hI⟩ := hrel
    obtain ⟨A, C, rfl⟩ := HO.out.slice
    have HWz : w.heap.size ≤ wr.heap.size := HW.out.size
    rcases hI with ⟨hk2, HI⟩ | ⟨hk2, HD⟩
    · have hwl : ws.length ≤ 1048577 := by have := HI.out.2.2.2; omega
      have hak : a ≤ k := HI.out.2.2.1
      have hwk : ws.length ≤ k := HI.out.2.2.2
      by_cases hke : k = s.size
      · subst hke
        by_cases ha : a = s.size
        · subst ha
          have HD := Lib.hid (And.intro HI.out.none (And.intro HI.out.2.1 (show ws.length ≤ s.size + 1 by omega)))
          clear HI
          go_wp2
          refine ⟨⟨s.size + 1, s.size, _, _, by go_num, rfl, rfl, by omega, HO, HW, .inr ⟨rfl, HD⟩⟩, ?_⟩
          simp [intOf]
          try omega
        · have hne : ((a : Int) == (s.size : Int)) = false := by rw [beq_eq_false_iff_ne]; omega
          have hts : (s.extract a s.size).size = s.size - a := by rw [ByteArray.size_extract]; omega
          have HL : Hid (∀ x : ByteArray, x.data.toList = stripCR (s.extract a s.size).data.toList → wl (ws ++ [x]) = lg [] s.data.toList) := Lib.hid fun x hx => HI.out.last (fun e => by rw [bytes_nil] at e; omega) hx
          have HS : Hid (∀ x : ByteArray, x.size ≤ (s.extract a s.size).size → ∀ y ∈ ws ++ [x], y.size ≤ s.size) := Lib.hid fun x hx y hy => by
            rcases List.mem_append.1 hy with hy | hy
            · exact HI.out.2.1 y hy
            · simp only [List.mem_singleton] at hy
              subst hy
              omega
          go_upto_region 8 with fail
          generalize s.extract a s.size = t at *
          have ht1 : 0 < t.size := by omega
          have ht2 : t.size ≤ s.size := by omega
          clear hts HI
          have hp : 0 < t.size := by omega
          have e0 : ¬ t.toList = [] := by rw [Lib.toList_data, bytes_nil]; omega
          have e1 : t.toList.isEmpty = false := by cases h : t.toList with
            | nil => exact absurd h e0
            | cons => rfl
          by_cases h13 : t[t.size - 1] = 13
          · have b13 : ((t[t.size - 1].toNat : Int) == 13) = true := by rw [h13]; rfl
            have HD := Lib.hid (And.intro (HL.out (t.extract 0 (t.size - 1)) (by exact strip_drop hp h13)) (And.intro (HS.out (t.extract 0 (t.size - 1)) (by first | exact Nat.le_refl _ | (rw [ByteArray.size_extract]; omega))) (show (ws ++ [t.extract 0 (t.size - 1)]).length ≤ s.size + 1 by simp; omega)))
            clear h13 HL HS
            go_wp2_with (at_builtin; refine wpList_append_str rfl _ _ rfl w.heap.size _ ws rfl HO.out rfl (by omega) HWz ?_; intro v2 w2 ho2 hb2; obtain ⟨A2, C2, rfl⟩ := ho2.slice; rw [List.length_append] at ho2; have HO2 : Hid (OwnStrs w.heap.size w2 (.slice A2 (ws.length + 1) C2) (ws ++ [t.extract 0 (t.size - 1)])) := Lib.hid ho2; have HW2 := Lib.hid (HW.out.trans hb2); clear ho2 hb2)
            refine ⟨⟨s.size + 1, s.size + 1, _, _, by go_num, by go_num, rfl, by omega, HO2, HW2, .inr ⟨rfl, HD⟩⟩, ?_⟩
            simp [intOf]
            try omega
          · have b13 : ((t[t.size - 1].toNat : Int) == 13) = false := beq_eq_false_iff_ne.2 (fun e => h13 (UInt8.toNat_inj.1 (by show t[t.size - 1].toNat = 13; omega)))
            have HD := Lib.hid (And.intro (HL.out (t) (by exact (strip_keep (.inr ⟨hp, h13⟩)).symm)) (And.intro (HS.out (t) (by first | exact Nat.le_refl _ | (rw [ByteArray.size_extract]; omega))) (show (ws ++ [t]).length ≤ s.size + 1 by simp; omega)))
            clear h13 HL HS
            go_wp2_with (at_builtin; refine wpList_append_str rfl _ _ rfl w.heap.size _ ws rfl HO.out rfl (by omega) HWz ?_; intro v2 w2 ho2 hb2; obtain ⟨A2, C2, rfl⟩ := ho2.slice; rw [List.length_append] at ho2; have HO2 : Hid (OwnStrs w.heap.size w2 (.slice A2 (ws.length + 1) C2) (ws ++ [t])) := Lib.hid ho2; have HW2 := Lib.hid (HW.out.trans hb2); clear ho2 hb2)
            refine ⟨⟨s.size + 1, s.size + 1, _, _, by go_num, by go_num, rfl, by omega, HO2, HW2, .inr ⟨rfl, HD⟩⟩, ?_⟩
            simp [intOf]
            try omega
      · have hlt : k < s.size := by omega
        have hne2 : ((k : Int) == (s.size : Int)) = false := by rw [beq_eq_false_iff_ne]; omega
        by_cases hc : s[k] = 10
        · have b10 : ((s[k].toNat : Int) != 10) = false := by rw [hc]; rfl
          have hts : (s.extract a k).size = k - a := by rw [ByteArray.size_extract]; omega
          have HL : Hid (∀ x : ByteArray, x.data.toList = stripCR (s.extract a k).data.toList → x.size ≤ (s.extract a k).size → LI s (k + 1) (k + 1) (ws ++ [x])) := Lib.hid fun x hx hz => HI.out.line hlt hc hx (by omega)
          clear hc
          go_upto_region 8 with fail
          generalize s.extract a k = t at *
          have ht2 : t.size ≤ s.size := by omega
          clear hts HI
          by_cases h0 : t.size = 0
          · have e0 : t.toList = [] := by rw [Lib.toList_data]; exact (bytes_nil t).2 h0
            have e1 : t.toList.isEmpty = true := by rw [e0]; rfl
            have HN := Lib.hid (HL.out (t) (by exact (strip_keep (.inl h0)).symm) (by first | exact Nat.le_refl _ | (rw [ByteArray.size_extract]; omega)))
            clear h0 HL
            go_wp2_with (at_builtin; refine wpList_append_str rfl _ _ rfl w.heap.size _ ws rfl HO.out rfl (by omega) HWz ?_; intro v2 w2 ho2 hb2; obtain ⟨A2, C2, rfl⟩ := ho2.slice; rw [List.length_append] at ho2; have HO2 : Hid (OwnStrs w.heap.size w2 (.slice A2 (ws.length + 1) C2) (ws ++ [t])) := Lib.hid ho2; have HW2 := Lib.hid (HW.out.trans hb2); clear ho2 hb2)
            refine ⟨⟨k + 1, k + 1, _, _, by go_num, by go_num, rfl, by omega, HO2, HW2, .inl ⟨by omega, HN⟩⟩, ?_⟩
            simp [intOf]
            try omega
          · have hp : 0 < t.size := by omega
            have e0 : ¬ t.toList = [] := by rw [Lib.toList_data, bytes_nil]; omega
            have e1 : t.toList.isEmpty = false := by cases h : t.toList with
              | nil => exact absurd h e0
              | cons => rfl
            by_cases h13 : t[t.size - 1] = 13
            · have b13 : ((t[t.size - 1].toNat : Int) == 13) = true := by rw [h13]; rfl
              have HN := Lib.hid (HL.out (t.extract 0 (t.size - 1)) (by exact strip_drop hp h13) (by first | exact Nat.le_refl _ | (rw [ByteArray.size_extract]; omega)))
              clear h13 HL
              go_wp2_with (at_builtin; refine wpList_append_str rfl _ _ rfl w.heap.size _ ws rfl HO.out rfl (by omega) HWz ?_; intro v2 w2 ho2 hb2; obtain ⟨A2, C2, rfl⟩ := ho2.slice; rw [List.length_append] at ho2; have HO2 : Hid (OwnStrs w.heap.size w2 (.slice A2 (ws.length + 1) C2) (ws ++ [t.extract 0 (t.size - 1)])) := Lib.hid ho2; have HW2 := Lib.hid (HW.out.trans hb2); clear ho2 hb2)
              refine ⟨⟨k + 1, k + 1, _, _, by go_num, by go_num, rfl, by omega, HO2, HW2, .inl ⟨by omega, HN⟩⟩, ?_⟩
              simp [intOf]
              try omega
            · have b13 : ((t[t.size - 1].toNat : Int) == 13) = false := beq_eq_false_iff_ne.2 (fun e => h13 (UInt8.toNat_inj.1 (by show t[t.size - 1].toNat = 13; omega)))
              have HN := Lib.hid (HL.out (t) (by exact (strip_keep (.inr ⟨hp, h13⟩)).symm) (by first | exact Nat.le_refl _ | (rw [ByteArray.size_extract]; omega)))
              clear h13 HL
              go_wp2_with (at_builtin; refine wpList_append_str rfl _ _ rfl w.heap.size _ ws rfl HO.out rfl (by omega) HWz ?_; intro v2 w2 ho2 hb2; obtain ⟨A2, C2, rfl⟩ := ho2.slice; rw [List.length_append] at ho2; have HO2 : Hid (OwnStrs w.heap.size w2 (.slice A2 (ws.length + 1) C2) (ws ++ [t])) := Lib.hid ho2; have HW2 := Lib.hid (HW.out.trans hb2); clear ho2 hb2)
              refine ⟨⟨k + 1, k + 1, _, _, by go_num, by go_num, rfl, by omega, HO2, HW2, .inl ⟨by omega, HN⟩⟩, ?_⟩
              simp [intOf]
              try omega
        · have b10 : ((s[k].toNat : Int) != 10) = true := bne_iff_ne.2 (fun e => hc (UInt8.toNat_inj.1 (by show s[k].toNat = 10; omega)))
          have HN := Lib.hid (HI.out.next hlt hc)
          clear HI hc
          go_wp2
          refine ⟨⟨k + 1, a, _, _, by go_num, by go_num, rfl, by omega, HO, HW, .inl ⟨by omega, HN⟩⟩, ?_⟩
          simp [intOf]
          try omega
    · have hgt : (s.size : Int) < (k : Int) := by omega
      go_wp2
      go_ret
      exact ⟨⟨_, ws, rfl, HO.out, HD.out⟩, HW.out⟩
end Go.Proofs.YtikpkjpnehkbfaaGreatDoor.Rf
namespace Go.Proofs.YtikpkjpnehkbfaaGreatDoor.Rf
open Go Go.RowKit Go.Shelf Go.Proofs.YtikpkjpnehkbfaaGreatDoor.Sp Go.Proofs.YtikpkjpnehkbfaaGreatDoor.Pr Go.Proofs.YtikpkjpnehkbfaaGreatDoor.Rowl
def rowT : TypeId := 180
def lineT : TypeId := 147
def ty (i : Nat) : TypeId := if i < 2 then 180 else 147
def upd {α : Type} (f : Nat → α) (i : Nat) (x : α) : Nat → α := fun j => if j = i then x else f j
theorem upd_same {α : Type} (f : Nat → α) (i : Nat) (x : α) : upd f i x i = x := by simp [upd]
theorem upd_other {α : Type} (f : Nat → α) {i j : Nat} (x : α) (h : j ≠ i) : upd f i x j = f j := by simp [upd, h]
structure Ref4 (q n₀ : Nat) (W : World) (v : Nat → Value) (xs : Nat → List Value) (n : Nat → Nat) : Prop where
  hp : W.heap[q]? = some (.cells #[v 0, v 1, v 2, v 3] 141 (0, 0))
  base : n₀ ≤ q
  own : ∀ i, i < 4 → W.ownsRow n₀ (ty i) 3 (v i) (n i) (xs i)
  apart : ∀ i j, i < 4 → j < 4 → i ≠ j → ∀ g, (v i).ownBlock = some g → (v j).ownBlock ≠ some g
theorem ty_ne (i : Nat) : ty i ≠ 141 ∧ ty i ≠ 21 ∧ ty i ≠ 9 ∧ (ty i = rowT ∨ ty i = lineT) := by
  unfold ty rowT lineT
  split
  · exact ⟨by decide, by decide, by decide, .inl rfl⟩
  · exact ⟨by decide, by decide, by decide, .inr rfl⟩
section
variable {q n₀ : Nat} {W W' : World} {v : Nat → Value} {xs : Nat → List Value} {n : Nat → Nat}
theorem Ref4.ne (h : Ref4 q n₀ W v xs n) {i : Nat} {v' : Value} {m : Nat} {ys : List Value} (hv : W.ownsRow n₀ (ty i) 3 v' m ys) : v'.ownBlock ≠ some q :=
  own_ne hv h.hp (fun cur e => by injection e with _ e _; exact (ty_ne i).1 e.symm)
theorem Ref4.grown (h : Ref4 q n₀ W v xs n) {r : Option Nat} (hg : W.grownBy W' r) (hr : ∀ k, r = some k → k ≠ q ∧ ∀ i, i < 4 → (v i).ownBlock ≠ some k) : Ref4 q n₀ W' v xs n where
  hp := (hg.block _ (lt_of_block h.hp) (fun e => (hr _ e.symm).1 rfl)).trans h.hp
  base := h.base
  own := fun i hi => (h.own i hi).kept hg (by
    cases r with
    | none => cases (v i).ownBlock <;> simp
    | some k => exact .inr ((hr k rfl).2 i hi))
  apart := h.apart
theorem Ref4.later (h : Ref4 q n₀ W v xs n) (hb : Below W.heap.size W W') : Ref4 q n₀ W' v xs n := h.grown (grown_of_below hb) (fun k e => by cases e)
theorem Ref4.put (h : Ref4 q n₀ W v xs n) (i : Nat) (hi : i < 4) {v' : Value} {m : Nat} {news : List Value} (hg : W.grownBy W' (v i).ownBlock) (hown : W'.ownsRow n₀ (ty i) 3 v' m (xs i ++ news))
    (hat : v'.ownBlock = (v i).ownBlock ∨ ∃ g, v'.ownBlock = some g ∧ W.heap.size ≤ g) : Ref4 q n₀ (W'.setCell ⟨q, i, none⟩ v') (upd v i v') (upd xs i (xs i ++ news)) (upd n i m) := by
  have hq : (v i).ownBlock ≠ some q := h.ne (h.own i hi)
  have hp1 : W'.heap[q]? = some (.cells #[v 0, v 1, v 2, v 3] 141 (0, 0)) := (hg.block _ (lt_of_block h.hp) (fun e => hq e.symm)).trans h.hp
  have hs := setCell_grown W' ⟨q, i, none⟩ v'
  have hvq : v'.ownBlock ≠ some q := own_ne hown hp1 (fun cur e => by injection e with _ e _; exact (ty_ne i).1 e.symm)
  have hlt : ∀ j, j < 4 → ∀ g, (v j).ownBlock = some g → g < W.heap.size := fun j hj g hg => by
    obtain ⟨_, cur, hh⟩ := own_block (h.own j hj) hg
    exact lt_of_block hh
  refine ⟨?_, h.base, fun j hj => ?_, fun a b ha hb hab g hga hgb => ?_⟩
  · rw [heap_setCell_same W' q i _ _ v' hp1]
    match i, hi with
    | 0, _ => rfl
    | 1, _ => rfl
    | 2, _ => rfl
    | 3, _ => rfl
  · by_cases hji : j = i
    · subst hji
      rw [upd_same, upd_same, upd_same]
      exact hown.kept hs (.inr hvq)
    · rw [upd_other _ _ hji, upd_other _ _ hji, upd_other _ _ hji]
      have h1 : W'.ownsRow n₀ (ty j) 3 (v j) (n j) (xs j) := (h.own j hj).kept hg (by
        cases hcb : (v i).ownBlock with
        | none => cases (v j).ownBlock <;> simp
        | some g => exact .inr (h.apart i j hi hj (Ne.symm hji) g hcb))
      exact h1.kept hs (.inr (h.ne (h.own j hj)))
  · by_cases hai : a = i
    · subst hai
      rw [upd_same] at hga
      have hba : b ≠ a := Ne.symm hab
      rw [upd_other _ _ hba] at hgb
      rcases hat with e | ⟨g', e, hl⟩
      · exact h.apart a b hi hb hab g (e ▸ hga) hgb
      · rw [e] at hga
        injection hga with hga
        subst hga
        have := hlt b hb _ hgb
        omega
    · rw [upd_other _ _ hai] at hga
      by_cases hbi : b = i
      · subst hbi
        rw [upd_same] at hgb
        rcases hat with e | ⟨g', e, hl⟩
        · exact h.apart a b ha hi hab g hga (e ▸ hgb)
        · rw [e] at hgb
          injection hgb with hgb
          subst hgb
          have := hlt a ha _ hga
          omega
      · rw [upd_other _ _ hbi] at hgb
        exact h.apart a b ha hb hab g hga hgb
end
structure Fr (q n₀ : Nat) (w w' : World) : Prop where
  low : Below n₀ w w'
  keep : ∀ k, k < w.heap.size → k ≠ q → (∀ cs t, w.heap[k]? = some (.cells cs t (0, 0)) → t ≠ rowT ∧ t ≠ lineT) → w'.heap[k]? = w.heap[k]?
theorem Fr.of {q n₀ : Nat} {w w' : World} (h : Below w.heap.size w w') (hn : n₀ ≤ w.heap.size) : Fr q n₀ w w' := ⟨h.mono hn, fun k hk _ _ => h.block k hk⟩
theorem Fr.trans {q n₀ : Nat} {a b c : World} (h : Fr q n₀ a b) (h' : Fr q n₀ b c) : Fr q n₀ a c :=
  ⟨h.low.trans h'.low, fun k hk hq ht => by
    have e := h.keep k hk hq ht
    exact (h'.keep k (Nat.lt_of_lt_of_le hk h.low.size) hq (fun cs t ho => ht cs t (e ▸ ho))).trans e⟩
theorem Fr.put {q n₀ : Nat} {W W' : World} {v : Nat → Value} {xs : Nat → List Value} {n : Nat → Nat} (h : Ref4 q n₀ W v xs n) (i : Nat) (hi : i < 4) (hn : n₀ ≤ W.heap.size) (hg : W.grownBy W' (v i).ownBlock) (v' : Value) : Fr q n₀ W (W'.setCell ⟨q, i, none⟩ v') := by
  have hs := setCell_grown W' ⟨q, i, none⟩ v'
  refine ⟨((Below.refl n₀ W).grown hg hn (fun k e => (own_block (h.own i hi) e).1)).grown hs (Nat.le_trans hn hg.size) (fun k e => by injection e with e; subst e; exact h.base), fun k hk hq ht => ?_⟩
  have h1 : W'.heap[k]? = W.heap[k]? := hg.block k hk (fun e => by
    obtain ⟨_, cur, hh⟩ := own_block (h.own i hi) e.symm
    have := ht cur (ty i) hh
    rcases (ty_ne i).2.2.2 with e | e
    · exact this.1 e
    · exact this.2 e)
  exact (hs.block k (Nat.lt_of_lt_of_le hk hg.size) (fun e => hq (by injection e))).trans h1
theorem Fr.pts {q n₀ : Nat} {w w' : World} (h : Fr q n₀ w w') (hq : ∃ cs, w.heap[q]? = some (.cells cs 141 (0, 0))) {v : Value} {l : List Int} (hv : PtsB w v l) : PtsB w' v l := by
  obtain ⟨b, off, cap, cs, e, hb, r⟩ := hv
  refine ⟨b, off, cap, cs, e, ?_, r⟩
  obtain ⟨cq, hc⟩ := hq
  rw [h.keep b (lt_of_block hb) (fun e => by subst e; exact absurd (cells_type hb hc) (by decide)) (fun cs t ho => by
    have := cells_type hb ho
    subst this
    exact ⟨by unfold rowT; decide, by unfold lineT; decide⟩)]
  exact hb
def rowC (x : Row) : List Value := [.int .i64 x.lo, .int .i64 x.hi, .int .i64 x.n]
def flatR (l : List Row) : List Value := l.flatMap rowC
def LinesMean (W : World) : List Value → List (Int × List Int) → List Int → Prop
  | ys, [], [] => ys = []
  | ys, p :: l, k :: ks => ∃ tv ys', ys = .int .i64 p.1 :: tv :: .int .i64 k :: ys' ∧ PtsB W tv p.2 ∧ LinesMean W ys' l ks
  | _, _, _ => False
theorem LinesMean.map {W W' : World} (hm : ∀ tv ps, PtsB W tv ps → PtsB W' tv ps) : ∀ {ys : List Value} {l : List (Int × List Int)} {ks : List Int}, LinesMean W ys l ks → LinesMean W' ys l ks
  | _, [], [], h => h
  | _, _ :: _, _ :: _, ⟨tv, ys', e, h1, h2⟩ => ⟨tv, ys', e, hm _ _ h1, h2.map hm⟩
  | _, [], _ :: _, h => h.elim
  | _, _ :: _, [], h => h.elim
theorem LinesMean.snoc {W : World} {r k : Int} {ps : List Int} {tv : Value} (hp : PtsB W tv ps) : ∀ {ys : List Value} {l : List (Int × List Int)} {ks : List Int}, LinesMean W ys l ks → LinesMean W (ys ++ [.int .i64 r, tv, .int .i64 k]) (l ++ [(r, ps)]) (ks ++ [k])
  | _, [], [], h => by
    have h : _ = [] := h
    subst h
    exact ⟨tv, [], rfl, hp, rfl⟩
  | _, _ :: _, _ :: _, ⟨tv', ys', e, h1, h2⟩ => ⟨tv', _, by rw [e]; rfl, h1, h2.snoc hp⟩
  | _, [], _ :: _, h => h.elim
  | _, _ :: _, [], h => h.elim
theorem LinesMean.at {W : World} : ∀ {ys : List Value} {l : List (Int × List Int)} {ks : List Int} (_ : LinesMean W ys l ks) (i : Nat) (p : Int × List Int), l[i]? = some p → ∃ tv k, ys[i * 3]? = some (.int .i64 p.1) ∧ ys[i * 3 + 1]? = some tv ∧ ys[i * 3 + 2]? = some (.int .i64 k) ∧ ks[i]? = some k ∧ PtsB W tv p.2
  | _, _ :: _, k :: _, ⟨tv, ys', e, h1, h2⟩, 0, q, hq => by
    simp only [List.getElem?_cons_zero, Option.some.injEq] at hq
    subst hq
    subst e
    exact ⟨tv, k, rfl, rfl, rfl, rfl, h1⟩
  | _, _ :: _, _ :: _, ⟨tv, ys', e, h1, h2⟩, i + 1, q, hq => by
    obtain ⟨tv', k', a1, a2, a3, a4, a5⟩ := h2.at i q (by simpa using hq)
    subst e
    refine ⟨tv', k', ?_, ?_, ?_, by simpa using a4, a5⟩
    · rw [show (i + 1) * 3 = i * 3 + 3 by omega]; simpa using a1
    · rw [show (i + 1) * 3 + 1 = i * 3 + 1 + 3 by omega]; simpa using a2
    · rw [show (i + 1) * 3 + 2 = i * 3 + 2 + 3 by omega]; simpa using a3
  | _, [], [], _, i, q, hq => by simp at hq
  | _, [], _ :: _, h, _, _, _ => h.elim
  | _, _ :: _, [], h, _, _, _ => h.elim
structure Means (W : World) (xs : Nat → List Value) (n : Nat → Nat) (st : St) : Prop where
  c : xs 0 = flatR st.d.classes ∧ n 0 = st.d.classes.length
  k : xs 1 = flatR st.d.kinds ∧ n 1 = st.d.kinds.length
  f : (∃ ks, LinesMean W (xs 2) st.d.folds ks) ∧ n 2 = st.d.folds.length
  d : LinesMean W (xs 3) st.d.decomps (st.lines.map (·.2)) ∧ n 3 = st.d.decomps.length
theorem Means.map {W W' : World} {xs : Nat → List Value} {n : Nat → Nat} {st : St} (h : Means W xs n st) (hm : ∀ tv ps, PtsB W tv ps → PtsB W' tv ps) : Means W' xs n st :=
  ⟨h.c, h.k, ⟨by obtain ⟨ks, hk⟩ := h.f.1; exact ⟨ks, hk.map hm⟩, h.f.2⟩, ⟨h.d.1.map hm, h.d.2⟩⟩
theorem PtsB.later {W W' : World} (hb : Below W.heap.size W W') {tv : Value} {ps : List Int} (h : PtsB W tv ps) : PtsB W' tv ps := by
  obtain ⟨b, off, cap, cs, e, h1, r⟩ := h
  exact ⟨b, off, cap, cs, e, (hb.block b (lt_of_block h1)).trans h1, r⟩
theorem Means.later {W W' : World} {xs : Nat → List Value} {n : Nat → Nat} {st : St} (h : Means W xs n st) (hb : Below W.heap.size W W') : Means W' xs n st := h.map fun _ _ => PtsB.later hb
end Go.Proofs.YtikpkjpnehkbfaaGreatDoor.Rf
namespace Go.Proofs.YtikpkjpnehkbfaaGreatDoor.Rf
open Go Go.RowKit Go.Shelf Go.Proofs.YtikpkjpnehkbfaaGreatDoor.Sp Go.Proofs.YtikpkjpnehkbfaaGreatDoor.Pr Go.Proofs.YtikpkjpnehkbfaaGreatDoor.Rowl
theorem hex_digit (c : UInt8) : (isDigit c = true → hexVal c = some (c.toNat - 48) ∧ c.toNat - 48 < 10) ∧ (isDigit c = false → ∀ d, hexVal c = some d → 10 ≤ d) := by
  unfold isDigit hexVal
  constructor
  · intro h
    simp only [Bool.and_eq_true, decide_eq_true_eq] at h
    rw [if_pos h]
    have h1 : c.toNat ≤ 57 := UInt8.le_iff_toNat_le.1 h.2
    exact ⟨rfl, by omega⟩
  · intro h d hd
    simp only [Bool.and_eq_false_iff, decide_eq_false_iff_not] at h
    rw [if_neg (by rintro ⟨a, b⟩; rcases h with h | h <;> contradiction)] at hd
    split at hd
    · rename_i h1
      have h2 : 97 ≤ c.toNat := UInt8.le_iff_toNat_le.1 h1.1
      injection hd with hd; omega
    · split at hd
      · rename_i h1
        have h2 : 65 ≤ c.toNat := UInt8.le_iff_toNat_le.1 h1.1
        injection hd with hd; omega
      · cases hd
theorem numGo_yes : ∀ (l : Bytes) (n : Nat), l.all isDigit = true → numGo 10 l n = some (decGo l n)
  | [], n, _ => rfl
  | c :: l, n, h => by
    rw [List.all_cons, Bool.and_eq_true] at h
    obtain ⟨h1, h2⟩ := (hex_digit c).1 h.1
    simp only [numGo, h1, if_pos h2, decGo]
    exact numGo_yes l _ h.2
theorem numGo_not : ∀ (l : Bytes) (n : Nat), l.all isDigit = false → numGo 10 l n = none
  | [], n, h => by simp at h
  | c :: l, n, h => by
    rw [List.all_cons, Bool.and_eq_false_iff] at h
    simp only [numGo]
    cases hv : hexVal c with
    | none => rfl
    | some d =>
      simp only
      by_cases hd : d < 10
      · rw [if_pos hd]
        rcases h with h | h
        · have := (hex_digit c).2 h d hv
          omega
        · exact numGo_not l _ h
      · rw [if_neg hd]
theorem decGo_ge : ∀ (l : Bytes) (n : Nat), n * 10 ^ l.length ≤ decGo l n
  | [], n => by simp [decGo]
  | c :: l, n => by
    simp only [decGo, List.length_cons]
    refine Nat.le_trans ?_ (decGo_ge l _)
    rw [Nat.pow_succ, Nat.mul_comm (10 ^ l.length) 10, ← Nat.mul_assoc]
    exact Nat.mul_le_mul_right _ (by omega)
theorem class_cases (l : Bytes) : (∃ n : Nat, l.length ≤ 18 ∧ 1 ≤ l.length ∧ l.all isDigit = true ∧ decGo l 0 = n ∧ numB 10 l 1 18 = n ∧ classNo l = (if 1 < l.length ∧ l.head? = some 48 then .error 11 else if 254 < n then .error 1 else .ok n)) ∨
    (l.length ≤ 18 ∧ numB 10 l 1 18 = -1 ∧ classNo l = .error 11) ∨ (18 < l.length ∧ numB 10 l 1 18 = -1 ∧ l.all isDigit = false ∧ classNo l = .error 11) ∨
    (18 < l.length ∧ numB 10 l 1 18 = -1 ∧ l.all isDigit = true ∧ l.head? = some 48 ∧ classNo l = .error 11) ∨ (18 < l.length ∧ numB 10 l 1 18 = -1 ∧ l.all isDigit = true ∧ l.head? ≠ some 48 ∧ classNo l = .error 1) := by
  unfold numB classNo
  by_cases h18 : l.length ≤ 18
  · by_cases h1 : 1 ≤ l.length
    · have hne : l ≠ [] := fun e => by rw [e] at h1; simp at h1
      cases ha : l.all isDigit with
      | true =>
        refine .inl ⟨decGo l 0, h18, h1, rfl, rfl, by simp [h1, h18, numGo_yes l 0 ha], ?_⟩
        by_cases h48 : 1 < l.length ∧ l.head? = some 48
        · simp [h48]
        · rw [if_neg h48, if_pos ⟨rfl, hne, h48⟩]
      | false => exact .inr (.inl ⟨h18, by simp [numGo_not l 0 ha], by simp⟩)
    · have hne : l = [] := List.eq_nil_of_length_eq_zero (by omega)
      subst hne
      exact .inr (.inl ⟨h18, by simp, by simp⟩)
  · have h18' : 18 < l.length := by omega
    have hne : l ≠ [] := fun e => by rw [e] at h18; simp at h18
    cases ha : l.all isDigit with
    | false => exact .inr (.inr (.inl ⟨h18', by simp [h18], rfl, by simp⟩))
    | true =>
      by_cases h48 : l.head? = some 48
      · exact .inr (.inr (.inr (.inl ⟨h18', by simp [h18], rfl, h48, by rw [if_neg (by rintro ⟨_, _, h⟩; exact h ⟨by omega, h48⟩)]⟩)))
      · refine .inr (.inr (.inr (.inr ⟨h18', by simp [h18], rfl, h48, ?_⟩)))
        rw [if_pos ⟨rfl, hne, fun h => h48 h.2⟩, if_pos]
        cases l with
        | nil => exact absurd rfl hne
        | cons c t =>
          simp only [List.all_cons, Bool.and_eq_true] at ha
          have hc : isDigit c = true := ha.1
          unfold isDigit at hc
          simp only [Bool.and_eq_true, decide_eq_true_eq] at hc
          have h1 : 48 ≤ c.toNat := UInt8.le_iff_toNat_le.1 hc.1
          have h2 : c ≠ 48 := fun e => h48 (by rw [e]; rfl)
          have h3 : c.toNat ≠ 48 := fun e => h2 (UInt8.toNat_inj.1 e)
          simp only [decGo]
          have := decGo_ge t (10 * 0 + (c.toNat - 48))
          have hl : 18 ≤ t.length := by simp at h18'; omega
          have hp : 10 ^ 18 ≤ 10 ^ t.length := Nat.pow_le_pow_right (by omega) hl
          have hm : 1 * 10 ^ t.length ≤ (10 * 0 + (c.toNat - 48)) * 10 ^ t.length := Nat.mul_le_mul_right _ (by omega)
          have h18n : (10 : Nat) ^ 18 = 1000000000000000000 := by decide
          omega
theorem infoRowR : (Tryz.prog.info? 180).map (fun i => (i.zero, i.size, i.bytes)) = some (some (.agg #[.int .i64 0, .int .i64 0, .int .i64 0]), 3, 24) := by kernel_rfl
def Put (q n₀ i : Nat) (v : Nat → Value) (xs : Nat → List Value) (n : Nat → Nat) (news : List Value) (W W' : World) : Prop := ∃ v', Ref4 q n₀ W' (upd v i v') (upd xs i (xs i ++ news)) (upd n i (n i + 1)) ∧ Fr q n₀ W W'
theorem put_close {q n₀ i : Nat} {v : Nat → Value} {xs : Nat → List Value} {n : Nat → Nat} {news : List Value} {W W1 W2 : World} (h : Ref4 q n₀ W v xs n) (hi : i < 4) (hn : n₀ ≤ W.heap.size) (o : Obj) {gg cap : Nat} (hg : (W.alloc o).grownBy W2 (v i).ownBlock)
    (hown : W2.ownsRow n₀ (ty i) 3 (.slice (some ⟨gg, 0, none⟩) (n i + 1) cap) (n i + 1) (xs i ++ news)) (hat : (v i).ownBlock = some gg ∨ gg = W.heap.size + 1) (hw : W1 = W2.setCell ⟨q, i, none⟩ (.slice (some ⟨gg, 0, none⟩) (n i + 1) cap)) : Put q n₀ i v xs n news W W1 := by
  subst hw
  have hb := (Below.refl W.heap.size W).alloc (Nat.le_refl _) o
  have hx := h.later hb
  have hn' : n₀ ≤ (W.alloc o).heap.size := Nat.le_trans hn hb.size
  refine ⟨_, hx.put i hi hg hown ?_, (Fr.of hb hn).trans (Fr.put hx i hi hn' hg _)⟩
  rcases hat with e | e
  · exact .inl e.symm
  · exact .inr ⟨gg, rfl, by rw [World.size_alloc]; omega⟩
theorem Put.behind {q n₀ i : Nat} {v : Nat → Value} {xs : Nat → List Value} {n : Nat → Nat} {news : List Value} {w W W' : World} (hb : Below w.heap.size w W) (hn : n₀ ≤ w.heap.size) (h : Put q n₀ i v xs n news W W') : Put q n₀ i v xs n news w W' := by
  obtain ⟨v', h1, h2⟩ := h
  exact ⟨v', h1, (Fr.of hb hn).trans h2⟩
theorem field_kept {q n₀ : Nat} {v : Nat → Value} {xs : Nat → List Value} {n : Nat → Nat} {W W2 : World} (h : Ref4 q n₀ W v xs n) {i : Nat} (hi : i < 4) {o : Obj} (hg : (W.alloc o).grownBy W2 (v i).ownBlock) : W2.cell? ⟨q, i, none⟩ = some (v i) ∧ W2.frozen? ⟨q, i, none⟩ = false := by
  have hq := h.ne (h.own i hi)
  have e : W2.heap[q]? = some (.cells #[v 0, v 1, v 2, v 3] 141 (0, 0)) := (hg.block q (by rw [World.size_alloc]; have := lt_of_block h.hp; omega) (fun e => hq e.symm)).trans ((Below.heap_alloc W o q (lt_of_block h.hp)).trans h.hp)
  refine ⟨?_, by simp [World.frozen?, e]⟩
  rw [cell_of_row W2 _ i _ _ (0, 0) e]
  match i, hi with
  | 0, _ => rfl
  | 1, _ => rfl
  | 2, _ => rfl
  | 3, _ => rfl
set_option maxHeartbeats 8000000 in
set_option maxRecDepth 100000 in
theorem ranged_class (q n₀ : Nat) (v : Nat → Value) (xs : Nat → List Value) (n : Nat → Nat) (w : World) (h : Ref4 q n₀ w v xs n) (hn₀ : n₀ ≤ w.heap.size) (hmany : n 0 ≤ 1048576) (b off c : Nat) (s0 s1 s2 : ByteArray) (hs1 : s1.size ≤ 1048576) (hs2 : s2.size ≤ 18)
    (c0 : w.cell? ⟨b, off, none⟩ = some (.string s0)) (c1 : w.cell? ⟨b, off + 1, none⟩ = some (.string s1)) (c2 : w.cell? ⟨b, off + 2, none⟩ = some (.string s2)) (hk : (s0.toList == [107, 105, 110, 100]) = false) (lo hi : Int) (he : spanOf s1.data.toList = .ok (lo, hi))
    (no : Nat) (hno : numB 10 s2.data.toList 1 18 = no) (h254 : no ≤ 254) (h48 : s2.size ≤ 1 ∨ (1 < s2.size ∧ ∃ h : 0 < s2.size, s2[0] ≠ 48)) :
    Calls Tryz.prog 89 #[.pointer (some ⟨q, 0, none⟩), .slice (some ⟨b, off, none⟩) 3 c] w fun e w' => e = .returned (.int .i64 0) ∧ Put q n₀ 0 v xs n (rowC ⟨lo, hi, no⟩) w w' := by
  have hen : ∀ W, Calls Tryz.prog 127 #[.string s1] W fun e w' => e = .returned (.tuple #[.int .i64 lo, .int .i64 hi, .int .i64 0]) ∧ Below W.heap.size W w' := fun W => by
    have := ends_calls s1 hs1 W
    rwa [he] at this
  have hnu : ∀ W, Calls Tryz.prog 128 #[.string s2, .int .i64 10, .int .i64 1, .int .i64 18] W fun e w' => e = .returned (.int .i64 no) ∧ Below W.heap.size W w' := fun W => by
    have := number10_calls s2 1 W
    rwa [hno] at this
  have HE := Lib.hid hen
  have HN := Lib.hid hnu
  have H := Lib.hid h
  obtain ⟨ii, hi0, hz0, hz1, hz2⟩ := info_parts infoRowR
  clear hen hnu h he hno
  have h18 : ¬ 18 < s2.size := by omega
  have b48 : s2.size ≤ 1 ∨ (1 < s2.size ∧ 0 < s2.size ∧ ∃ hp : 0 < s2.size, ((s2[0].toNat : Int) == 48) = false) := by
    rcases h48 with h48 | ⟨h1, hp, h2⟩
    · exact .inl h48
    · exact .inr ⟨h1, hp, hp, beq_eq_false_iff_ne.2 (fun e => h2 (UInt8.toNat_inj.1 (by show s2[0].toNat = 48; omega)))⟩
  clear h48
  rcases b48 with h48 | ⟨h48, hp, _, b48⟩
  all_goals
    go_enter Tryz.func89, Tryz.ntmps89
    go_wp2_with (first
      | (go_at_call 127; refine (HE.out _).mono ?_; rintro e w1 ⟨rfl, hb1⟩; have c01 := cell_later hb1 c0; have c21 := cell_later hb1 c2)
      | (go_at_call 128; refine (HN.out _).mono ?_; rintro e w2 ⟨rfl, hb2⟩; have c22 := cell_later hb2 c21; have h2 := (H.out.later hb1).later hb2; have HB2 := Lib.hid (hb1.trans (hb2.mono hb1.size)); have q0 : w2.cell? ⟨q, 0, none⟩ = some (v 0) := (by rw [cell_of_row w2 _ 0 _ _ (0, 0) h2.hp]; rfl); have HO := Lib.hid (h2.own 0 (by decide)); have H2 := Lib.hid h2; clear h2)
      | (at_builtin; refine wpList_append_lies _ (by rfl) _ _ _ (by rfl) n₀ 180 ii _ 3 24 Tryz.underlying138 hi0 hz0 hz1 hz2 rfl (by omega) (v 0) (n 0) (xs 0) (by rfl) (World.ownsRow.alloc HO.out _) ⟨w2.heap.size, 0, none⟩ 1 1 (rowC ⟨lo, hi, no⟩) (by rfl) (by rfl) (World.news_of_block (cs := #[.int .i64 lo, .int .i64 hi, .int .i64 no]) (t := 180) (fr := (0, 0)) (heap_alloc_new w2 _)) (by simp [rowC, Value.oneCell']) (by omega) (by simp only [maxLen]; omega) (by omega) (by have := HB2.out.size; rw [World.size_alloc]; omega) (w2.heap.size + 1) (by simp) ?_; intro gg cap w4 hown hgrow hat hgl; obtain ⟨q1, q2⟩ := field_kept H2.out (i := 0) (by decide) hgrow; have HF := Lib.hid (put_close H2.out (i := 0) (by decide) (Nat.le_trans hn₀ HB2.out.size) _ hgrow hown hat rfl); clear hown hgrow hat hgl))
    go_ret
    exact ⟨rfl, HF.out.behind HB2.out hn₀⟩
def KindsAt (W : World) : Prop := ∀ k, k < 8 → ∃ nb : ByteArray, W.cell? ⟨0, k, none⟩ = some (.string nb) ∧ kindNames[k]? = some nb.data.toList
theorem KindsAt.on {W W' : World} (h : KindsAt W) (hb : Below W.heap.size W W') : KindsAt W' := fun k hk => by
  obtain ⟨nb, h1, h2⟩ := h k hk
  exact ⟨nb, cell_later hb h1, h2⟩
theorem str_eq {a b : ByteArray} : a.data.toList = b.data.toList ↔ a.toList = b.toList := by rw [Lib.toList_data, Lib.toList_data]
set_option maxHeartbeats 8000000 in
set_option maxRecDepth 100000 in
theorem ranged_kind (q n₀ : Nat) (v : Nat → Value) (xs : Nat → List Value) (n : Nat → Nat) (w : World) (h : Ref4 q n₀ w v xs n) (hn₀ : n₀ ≤ w.heap.size) (hmany : n 1 ≤ 1048576) (b off c : Nat) (s0 s1 s2 : ByteArray) (hs1 : s1.size ≤ 1048576)
    (c0 : w.cell? ⟨b, off, none⟩ = some (.string s0)) (c1 : w.cell? ⟨b, off + 1, none⟩ = some (.string s1)) (c2 : w.cell? ⟨b, off + 2, none⟩ = some (.string s2)) (hk : (s0.toList == [107, 105, 110, 100]) = true) (lo hi : Int) (he : spanOf s1.data.toList = .ok (lo, hi))
    (KT : KindsAt w) (o : Option Nat) (ho : kindNames.idxOf? s2.data.toList = o) :
    Calls Tryz.prog 89 #[.pointer (some ⟨q, 0, none⟩), .slice (some ⟨b, off, none⟩) 3 c] w fun e w' => (∃ kk, o = some kk ∧ e = .returned (.int .i64 0) ∧ Put q n₀ 1 v xs n (rowC ⟨lo, hi, kk⟩) w w') ∨ (o = none ∧ e = .returned (.int .i64 12) ∧ Below w.heap.size w w') := by
  have hen : ∀ W, Calls Tryz.prog 127 #[.string s1] W fun e w' => e = .returned (.tuple #[.int .i64 lo, .int .i64 hi, .int .i64 0]) ∧ Below W.heap.size W w' := fun W => by
    have := ends_calls s1 hs1 W
    rwa [he] at this
  have HE := Lib.hid hen
  have H := Lib.hid h
  have HK := Lib.hid KT
  have HO := Lib.hid ho
  obtain ⟨ii, hi0, hz0, hz1, hz2⟩ := info_parts infoRowR
  clear hen h he KT ho
  go_enter Tryz.func89, Tryz.ntmps89
  go_wp2_with (go_at_call 127; refine (HE.out _).mono ?_; rintro e w1 ⟨rfl, hb1⟩; have c01 := cell_later hb1 c0; have HB1 := Lib.hid hb1; clear hb1)
  go_loopw [8] (fun vj wr => ∃ j : Nat, vj = .int .i64 j ∧ j ≤ 8 ∧ Hid (∀ i, i < j → kindNames[i]? ≠ some s2.data.toList) ∧ Hid (Below w.heap.size w wr)) (fun vj _ => 8 - (intOf vj).toNat)
  case atStart => exact ⟨0, rfl, by omega, Lib.hid (fun i hi => by omega), HB1⟩
  case round =>
    obtain ⟨j, rfl, hj, HI, HR⟩ := hrel
    by_cases hj8 : j < 8
    · obtain ⟨nb, hnb, hname⟩ := HK.out j hj8
      have c2r := cell_later HR.out c2
      have nbr := cell_later HR.out hnb
      have HNM := Lib.hid hname
      have f1 : (0 : Int) ≤ (j : Int) := by omega
      have f2 : (j : Int) < 8 := by omega
      clear hname
      by_cases heq : s2.toList = nb.toList
      · have hq : (s2.toList == nb.toList) = true := beq_iff_eq.2 heq
        have HJ : Hid (o = some j) := Lib.hid (by
          rw [← HO.out, List.idxOf?_eq_some_iff]
          refine ⟨hj8, ?_, fun i hi => ?_⟩
          · have := HNM.out
            rw [List.getElem?_eq_getElem hj8] at this
            injection this with this
            rw [this]
            exact (str_eq.2 heq).symm
          · have h1 := HI.out i hi
            intro e
            exact h1 (by rw [List.getElem?_eq_getElem (show i < kindNames.length by show i < 8; omega), e]))
        have h2 := H.out.later HR.out.drew
        have q0 : wr.cell? ⟨q, 1, none⟩ = some (v 1) := (by rw [cell_of_row wr _ 1 _ _ (0, 0) h2.hp]; rfl)
        have HOW := Lib.hid (h2.own 1 (by decide))
        have H2 := Lib.hid h2
        clear heq h2 hnb
        go_wp2
        go_region
        go_wp2_with (at_builtin; refine wpList_append_lies _ (by rfl) _ _ _ (by rfl) n₀ 180 ii _ 3 24 Tryz.underlying138 hi0 hz0 hz1 hz2 rfl (by omega) (v 1) (n 1) (xs 1) (by rfl) (World.ownsRow.alloc HOW.out _) ⟨wr.heap.size, 0, none⟩ 1 1 (rowC ⟨lo, hi, j⟩) (by rfl) (by rfl) (World.news_of_block (cs := #[.int .i64 lo, .int .i64 hi, .int .i64 j]) (t := 180) (fr := (0, 0)) (heap_alloc_new wr.drew _)) (by simp [rowC, Value.oneCell']) (by omega) (by simp only [maxLen]; omega) (by omega) (by have := HR.out.size; show _ ≤ (wr.alloc _).heap.size; rw [World.size_alloc]; omega) (wr.heap.size + 1) (by simp) ?_; intro gg cap w4 hown hgrow hat hgl; obtain ⟨q1, q2⟩ := field_kept H2.out (i := 1) (by decide) hgrow; have HF := Lib.hid (put_close H2.out (i := 1) (by decide) (Nat.le_trans hn₀ HR.out.size) _ hgrow hown hat rfl); clear hown hgrow hat hgl)
        go_ret
        exact .inl ⟨j, HJ.out, rfl, HF.out.behind HR.out.drew hn₀⟩
      · have hq : (s2.toList == nb.toList) = false := beq_eq_false_iff_ne.2 heq
        have HI2 : Hid (∀ i, i < j + 1 → kindNames[i]? ≠ some s2.data.toList) := Lib.hid (fun i hi => by
          by_cases hij : i < j
          · exact HI.out i hij
          · have : i = j := by omega
            subst this
            rw [HNM.out]
            intro e
            injection e with e
            exact heq (str_eq.1 e.symm))
        clear heq
        go_wp2
        go_region
        go_wp2
        refine ⟨⟨j + 1, by go_num, by omega, HI2, Lib.hid HR.out.drew⟩, ?_⟩
        simp [intOf]
        omega
    · have hje : j = 8 := by omega
      subst hje
      have HJ : Hid (o = none) := Lib.hid (by
        rw [← HO.out, List.idxOf?_eq_none_iff]
        intro hm
        obtain ⟨i, hi, e⟩ := List.mem_iff_getElem.1 hm
        exact HI.out i hi (by rw [List.getElem?_eq_getElem hi, e]))
      go_wp2
      go_ret
      exact .inr ⟨HJ.out, rfl, HR.out⟩
theorem ranged_few (q : Nat) (a : Option Addr) (m c : Nat) (w : World) (h : m < 3) : Calls Tryz.prog 89 #[.pointer (some ⟨q, 0, none⟩), .slice a m c] w fun e w' => e = .returned (.int .i64 2) ∧ Below w.heap.size w w' := by
  have h' : (m : Int) < 3 := by omega
  go_enter Tryz.func89, Tryz.ntmps89
  go_wp2
  go_ret
  exact ⟨rfl, Below.refl _ _⟩
set_option maxRecDepth 100000 in
theorem ranged_lots (q : Nat) (a : Option Addr) (m c : Nat) (w : World) (h : 3 < m) : Calls Tryz.prog 89 #[.pointer (some ⟨q, 0, none⟩), .slice a m c] w fun e w' => e = .returned (.int .i64 3) ∧ Below w.heap.size w w' := by
  have h1 : ¬ (m : Int) < 3 := by omega
  have h2 : (3 : Int) < (m : Int) := by omega
  go_enter Tryz.func89, Tryz.ntmps89
  go_wp2
  go_ret
  exact ⟨rfl, Below.refl _ _⟩
theorem span_err {l : Bytes} {k : Int} (h : spanOf l = .error k) : 0 < k := by
  unfold spanOf at h
  simp only at h
  split at h
  · split at h
    · split at h
      · simp only [Except.error.injEq] at h; omega
      · cases h
    · simp only [Except.error.injEq] at h; omega
  · simp only [Except.error.injEq] at h; omega
set_option maxRecDepth 100000 in
theorem ranged_span (q : Nat) (w : World) (b off c : Nat) (s1 : ByteArray) (hs1 : s1.size ≤ 1048576) (c1 : w.cell? ⟨b, off + 1, none⟩ = some (.string s1)) (k : Int) (he : spanOf s1.data.toList = .error k) :
    Calls Tryz.prog 89 #[.pointer (some ⟨q, 0, none⟩), .slice (some ⟨b, off, none⟩) 3 c] w fun e w' => e = .returned (.int .i64 k) ∧ Below w.heap.size w w' := by
  have hen : ∀ W, Calls Tryz.prog 127 #[.string s1] W fun e w' => e = .returned (.tuple #[.int .i64 0, .int .i64 0, .int .i64 k]) ∧ Below W.heap.size W w' := fun W => by
    have := ends_calls s1 hs1 W
    rwa [he] at this
  have HE := Lib.hid hen
  have hk := span_err he
  have hkn : (k != 0) = true := bne_iff_ne.2 (by omega)
  clear hen he
  go_enter Tryz.func89, Tryz.ntmps89
  go_wp2_with (go_at_call 127; refine (HE.out _).mono ?_; rintro e w1 ⟨rfl, hb1⟩)
  go_ret
  exact ⟨rfl, hb1⟩
theorem head_at (s : ByteArray) (h : 0 < s.size) : s.data.toList.head? = some s[0] := by
  have hk : 0 < s.data.toList.length := by rw [← Lib.size_eq]; exact h
  rw [List.head?_eq_getElem?, List.getElem?_eq_getElem hk]
  rfl
theorem all_take (s : ByteArray) (k : Nat) (h : k < s.size) : (s.data.toList.take (k + 1)).all isDigit = ((s.data.toList.take k).all isDigit && isDigit s[k]) := by
  rw [take_at' s k h, List.all_append]
  simp
def Digs (l : Bytes) : Prop := l.all isDigit = true
theorem mem_at (s : ByteArray) (j : Nat) (h : j < s.size) : s[j] ∈ s.data.toList := by
  have hk : j < s.data.toList.length := by rw [← Lib.size_eq]; exact h
  exact List.getElem_mem hk
set_option maxHeartbeats 8000000 in
set_option maxRecDepth 100000 in
theorem ranged_number (q : Nat) (w : World) (b off c : Nat) (s0 s1 s2 : ByteArray) (hs1 : s1.size ≤ 1048576) (hs2 : s2.size ≤ 1048576)
    (c0 : w.cell? ⟨b, off, none⟩ = some (.string s0)) (c1 : w.cell? ⟨b, off + 1, none⟩ = some (.string s1)) (c2 : w.cell? ⟨b, off + 2, none⟩ = some (.string s2)) (hk : (s0.toList == [107, 105, 110, 100]) = false) (lo hi : Int) (he : spanOf s1.data.toList = .ok (lo, hi))
    (k : Int) (hno : classNo s2.data.toList = .error k) :
    Calls Tryz.prog 89 #[.pointer (some ⟨q, 0, none⟩), .slice (some ⟨b, off, none⟩) 3 c] w fun e w' => e = .returned (.int .i64 k) ∧ Below w.heap.size w w' := by
  have hen : ∀ W, Calls Tryz.prog 127 #[.string s1] W fun e w' => e = .returned (.tuple #[.int .i64 lo, .int .i64 hi, .int .i64 0]) ∧ Below W.heap.size W w' := fun W => by
    have := ends_calls s1 hs1 W
    rwa [he] at this
  have HE := Lib.hid hen
  have hcl := class_cases s2.data.toList
  rw [← Lib.size_eq] at hcl
  obtain ⟨no, hnu⟩ : ∃ no, numB 10 s2.data.toList 1 18 = no := ⟨_, rfl⟩
  have HN : Hid (∀ W, Calls Tryz.prog 128 #[.string s2, .int .i64 10, .int .i64 1, .int .i64 18] W fun e w' => e = .returned (.int .i64 no) ∧ Below W.heap.size W w') := Lib.hid fun W => by
    have := number10_calls s2 1 W
    rwa [hnu] at this
  rw [hnu, hno] at hcl
  clear hen he hnu hno
  rcases hcl with ⟨m, z1, z2, z3, z4, z5, z6⟩ | ⟨z1, z2, z3⟩ | ⟨z1, z2, z3, z4⟩ | ⟨z1, z2, z3, z4, z5⟩ | ⟨z1, z2, z3, z4, z5⟩
  · clear z3 z4
    subst z5
    have hp : 0 < s2.size := by omega
    rw [head_at s2 hp] at z6
    have hcase : (k = 11 ∧ 1 < s2.size ∧ ((s2[0].toNat : Int) == 48) = true) ∨ (k = 1 ∧ 254 < m ∧ (s2.size ≤ 1 ∨ (1 < s2.size ∧ ((s2[0].toNat : Int) == 48) = false))) := by
      by_cases h48 : 1 < s2.size ∧ some s2[0] = some 48
      · rw [if_pos h48] at z6
        injection z6 with z6
        refine .inl ⟨z6, h48.1, ?_⟩
        have := h48.2
        injection this with this
        rw [this]; rfl
      · rw [if_neg h48] at z6
        by_cases h254 : 254 < m
        · rw [if_pos h254] at z6
          injection z6 with z6
          refine .inr ⟨z6, h254, ?_⟩
          by_cases h1 : 1 < s2.size
          · exact .inr ⟨h1, beq_eq_false_iff_ne.2 (fun e => h48 ⟨h1, by rw [UInt8.toNat_inj.1 (show s2[0].toNat = (48 : UInt8).toNat by show s2[0].toNat = 48; omega)]⟩)⟩
          · exact .inl (by omega)
        · rw [if_neg h254] at z6; cases z6
    clear z6
    have h18 : ¬ 18 < s2.size := by omega
    rcases hcase with ⟨rfl, h1, b48⟩ | ⟨rfl, h254, h1 | ⟨h1, b48⟩⟩
    all_goals
      go_enter Tryz.func89, Tryz.ntmps89
      go_wp2_with (first
        | (go_at_call 127; refine (HE.out _).mono ?_; rintro e w1 ⟨rfl, hb1⟩; have c01 := cell_later hb1 c0; have c21 := cell_later hb1 c2)
        | (go_at_call 128; refine (HN.out _).mono ?_; rintro e w2 ⟨rfl, hb2⟩; have c22 := cell_later hb2 c21; have HB2 := Lib.hid (hb1.trans (hb2.mono hb1.size))))
      go_ret
      exact ⟨rfl, HB2.out⟩
  · subst z2
    injection z3 with z3
    subst z3
    have h18 : ¬ 18 < s2.size := by omega
    go_enter Tryz.func89, Tryz.ntmps89
    go_wp2_with (first
      | (go_at_call 127; refine (HE.out _).mono ?_; rintro e w1 ⟨rfl, hb1⟩; have c01 := cell_later hb1 c0; have c21 := cell_later hb1 c2)
      | (go_at_call 128; refine (HN.out _).mono ?_; rintro e w2 ⟨rfl, hb2⟩; have c22 := cell_later hb2 c21; have HB2 := Lib.hid (hb1.trans (hb2.mono hb1.size))))
    go_ret
    exact ⟨rfl, HB2.out⟩
  · subst z2
    injection z4 with z4
    subst z4
    have HAL := Lib.hid z3
    clear z3
    go_enter Tryz.func89, Tryz.ntmps89
    go_wp2_with (first
      | (go_at_call 127; refine (HE.out _).mono ?_; rintro e w1 ⟨rfl, hb1⟩; have c01 := cell_later hb1 c0; have c21 := cell_later hb1 c2)
      | (go_at_call 128; refine (HN.out _).mono ?_; rintro e w2 ⟨rfl, hb2⟩; have c22 := cell_later hb2 c21; have HB2 := Lib.hid (hb1.trans (hb2.mono hb1.size))))
    go_loop [10] (fun vi => ∃ j : Nat, vi = .int .i64 j ∧ j ≤ s2.size ∧ Hid (Digs (s2.data.toList.take j))) (fun vi => s2.size - (intOf vi).toNat)
    case atStart => exact ⟨0, rfl, by omega, Lib.hid rfl⟩
    case round =>
      obtain ⟨j, rfl, hj, HI⟩ := hrel
      by_cases hlt : j < s2.size
      · by_cases hd : isDigit s2[j] = true
        · have hd1 : (48 : Int) ≤ (s2[j].toNat : Int) ∧ (s2[j].toNat : Int) ≤ 57 := by
            unfold isDigit at hd
            simp only [Bool.and_eq_true, decide_eq_true_eq] at hd
            have a1 : 48 ≤ s2[j].toNat := UInt8.le_iff_toNat_le.1 hd.1
            have a2 : s2[j].toNat ≤ 57 := UInt8.le_iff_toNat_le.1 hd.2
            omega
          obtain ⟨hd2, hd3⟩ := hd1
          have HI2 : Hid (Digs (s2.data.toList.take (j + 1))) := Lib.hid (by unfold Digs; rw [all_take s2 j hlt, HI.out, hd]; rfl)
          clear hd
          go_wp2
          go_round
          case rel => exact ⟨j + 1, by go_num, by omega, HI2⟩
          case measure => simp [intOf]; omega
        · have hd' : isDigit s2[j] = false := by simpa using hd
          have hd1 : (s2[j].toNat : Int) < 48 ∨ (48 ≤ (s2[j].toNat : Int) ∧ 57 < (s2[j].toNat : Int)) := by
            unfold isDigit at hd'
            simp only [Bool.and_eq_false_iff, decide_eq_false_iff_not, UInt8.le_iff_toNat_le] at hd'
            have e1 : (48 : UInt8).toNat = 48 := rfl
            have e2 : (57 : UInt8).toNat = 57 := rfl
            omega
          clear hd hd'
          rcases hd1 with hd1 | ⟨hd0, hd1⟩
          all_goals
            go_wp2
            go_ret
            exact ⟨rfl, HB2.out⟩
      · have hje : j = s2.size := by omega
        subst hje
        exact absurd HI.out (by unfold Digs; rw [List.take_of_length_le (by rw [Lib.size_eq]; exact Nat.le_refl _), HAL.out]; decide)
  · subst z2
    injection z5 with z5
    subst z5
    have HAL := Lib.hid z3
    have hp : 0 < s2.size := by omega
    have h1 : 1 < s2.size := by omega
    rw [head_at s2 hp] at z4
    injection z4 with z4
    have b48 : ((s2[0].toNat : Int) == 48) = true := by rw [z4]; rfl
    clear z3 z4
    go_enter Tryz.func89, Tryz.ntmps89
    go_wp2_with (first
      | (go_at_call 127; refine (HE.out _).mono ?_; rintro e w1 ⟨rfl, hb1⟩; have c01 := cell_later hb1 c0; have c21 := cell_later hb1 c2)
      | (go_at_call 128; refine (HN.out _).mono ?_; rintro e w2 ⟨rfl, hb2⟩; have c22 := cell_later hb2 c21; have HB2 := Lib.hid (hb1.trans (hb2.mono hb1.size))))
    go_loop [10] (fun vi => ∃ j : Nat, vi = .int .i64 j ∧ j ≤ s2.size ∧ Hid (Digs (s2.data.toList.take j))) (fun vi => s2.size - (intOf vi).toNat)
    case atStart => exact ⟨0, rfl, by omega, Lib.hid rfl⟩
    case round =>
      obtain ⟨j, rfl, hj, HI⟩ := hrel
      by_cases hlt : j < s2.size
      · by_cases hd : isDigit s2[j] = true
        · have hd1 : (48 : Int) ≤ (s2[j].toNat : Int) ∧ (s2[j].toNat : Int) ≤ 57 := by
            unfold isDigit at hd
            simp only [Bool.and_eq_true, decide_eq_true_eq] at hd
            have a1 : 48 ≤ s2[j].toNat := UInt8.le_iff_toNat_le.1 hd.1
            have a2 : s2[j].toNat ≤ 57 := UInt8.le_iff_toNat_le.1 hd.2
            omega
          obtain ⟨hd2, hd3⟩ := hd1
          have HI2 : Hid (Digs (s2.data.toList.take (j + 1))) := Lib.hid (by unfold Digs; rw [all_take s2 j hlt, HI.out, hd]; rfl)
          clear hd
          go_wp2
          go_round
          case rel => exact ⟨j + 1, by go_num, by omega, HI2⟩
          case measure => simp [intOf]; omega
        · exact absurd (List.all_eq_true.1 HAL.out s2[j] (mem_at s2 j hlt)) hd
      · have hje : j = s2.size := by omega
        subst hje
        go_wp2
        go_ret
        exact ⟨rfl, HB2.out⟩
  · subst z2
    injection z5 with z5
    subst z5
    have HAL := Lib.hid z3
    have hp : 0 < s2.size := by omega
    have h1 : 1 < s2.size := by omega
    rw [head_at s2 hp] at z4
    have b48 : ((s2[0].toNat : Int) == 48) = false := beq_eq_false_iff_ne.2 (fun e => z4 (by rw [UInt8.toNat_inj.1 (show s2[0].toNat = (48 : UInt8).toNat by show s2[0].toNat = 48; omega)]))
    clear z3 z4
    go_enter Tryz.func89, Tryz.ntmps89
    go_wp2_with (first
      | (go_at_call 127; refine (HE.out _).mono ?_; rintro e w1 ⟨rfl, hb1⟩; have c01 := cell_later hb1 c0; have c21 := cell_later hb1 c2)
      | (go_at_call 128; refine (HN.out _).mono ?_; rintro e w2 ⟨rfl, hb2⟩; have c22 := cell_later hb2 c21; have HB2 := Lib.hid (hb1.trans (hb2.mono hb1.size))))
    go_loop [10] (fun vi => ∃ j : Nat, vi = .int .i64 j ∧ j ≤ s2.size ∧ Hid (Digs (s2.data.toList.take j))) (fun vi => s2.size - (intOf vi).toNat)
    case atStart => exact ⟨0, rfl, by omega, Lib.hid rfl⟩
    case round =>
      obtain ⟨j, rfl, hj, HI⟩ := hrel
      by_cases hlt : j < s2.size
      · by_cases hd : isDigit s2[j] = true
        · have hd1 : (48 : Int) ≤ (s2[j].toNat : Int) ∧ (s2[j].toNat : Int) ≤ 57 := by
            unfold isDigit at hd
            simp only [Bool.and_eq_true, decide_eq_true_eq] at hd
            have a1 : 48 ≤ s2[j].toNat := UInt8.le_iff_toNat_le.1 hd.1
            have a2 : s2[j].toNat ≤ 57 := UInt8.le_iff_toNat_le.1 hd.2
            omega
          obtain ⟨hd2, hd3⟩ := hd1
          have HI2 : Hid (Digs (s2.data.toList.take (j + 1))) := Lib.hid (by unfold Digs; rw [all_take s2 j hlt, HI.out, hd]; rfl)
          clear hd
          go_wp2
          go_round
          case rel => exact ⟨j + 1, by go_num, by omega, HI2⟩
          case measure => simp [intOf]; omega
        · exact absurd (List.all_eq_true.1 HAL.out s2[j] (mem_at s2 j hlt)) hd
      · have hje : j = s2.size := by omega
        subst hje
        go_wp2
        go_ret
        exact ⟨rfl, HB2.out⟩
end Go.Proofs.YtikpkjpnehkbfaaGreatDoor.Rf
namespace Go.Proofs.YtikpkjpnehkbfaaGreatDoor.Rf
open Go Go.RowKit Go.Shelf Go.Proofs.YtikpkjpnehkbfaaGreatDoor.Sp Go.Proofs.YtikpkjpnehkbfaaGreatDoor.Pr Go.Proofs.YtikpkjpnehkbfaaGreatDoor.Rowl
theorem line_cells {W : World} {n₀ : Nat} {fv : Value} {m : Nat} {ys : List Value} {l : List (Int × List Int)} {ks : List Int} (ho : W.ownsRow n₀ 147 3 fv m ys) (hm : LinesMean W ys l ks) (hl : m = l.length) :
    ∃ A c, fv = .slice A l.length c ∧ ∀ (i : Nat) (p : Int × List Int), l[i]? = some p → ∃ g, A = some ⟨g, 0, none⟩ ∧ ∃ tv k, W.cell? ⟨g, i * 3, none⟩ = some (.int .i64 p.1) ∧ W.cell? ⟨g, i * 3 + 1, none⟩ = some tv ∧ W.cell? ⟨g, i * 3 + 2, none⟩ = some (.int .i64 k) ∧ ks[i]? = some k ∧ PtsB W tv p.2 := by
  subst hl
  by_cases h0 : 0 < l.length
  · obtain ⟨g, c, rfl, _, _, _, _⟩ := own_some ho h0
    refine ⟨_, c, rfl, fun i p hp => ⟨g, rfl, ?_⟩⟩
    obtain ⟨tv, k, a1, a2, a3, a4, a5⟩ := hm.at i p hp
    have hc := World.ownsRow.cells ho (g := g) rfl
    refine ⟨tv, k, ?_, ?_, ?_, a4, a5⟩
    · have := hc (i * 3) _ a1
      rwa [show ((⟨g, 0, none⟩ : Addr).add (i * 3)) = ⟨g, i * 3, none⟩ by (unfold Addr.add; split <;> simp_all)] at this
    · have := hc (i * 3 + 1) _ a2
      rwa [show ((⟨g, 0, none⟩ : Addr).add (i * 3 + 1)) = ⟨g, i * 3 + 1, none⟩ by (unfold Addr.add; simp)] at this
    · have := hc (i * 3 + 2) _ a3
      rwa [show ((⟨g, 0, none⟩ : Addr).add (i * 3 + 2)) = ⟨g, i * 3 + 2, none⟩ by (unfold Addr.add; simp)] at this
  · have : l = [] := List.eq_nil_of_length_eq_zero (by omega)
    subst this
    obtain ⟨A, c, rfl⟩ := own_slice ho
    exact ⟨A, c, rfl, fun i p hp => by simp at hp⟩
theorem look_take {l : List (Int × List Int)} {r : Int} (h : ∀ (i : Nat) (p : Int × List Int), l[i]? = some p → p.1 ≠ r) : lookD l r = none := by
  rw [lookD_none]
  intro hm
  obtain ⟨p, hp, e⟩ := List.mem_map.1 hm
  obtain ⟨i, hi⟩ := List.mem_iff_getElem?.1 hp
  exact h i p hi e
theorem look_hit {l : List (Int × List Int)} {r : Int} {i : Nat} {p : Int × List Int} (h : l[i]? = some p) (e : p.1 = r) : (lookD l r).isSome = true := by
  cases hl : lookD l r with
  | some _ => rfl
  | none => exact absurd (List.mem_map.2 ⟨p, List.mem_of_getElem? h, e⟩) (lookD_none.1 hl)
set_option maxHeartbeats 4000000 in
set_option maxRecDepth 100000 in
theorem spoken_calls {W : World} {n₀ : Nat} {fv : Value} {m : Nat} {ys : List Value} {l : List (Int × List Int)} {ks : List Int} (r : Int) (ho : W.ownsRow n₀ 147 3 fv m ys) (hm : LinesMean W ys l ks) (hl : m = l.length) :
    Calls Tryz.prog 130 #[fv, .int .i64 r] W fun e w' => e = .returned (.bool (lookD l r).isSome) ∧ W = w' := by
  obtain ⟨A, c, rfl, hc⟩ := line_cells ho hm hl
  have hlen := own_len ho
  rw [hl] at hlen
  unfold maxLen at hlen
  have HC := Lib.hid hc
  clear hc ho hm hl
  go_enter Tryz.func130, Tryz.ntmps130
  go_wp2
  go_loop [5] (fun vi => ∃ k : Nat, vi = .int .i64 k ∧ k ≤ l.length ∧ Hid (∀ (i : Nat) (p : Int × List Int), i < k → l[i]? = some p → p.1 ≠ r)) (fun vi => l.length - (intOf vi).toNat)
  case atStart => exact ⟨0, rfl, by omega, Lib.hid (fun i p hi => by omega)⟩
  case round =>
    obtain ⟨k, rfl, hk, HI⟩ := hrel
    by_cases hlt : k < l.length
    · obtain ⟨p, hp⟩ : ∃ p, l[k]? = some p := ⟨_, List.getElem?_eq_getElem hlt⟩
      obtain ⟨g, rfl, tv, kk, c0, _, _, _, _⟩ := HC.out k p hp
      have HP := Lib.hid hp
      clear hp
      obtain ⟨p1, p2⟩ := p
      simp only at c0
      by_cases hr : p1 = r
      · have hb : (p1 == r) = true := beq_iff_eq.2 hr
        have HR : Hid ((lookD l r).isSome = true) := Lib.hid (look_hit HP.out hr)
        clear hr
        go_wp2
        go_ret
        rw [HR.out]
        exact ⟨rfl, rfl⟩
      · have hb : (p1 == r) = false := beq_eq_false_iff_ne.2 hr
        have HN : Hid (∀ (i : Nat) (p : Int × List Int), i < k + 1 → l[i]? = some p → p.1 ≠ r) := Lib.hid (fun i p hi hp => by
          by_cases hik : i < k
          · exact HI.out i p hik hp
          · have : i = k := by omega
            subst this
            rw [HP.out] at hp
            injection hp with hp
            subst hp
            exact hr)
        clear hr
        go_wp2
        go_round
        case rel => exact ⟨k + 1, by go_num, by omega, HN⟩
        case measure => simp [intOf]; omega
    · have hke : k = l.length := by omega
      subst hke
      have HR : Hid ((lookD l r).isSome = false) := Lib.hid (by rw [look_take (fun i p hp => HI.out i p (List.getElem?_eq_some_iff.1 hp).1 hp)]; rfl)
      go_wp2
      go_ret
      rw [HR.out]
      exact ⟨rfl, rfl⟩
end Go.Proofs.YtikpkjpnehkbfaaGreatDoor.Rf
namespace Go.Proofs.YtikpkjpnehkbfaaGreatDoor.Rf
open Go Go.RowKit Go.Shelf Go.Proofs.YtikpkjpnehkbfaaGreatDoor.Sp Go.Proofs.YtikpkjpnehkbfaaGreatDoor.Pr Go.Proofs.YtikpkjpnehkbfaaGreatDoor.Rowl
theorem pointsOf_snoc : ∀ (l : List Bytes) (w : Bytes), pointsOf (l ++ [w]) = (match pointsOf l with | .error e => .error e | .ok ns => (match pointOf w with | .error e => .error e | .ok n => .ok (ns ++ [n])))
  | [], w => by
    simp only [List.nil_append, pointsOf]
    cases pointOf w <;> rfl
  | x :: l, w => by
    simp only [List.cons_append, pointsOf]
    cases pointOf x with
    | error e => rfl
    | ok n =>
      simp only
      rw [pointsOf_snoc l w]
      cases pointsOf l with
      | error e => rfl
      | ok ns =>
        simp only
        cases pointOf w <;> rfl
theorem pointsOf_err {e : Int} {l : List Bytes} (h : pointsOf l = .error e) : ∀ m : List Bytes, pointsOf (l ++ m) = .error e := by
  intro m
  induction m generalizing l with
  | nil => simpa using h
  | cons x m ih =>
    rw [show l ++ x :: m = (l ++ [x]) ++ m by simp]
    refine ih ?_
    rw [pointsOf_snoc, h]
theorem own_nil' (base : Nat) (W : World) : OwnPts base W (.slice none 0 0) [] := ⟨rfl, .inl ⟨rfl, rfl⟩⟩
theorem wpList_append_pt {ops : Array Oper} {rest : List Oper} {o : Oper} {ac : Act} {Q : Exit → Act → World → Prop} {W : World} {y : Int} (hgd : o.guard = none) (s x : Operand)
    (ho : o.op = .call { callee := .builtin .append, args := #[s, x], argTypes := #[22, 22] })
    (base : Nat) (v : Value) (L : List Int) (hs : ac.eval s = v) (hown : OwnPts base W v L) (hx : ac.eval x = .slice (some ⟨W.heap.size, 0, none⟩) 1 1)
    (h63 : L.length ≤ 1048577) (hbase : base ≤ W.heap.size)
    (h : ∀ v' w', OwnPts base w' v' (L ++ [y]) → Below base W w' → wpList Tryz.prog ops Q rest (ac.put o.dst v') w') :
    wpList Tryz.prog ops Q (o :: rest) ac (W.alloc (.cells #[.int .i32 y] 21)) := by
  obtain ⟨i, hi, hz0, hz1, hz2⟩ := info_parts infoRune
  refine wpList_append_own_at (W.alloc (.cells #[.int .i32 y] 21)) hgd s x 22 ho base 21 i (.int .i32 0) 1 4 Tryz.underlying22 hi hz0 hz1 hz2 rfl (by decide) v L.length (enc L) hs (World.ownsRow.alloc hown _) ⟨W.heap.size, 0, none⟩ 1 1 (enc [y]) hx (by simp [enc]) (cells_laid W (enc [y]) rfl (by simp [enc, maxLen])) (enc_one [y]) (by simp only [maxLen]; omega) (by omega) (by rw [World.size_alloc]; omega) ?_
  intro v' w' ho' hg _ _
  refine h v' w' ?_ (((Below.refl _ W).alloc hbase _).grown hg (by rw [World.size_alloc]; omega) (fun k e => (own_block hown e).1))
  unfold OwnPts
  rw [show enc (L ++ [y]) = enc L ++ enc [y] by simp [enc], List.length_append]
  exact ho'
def singleOf (isF : Bool) (F D : List (Int × List Int)) (ws : List Bytes) : Except Int (Int × List Int) :=
  match pointsOf ws.tail with
  | .error e => .error e
  | .ok [] => .error 2
  | .ok (r :: ps) => if isF then (if (lookD F r).isSome then .error 13 else .ok (r, ps)) else (if (lookD D r).isSome then .error 13 else if isSyl r || isJamo r then .error 1 else .ok (r, ps))
def SOut (q n₀ : Nat) (v : Nat → Value) (xs : Nat → List Value) (n : Nat → Nat) (at_ : Int) (isF : Bool) (o : Except Int (Int × List Int)) (w : World) (e : Ending) (w' : World) : Prop :=
  match o with
  | .error k => e = .returned (.int .i64 k) ∧ Below w.heap.size w w'
  | .ok p => e = .returned (.int .i64 0) ∧ ∃ tv, PtsB w' tv p.2 ∧ Put q n₀ (if isF then 2 else 3) v xs n [.int .i64 p.1, tv, .int .i64 at_] w w'
def XI (X : Nat) (ws : List Bytes) (k : Nat) (wr : World) (of : Int) (tv : Value) (ps : List Int) (at_ : Int) : Prop :=
  wr.heap[X]? = some (.cells #[.int .i64 of, tv, .int .i64 at_] 147 (0, 0)) ∧ OwnPts (X + 1) wr tv ps ∧ ((k = 1 ∧ ps = [] ∧ of = 0) ∨ (2 ≤ k ∧ pointsOf (ws.tail.take (k - 1)) = .ok (of :: ps)))
theorem own_later {n₀ : Nat} {W W' : World} {tv : Value} {ps : List Int} (h : OwnPts n₀ W tv ps) (hb : Below W.heap.size W W') : OwnPts n₀ W' tv ps := by
  obtain ⟨h1, h2⟩ := h
  refine ⟨h1, ?_⟩
  rcases h2 with h2 | ⟨g, cap, cur, rfl, hg, hh, r⟩
  · exact .inl h2
  · exact .inr ⟨g, cap, cur, rfl, hg, (hb.block g (lt_of_block hh)).trans hh, r⟩
theorem own_set {X i : Nat} {W : World} {tv u : Value} {ps : List Int} (h : OwnPts (X + 1) W tv ps) : OwnPts (X + 1) (W.setCell ⟨X, i, none⟩ u) tv ps :=
  World.ownsRow.kept h (setCell_grown W ⟨X, i, none⟩ u) (.inr (fun e => absurd (own_block h e).1 (Nat.not_succ_le_self X)))
theorem take_next {ws : List Bytes} {k : Nat} {x : Bytes} (hk : 1 ≤ k) (h : ws[k]? = some x) : ws.tail.take k = ws.tail.take (k - 1) ++ [x] := by
  have e : ws.tail[k - 1]? = some x := by rw [List.getElem?_tail]; rwa [show k - 1 + 1 = k by omega]
  have := List.take_add_one (l := ws.tail) (i := k - 1)
  rw [show k - 1 + 1 = k by omega, e] at this
  exact this
theorem XI.first {X : Nat} {ws : List Bytes} {wr w1 : World} {of : Int} {tv : Value} {ps : List Int} {at_ : Int} (h : XI X ws 1 wr of tv ps at_) (hb : Below wr.heap.size wr w1) {x : Bytes} (hw : ws[1]? = some x) {y : Int} (hp : pointOf x = .ok y) : XI X ws 2 (w1.setCell ⟨X, 0, none⟩ (.int .i64 y)) y tv ps at_ := by
  obtain ⟨h1, h2, h3⟩ := h
  have e1 : w1.heap[X]? = _ := (hb.block X (lt_of_block h1)).trans h1
  refine ⟨by rw [heap_setCell_same w1 X 0 _ _ _ e1]; rfl, own_set (own_later h2 hb), .inr ⟨Nat.le_refl _, ?_⟩⟩
  rcases h3 with ⟨_, rfl, rfl⟩ | ⟨hk, _⟩
  · rw [take_next (Nat.le_refl 1) hw]
    simp [pointsOf, hp]
  · omega
theorem XI.next {X k : Nat} {ws : List Bytes} {wr w1 w2 : World} {of : Int} {tv tv2 : Value} {ps : List Int} {at_ : Int} (h : XI X ws k wr of tv ps at_) (hk : 2 ≤ k) (hb : Below wr.heap.size wr w1) {x : Bytes} (hw : ws[k]? = some x) {y : Int} (hp : pointOf x = .ok y) (ho : OwnPts (X + 1) w2 tv2 (ps ++ [y])) (hb2 : Below (X + 1) w1 w2) : XI X ws (k + 1) (w2.setCell ⟨X, 1, none⟩ tv2) of tv2 (ps ++ [y]) at_ := by
  obtain ⟨h1, h2, h3⟩ := h
  have e1 : w1.heap[X]? = _ := (hb.block X (lt_of_block h1)).trans h1
  have e2 : w2.heap[X]? = _ := (hb2.block X (by omega)).trans e1
  refine ⟨by rw [heap_setCell_same w2 X 1 _ _ _ e2]; rfl, own_set ho, .inr ⟨by omega, ?_⟩⟩
  rcases h3 with ⟨hk1, _⟩ | ⟨_, h3⟩
  · omega
  · rw [show k + 1 - 1 = k by omega, take_next (by omega) hw, pointsOf_snoc, h3]
    simp [hp]
theorem XI.bad {X k : Nat} {ws : List Bytes} {wr : World} {of : Int} {tv : Value} {ps : List Int} {at_ : Int} (h : XI X ws k wr of tv ps at_) (hk : 1 ≤ k) {x : Bytes} (hw : ws[k]? = some x) {e : Int} (hp : pointOf x = .error e) : pointsOf ws.tail = .error e := by
  obtain ⟨_, _, h3⟩ := h
  have e1 : pointsOf (ws.tail.take k) = .error e := by
    rw [take_next hk hw, pointsOf_snoc]
    rcases h3 with ⟨rfl, _⟩ | ⟨_, h3⟩
    · simp [pointsOf, hp]
    · rw [h3]; simp [hp]
  have := pointsOf_err e1 (ws.tail.drop k)
  rwa [List.take_append_drop] at this
theorem XI.size {X k : Nat} {ws : List Bytes} {wr : World} {of : Int} {tv : Value} {ps : List Int} {at_ : Int} (h : XI X ws k wr of tv ps at_) (hl : k ≤ ws.length) : ps.length ≤ ws.length := by
  rcases h.2.2 with ⟨_, rfl, _⟩ | ⟨_, h3⟩
  · simp
  · have := (pointsOf_chars h3).1
    rw [List.length_take, List.length_tail] at this
    simp at this
    omega
theorem err_pos {w : Bytes} {k : Int} (h : pointOf w = .error k) : 0 < k := by
  unfold pointOf at h
  split at h
  · simp only [Except.error.injEq] at h; omega
  · split at h
    · cases h
    · simp only [Except.error.injEq] at h; omega
theorem PtsB.own {n₀ : Nat} {W : World} {v : Value} {l : List Int} (h : OwnPts n₀ W v l) (hl : 0 < l.length) : PtsB W v l := by
  obtain ⟨h1, h2⟩ := h
  rcases h2 with ⟨_, h2⟩ | ⟨g, cap, cur, rfl, hb, hh, hn, hm, hs, ht⟩
  · omega
  · refine ⟨g, 0, cap, cur, rfl, hh, hn, hm, fun i x hi => ?_⟩
    have hi2 : i < l.length := (List.getElem?_eq_some_iff.1 hi).1
    have e : (cur.toList.take (l.length * 1))[i]? = (enc l)[i]? := by rw [ht]
    rw [List.getElem?_take_of_lt (by omega), Array.getElem?_toList] at e
    rw [show 0 + i = i by omega, e]
    unfold enc
    rw [List.getElem?_map, hi]
    rfl
theorem infoLine : (Tryz.prog.info? 147).map (fun i => (i.zero, i.size, i.bytes)) = some (some (.agg #[.int .i64 0, .slice none 0 0, .int .i64 0]), 3, 40) := by kernel_rfl
theorem own_heap {W W' : World} (e : W.heap = W'.heap) {b t s m : Nat} {v : Value} {xs : List Value} (h : W.ownsRow b t s v m xs) : W'.ownsRow b t s v m xs := by
  obtain ⟨h1, h2⟩ := h
  refine ⟨h1, ?_⟩
  rw [e] at h2
  exact h2
theorem pts_heap {W W' : World} (e : W.heap = W'.heap) {v : Value} {l : List Int} (h : PtsB W v l) : PtsB W' v l := by
  obtain ⟨b, off, cap, cs, h1, h2, r⟩ := h
  exact ⟨b, off, cap, cs, h1, by rw [← e]; exact h2, r⟩
theorem s_close {q n₀ i : Nat} {v : Nat → Value} {xs : Nat → List Value} {n : Nat → Nat} {w wr w5 w' : World} {of at_ : Int} {tv : Value} {ps : List Int} {x4 : Nat → Value} {x5 : Nat → List Value} {x6 : Nat → Nat} (hr : Below w.heap.size w wr) (h5 : Below wr.heap.size wr w5) (hn : n₀ ≤ w.heap.size) (H : Ref4 q n₀ w5.drew x4 x5 x6) (hp : PtsB wr tv ps) (hf : Put q n₀ i v xs n [.int .i64 of, tv, .int .i64 at_] w5.drew w') :
    (Ending.returned (.int .i64 0) = Ending.returned (.int .i64 0)) ∧ ∃ tv', PtsB w' tv' ps ∧ Put q n₀ i v xs n [.int .i64 of, tv', .int .i64 at_] w w' := by
  have hb := (below_then hr h5).drew
  have hp5 : PtsB w5.drew tv ps := pts_heap (W := w5) rfl (PtsB.later h5 hp)
  refine ⟨rfl, tv, ?_, hf.behind hb hn⟩
  obtain ⟨v', _, fr⟩ := hf
  exact fr.pts ⟨_, H.hp⟩ hp5
theorem single_few (q : Nat) (a : Option Addr) (m c : Nat) (at_ : Int) (w : World) (h : m < 3) : Calls Tryz.prog 90 #[.pointer (some ⟨q, 0, none⟩), .slice a m c, .int .i64 at_] w fun e w' => e = .returned (.int .i64 2) ∧ Below w.heap.size w w' := by
  have h' : (m : Int) < 3 := by omega
  go_enter Tryz.func90, Tryz.ntmps90
  go_wp2
  go_ret
  exact ⟨rfl, Below.refl _ _⟩
set_option maxRecDepth 100000 in
theorem single_lots (q : Nat) (a : Option Addr) (m c : Nat) (at_ : Int) (w : World) (h : 10 < m) : Calls Tryz.prog 90 #[.pointer (some ⟨q, 0, none⟩), .slice a m c, .int .i64 at_] w fun e w' => e = .returned (.int .i64 5) ∧ Below w.heap.size w w' := by
  have h1 : ¬ (m : Int) < 3 := by omega
  have h2 : (10 : Int) < (m : Int) := by omega
  go_enter Tryz.func90, Tryz.ntmps90
  go_wp2
  go_ret
  exact ⟨rfl, Below.refl _ _⟩
theorem char_bounds {n : Int} (h : isChar n = true) : 0 ≤ n ∧ n ≤ 1114111 := by
  unfold isChar at h
  simp only [Bool.and_eq_true, decide_eq_true_eq] at h
  exact h.1
set_option maxHeartbeats 800000 in
set_option maxRecDepth 100000 in
theorem single_calls (q n₀ : Nat) (v : Nat → Value) (xs : Nat → List Value) (n : Nat → Nat) (at_ : Int) (w : World) (h : Ref4 q n₀ w v xs n) (hn₀ : n₀ ≤ w.heap.size) (hm2 : n 2 ≤ 1048576) (hm3 : n 3 ≤ 1048576) (b off c : Nat) (ws : List ByteArray) (hws : ∀ x ∈ ws, x.size ≤ 1048576)
    (hc : ∀ i s, ws[i]? = some s → w.cell? ⟨b, off + i, none⟩ = some (.string s)) (h3 : 3 ≤ ws.length) (h10 : ws.length ≤ 10) (s0 : ByteArray) (hs0 : ws[0]? = some s0) (isF : Bool) (hF : (s0.toList == [102, 111, 108, 100]) = isF)
    (F D : List (Int × List Int)) (kf kd : List Int) (hf : LinesMean w (xs 2) F kf) (hfl : n 2 = F.length) (hd : LinesMean w (xs 3) D kd) (hdl : n 3 = D.length) :
    Calls Tryz.prog 90 #[.pointer (some ⟨q, 0, none⟩), .slice (some ⟨b, off, none⟩) ws.length c, .int .i64 at_] w fun e w' => SOut q n₀ v xs n at_ isF (singleOf isF F D (wl ws)) w e w' := by
  have H := Lib.hid h
  have HC := Lib.hid hc
  have HS := Lib.hid hws
  have HM := Lib.hid (And.intro hf (And.intro hfl (And.intro hd hdl)))
  have H0 := Lib.hid hs0
  have hwl : (wl ws).tail.length = ws.length - 1 := by rw [List.length_tail, wl_length]
  have HWL := Lib.hid hwl
  clear h hc hws hf hfl hd hdl hs0 hwl
  go_enter Tryz.func90, Tryz.ntmps90
  go_wp2
  go_loopw [8] (fun vi wr => ∃ (k : Nat) (of : Int) (tv : Value) (ps : List Int), vi = .int .i64 k ∧ 1 ≤ k ∧ k ≤ ws.length ∧ Hid (XI w.heap.size (wl ws) k wr of tv ps at_) ∧ Hid (Below w.heap.size w wr)) (fun vi _ => ws.length - (intOf vi).toNat)
  case atStart =>
    refine ⟨1, 0, .slice none 0 0, [], rfl, by omega, by omega, Lib.hid ⟨?_, own_nil' _ _, .inl ⟨rfl, rfl, rfl⟩⟩, Lib.hid ?_⟩
    · exact heap_alloc_new w _
    · exact (Below.refl _ w).alloc (Nat.le_refl _) _
  case round =>
    obtain ⟨k, of, tv, ps, rfl, hk1, hk, HX, HR⟩ := hrel
    have hx0 := HX.out.1
    have hc0 : wr.cell? ⟨w.heap.size, 0, none⟩ = some (.int .i64 of) := by rw [cell_of_row wr _ 0 _ _ (0, 0) hx0]; rfl
    have hc1 : wr.cell? ⟨w.heap.size, 1, none⟩ = some tv := by rw [cell_of_row wr _ 1 _ _ (0, 0) hx0]; rfl
    have hc2 : wr.cell? ⟨w.heap.size, 2, none⟩ = some (.int .i64 at_) := by rw [cell_of_row wr _ 2 _ _ (0, 0) hx0]; rfl
    have hfz : wr.frozen? ⟨w.heap.size, 0, none⟩ = false := by simp [World.frozen?, hx0]
    have hfz1 : wr.frozen? ⟨w.heap.size, 1, none⟩ = false := by simp [World.frozen?, hx0]
    clear hx0
    by_cases hlt : k < ws.length
    · obtain ⟨s, hs⟩ : ∃ s, ws[k]? = some s := ⟨_, List.getElem?_eq_getElem hlt⟩
      have hcs := cell_later HR.out (HC.out k s hs)
      have HSK := Lib.hid hs
      clear hs
      cases hp : pointOf s.data.toList with
      | error e =>
        have HPT := Lib.hid (point_err hp)
        have HPE := Lib.hid hp
        have hkp := err_pos hp
        have hkn : (e != 0) = true := bne_iff_ne.2 (by omega)
        have HO : Hid (singleOf isF F D (wl ws) = .error e) := Lib.hid (by unfold singleOf; rw [HX.out.bad hk1 (wl_at HSK.out) hp])
        clear hp
        go_wp2_with (go_at_call 129; refine (HPT.out _).mono ?_; rintro e w1 ⟨rfl, hb1⟩)
        go_ret
        rw [HO.out]
        exact ⟨rfl, below_then HR.out hb1⟩
      | ok y =>
        have HPT := Lib.hid (point_ok hp)
        have HPE := Lib.hid hp
        obtain ⟨hy0, hy1⟩ := char_bounds (pointOf_char hp)
        clear hp
        by_cases hk2 : k = 1
        · subst hk2
          go_wp2_with (go_at_call 129; refine (HPT.out _).mono ?_; rintro e w1 ⟨rfl, hb1⟩; have d0 := cell_later hb1 hc0; have d1 : w1.frozen? ⟨w.heap.size, 0, none⟩ = false := (hb1.frozen (p := ⟨w.heap.size, 0, none⟩) (World.block_lt_of_cell? _ _ hc0)).trans hfz; have HN := Lib.hid (HX.out.first hb1 (wl_at HSK.out) HPE.out); have HW := Lib.hid ((below_then HR.out hb1).setCell (p := ⟨w.heap.size, 0, none⟩) (Nat.le_refl _) (.int .i64 y)); clear hb1)
          refine ⟨⟨2, y, tv, ps, by go_num, by omega, by omega, HN, HW⟩, ?_⟩
          simp [intOf]
          omega
        · have hk3 : ((k : Int) == 1) = false := by rw [beq_eq_false_iff_ne]; omega
          have hpl : ps.length ≤ 1048577 := by have := HX.out.size (by rw [wl_length]; exact hk); rw [wl_length] at this; omega
          obtain ⟨A, C, rfl⟩ := own_slice HX.out.2.1
          go_wp2_with (first
            | (go_at_call 129; refine (HPT.out _).mono ?_; rintro e w1 ⟨rfl, hb1⟩; have d0 := cell_later hb1 hc1; have d1 : w1.frozen? ⟨w.heap.size, 1, none⟩ = false := (hb1.frozen (p := ⟨w.heap.size, 1, none⟩) (World.block_lt_of_cell? _ _ hc1)).trans hfz1; have HB1 := Lib.hid hb1; have HOW := Lib.hid (own_later HX.out.2.1 hb1); have hxz : w.heap.size + 1 ≤ w1.heap.size := Nat.le_trans (World.block_lt_of_cell? _ _ hc1) hb1.size; clear hb1)
            | (at_builtin; go_must (refine wpList_append_pt rfl _ _ rfl (w.heap.size + 1) _ ps rfl HOW.out rfl (by omega) hxz ?_; intro tv2 w2 ho2 hb2; obtain ⟨A2, C2, rfl⟩ := own_slice ho2; rw [List.length_append] at ho2; replace ho2 : OwnPts (w.heap.size + 1) w2 (.slice A2 (ps.length + 1) C2) (ps ++ [y]) := ho2; have d2 : w2.cell? ⟨w.heap.size, 1, none⟩ = _ := (hb2.cell (p := ⟨w.heap.size, 1, none⟩) (Nat.lt_succ_self _)).trans d0; have d3 : w2.frozen? ⟨w.heap.size, 1, none⟩ = false := (hb2.frozen (p := ⟨w.heap.size, 1, none⟩) (Nat.lt_succ_self _)).trans d1; have HN := Lib.hid (HX.out.next (by omega) HB1.out (wl_at HSK.out) HPE.out ho2 hb2); have HW := Lib.hid (((below_then HR.out HB1.out).trans (hb2.mono (Nat.le_succ _))).setCell (p := ⟨w.heap.size, 1, none⟩) (Nat.le_refl _) (.slice A2 (ps.length + 1) C2)); clear ho2 hb2)))
          refine ⟨⟨k + 1, of, .slice A2 (ps.length + 1) C2, ps ++ [y], by go_num, by omega, by omega, HN, HW⟩, ?_⟩
          simp [intOf]
          omega
    · have hke : k = ws.length := by omega
      subst hke
      have hpo : pointsOf (wl ws).tail = .ok (of :: ps) := by
        rcases HX.out.2.2 with ⟨h1, _⟩ | ⟨_, h2⟩
        · omega
        · rwa [List.take_of_length_le (by rw [HWL.out]; exact Nat.le_refl _)] at h2
      have hpl : ps.length + 1 = ws.length - 1 := by
        have := (pointsOf_chars hpo).1
        rw [HWL.out] at this
        simpa using this
      have HPB := Lib.hid (PtsB.own HX.out.2.1 (by omega))
      have HPO := Lib.hid hpo
      have c0s : wr.cell? ⟨b, off, none⟩ = some (.string s0) := by
        have := cell_later HR.out (HC.out 0 s0 H0.out)
        simpa using this
      have hw2 := H.out.later HR.out
      have hxl := World.block_lt_of_cell? _ _ hc0
      have LF := Lib.hid (HM.out.1.map (fun _ _ => PtsB.later HR.out))
      have LD := Lib.hid (HM.out.2.2.1.map (fun _ _ => PtsB.later HR.out))
      have H2 := Lib.hid hw2
      obtain ⟨ii, hi0, hz0, hz1, hz2⟩ := info_parts infoLine
      obtain ⟨A, C, rfl⟩ := own_slice HX.out.2.1
      clear hpo
      cases isF with
      | true =>
        have q2 : wr.cell? ⟨q, 2, none⟩ = some (v 2) := by rw [cell_of_row wr _ 2 _ _ (0, 0) hw2.hp]; rfl
        have hO2 := hw2.own 2 (by decide)
        have HO2 := Lib.hid hO2
        have HS2 : Hid (Calls Tryz.prog 130 #[v 2, .int .i64 of] wr.drew fun e w' => e = .returned (.bool (lookD F of).isSome) ∧ wr.drew = w') := Lib.hid (spoken_calls of (own_heap (W' := wr.drew) rfl hO2) (LinesMean.map (W := wr) (W' := wr.drew) (fun _ _ h => pts_heap (W := wr) (W' := wr.drew) rfl h) LF.out) HM.out.2.1)
        obtain ⟨Af, Cf, hfv⟩ := own_slice hO2
        rw [hfv] at HS2 q2
        have HFV := Lib.hid hfv
        have HO3 : Hid (wr.ownsRow n₀ (ty 2) 3 (.slice Af (n 2) Cf) (n 2) (xs 2)) := Lib.hid (by rw [← hfv]; exact hO2)
        have hqx : q < wr.heap.size := lt_of_block hw2.hp
        clear hw2 hO2 hfv
        by_cases htw : (lookD F of).isSome = true
        · have HO : Hid (singleOf true F D (wl ws) = .error 13) := Lib.hid (by unfold singleOf; rw [HPO.out]; simp [htw])
          rw [htw] at HS2
          clear htw
          go_wp2
          go_region_held3 (fun w' => w'.cell? ⟨q, 2, none⟩ = some (.slice Af (n 2) Cf) ∧ w'.cell? ⟨w.heap.size, 0, none⟩ = some (.int .i64 of)) (go_keep) ((go_at_call 130; (with_reducible refine HS2.out.mono ?_); rintro e w5 ⟨rfl, rfl⟩))
          go_wp2
          go_ret
          rw [HO.out]
          exact ⟨rfl, HR.out.drew⟩
        · have htw' : (lookD F of).isSome = false := by simpa using htw
          have HO : Hid (singleOf true F D (wl ws) = .ok (of, ps)) := Lib.hid (by unfold singleOf; rw [HPO.out]; simp [htw'])
          rw [htw'] at HS2
          clear htw htw'
          go_wp2
          go_region_held3 (fun w' => w'.cell? ⟨q, 2, none⟩ = some (.slice Af (n 2) Cf) ∧ w'.cell? ⟨w.heap.size, 0, none⟩ = some (.int .i64 of)) (go_keep) ((go_at_call 130; (with_reducible refine HS2.out.mono ?_); rintro e w5 ⟨rfl, hw5⟩; have hb5 : Below wr.heap.size wr w5 := (by rw [← hw5]; exact (Below.refl _ wr).drew); have k1 := cell_later hb5 q2; have k2 := cell_later hb5 hc0; clear hw5))
          have HB5 := Lib.hid hb5
          have k3 := cell_later hb5 hc1
          have k4 := cell_later hb5 hc2
          have hw5 := H2.out.later hb5
          have H5 := Lib.hid (hw5.later (Below.refl _ w5).drew)
          have hown : w5.ownsRow n₀ 147 3 (.slice Af (n 2) Cf) (n 2) (xs 2) := by rw [← HFV.out]; exact hw5.own 2 (by decide)
          have hbase : n₀ ≤ w5.heap.size := Nat.le_trans hn₀ (Nat.le_trans HR.out.size hb5.size)
          have y1 := Lib.cell?_alloc_some (.cells #[.int .i64 of, .slice A ps.length C, .int .i64 at_] 147) k1
          have y2 := Lib.cell?_alloc_some (.cells #[.int .i64 of, .slice A ps.length C, .int .i64 at_] 147) k2
          have y3 := Lib.cell?_alloc_some (.cells #[.int .i64 of, .slice A ps.length C, .int .i64 at_] 147) k3
          have y4 := Lib.cell?_alloc_some (.cells #[.int .i64 of, .slice A ps.length C, .int .i64 at_] 147) k4
          clear hw5 hb5 hF
          go_wp2
          go_region_law (refine step_append_lies _ (by rfl) _ _ _ (by rfl) n₀ 147 ii _ 3 40 Tryz.underlying139 hi0 hz0 hz1 hz2 rfl (by omega) _ _ _ (by rfl) ((hown.alloc _).drew) ⟨w5.heap.size, 0, none⟩ 1 1 [.int .i64 of, .slice A ps.length C, .int .i64 at_] (by rfl) (by rfl) (World.news_of_block (cs := #[.int .i64 of, .slice A ps.length C, .int .i64 at_]) (t := 147) (fr := (0, 0)) (heap_alloc_new w5 _)) (by simp [Value.oneCell']) (by omega) (by simp only [maxLen]; omega) (by omega) (by simp; omega) (w5.heap.size + 1) (by simp) ?_; intro gg cap w4 hown4 hgrow hat hgl; have hgrow2 : (w5.drew.alloc (.cells #[.int .i64 of, .slice A ps.length C, .int .i64 at_] 147)).grownBy w4 (v 2).ownBlock := (by rw [HFV.out]; exact hgrow); obtain ⟨z1, z2⟩ := field_kept H5.out (i := 2) (by decide) hgrow2; rw [HFV.out] at z1; have HF := Lib.hid (put_close H5.out (i := 2) (by decide) hbase _ hgrow2 hown4 (by rw [HFV.out]; exact hat) rfl); clear hown4 hgrow hat hgl hgrow2)
          all_goals
            go_wp2
            go_ret
            rw [HO.out]
            exact s_close HR.out HB5.out hn₀ H5.out HPB.out HF.out
      | false =>
        have q2 : wr.cell? ⟨q, 3, none⟩ = some (v 3) := by rw [cell_of_row wr _ 3 _ _ (0, 0) hw2.hp]; rfl
        have hO2 := hw2.own 3 (by decide)
        have HS2 : Hid (Calls Tryz.prog 130 #[v 3, .int .i64 of] wr.drew fun e w' => e = .returned (.bool (lookD D of).isSome) ∧ wr.drew = w') := Lib.hid (spoken_calls of (own_heap (W' := wr.drew) rfl hO2) (LinesMean.map (W := wr) (W' := wr.drew) (fun _ _ h => pts_heap (W := wr) (W' := wr.drew) rfl h) LD.out) HM.out.2.2.2)
        obtain ⟨Af, Cf, hfv⟩ := own_slice hO2
        rw [hfv] at HS2 q2
        have HFV := Lib.hid hfv
        have hqx : q < wr.heap.size := lt_of_block hw2.hp
        clear hw2 hO2 hfv
        by_cases htw : (lookD D of).isSome = true
        · have HO : Hid (singleOf false F D (wl ws) = .error 13) := Lib.hid (by unfold singleOf; rw [HPO.out]; simp [htw])
          rw [htw] at HS2
          clear htw
          go_wp2
          go_region_held3 (fun w' => w'.cell? ⟨q, 3, none⟩ = some (.slice Af (n 3) Cf) ∧ w'.cell? ⟨w.heap.size, 0, none⟩ = some (.int .i64 of)) (go_keep) ((go_at_call 130; (with_reducible refine HS2.out.mono ?_); rintro e w5 ⟨rfl, rfl⟩))
          go_wp2
          go_ret
          rw [HO.out]
          exact ⟨rfl, HR.out.drew⟩
        · have htw' : (lookD D of).isSome = false := by simpa using htw
          rw [htw'] at HS2
          have hcase : (isSyl of = true ∧ singleOf false F D (wl ws) = .error 1) ∨ (isSyl of = false ∧ isJamo of = true ∧ singleOf false F D (wl ws) = .error 1) ∨ (isSyl of = false ∧ isJamo of = false ∧ singleOf false F D (wl ws) = .ok (of, ps)) := by
            unfold singleOf
            rw [HPO.out]
            cases h1 : isSyl of <;> cases h2 : isJamo of <;> simp [htw', h1, h2]
          clear htw htw'
          rcases hcase with ⟨z1, hHO⟩ | ⟨z1, z2, hHO⟩ | ⟨z1, z2, hHO⟩
          · have HO := Lib.hid hHO
            clear hHO
            go_wp2
            go_region_held3 (fun w' => w'.cell? ⟨q, 3, none⟩ = some (.slice Af (n 3) Cf) ∧ w'.cell? ⟨w.heap.size, 0, none⟩ = some (.int .i64 of)) (go_keep) ((go_at_call 130; (with_reducible refine HS2.out.mono ?_); rintro e w5 ⟨rfl, hw5⟩; have hb5 : Below wr.heap.size wr w5 := (by rw [← hw5]; exact (Below.refl _ wr).drew); have k1 := cell_later hb5 q2; have k2 := cell_later hb5 hc0; clear hw5))
            have HB5 := Lib.hid hb5
            clear hb5
            go_wp2_with (first
              | (go_at_call 101; (with_reducible refine (syl_calls _ _).mono ?_); rintro e w6 ⟨rfl, hw⟩; subst w6)
              | (go_at_call 102; (with_reducible refine (jam_calls _ _).mono ?_); rintro e w6 ⟨rfl, hw⟩; subst w6))
            go_ret
            rw [HO.out]
            exact ⟨rfl, below_then HR.out HB5.out⟩
          · have HO := Lib.hid hHO
            clear hHO
            go_wp2
            go_region_held3 (fun w' => w'.cell? ⟨q, 3, none⟩ = some (.slice Af (n 3) Cf) ∧ w'.cell? ⟨w.heap.size, 0, none⟩ = some (.int .i64 of)) (go_keep) ((go_at_call 130; (with_reducible refine HS2.out.mono ?_); rintro e w5 ⟨rfl, hw5⟩; have hb5 : Below wr.heap.size wr w5 := (by rw [← hw5]; exact (Below.refl _ wr).drew); have k1 := cell_later hb5 q2; have k2 := cell_later hb5 hc0; clear hw5))
            have HB5 := Lib.hid hb5
            clear hb5
            go_wp2_with (first
              | (go_at_call 101; (with_reducible refine (syl_calls _ _).mono ?_); rintro e w6 ⟨rfl, hw⟩; subst w6)
              | (go_at_call 102; (with_reducible refine (jam_calls _ _).mono ?_); rintro e w6 ⟨rfl, hw⟩; subst w6))
            go_ret
            rw [HO.out]
            exact ⟨rfl, below_then HR.out HB5.out⟩
          · have HO := Lib.hid hHO
            clear hHO
            go_wp2
            go_region_held3 (fun w' => w'.cell? ⟨q, 3, none⟩ = some (.slice Af (n 3) Cf) ∧ w'.cell? ⟨w.heap.size, 0, none⟩ = some (.int .i64 of)) (go_keep) ((go_at_call 130; (with_reducible refine HS2.out.mono ?_); rintro e w5 ⟨rfl, hw5⟩; have hb5 : Below wr.heap.size wr w5 := (by rw [← hw5]; exact (Below.refl _ wr).drew); have k1 := cell_later hb5 q2; have k2 := cell_later hb5 hc0; clear hw5))
            have HB5 := Lib.hid hb5
            have k3 := cell_later hb5 hc1
            have k4 := cell_later hb5 hc2
            have hw5 := H2.out.later hb5
            have H5 := Lib.hid (hw5.later (Below.refl _ w5).drew)
            have hown : w5.ownsRow n₀ 147 3 (.slice Af (n 3) Cf) (n 3) (xs 3) := by rw [← HFV.out]; exact hw5.own 3 (by decide)
            have hbase : n₀ ≤ w5.heap.size := Nat.le_trans hn₀ (Nat.le_trans HR.out.size hb5.size)
            have y1 := Lib.cell?_alloc_some (.cells #[.int .i64 of, .slice A ps.length C, .int .i64 at_] 147) k1
            have y2 := Lib.cell?_alloc_some (.cells #[.int .i64 of, .slice A ps.length C, .int .i64 at_] 147) k2
            have y3 := Lib.cell?_alloc_some (.cells #[.int .i64 of, .slice A ps.length C, .int .i64 at_] 147) k3
            have y4 := Lib.cell?_alloc_some (.cells #[.int .i64 of, .slice A ps.length C, .int .i64 at_] 147) k4
            clear hw5 hb5 hF
            go_wp2_with (first
              | (go_at_call 101; (with_reducible refine (syl_calls _ _).mono ?_); rintro e w6 ⟨rfl, hw⟩; subst w6)
              | (go_at_call 102; (with_reducible refine (jam_calls _ _).mono ?_); rintro e w6 ⟨rfl, hw⟩; subst w6))
            go_region_law (refine step_append_lies _ (by rfl) _ _ _ (by rfl) n₀ 147 ii _ 3 40 Tryz.underlying139 hi0 hz0 hz1 hz2 rfl (by omega) _ _ _ (by rfl) ((hown.alloc _).drew) ⟨w5.heap.size, 0, none⟩ 1 1 [.int .i64 of, .slice A ps.length C, .int .i64 at_] (by rfl) (by rfl) (World.news_of_block (cs := #[.int .i64 of, .slice A ps.length C, .int .i64 at_]) (t := 147) (fr := (0, 0)) (heap_alloc_new w5 _)) (by simp [Value.oneCell']) (by omega) (by simp only [maxLen]; omega) (by omega) (by simp; omega) (w5.heap.size + 1) (by simp) ?_; intro gg cap w4 hown4 hgrow hat hgl; have hgrow2 : (w5.drew.alloc (.cells #[.int .i64 of, .slice A ps.length C, .int .i64 at_] 147)).grownBy w4 (v 3).ownBlock := (by rw [HFV.out]; exact hgrow); obtain ⟨z1, z2⟩ := field_kept H5.out (i := 3) (by decide) hgrow2; rw [HFV.out] at z1; have HF := Lib.hid (put_close H5.out (i := 3) (by decide) hbase _ hgrow2 hown4 (by rw [HFV.out]; exact hat) rfl); clear hown4 hgrow hat hgl hgrow2)
            all_goals
              go_wp2
              go_ret
              rw [HO.out]
              exact s_close HR.out HB5.out hn₀ H5.out HPB.out HF.out
end Go.Proofs.YtikpkjpnehkbfaaGreatDoor.Rf
