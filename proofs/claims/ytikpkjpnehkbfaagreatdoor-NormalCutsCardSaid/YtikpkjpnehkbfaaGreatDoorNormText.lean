/- Texts as points: plain. -/
import Derived.Test.YtikpkjpnehkbfaaGreatDoorCellUtf
import Derived.Test.YtikpkjpnehkbfaaGreatDoorNormOrd
namespace Go.Proofs.YtikpkjpnehkbfaaGreatDoor.Nm
set_option linter.unusedVariables false
set_option linter.unusedSimpArgs false
open Go Go.Lib Go.Proofs.YtikpkjpnehkbfaaGreatDoor.Sp Go.Proofs.YtikpkjpnehkbfaaGreatDoor.Ut

/-! ### a text's points -/
def ptL (l : Bytes) : Int := if decodeL l = (65533, 1) then 1114112 + ((l.getD 0 0).toNat : Int) else ((decodeL l).1 : Int)
def ptsL : Nat → Bytes → List Int
  | 0, _ => []
  | k + 1, l => if l = [] then [] else ptL l :: ptsL k (l.drop (decodeL l).2)
def ptsOf (l : Bytes) : List Int := ptsL l.length l
theorem drop_lt {l : Bytes} (h : l ≠ []) : (l.drop (decodeL l).2).length < l.length := by
  have := decodeL_width l
  have := List.length_pos_iff.2 h
  rw [List.length_drop]
  omega
theorem ptsL_fuel : ∀ (k m : Nat) (l : Bytes), l.length ≤ k → l.length ≤ m → ptsL k l = ptsL m l
  | 0, m, l, h, _ => by
    have : l = [] := List.length_eq_zero_iff.1 (by omega)
    subst this
    cases m <;> rfl
  | k + 1, 0, l, _, h => by
    have : l = [] := List.length_eq_zero_iff.1 (by omega)
    subst this
    rfl
  | k + 1, m + 1, l, h1, h2 => by
    unfold ptsL
    by_cases hl : l = []
    · rw [if_pos hl, if_pos hl]
    · have := drop_lt hl
      rw [if_neg hl, if_neg hl, ptsL_fuel k m _ (by omega) (by omega)]
theorem pts_nil : ptsOf [] = [] := rfl
theorem pts_step {l : Bytes} (h : l ≠ []) : ptsOf l = ptL l :: ptsOf (l.drop (decodeL l).2) := by
  have := drop_lt h
  have hp := List.length_pos_iff.2 h
  unfold ptsOf
  rw [show l.length = (l.length - 1) + 1 by omega, ptsL, if_neg h, ptsL_fuel (l.length - 1) (l.drop (decodeL l).2).length _ (by omega) (Nat.le_refl _)]
/-- A point: a character, or an ill-formed byte. -/
def okP (r : Int) : Prop := isChar r = true ∨ (1114240 ≤ r ∧ r ≤ 1114367)
def illP (r : Int) : Bool := decide (1114112 ≤ r)
theorem char_iff {r : Int} : isChar r = true ↔ 0 ≤ r ∧ r ≤ 1114111 ∧ (r < 55296 ∨ 57343 < r) := by
  unfold isChar
  simp only [Bool.and_eq_true, Bool.or_eq_true, decide_eq_true_eq, and_assoc]
theorem decode_char (l : Bytes) (hl : l ≠ []) : isChar ((decodeL l).1 : Int) = true ∧ (decodeL l = (65533, 1) → 128 ≤ (l.getD 0 0).toNat) := by
  rw [decodeL_N]
  have k0 := (l.getD 0 0).toNat_lt
  have hp := List.length_pos_iff.2 hl
  refine ⟨char_iff.2 ?_, fun h => ?_⟩
  · rcases decodeN_shape l.length (l.getD 0 0).toNat (l.getD 1 0).toNat (l.getD 2 0).toNat (l.getD 3 0).toNat with ⟨c, e⟩ | ⟨c1, c2, c3, cv, e⟩ | ⟨c1, c2, c3, c4, cv, cs, e⟩ | ⟨c1, c2, c3, c4, c5, cv, cw, e⟩ | e
    all_goals rw [e]; simp only; omega
  · by_cases hb : (l.getD 0 0).toNat < 128
    · rw [decodeN_ascii _ _ _ _ _ hb] at h
      injection h with h
      omega
    · omega
theorem ptL_ok {l : Bytes} (hl : l ≠ []) : okP (ptL l) := by
  obtain ⟨h1, h2⟩ := decode_char l hl
  have k0 := (l.getD 0 0).toNat_lt
  unfold ptL okP
  split
  · rename_i h
    have := h2 h
    right; omega
  · left; exact h1
theorem pts_ok : ∀ (n : Nat) (l : Bytes), l.length ≤ n → ∀ r ∈ ptsOf l, okP r
  | 0, l, h, r, hr => by
    have : l = [] := List.length_eq_zero_iff.1 (by omega)
    subst this
    cases hr
  | n + 1, l, h, r, hr => by
    by_cases hl : l = []
    · subst hl; cases hr
    · rw [pts_step hl] at hr
      have := drop_lt hl
      rcases List.mem_cons.1 hr with rfl | hr
      · exact ptL_ok hl
      · exact pts_ok n _ (by omega) r hr
theorem pts_length : ∀ (n : Nat) (l : Bytes), l.length ≤ n → (ptsOf l).length ≤ l.length
  | 0, l, h => by
    have : l = [] := List.length_eq_zero_iff.1 (by omega)
    subst this
    simp [pts_nil]
  | n + 1, l, h => by
    by_cases hl : l = []
    · subst hl; simp [pts_nil]
    · rw [pts_step hl]
      have := drop_lt hl
      have := pts_length n (l.drop (decodeL l).2) (by omega)
      simp only [List.length_cons]
      omega

/-! ### points as a text -/
def encP (r : Int) : Bytes := if 1114112 < r then [(r - 1114112).toNat.toUInt8] else encodeRune r
def textOf (l : List Int) : Bytes := l.flatMap encP
theorem text_cons (r : Int) (l : List Int) : textOf (r :: l) = encP r ++ textOf l := List.flatMap_cons
theorem text_append (l m : List Int) : textOf (l ++ m) = textOf l ++ textOf m := List.flatMap_append
theorem encP_len (r : Int) : 1 ≤ (encP r).length ∧ (encP r).length ≤ 4 := by
  unfold encP
  split
  · simp
  · have := encodeRuneZ_length r
    simpa [encodeRune] using this
theorem text_length (l : List Int) : l.length ≤ (textOf l).length ∧ (textOf l).length ≤ 4 * l.length := by
  induction l with
  | nil => simp [textOf]
  | cons r l ih =>
    have := encP_len r
    rw [text_cons, List.length_append, List.length_cons]
    omega
theorem encP_ptL {l : Bytes} (hl : l ≠ []) : encP (ptL l) = l.take (decodeL l).2 := by
  have k0 := (l.getD 0 0).toNat_lt
  by_cases h : decodeL l = (65533, 1)
  · have hb := (decode_char l hl).2 h
    unfold ptL encP
    rw [if_pos h, if_pos (by omega), h]
    simp only
    rw [takeA l (List.length_pos_iff.2 hl)]
    congr 1
    rw [show (1114112 + ((l.getD 0 0).toNat : Int) - 1114112) = ((l.getD 0 0).toNat : Int) by omega]
    simp
  · have hc := (decode_char l hl).1
    unfold ptL encP
    rw [if_neg h, if_neg (by have := (char_iff.1 hc).2.1; omega)]
    exact encode_decode l hl (fun e => h (Prod.ext e.1 e.2))
theorem text_pts : ∀ (n : Nat) (l : Bytes), l.length ≤ n → textOf (ptsOf l) = l
  | 0, l, h => by
    have : l = [] := List.length_eq_zero_iff.1 (by omega)
    subst this
    rfl
  | n + 1, l, h => by
    by_cases hl : l = []
    · subst hl; rfl
    · have := drop_lt hl
      rw [pts_step hl, text_cons, text_pts n _ (by omega), encP_ptL hl, List.take_append_drop]

/-! ### what is read again -/
theorem byteN {z : Int} (h0 : 0 ≤ z) (h1 : z < 256) : ((z.toNat.toUInt8).toNat : Int) = z := by
  simp only [Nat.toUInt8, UInt8.toNat_ofNat']
  omega
set_option maxRecDepth 100000 in
theorem decode_encode {r : Int} (h : isChar r = true) (t : Bytes) : decodeL (encodeRune r ++ t) = (r.toNat, (encodeRune r).length) := by
  obtain ⟨h0, h1, h2⟩ := char_iff.1 h
  rw [decodeL_N]
  by_cases c1 : r ≤ 127
  · have e : encodeRune r = [r.toNat.toUInt8] := by unfold encodeRune; rw [encodeRuneZ_one h0 c1]; rfl
    have b0 := byteN (z := r) h0 (by omega)
    rw [e]
    simp only [List.cons_append, List.nil_append, List.getD_cons_zero, List.length_cons, List.length_nil]
    rw [decodeN_ascii _ _ _ _ _ (by omega)]
    congr 1
    omega
  · by_cases c2 : r ≤ 2047
    · have e : encodeRune r = [(192 + r / 64).toNat.toUInt8, (128 + r % 64).toNat.toUInt8] := by unfold encodeRune; rw [encodeRuneZ_two (by omega) c2]; rfl
      have b0 := byteN (z := 192 + r / 64) (by omega) (by omega)
      have b1 := byteN (z := 128 + r % 64) (by omega) (by omega)
      rw [e]
      generalize (192 + r / 64).toNat.toUInt8 = x0 at *
      generalize (128 + r % 64).toNat.toUInt8 = x1 at *
      simp only [List.cons_append, List.nil_append, List.getD_cons_zero, List.getD_cons_succ, List.length_cons, List.length_nil]
      unfold decodeN
      rw [if_neg (by omega), if_pos ⟨by omega, by omega, by omega⟩, if_pos (by omega)]
      congr 1
      omega
    · by_cases c3 : r ≤ 65535
      · have e : encodeRune r = [(224 + r / 4096).toNat.toUInt8, (128 + r / 64 % 64).toNat.toUInt8, (128 + r % 64).toNat.toUInt8] := by unfold encodeRune; rw [encodeRuneZ_three (by omega)]; rfl
        have b0 := byteN (z := 224 + r / 4096) (by omega) (by omega)
        have b1 := byteN (z := 128 + r / 64 % 64) (by omega) (by omega)
        have b2 := byteN (z := 128 + r % 64) (by omega) (by omega)
        rw [e]
        generalize (224 + r / 4096).toNat.toUInt8 = x0 at *
        generalize (128 + r / 64 % 64).toNat.toUInt8 = x1 at *
        generalize (128 + r % 64).toNat.toUInt8 = x2 at *
        simp only [List.cons_append, List.nil_append, List.getD_cons_zero, List.getD_cons_succ, List.length_cons, List.length_nil]
        unfold decodeN
        rw [if_neg (by omega), if_neg (by omega), if_pos ⟨by omega, ⟨by omega, by omega⟩, by omega, by omega⟩, if_pos (by omega)]
        congr 1
        omega
      · have e : encodeRune r = [(240 + r / 262144).toNat.toUInt8, (128 + r / 4096 % 64).toNat.toUInt8, (128 + r / 64 % 64).toNat.toUInt8, (128 + r % 64).toNat.toUInt8] := by unfold encodeRune; rw [encodeRuneZ_four (by omega) h1]; rfl
        have b0 := byteN (z := 240 + r / 262144) (by omega) (by omega)
        have b1 := byteN (z := 128 + r / 4096 % 64) (by omega) (by omega)
        have b2 := byteN (z := 128 + r / 64 % 64) (by omega) (by omega)
        have b3 := byteN (z := 128 + r % 64) (by omega) (by omega)
        rw [e]
        generalize (240 + r / 262144).toNat.toUInt8 = x0 at *
        generalize (128 + r / 4096 % 64).toNat.toUInt8 = x1 at *
        generalize (128 + r / 64 % 64).toNat.toUInt8 = x2 at *
        generalize (128 + r % 64).toNat.toUInt8 = x3 at *
        simp only [List.cons_append, List.nil_append, List.getD_cons_zero, List.getD_cons_succ, List.length_cons, List.length_nil]
        unfold decodeN
        rw [if_neg (by omega), if_neg (by omega), if_neg (by omega), if_pos ⟨by omega, ⟨by omega, by omega⟩, ⟨by omega, by omega⟩, by omega, by omega⟩, if_pos (by omega)]
        congr 1
        omega
/-- The first byte of a character's is no byte of the middle. -/
theorem encode_first {r : Int} (h : isChar r = true) (t : Bytes) : ((encodeRune r ++ t).getD 0 0).toNat / 64 ≠ 2 := by
  obtain ⟨h0, h1, h2⟩ := char_iff.1 h
  by_cases c1 : r ≤ 127
  · have e : encodeRune r = [r.toNat.toUInt8] := by unfold encodeRune; rw [encodeRuneZ_one h0 c1]; rfl
    have b0 := byteN (z := r) h0 (by omega)
    rw [e, List.cons_append, List.getD_cons_zero]
    omega
  · by_cases c2 : r ≤ 2047
    · have e : encodeRune r = [(192 + r / 64).toNat.toUInt8, (128 + r % 64).toNat.toUInt8] := by unfold encodeRune; rw [encodeRuneZ_two (by omega) c2]; rfl
      have b0 := byteN (z := 192 + r / 64) (by omega) (by omega)
      rw [e, List.cons_append, List.getD_cons_zero]
      omega
    · by_cases c3 : r ≤ 65535
      · have e : encodeRune r = [(224 + r / 4096).toNat.toUInt8, (128 + r / 64 % 64).toNat.toUInt8, (128 + r % 64).toNat.toUInt8] := by unfold encodeRune; rw [encodeRuneZ_three (by omega)]; rfl
        have b0 := byteN (z := 224 + r / 4096) (by omega) (by omega)
        rw [e, List.cons_append, List.getD_cons_zero]
        omega
      · have e : encodeRune r = [(240 + r / 262144).toNat.toUInt8, (128 + r / 4096 % 64).toNat.toUInt8, (128 + r / 64 % 64).toNat.toUInt8, (128 + r % 64).toNat.toUInt8] := by unfold encodeRune; rw [encodeRuneZ_four (by omega) h1]; rfl
        have b0 := byteN (z := 240 + r / 262144) (by omega) (by omega)
        rw [e, List.cons_append, List.getD_cons_zero]
        omega
end Go.Proofs.YtikpkjpnehkbfaaGreatDoor.Nm
