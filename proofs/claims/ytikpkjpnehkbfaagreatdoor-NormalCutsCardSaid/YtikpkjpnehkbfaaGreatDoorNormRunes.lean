/- A text's runes as Go's conversion gives them, and as points: plain. -/
import Derived.Test.YtikpkjpnehkbfaaGreatDoorNormText
import Derived.Lib.TrimUEq
import Derived.Laws.IdiomStrings
import Derived.Laws.Runes
import Derived.Lib.Small
import Derived.Lib.AppendStr
namespace Go.Proofs.YtikpkjpnehkbfaaGreatDoor.Nm
set_option linter.unusedVariables false
set_option linter.unusedSimpArgs false
open Go Go.Lib Go.Proofs.YtikpkjpnehkbfaaGreatDoor.Sp Go.Proofs.YtikpkjpnehkbfaaGreatDoor.Ut

def rawL : Nat → Bytes → List Int
  | 0, _ => []
  | k + 1, l => if l = [] then [] else ((decodeL l).1 : Int) :: rawL k (l.drop (decodeL l).2)
def rawOf (l : Bytes) : List Int := rawL l.length l
theorem rawL_fuel : ∀ (k m : Nat) (l : Bytes), l.length ≤ k → l.length ≤ m → rawL k l = rawL m l
  | 0, m, l, h, _ => by
    have : l = [] := List.length_eq_zero_iff.1 (by omega)
    subst this
    cases m <;> rfl
  | k + 1, 0, l, _, h => by
    have : l = [] := List.length_eq_zero_iff.1 (by omega)
    subst this
    rfl
  | k + 1, m + 1, l, h1, h2 => by
    unfold rawL
    by_cases hl : l = []
    · rw [if_pos hl, if_pos hl]
    · have := drop_lt hl
      rw [if_neg hl, if_neg hl, rawL_fuel k m _ (by omega) (by omega)]
theorem raw_nil : rawOf [] = [] := rfl
theorem raw_step {l : Bytes} (h : l ≠ []) : rawOf l = ((decodeL l).1 : Int) :: rawOf (l.drop (decodeL l).2) := by
  have := drop_lt h
  have hp := List.length_pos_iff.2 h
  unfold rawOf
  rw [show l.length = (l.length - 1) + 1 by omega, rawL, if_neg h, rawL_fuel (l.length - 1) (l.drop (decodeL l).2).length _ (by omega) (Nat.le_refl _)]
theorem raw_len : ∀ (n : Nat) (l : Bytes), l.length ≤ n → (rawOf l).length = (ptsOf l).length
  | 0, l, h => by
    have : l = [] := List.length_eq_zero_iff.1 (by omega)
    subst this
    rfl
  | n + 1, l, h => by
    by_cases hl : l = []
    · subst hl; rfl
    · have := drop_lt hl
      rw [pts_step hl, raw_step hl, List.length_cons, List.length_cons, raw_len n _ (by omega)]
theorem ptsL_len (l : Bytes) : (ptsOf l).length ≤ l.length := pts_length l.length l (Nat.le_refl _)
/-- What the conversion lays. -/
theorem runesFrom_raw (s : ByteArray) : ∀ (bound i : Nat) (acc : Array Value), s.size ≤ bound + i → (Conv.runesFrom s bound i acc).toList = acc.toList ++ (rawOf (s.data.toList.drop i)).map (Value.int .i32)
  | 0, i, acc, h => by
    rw [List.drop_eq_nil_of_le (by rw [← Lib.size_eq]; omega)]
    simp [Conv.runesFrom, raw_nil]
  | b + 1, i, acc, h => by
    unfold Conv.runesFrom
    by_cases hi : i < s.size
    · rw [if_pos hi]
      have hne : s.data.toList.drop i ≠ [] := drop_ne (by rw [← Lib.size_eq]; exact hi)
      have hw := decodeL_width (s.data.toList.drop i)
      rw [raw_step hne]
      have e := Lib.decodeL_drop s i
      simp only
      rw [e] at hw ⊢
      rw [runesFrom_raw s b _ _ (by omega), List.drop_drop]
      simp
    · rw [if_neg hi, List.drop_eq_nil_of_le (by rw [← Lib.size_eq]; omega)]
      simp [raw_nil]
theorem runes_raw (s : ByteArray) : (Conv.runesFrom s s.size 0 #[]).toList = (rawOf s.data.toList).map (Value.int .i32) := by
  rw [runesFrom_raw s s.size 0 #[] (by omega)]
  simp
theorem runes_size (s : ByteArray) : (Conv.runesFrom s s.size 0 #[]).size = (ptsOf s.data.toList).length := by
  rw [← Array.length_toList, runes_raw, List.length_map, raw_len _ _ (Nat.le_refl _)]
theorem decode_widN (s : ByteArray) (x : Nat) : (Utf8.decode s x).2 = wid s.data.toList x := by unfold wid; rw [Lib.decodeL_drop]
theorem decode_runN (s : ByteArray) (x : Nat) : (Utf8.decode s x).1 = run s.data.toList x := by unfold run; rw [Lib.decodeL_drop]
/-- Behind a unit. -/
theorem step_at {l : Bytes} {x : Nat} (h : x < l.length) : ptsOf (l.drop x) = ptL (l.drop x) :: ptsOf (l.drop (x + wid l x)) ∧ rawOf (l.drop x) = ((run l x : Nat) : Int) :: rawOf (l.drop (x + wid l x)) := by
  have hne := drop_ne h
  refine ⟨?_, ?_⟩
  · rw [pts_step hne, List.drop_drop]; rfl
  · rw [raw_step hne, List.drop_drop]; rfl
/-- U+FFFD that is none: the text does not begin with its three bytes. -/
theorem pt_plain {l : Bytes} {x : Nat} (h : run l x ≠ 65533) : ptL (l.drop x) = ((run l x : Nat) : Int) := by
  unfold ptL
  rw [if_neg (fun e => h (by unfold run; rw [e]))]
  rfl
theorem pt_fffd {l : Bytes} {x : Nat} (hx : x < l.length) (h : run l x = 65533) : ptL (l.drop x) = if Lib.hasPrefix (l.drop x) [239, 191, 189] = true then 65533 else 1114112 + ((l.getD x 0).toNat : Int) := by
  have hne := drop_ne hx
  unfold ptL
  have hg : (l.drop x).getD 0 0 = l.getD x 0 := by rw [getD_dropU, Nat.add_zero]
  rw [hg]
  by_cases he : decodeL (l.drop x) = (65533, 1)
  · rw [if_pos he, if_neg ?_]
    intro hp
    rw [← Lib.hasPrefix_of_take] at hp
    simp only [Bool.and_eq_true, decide_eq_true_eq, beq_iff_eq] at hp
    obtain ⟨h3, ht⟩ := hp
    have h3' : 3 ≤ (l.drop x).length := h3
    have ht' : (l.drop x).take 3 = [239, 191, 189] := ht
    have ea : ∀ i, i < 3 → (l.drop x).getD i 0 = ([239, 191, 189] : Bytes).getD i 0 := fun i hi => by
      rw [← ht']
      simp [List.getD, List.getElem?_take, hi]
    have e0 := ea 0 (by omega)
    have e1 := ea 1 (by omega)
    have e2 := ea 2 (by omega)
    rw [decodeL_N, e0, e1, e2] at he
    unfold decodeN at he
    simp at he
    have : 2 < (l.drop x).length := by omega
    simp at this
    omega
  · rw [if_neg he, if_pos ?_]
    · have : (decodeL (l.drop x)).1 = 65533 := h
      rw [this]; rfl
    · have h1 : (decodeL (l.drop x)).1 = 65533 := h
      have hh := encode_decode (l.drop x) hne (fun e => he (Prod.ext e.1 e.2))
      rw [h1] at hh
      have hc : encodeRune ((65533 : Nat) : Int) = [239, 191, 189] := by decide
      rw [hc] at hh
      unfold Lib.hasPrefix
      rw [List.isPrefixOf_iff_prefix]
      rw [hh]
      exact List.take_prefix _ _
/-- string(c). -/
theorem byte_of {a : Int} {b : Nat} (h : a = (b : Int)) : a.toNat.toUInt8 = UInt8.ofNat b := by subst h; rfl
theorem encode_rune (r : Int) (h : isChar r = true) : (Utf8.encode r).data.toList = encodeRune r := by
  obtain ⟨h0, h1, h2⟩ := char_iff.1 h
  have hv : Utf8.valid r = true := by
    rw [Go.validRune_eq]
    unfold Go.validRune
    exact decide_eq_true (by omega)
  obtain ⟨n, rfl⟩ : ∃ n : Nat, r = (n : Int) := ⟨r.toNat, by omega⟩
  unfold Utf8.encode encodeRune encodeRuneZ
  simp only [hv, if_true, Int.toNat_natCast]
  have i1 (h : ¬ n < 128) : ¬ (0 ≤ (n : Int) ∧ (n : Int) ≤ 127) := by omega
  have i2 (h : ¬ n < 2048) : ¬ (128 ≤ (n : Int) ∧ (n : Int) ≤ 2047) := by omega
  by_cases a : n < 128
  · have j : 0 ≤ (n : Int) ∧ (n : Int) ≤ 127 := by omega
    rw [if_pos a, if_pos j]
    simp only [List.map_cons, List.map_nil]
    rw [byte_of (b := n) rfl]
  · rw [if_neg a, if_neg (i1 a)]
    by_cases b : n < 2048
    · have j : 128 ≤ (n : Int) ∧ (n : Int) ≤ 2047 := by omega
      rw [if_pos b, if_pos j]
      simp only [List.map_cons, List.map_nil]
      rw [byte_of (b := 192 + n / 64) (by omega), byte_of (b := 128 + n % 64) (by omega)]
    · rw [if_neg b, if_neg (i2 b)]
      by_cases c : n < 65536
      · have j : (2048 ≤ (n : Int) ∧ (n : Int) < 55296) ∨ (57343 < (n : Int) ∧ (n : Int) ≤ 65535) := by omega
        rw [if_pos c, if_pos j]
        simp only [List.map_cons, List.map_nil]
        rw [byte_of (b := 224 + n / 4096) (by omega), byte_of (b := 128 + n / 64 % 64) (by omega), byte_of (b := 128 + n % 64) (by omega)]
      · have j : ¬ ((2048 ≤ (n : Int) ∧ (n : Int) < 55296) ∨ (57343 < (n : Int) ∧ (n : Int) ≤ 65535)) := by omega
        have j2 : 65536 ≤ (n : Int) ∧ (n : Int) ≤ 1114111 := by omega
        rw [if_neg c, if_neg j, if_pos j2]
        simp only [List.map_cons, List.map_nil]
        rw [byte_of (b := 240 + n / 262144) (by omega), byte_of (b := 128 + n / 4096 % 64) (by omega), byte_of (b := 128 + n / 64 % 64) (by omega), byte_of (b := 128 + n % 64) (by omega)]
theorem valid_char (r : Int) : Lib.validRune r = isChar r := by
  rw [Bool.eq_iff_iff, char_iff]
  unfold Lib.validRune
  rw [decide_eq_true_eq]
  omega
end Go.Proofs.YtikpkjpnehkbfaaGreatDoor.Nm
