/- The reference's decoder (glossaryref01): the walks; it tells what the library's does. -/
import Derived.Test.YtfmcadobpgpajaaGreatDoorCellAsk
namespace Go.Proofs.YtfmcadobpgpajaaGreatDoor.Ru
open Go Go.RowKit Go.Lib Go.Proofs.YtfmcadobpgpajaaGreatDoor.Ut
set_option linter.unusedSimpArgs false
set_option linter.unusedVariables false

/-! ### plain -/
def leadN (c : Int) : Int := if c < 128 then 1 else if c < 194 then 0 else if c < 224 then 2 else if c < 240 then 3 else if c < 245 then 4 else 0
def leadLo (c : Int) : Int := if c < 194 then 0 else if c = 224 then 160 else if c = 240 then 144 else if c < 245 then 128 else 0
def leadHi (c : Int) : Int := if c < 194 then 0 else if c = 237 then 159 else if c = 244 then 143 else if c < 245 then 191 else 0
/-- May this byte be the j-th behind a first byte c? -/
def okB (c : Int) (j : Nat) (b : Int) : Bool := if j = 1 then decide (leadLo c ≤ b) && decide (b ≤ leadHi c) else decide (128 ≤ b) && decide (b ≤ 191)
abbrev by_ (l : List UInt8) (i : Nat) : Int := ((l.getD i 0).toNat : Int)
/-- How far a beginning goes. -/
structure Begun (l : List UInt8) (i : Nat) (k : Nat) : Prop where
  pos : 1 ≤ k
  le : (k : Int) ≤ leadN (by_ l i)
  all : ∀ j, 1 ≤ j → j < k → i + j < l.length ∧ okB (by_ l i) j (by_ l (i + j)) = true
  stop : (k : Int) = leadN (by_ l i) ∨ ¬ (i + k < l.length ∧ okB (by_ l i) k (by_ l (i + k)) = true)
theorem ok_one {c b : Int} (h : okB c 1 b = true) : leadLo c ≤ b ∧ b ≤ leadHi c := by
  unfold okB at h
  simpa using h
theorem ok_more {c b : Int} {j : Nat} (hj : j ≠ 1) (h : okB c j b = true) : 128 ≤ b ∧ b ≤ 191 := by
  unfold okB at h
  rw [if_neg hj] at h
  simpa using h
theorem lead_bounds {b0 b1 : Nat} (h0 : 194 ≤ b0) (h1 : b0 < 245) (h : leadLo (b0 : Int) ≤ (b1 : Int) ∧ (b1 : Int) ≤ leadHi (b0 : Int)) : 128 ≤ b1 ∧ b1 ≤ 191 ∧ (b0 = 224 → 160 ≤ b1) ∧ (b0 = 237 → b1 ≤ 159) ∧ (b0 = 240 → 144 ≤ b1) ∧ (b0 = 244 → b1 ≤ 143) := by
  unfold leadLo leadHi at h
  obtain ⟨g1, g2⟩ := h
  repeat' split at g1
  all_goals (repeat' split at g2)
  all_goals omega
/-- All of it is there: the library decodes it, too. -/
theorem begun_all {l : List UInt8} {i k : Nat} (hi : i < l.length) (h : Begun l i k) (hk : (k : Int) = leadN (by_ l i)) : wid l i = k ∧ (k = 1 → (l.getD i 0).toNat < 128 ∧ run l i = (l.getD i 0).toNat) ∧ (k = 2 → run l i = (l.getD i 0).toNat % 32 * 64 + (l.getD (i + 1) 0).toNat % 64) ∧ (k = 3 → run l i = ((l.getD i 0).toNat % 16 * 64 + (l.getD (i + 1) 0).toNat % 64) * 64 + (l.getD (i + 2) 0).toNat % 64) ∧ (k = 4 → run l i = (((l.getD i 0).toNat % 8 * 64 + (l.getD (i + 1) 0).toNat % 64) * 64 + (l.getD (i + 2) 0).toNat % 64) * 64 + (l.getD (i + 3) 0).toNat % 64) ∧ k ≤ 4 := by
  have k0 := (l.getD i 0).toNat_lt
  have k1 := (l.getD (i + 1) 0).toNat_lt
  have k2 := (l.getD (i + 2) 0).toNat_lt
  have k3 := (l.getD (i + 3) 0).toNat_lt
  have hp := h.pos
  unfold wid run
  rw [wid_at]
  have a1 := h.all 1 (by omega)
  have a2 := h.all 2 (by omega)
  have a3 := h.all 3 (by omega)
  unfold by_ at hk a1 a2 a3
  unfold leadN at hk
  generalize (l.getD i 0).toNat = b0 at *
  generalize (l.getD (i + 1) 0).toNat = b1 at *
  generalize (l.getD (i + 2) 0).toNat = b2 at *
  generalize (l.getD (i + 3) 0).toNat = b3 at *
  obtain rfl | rfl | rfl | rfl : k = 1 ∨ k = 2 ∨ k = 3 ∨ k = 4 := by
    repeat' split at hk
    all_goals omega
  · have hb : b0 < 128 := by
      repeat' split at hk
      all_goals omega
    rw [decodeN_ascii _ _ _ _ _ hb]
    exact ⟨rfl, fun _ => ⟨hb, rfl⟩, fun h => by omega, fun h => by omega, fun h => by omega, by omega⟩
  · have hb : 194 ≤ b0 ∧ b0 < 224 := by
      repeat' split at hk
      all_goals omega
    obtain ⟨c1, c2⟩ := a1 (by omega)
    obtain ⟨c3, c4, _⟩ := lead_bounds hb.1 (by omega) (ok_one c2)
    unfold decodeN
    rw [if_neg (by omega), if_pos ⟨by omega, by omega, by omega⟩, if_pos (by omega)]
    exact ⟨rfl, fun h => by omega, fun _ => rfl, fun h => by omega, fun h => by omega, by omega⟩
  · have hb : 224 ≤ b0 ∧ b0 < 240 := by
      repeat' split at hk
      all_goals omega
    obtain ⟨c1, c2⟩ := a1 (by omega)
    obtain ⟨e1, e2⟩ := a2 (by omega)
    obtain ⟨c3, c4, c5, c6, _⟩ := lead_bounds (by omega) (by omega) (ok_one c2)
    have e3 := ok_more (by omega) e2
    unfold decodeN
    rw [if_neg (by omega), if_neg (by omega), if_pos ⟨by omega, ⟨by omega, by omega⟩, by omega, by omega⟩, if_pos (by omega)]
    exact ⟨rfl, fun h => by omega, fun h => by omega, fun _ => by show b0 % 16 * 4096 + b1 % 64 * 64 + b2 % 64 = _; omega, fun h => by omega, by omega⟩
  · have hb : 240 ≤ b0 ∧ b0 < 245 := by
      repeat' split at hk
      all_goals omega
    obtain ⟨c1, c2⟩ := a1 (by omega)
    obtain ⟨e1, e2⟩ := a2 (by omega)
    obtain ⟨f1, f2⟩ := a3 (by omega)
    obtain ⟨c3, c4, _, _, c5, c6⟩ := lead_bounds (by omega) (by omega) (ok_one c2)
    have e3 := ok_more (by omega) e2
    have f3 := ok_more (by omega) f2
    unfold decodeN
    rw [if_neg (by omega), if_neg (by omega), if_neg (by omega), if_pos ⟨by omega, ⟨by omega, by omega⟩, ⟨by omega, by omega⟩, by omega, by omega⟩, if_pos (by omega)]
    exact ⟨rfl, fun h => by omega, fun h => by omega, fun h => by omega, fun _ => by show b0 % 8 * 262144 + b1 % 64 * 4096 + b2 % 64 * 64 + b3 % 64 = _; omega, by omega⟩
/-- Not all of it is there, or nothing begins so: ill-formed for the library, too. -/
theorem begun_not {l : List UInt8} {i : Nat} (hi : i < l.length) (h : leadN (by_ l i) = 0 ∨ ∃ k, Begun l i k ∧ (k : Int) ≠ leadN (by_ l i)) : decodeL (l.drop i) = (65533, 1) ∧ 128 ≤ (l.getD i 0).toNat := by
  have k0 := (l.getD i 0).toNat_lt
  have hb : 128 ≤ (l.getD i 0).toNat := by
    rcases h with h | ⟨k, h, hk⟩
    · unfold leadN by_ at h
      repeat' split at h
      all_goals omega
    · have h1 := h.pos
      have h2 := h.le
      unfold leadN by_ at h2 hk
      repeat' split at hk
      all_goals omega
  refine ⟨?_, hb⟩
  by_cases hw : wid l i = 1
  · rcases one hw with ⟨e, _⟩ | ⟨_, e⟩
    · omega
    · exact e
  · have hw2 : 1 < wid l i := by have := wid_pos l i; omega
    obtain ⟨h1, h2, h3, h4, _⟩ := wide hw2
    exfalso
    have k1 := (l.getD (i + 1) 0).toNat_lt
    have hd := wid_at l i
    have hwd : wid l i = (decodeN (l.length - i) (l.getD i 0).toNat (l.getD (i + 1) 0).toNat (l.getD (i + 2) 0).toNat (l.getD (i + 3) 0).toNat).2 := congrArg Prod.snd hd
    have hok : ∀ j, 1 ≤ j → j < wid l i → okB (by_ l i) j (by_ l (i + j)) = true := by
      intro j hj1 hj2
      have hc := h4 j (by omega) hj2
      unfold okB by_
      by_cases e : j = 1
      · subst e
        rw [if_pos rfl, Bool.and_eq_true, decide_eq_true_eq, decide_eq_true_eq]
        have k2 := (l.getD (i + 2) 0).toNat_lt
        have k3 := (l.getD (i + 3) 0).toNat_lt
        unfold leadLo leadHi
        rcases decodeN_shape (l.length - i) (l.getD i 0).toNat (l.getD (i + 1) 0).toNat (l.getD (i + 2) 0).toNat (l.getD (i + 3) 0).toNat with ⟨c, e⟩ | ⟨c1, c2, c3, cv, e⟩ | ⟨c1, c2, c3, c4, cv, cs, e⟩ | ⟨c1, c2, c3, c4, c5, cv, cw, e⟩ | e
        · omega
        · constructor <;> (repeat' split) <;> omega
        · constructor <;> (repeat' split) <;> omega
        · constructor <;> (repeat' split) <;> omega
        · rw [e] at hwd; simp at hwd; omega
      · rw [if_neg e, Bool.and_eq_true, decide_eq_true_eq, decide_eq_true_eq]
        omega
    have hlead : leadN (by_ l i) = (wid l i : Int) := by
      unfold leadN by_
      have k2 := (l.getD (i + 2) 0).toNat_lt
      have k3 := (l.getD (i + 3) 0).toNat_lt
      rcases decodeN_shape (l.length - i) (l.getD i 0).toNat (l.getD (i + 1) 0).toNat (l.getD (i + 2) 0).toNat (l.getD (i + 3) 0).toNat with ⟨c, e⟩ | ⟨c1, c2, c3, cv, e⟩ | ⟨c1, c2, c3, c4, cv, cs, e⟩ | ⟨c1, c2, c3, c4, c5, cv, cw, e⟩ | e
      · omega
      · rw [e] at hwd; simp only at hwd; rw [hwd]; (repeat' split) <;> omega
      · rw [e] at hwd; simp only at hwd; rw [hwd]; (repeat' split) <;> omega
      · rw [e] at hwd; simp only at hwd; rw [hwd]; (repeat' split) <;> omega
      · rw [e] at hwd; simp at hwd; omega
    rcases h with h | ⟨k, h, hk⟩
    · omega
    · have hp := h.pos
      have hle := h.le
      rcases h.stop with hs | hs
      · exact hk hs
      · exact hs ⟨by omega, hok k hp (by omega)⟩
end Go.Proofs.YtfmcadobpgpajaaGreatDoor.Ru
