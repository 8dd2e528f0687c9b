/- Where the units of a text begin, and what is told backwards from there: plain Lean. -/
import Derived.Lib.TrimUEq
import Derived.Lib.MapLaws
namespace Go.Proofs.YtikpkjpnehkbfaaGreatDoor.Ut
open Go Go.Lib

/-- how wide the unit is that begins at x. -/
def wid (l : List UInt8) (x : Nat) : Nat := (decodeL (l.drop x)).2
def run (l : List UInt8) (x : Nat) : Nat := (decodeL (l.drop x)).1
theorem wid_pos (l : List UInt8) (x : Nat) : 1 ≤ wid l x := decodeL_width _
theorem drop_ne {l : List UInt8} {x : Nat} (h : x < l.length) : l.drop x ≠ [] := by
  intro e
  have := congrArg List.length e
  simp at this
  omega
theorem wid_le {l : List UInt8} {x : Nat} (h : x < l.length) : x + wid l x ≤ l.length := by
  have := decodeL_le (l.drop x) (drop_ne h)
  rw [List.length_drop] at this
  unfold wid
  omega
theorem wid_at (l : List UInt8) (x : Nat) : decodeL (l.drop x) = decodeN (l.length - x) (l.getD x 0).toNat (l.getD (x + 1) 0).toNat (l.getD (x + 2) 0).toNat (l.getD (x + 3) 0).toNat := by
  rw [decodeL_N, List.length_drop, getD_dropU, getD_dropU, getD_dropU, getD_dropU, Nat.add_zero]
/-- What the bytes of a wide unit are. -/
theorem wide {l : List UInt8} {x : Nat} (h : 1 < wid l x) : (l.getD x 0).toNat / 64 = 3 ∧ wid l x ≤ 4 ∧ x + wid l x ≤ l.length ∧ (∀ k, 0 < k → k < wid l x → (l.getD (x + k) 0).toNat / 64 = 2) ∧
    ∀ n, wid l x ≤ n → ∀ b1 b2 b3, b1 = (l.getD (x + 1) 0).toNat → (2 < wid l x → b2 = (l.getD (x + 2) 0).toNat) → (3 < wid l x → b3 = (l.getD (x + 3) 0).toNat) → decodeN n (l.getD x 0).toNat b1 b2 b3 = decodeL (l.drop x) := by
  have k0 := (l.getD x 0).toNat_lt
  unfold wid at h ⊢
  rw [wid_at] at h ⊢
  rcases decodeN_shape (l.length - x) (l.getD x 0).toNat (l.getD (x + 1) 0).toNat (l.getD (x + 2) 0).toNat (l.getD (x + 3) 0).toNat with ⟨c, e⟩ | ⟨c1, c2, c3, cv, e⟩ | ⟨c1, c2, c3, c4, cv, cs, e⟩ | ⟨c1, c2, c3, c4, c5, cv, cw, e⟩ | e
  · rw [e] at h; simp at h
  · rw [e] at h ⊢
    refine ⟨by omega, by simp, by simp only; omega, fun k hk hk2 => ?_, fun n hn b1 b2 b3 h1 h2 h3 => ?_⟩
    · obtain rfl : k = 1 := by simp only at hk2; omega
      exact c3
    · subst h1
      simp only at hn
      unfold decodeN
      rw [if_neg (by omega), if_pos ⟨c1, by omega, c3⟩, if_pos (by omega)]
  · rw [e] at h ⊢
    refine ⟨by omega, by simp, by simp only; omega, fun k hk hk2 => ?_, fun n hn b1 b2 b3 h1 h2 h3 => ?_⟩
    · simp only at hk2
      obtain rfl | rfl : k = 1 ∨ k = 2 := by omega
      · exact c3
      · exact c4
    · have h2 := h2 (by simp)
      subst h1 h2
      simp only at hn
      unfold decodeN
      rw [if_neg (by omega), if_neg (by omega), if_pos ⟨c1, ⟨by omega, c3⟩, by omega, c4⟩, if_pos ⟨by omega, by omega⟩]
  · rw [e] at h ⊢
    refine ⟨by omega, by simp, by simp only; omega, fun k hk hk2 => ?_, fun n hn b1 b2 b3 h1 h2 h3 => ?_⟩
    · simp only at hk2
      obtain rfl | rfl | rfl : k = 1 ∨ k = 2 ∨ k = 3 := by omega
      · exact c3
      · exact c4
      · exact c5
    · have h2 := h2 (by simp)
      have h3 := h3 (by simp)
      subst h1 h2 h3
      simp only at hn
      unfold decodeN
      rw [if_neg (by omega), if_neg (by omega), if_neg (by omega), if_pos ⟨c1, ⟨by omega, c3⟩, ⟨by omega, c4⟩, by omega, c5⟩, if_pos ⟨by omega, by omega⟩]
  · rw [e] at h; simp at h
/-- A unit of one byte: ASCII, or ill-formed. -/
theorem one {l : List UInt8} {x : Nat} (h : wid l x = 1) : ((l.getD x 0).toNat < 128 ∧ decodeL (l.drop x) = ((l.getD x 0).toNat, 1)) ∨ (128 ≤ (l.getD x 0).toNat ∧ decodeL (l.drop x) = (65533, 1)) := by
  unfold wid at h
  rw [wid_at] at h ⊢
  by_cases hb : (l.getD x 0).toNat < 128
  · exact .inl ⟨hb, decodeN_ascii _ _ _ _ _ hb⟩
  · refine .inr ⟨by omega, ?_⟩
    rcases decodeN_shape (l.length - x) (l.getD x 0).toNat (l.getD (x + 1) 0).toNat (l.getD (x + 2) 0).toNat (l.getD (x + 3) 0).toNat with ⟨c, e⟩ | ⟨c1, c2, c3, cv, e⟩ | ⟨c1, c2, c3, c4, cv, cs, e⟩ | ⟨c1, c2, c3, c4, c5, cv, cw, e⟩ | e
    · omega
    · rw [e] at h; simp at h
    · rw [e] at h; simp at h
    · rw [e] at h; simp at h
    · exact e

/-- a unit begins there (or the text ends). -/
inductive Bd (l : List UInt8) : Nat → Prop
  | zero : Bd l 0
  | step {x : Nat} : Bd l x → x < l.length → Bd l (x + wid l x)
theorem Bd.le {l : List UInt8} {x : Nat} (h : Bd l x) : x ≤ l.length := by
  cases h with
  | zero => exact Nat.zero_le _
  | step h hx => exact wid_le hx
/-- No unit lies over a beginning. -/
theorem Bd.over {l : List UInt8} {x : Nat} (h : Bd l x) : ∀ y, y < x → 1 < wid l y → y + wid l y ≤ x := by
  induction h with
  | zero => intro y hy; omega
  | @step x h hx ih =>
    intro y hy hw
    by_cases h1 : y < x
    · have := ih y h1 hw; omega
    · by_cases h2 : y = x
      · subst h2; exact Nat.le_refl _
      · -- y is within the unit at x: a continuation byte, which begins nothing wide
        have hwx : 1 < wid l x := by omega
        have hc := (wide hwx).2.2.2.1 (y - x) (by omega) (by omega)
        rw [show x + (y - x) = y by omega] at hc
        have := (wide hw).1
        omega
/-- Each byte lies in a unit. -/
theorem Bd.cover (l : List UInt8) : ∀ n at_, at_ ≤ n → at_ ≤ l.length → ∃ x, Bd l x ∧ x ≤ at_ ∧ (at_ = x ∨ at_ < x + wid l x) := by
  intro n
  induction n with
  | zero => intro at_ h _; exact ⟨0, .zero, Nat.zero_le _, .inl (by omega)⟩
  | succ n ih =>
    intro at_ h hl
    by_cases h0 : at_ = 0
    · exact ⟨0, .zero, Nat.zero_le _, .inl h0⟩
    · obtain ⟨x, hb, hx, hc⟩ := ih (at_ - 1) (by omega) (by omega)
      have hxl : x < l.length := by omega
      have hp := wid_pos l x
      rcases hc with hc | hc
      · by_cases h1 : at_ < x + wid l x
        · exact ⟨x, hb, by omega, .inr h1⟩
        · exact ⟨_, .step hb hxl, by omega, .inl (by omega)⟩
      · by_cases h1 : at_ < x + wid l x
        · exact ⟨x, hb, by omega, .inr h1⟩
        · exact ⟨_, .step hb hxl, by omega, .inl (by omega)⟩
/-- Just where no wide unit lies over it does a unit begin. -/
theorem bd_iff (l : List UInt8) (at_ : Nat) (h : at_ ≤ l.length) : Bd l at_ ↔ ∀ y, y < at_ → at_ < y + 4 → 1 < wid l y → y + wid l y ≤ at_ := by
  refine ⟨fun hb y hy _ hw => hb.over y hy hw, fun ha => ?_⟩
  obtain ⟨x, hb, hx, hc⟩ := Bd.cover l at_ at_ (Nat.le_refl _) h
  rcases hc with rfl | hc
  · exact hb
  · by_cases e : at_ = x
    · subst e; exact hb
    · have hw : 1 < wid l x := by omega
      have := ha x (by omega) (by have := (wide hw).2.1; omega) hw
      omega
theorem Bd.full (l : List UInt8) : Bd l l.length := (bd_iff l _ (Nat.le_refl _)).2 fun _ _ _ hw => (wide hw).2.2.1
/-- What begins ahead of a beginning. -/
theorem Bd.prev {l : List UInt8} {at_ : Nat} (h : Bd l at_) (h0 : 0 < at_) : ∃ x, Bd l x ∧ x < l.length ∧ x + wid l x = at_ := by
  cases h with
  | zero => omega
  | step h hx => exact ⟨_, h, hx, rfl⟩
theorem start_lead {b : UInt8} (h : b.toNat / 64 = 3) : runeStartB b = true := by unfold runeStartB; simp; omega
theorem start_cont {b : UInt8} (h : b.toNat / 64 = 2) : runeStartB b = false := by unfold runeStartB; simp; omega
theorem last_start {l : List UInt8} {x : Nat} (h : 1 < wid l x) : lastStart (l.take (x + wid l x)) = x := by
  obtain ⟨h1, h2, h3, h4, _⟩ := wide h
  have hlen : (l.take (x + wid l x)).length = x + wid l x := by rw [List.length_take]; omega
  have g : ∀ k, k < x + wid l x → (l.take (x + wid l x)).getD k 0 = l.getD k 0 := fun k hk => getD_takeU l _ k hk
  obtain hw | hw | hw : wid l x = 2 ∨ wid l x = 3 ∨ wid l x = 4 := by omega
  · rw [hw] at hlen g h4 ⊢
    unfold lastStart
    simp only [hlen]
    rw [g (x + 2 - 2) (by omega)]
    simp only [Nat.add_sub_cancel]
    rw [start_lead h1, if_neg (by omega), if_pos rfl]
  · rw [hw] at hlen g h4 ⊢
    unfold lastStart
    simp only [hlen]
    rw [g (x + 3 - 2) (by omega), g (x + 3 - 3) (by omega), show x + 3 - 2 = x + 1 by omega, show x + 3 - 3 = x by omega]
    rw [start_cont (h4 1 (by omega) (by omega)), start_lead h1, if_neg (by omega), if_neg (by simp), if_neg (by omega), if_pos rfl]
  · rw [hw] at hlen g h4 ⊢
    unfold lastStart
    simp only [hlen]
    rw [g (x + 4 - 2) (by omega), g (x + 4 - 3) (by omega), g (x + 4 - 4) (by omega), show x + 4 - 2 = x + 2 by omega, show x + 4 - 3 = x + 1 by omega, show x + 4 - 4 = x by omega]
    rw [start_cont (h4 2 (by omega) (by omega)), start_cont (h4 1 (by omega) (by omega)), start_lead h1, if_neg (by omega), if_neg (by simp), if_neg (by omega), if_neg (by simp), if_neg (by omega), if_pos rfl]
/-- A wide unit is the same one where the text is cut behind it. -/
theorem cut_same {l : List UInt8} {x : Nat} (h : 1 < wid l x) {n : Nat} (hn : x + wid l x ≤ n) : decodeL ((l.take n).drop x) = decodeL (l.drop x) := by
  obtain ⟨_, h2, h3, _, h5⟩ := wide h
  rw [wid_at (l.take n) x, getD_takeU l n x (by omega)]
  refine h5 _ (by rw [List.length_take]; omega) _ _ _ ?_ (fun h => ?_) (fun h => ?_)
  · rw [getD_takeU l n _ (by omega)]
  · rw [getD_takeU l n _ (by omega)]
  · rw [getD_takeU l n _ (by omega)]
/-- **What is told backwards from a beginning is the unit ahead of it.** -/
theorem back_same {l : List UInt8} {x : Nat} (hb : Bd l x) (hx : x < l.length) : decodeLastL (l.take (x + wid l x)) = decodeL (l.drop x) := by
  have hle := wid_le hx
  have hp := wid_pos l x
  have hlen : (l.take (x + wid l x)).length = x + wid l x := by rw [List.length_take]; omega
  have hne : l.take (x + wid l x) ≠ [] := fun e => by rw [e] at hlen; simp at hlen; omega
  by_cases hw : 1 < wid l x
  · obtain ⟨h1, h2, h3, h4, _⟩ := wide hw
    have hlast := h4 (wid l x - 1) (by omega) (by omega)
    unfold decodeLastL
    rw [if_neg hne, hlen, getD_takeU l _ _ (by omega), show x + wid l x - 1 = x + (wid l x - 1) by omega, if_neg (by omega)]
    simp only
    rw [last_start hw, cut_same hw (Nat.le_refl _), if_pos (by rfl)]
  · have hw1 : wid l x = 1 := by omega
    rw [hw1] at hlen hne ⊢
    rcases last_cases l (x + 1) (by omega) (by omega) with ⟨ha, hd⟩ | ⟨ha, hd⟩ | ⟨ha, st, hst, hd, hsum⟩
    · rw [hd]
      rcases one hw1 with ⟨_, e⟩ | ⟨e, _⟩
      · rw [e]; rfl
      · simp only [Nat.add_sub_cancel] at ha; omega
    · rw [hd]
      simp only [Nat.add_sub_cancel] at ha
      rcases one hw1 with ⟨e, _⟩ | ⟨_, e⟩
      · omega
      · exact e.symm
    · simp only [Nat.add_sub_cancel] at ha
      rw [hd]
      have he : decodeL (l.drop x) = (65533, 1) := by
        rcases one hw1 with ⟨e, _⟩ | ⟨_, e⟩
        · omega
        · exact e
      by_cases hk : (decodeL ((l.take (x + 1)).drop st)).2 = 1
      · have hs : st = x := by omega
        subst hs
        rw [he]
        rw [wid_at, getD_takeU l _ _ (by omega)]
        exact decodeN_alone _ _ _ _ _ ha (.inl (by rw [List.length_take]; omega))
      · have hk2 : 1 < wid (l.take (x + 1)) st := by have := decodeL_width ((l.take (x + 1)).drop st); unfold wid; omega
        obtain ⟨_, g2, g3, _, g5⟩ := wide hk2
        have hsame : decodeL (l.drop st) = decodeL ((l.take (x + 1)).drop st) := by
          rw [wid_at l st]
          have e0 := getD_takeU l (x + 1) st (by omega)
          rw [← e0]
          have hwl : st + wid (l.take (x + 1)) st = x + 1 := hsum
          refine g5 _ (by omega) _ _ _ ?_ (fun h => ?_) (fun h => ?_)
          · rw [getD_takeU l _ _ (by omega)]
          · rw [getD_takeU l _ _ (by omega)]
          · rw [getD_takeU l _ _ (by omega)]
        have hwl : wid l st = wid (l.take (x + 1)) st := congrArg Prod.snd hsame
        have := hb.over st (by unfold wid at hk2 hwl; omega) (by omega)
        unfold wid at hk2 hwl this
        omega
end Go.Proofs.YtikpkjpnehkbfaaGreatDoor.Ut
