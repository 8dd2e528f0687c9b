/- An edge hangs on the two units beside it alone; by properties that say nothing all but Hangul is a cell: plain Lean. -/
import Derived.Test.YtfmcadobpgpajaaGreatDoorCellSpec
namespace Go.Proofs.YtfmcadobpgpajaaGreatDoor.Cl
open Go Go.Lib Go.Proofs.YtfmcadobpgpajaaGreatDoor.Sp Go.Proofs.YtfmcadobpgpajaaGreatDoor.Ut
set_option linter.unusedVariables false

theorem decodeN_33 (n n' b0 b1 b2 b3 c1 c2 c3 : Nat) (hn : 1 ≤ n) (hn' : n < n') (h1 : n = 1 → c1 = 33) (h1' : 1 < n → c1 = b1) (h2 : n = 2 → c2 = 33) (h2' : 2 < n → c2 = b2) (h3 : n = 3 → c3 = 33) (h3' : 3 < n → c3 = b3) : decodeN n' b0 c1 c2 c3 = decodeN n b0 b1 b2 b3 := by
  unfold decodeN
  by_cases a0 : b0 < 128
  · rw [if_pos a0, if_pos a0]
  · rw [if_neg a0, if_neg a0]
    obtain rfl | rfl | rfl | hn4 : n = 1 ∨ n = 2 ∨ n = 3 ∨ 3 < n := by omega
    · rw [h1 rfl]
      rw [if_neg (by omega), if_neg (by omega), if_neg (by omega), if_neg (by omega), if_neg (by omega), if_neg (by omega)]
    · rw [h1' (by omega), h2 rfl]
      have e : (1 < n') = (1 < 2) := propext ⟨fun _ => by omega, fun _ => by omega⟩
      simp only [e]
      by_cases a1 : b0 / 32 = 6 ∧ 1 < 2 ∧ b1 / 64 = 2
      · rw [if_pos a1, if_pos a1]
      · rw [if_neg a1, if_neg a1, if_neg (by omega), if_neg (by omega), if_neg (by omega), if_neg (by omega)]
    · rw [h1' (by omega), h2' (by omega), h3 rfl]
      have e : (1 < n') = (1 < 3) := propext ⟨fun _ => by omega, fun _ => by omega⟩
      have e2 : (2 < n') = (2 < 3) := propext ⟨fun _ => by omega, fun _ => by omega⟩
      simp only [e, e2]
      by_cases a1 : b0 / 32 = 6 ∧ 1 < 3 ∧ b1 / 64 = 2
      · rw [if_pos a1, if_pos a1]
      · rw [if_neg a1, if_neg a1]
        by_cases a2 : b0 / 16 = 14 ∧ (1 < 3 ∧ b1 / 64 = 2) ∧ 2 < 3 ∧ b2 / 64 = 2
        · rw [if_pos a2, if_pos a2]
        · rw [if_neg a2, if_neg a2, if_neg (by omega), if_neg (by omega)]
    · rw [h1' (by omega), h2' (by omega), h3' hn4]
      have e : (1 < n') = (1 < n) := propext ⟨fun _ => by omega, fun _ => by omega⟩
      have e2 : (2 < n') = (2 < n) := propext ⟨fun _ => by omega, fun _ => by omega⟩
      have e3 : (3 < n') = (3 < n) := propext ⟨fun _ => by omega, fun _ => by omega⟩
      simp only [e, e2, e3]
section
variable {a l b : List UInt8}
abbrev framed (a l b : List UInt8) : List UInt8 := a ++ 33 :: (l ++ 33 :: b)
theorem framed_at (y k : Nat) (h : y + k < l.length) : (framed a l b).getD (a.length + 1 + y + k) 0 = l.getD (y + k) 0 := by
  simp only [framed, List.getD_eq_getElem?_getD]
  rw [List.getElem?_append_right (by omega), show a.length + 1 + y + k - a.length = (y + k) + 1 by omega, List.getElem?_cons_succ, List.getElem?_append_left h]
theorem framed_end : (framed a l b).getD (a.length + 1 + l.length) 0 = 33 := by
  simp only [framed, List.getD_eq_getElem?_getD]
  rw [List.getElem?_append_right (by omega), show a.length + 1 + l.length - a.length = l.length + 1 by omega, List.getElem?_cons_succ, List.getElem?_append_right (Nat.le_refl _), Nat.sub_self]
  rfl
theorem framed_one : (framed a l b).getD a.length 0 = 33 := by
  simp only [framed, List.getD_eq_getElem?_getD]
  rw [List.getElem?_append_right (Nat.le_refl _), Nat.sub_self]
  rfl
theorem framed_len : (framed a l b).length = a.length + 1 + l.length + 1 + b.length := by simp [framed]; omega
theorem framed_dec (y : Nat) (h : y < l.length) : decodeL ((framed a l b).drop (a.length + 1 + y)) = decodeL (l.drop y) := by
  rw [wid_at, wid_at, framed_len]
  have e0 := framed_at (a := a) (l := l) (b := b) y 0 (by omega)
  simp only [Nat.add_zero] at e0
  rw [e0]
  refine decodeN_33 _ _ _ _ _ _ _ _ _ (by omega) (by omega) (fun h => ?_) (fun h => ?_) (fun h => ?_) (fun h => ?_) (fun h => ?_) (fun h => ?_)
  · rw [show a.length + 1 + y + 1 = a.length + 1 + l.length by omega, framed_end]; rfl
  · rw [framed_at y 1 (by omega)]
  · rw [show a.length + 1 + y + 2 = a.length + 1 + l.length by omega, framed_end]; rfl
  · rw [framed_at y 2 (by omega)]
  · rw [show a.length + 1 + y + 3 = a.length + 1 + l.length by omega, framed_end]; rfl
  · rw [framed_at y 3 (by omega)]
theorem framed_wid (y : Nat) (h : y < l.length) : wid (framed a l b) (a.length + 1 + y) = wid l y := congrArg Prod.snd (framed_dec y h)
/-- Where no continuation byte stands a unit begins. -/
theorem bd_open {t : List UInt8} {x : Nat} (hx : x ≤ t.length) (h : (t.getD x 0).toNat / 64 ≠ 2) : Bd t x := by
  refine (bd_iff t x hx).2 fun y hy _ hw => ?_
  by_cases hc : y + wid t y ≤ x
  · exact hc
  · have := (wide hw).2.2.2.1 (x - y) (by omega) (by omega)
    rw [show y + (x - y) = x by omega] at this
    exact absurd this h
theorem framed_start : Bd (framed a l b) (a.length + 1) := by
  have h1 : Bd (framed a l b) a.length := bd_open (by rw [framed_len]; omega) (by rw [framed_one]; decide)
  have h2 : wid (framed a l b) a.length = 1 := by
    unfold wid
    rw [wid_at, framed_one, decodeN_ascii _ _ _ _ _ (by decide)]
  have := Bd.step h1 (by rw [framed_len]; omega)
  rwa [h2] at this
theorem framed_bd {x : Nat} (h : Bd l x) : Bd (framed a l b) (a.length + 1 + x) := by
  induction h with
  | zero => exact framed_start
  | @step y h hy ih =>
    have := Bd.step ih (by rw [framed_len]; omega)
    rw [framed_wid y hy] at this
    rwa [show a.length + 1 + (y + wid l y) = a.length + 1 + y + wid l y by omega]
theorem framed_jo (D : PD) {x : Nat} (h : Bd l x) (h0 : 0 < x) (hx : x < l.length) : jo D (framed a l b) (a.length + 1 + x) = jo D l x := by
  obtain ⟨y, hb, hy, rfl⟩ := h.prev h0
  have e1 := back_same (framed_bd (a := a) (b := b) hb) (by rw [framed_len]; omega)
  rw [framed_wid y hy] at e1
  unfold jo
  rw [show a.length + 1 + (y + wid l y) = a.length + 1 + y + wid l y by omega, e1, framed_dec y hy, back_same hb hy, show a.length + 1 + y + wid l y = a.length + 1 + (y + wid l y) by omega, framed_dec _ hx]
theorem edge_nat {D : PD} {l : List UInt8} {k : Nat} (hl : l ≠ []) (hk : k ≤ l.length) : edgeAt D l (k : Int) = edgeB D l k := by
  unfold edgeAt
  rw [decide_eq_true hl, decide_eq_true (by omega), decide_eq_true (by omega)]
  simp
/-- **An edge hangs on what is beside it alone.** -/
theorem beside (D : PD) {x : Nat} (h : Bd l x) (h0 : 0 < x) (hx : x < l.length) : edgeAt D (framed a l b) ((a.length : Int) + 1 + (x : Int)) = edgeAt D l (x : Int) := by
  have hne : framed a l b ≠ [] := by simp [framed]
  have hl : l ≠ [] := by rintro rfl; simp at hx
  have e : ((a.length : Int) + 1 + (x : Int)) = ((a.length + 1 + x : Nat) : Int) := by omega
  rw [e, edge_nat hne (by rw [framed_len]; omega), edge_nat hl (by omega), edge_unit (framed_bd h) (by rw [framed_len]; omega) (by omega), edge_unit h hx h0, framed_jo D h h0 hx]
end

/-! ### properties that say nothing -/
theorem kind_none (r : Int) : kindOf {} r = if isChar r = true ∧ isSyl r = true then 1 else 0 := by
  unfold kindOf said
  simp only [List.reverse_nil, List.find?_nil]
  cases isChar r <;> cases isSyl r <;> rfl
theorem class_none (r : Int) : classOf {} r = 0 := by
  unfold classOf said
  simp only [List.reverse_nil, List.find?_nil]
  split <;> rfl
theorem joined_none {a v b w : Int} (hb : ¬ ((4352 ≤ b ∧ b ≤ 4607) ∨ (44032 ≤ b ∧ b ≤ 55203))) (h : ¬ (a = 13 ∧ b = 10)) : joinB {} a v b w = false := by
  unfold joinB
  rw [if_neg h]
  by_cases h2 : aloneB {} a v = true ∨ aloneB {} b w = true
  · rw [if_pos h2]
  · rw [if_neg h2]
    have k1 : ∀ r, kindOf {} r = 0 ∨ kindOf {} r = 1 := fun r => by rw [kind_none]; split <;> simp
    rw [if_neg (by rw [class_none]; have := k1 a; have := k1 b; omega)]
    have hh : hang b = 0 := by
      unfold hang
      rw [if_neg (by omega), if_neg (by omega), if_neg (by omega), if_pos (by omega)]
    rw [hh]
    unfold hangJ
    repeat' split
    all_goals rfl
/-- Where the unit is no Hangul, and no 0A behind 0D, an edge lies. -/
theorem plain_edge {l : List UInt8} {x : Nat} (hb : Bd l x) (hx : x + wid l x < l.length) (hn : ¬ ((4352 ≤ (run l (x + wid l x) : Int) ∧ (run l (x + wid l x) : Int) ≤ 4607) ∨ (44032 ≤ (run l (x + wid l x) : Int) ∧ (run l (x + wid l x) : Int) ≤ 55203))) (h : ¬ ((run l x : Int) = 13 ∧ (run l (x + wid l x) : Int) = 10)) : edgeAt {} l ((x + wid l x : Nat) : Int) = true := by
  have hl : l ≠ [] := by rintro rfl; simp at hx
  have hw := wid_pos l x
  rw [edge_nat hl (by omega), edge_unit (Bd.step hb (by omega)) hx (by omega), jo_units hb hx, joined_none hn h]
  rfl
end Go.Proofs.YtfmcadobpgpajaaGreatDoor.Cl
