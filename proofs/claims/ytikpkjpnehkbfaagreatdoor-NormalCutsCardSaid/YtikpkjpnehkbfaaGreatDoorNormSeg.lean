/- The loops that put marks in order, and that compose: what holds in their midst: plain. -/
import Derived.Test.YtikpkjpnehkbfaaGreatDoorNormOrd
import Derived.Test.YtikpkjpnehkbfaaGreatDoorStabPlain
namespace Go.Proofs.YtikpkjpnehkbfaaGreatDoor.Nm
set_option linter.unusedVariables false
set_option linter.unusedSimpArgs false
open Go.Proofs.YtikpkjpnehkbfaaGreatDoor.Sp Go.Proofs.YtikpkjpnehkbfaaGreatDoor.Sb

section
variable {α : Type}
/-! ### stretch by stretch -/
structure OI (c : α → Int) (l0 l : List α) (i fr : Nat) : Prop where
  len : l.length = l0.length
  same : ∀ k, l.filter (P0 c k) = l0.filter (P0 c k)
  le : fr ≤ i
  top : i ≤ l0.length + 1
  rest : ∀ t, fr ≤ t → l[t]? = l0[t]?
  pos : ∀ t x, fr ≤ t → t < i → l0[t]? = some x → c x ≠ 0
  ord : ∀ j x y, j + 1 < fr → l[j]? = some x → l[j + 1]? = some y → 0 < c y → c x ≤ c y
  zero : fr = 0 ∨ (∃ x, l[fr - 1]? = some x ∧ c x = 0) ∨ fr = l0.length + 1
theorem OI.start (c : α → Int) (l : List α) : OI c l l 0 0 := ⟨rfl, fun _ => rfl, Nat.le_refl _, Nat.zero_le _, fun _ _ => rfl, fun t x _ h => by omega, fun j x y h => by omega, .inl rfl⟩
theorem OI.skip {c : α → Int} {l0 l : List α} {i fr : Nat} {x : α} (h : OI c l0 l i fr) (hx : l[i]? = some x) (hc : c x ≠ 0) : OI c l0 l (i + 1) fr := by
  have hi := (List.getElem?_eq_some_iff.1 hx).1
  refine ⟨h.len, h.same, by have := h.le; omega, by have := h.len; omega, h.rest, fun t y h1 h2 hy => ?_, h.ord, h.zero⟩
  by_cases e : t = i
  · subst e
    rw [← h.rest t h.le, hx] at hy
    injection hy with hy
    rw [← hy]; exact hc
  · exact h.pos t y h1 (by omega) hy
/-- Between two places. -/
def seg (l : List α) (a b : Nat) : List α := (l.take b).drop a
theorem seg_split {l : List α} {a b : Nat} (h1 : a ≤ b) (h2 : b ≤ l.length) : l = l.take a ++ (seg l a b ++ l.drop b) ∧ (l.take a).length = a ∧ (seg l a b).length = b - a := by
  obtain ⟨e, l1, l2, _⟩ := three (a := a) (m := b) (b := b) (l := l) h1 (Nat.le_refl _) h2
  refine ⟨?_, l1, l2⟩
  have : (l.take b).drop b = [] := List.drop_eq_nil_of_le (by rw [List.length_take]; omega)
  rw [this, List.nil_append] at e
  exact e
theorem OI.sorted {c : α → Int} (hc : ∀ x, 0 ≤ c x) {l0 l s' : List α} {i fr : Nat} (h : OI c l0 l i fr) (hi : i ≤ l0.length) (hz : i = l0.length ∨ ∃ x, l[i]? = some x ∧ c x = 0)
    (hm : Mv c 0 (i - fr) (seg l fr i) s') (hs : Srt c 0 (i - fr) s') : OI c l0 (l.take fr ++ (s' ++ l.drop i)) (i + 1) (i + 1) := by
  have hle := h.le
  have hlen := h.len
  obtain ⟨e, l1, l2⟩ := seg_split (l := l) hle (by omega)
  have l3 : s'.length = i - fr := by rw [hm.len, l2]
  have lo : ∀ t, t < fr → (l.take fr ++ (s' ++ l.drop i))[t]? = l[t]? := fun t ht => by
    rw [List.getElem?_append_left (by omega), List.getElem?_take, if_pos ht]
  have mi : ∀ t, fr ≤ t → t < i → (l.take fr ++ (s' ++ l.drop i))[t]? = s'[t - fr]? := fun t h1 h2 => by
    rw [List.getElem?_append_right (by omega), l1, List.getElem?_append_left (by omega)]
  have hi2 : ∀ t, i ≤ t → (l.take fr ++ (s' ++ l.drop i))[t]? = l[t]? := fun t h1 => by
    rw [List.getElem?_append_right (by omega), l1, List.getElem?_append_right (by omega), l3, List.getElem?_drop]
    congr 1
    omega
  refine ⟨by simp only [List.length_append, l1, l3, List.length_drop]; omega, fun k => ?_, Nat.le_refl _, by omega, fun t ht => ?_, fun t x h1 h2 => by omega, fun j x y hj hx hy h0 => ?_, ?_⟩
  · rw [← h.same k]
    conv => rhs; rw [e]
    simp only [List.filter_append]
    congr 2
    refine hm.keep (P0 c k) (fun p q x y _ _ _ _ hx hy px py => ?_)
    have nz : ∀ p x, (seg l fr i)[p]? = some x → c x ≠ 0 := fun p x hx => by
      have hp := (List.getElem?_eq_some_iff.1 hx).1
      have hx' : l[fr + p]? = some x := by
        rw [e, List.getElem?_append_right (by omega), l1, show fr + p - fr = p by omega, List.getElem?_append_left hp]
        exact hx
      rw [h.rest _ (by omega)] at hx'
      exact h.pos _ x (by omega) (by omega) hx'
    have n1 := nz p x hx
    have n2 := nz q y hy
    rw [P0_iff] at px py
    omega
  · rw [hi2 t (by omega)]
    exact h.rest t (by omega)
  · by_cases c1 : j + 1 < fr
    · rw [lo j (by omega)] at hx
      rw [lo (j + 1) c1] at hy
      exact h.ord j x y c1 hx hy h0
    · by_cases c2 : j + 1 = fr
      · rw [lo j (by omega)] at hx
        rcases h.zero with e0 | ⟨z, hz1, hz2⟩ | e1
        · omega
        · rw [show fr - 1 = j by omega, hx] at hz1
          injection hz1 with hz1
          rw [hz1, hz2]; omega
        · omega
      · by_cases c3 : j + 1 < i
        · rw [mi j (by omega) (by omega)] at hx
          rw [mi (j + 1) (by omega) c3] at hy
          exact hs (j - fr) (j + 1 - fr) x y (Nat.zero_le _) (by omega) (by omega) hx hy
        · have hji : j + 1 = i := by omega
          rw [hi2 (j + 1) (by omega), hji] at hy
          rcases hz with hz | ⟨z, hz1, hz2⟩
          · rw [List.getElem?_eq_none (by omega)] at hy; cases hy
          · rw [hy] at hz1
            injection hz1 with hz1
            rw [hz1, hz2] at h0
            omega
  · rcases hz with hz | ⟨z, hz1, hz2⟩
    · exact .inr (.inr (by omega))
    · refine .inr (.inl ⟨z, ?_, hz2⟩)
      rw [show i + 1 - 1 = i by omega, hi2 i (Nat.le_refl _)]
      exact hz1
theorem OI.done {c : α → Int} (hc : ∀ x, 0 ≤ c x) {l0 l : List α} {i : Nat} (h : OI c l0 l i (l0.length + 1)) : l = ordR c l0 := by
  refine ordR_uniq hc (fun j x y hx hy h0 => ?_) h.same
  have := (List.getElem?_eq_some_iff.1 hy).1
  have := h.len
  exact h.ord j x y (by omega) hx hy h0

/-! ### one by one, from behind -/
structure BI (c : α → Int) (o0 : List α) (x : α) (n : Nat) (o : List α) : Prop where
  ex : ∃ A B, o = A ++ (x :: B) ∧ A ++ B = o0 ∧ A.length = n ∧ ∀ b ∈ B, 0 < c x ∧ c x < c b
theorem BI.start (c : α → Int) (o0 : List α) (x : α) : BI c o0 x o0.length (o0 ++ [x]) := ⟨o0, [], rfl, by simp, rfl, fun b h => by cases h⟩
theorem BI.get {c : α → Int} {o0 o : List α} {x : α} {n : Nat} (h : BI c o0 x n o) : o[n]? = some x ∧ n ≤ o0.length ∧ o.length = o0.length + 1 := by
  obtain ⟨A, B, rfl, e, rfl, _⟩ := h.ex
  have := congrArg List.length e
  rw [List.length_append] at this
  exact ⟨by simp, by omega, by simp; omega⟩
theorem BI.step {c : α → Int} {o0 o : List α} {x y : α} {n : Nat} (h : BI c o0 x (n + 1) o) (hy : o[n]? = some y) (h0 : 0 < c x) (hlt : c x < c y) : BI c o0 x n ((o.set (n + 1) y).set n x) := by
  obtain ⟨A, B, rfl, e, hA, hB⟩ := h.ex
  have hAne : A ≠ [] := by intro e; rw [e] at hA; cases hA
  obtain ⟨A', z, rfl⟩ : ∃ A' z, A = A' ++ [z] := ⟨A.dropLast, A.getLast hAne, (List.dropLast_concat_getLast hAne).symm⟩
  have hA' : A'.length = n := by simp at hA; exact hA
  have hz : z = y := by
    rw [List.append_assoc, List.getElem?_append_right (by omega), hA', Nat.sub_self] at hy
    simpa using hy
  subst hz
  refine ⟨A', z :: B, ?_, by rw [← e]; simp, hA', fun b hb => ?_⟩
  · rw [List.append_assoc, List.singleton_append]
    rw [List.set_append_right _ _ (by omega), hA', show n + 1 - n = 1 by omega, List.set_append_right _ _ (by omega), hA', Nat.sub_self]
    rfl
  · rcases List.mem_cons.1 hb with rfl | hb
    · exact ⟨h0, hlt⟩
    · exact hB b hb
theorem BI.done {c : α → Int} (hc : ∀ x, 0 ≤ c x) {l o : List α} {x : α} {n : Nat} (h : BI c (ordR c l) x n o) (hs : n = 0 ∨ ¬ 0 < c x ∨ ∃ y, o[n - 1]? = some y ∧ ¬ c x < c y) : o = ordR c (l ++ [x]) := by
  obtain ⟨A, B, rfl, e, rfl, hB⟩ := h.ex
  have hO := ordR_ord c l
  rw [← e] at hO
  have hlast : ∀ u v, A.getLast? = some u → (x :: B).head? = some v → 0 < c v → c u ≤ c v := fun u v hu hv h0 => by
    simp only [List.head?_cons, Option.some.injEq] at hv
    subst hv
    rcases hs with hs | hs | ⟨y, hy, hn⟩
    · have : A = [] := List.length_eq_zero_iff.1 hs
      rw [this] at hu; cases hu
    · exact absurd h0 hs
    · have hAl : 0 < A.length := by
        cases A with
        | nil => cases hu
        | cons a A => simp
      rw [List.getElem?_append_left (by omega), ← List.getLast?_eq_getElem?, hu] at hy
      injection hy with hy
      subst hy
      omega
  have hxB : Ord c (x :: B) := by
    rw [show x :: B = [x] ++ B from rfl]
    refine (Ord.one c x).append hO.right (fun u v hu hv h0 => ?_)
    simp only [List.getLast?_singleton, Option.some.injEq] at hu
    subst hu
    have hv' : v ∈ B := by
      cases B with
      | nil => cases hv
      | cons b B => simp only [List.head?_cons, Option.some.injEq] at hv; subst hv; simp
    have := (hB v hv').2
    omega
  refine ordR_uniq hc (hO.left.append hxB hlast) (fun k => ?_)
  rw [List.filter_append l, ← ordR_filter c k l, ← e, List.filter_append, List.filter_append, List.append_assoc]
  congr 1
  rw [show x :: B = [x] ++ B from rfl, List.filter_append]
  by_cases hx : P0 c k x = true
  · by_cases hB0 : B = []
    · rw [hB0]; simp
    · have : B.filter (P0 c k) = [] := List.filter_eq_nil_iff.2 (fun b hb hp => by
        have := hB b hb
        rw [P0_iff] at hx hp
        omega)
      rw [this]; simp
  · have : [x].filter (P0 c k) = [] := by simp [List.filter_cons, hx]
    rw [this]; simp

end
/-! ### composing -/
/-- The class of the last point behind the starter; -1: there is none. -/
def lastV (D : PD) (o : List Int × Option Nat) : Int := match o.2 with | none => 0 | some s => if s + 1 = o.1.length then -1 else classOf D (o.1.getD (o.1.length - 1) 0)
def startV (o : List Int × Option Nat) : Int := match o.2 with | none => -1 | some s => (s : Int)
/-- The starter lies in the row. -/
def StIn (o : List Int × Option Nat) : Prop := ∀ s, o.2 = some s → s < o.1.length
theorem StIn.step {D : PD} {o : List Int × Option Nat} (h : StIn o) (c : Int) : StIn (compStep D o c) := by
  have hpush : StIn (push D o c) := by
    intro s hs
    unfold push at hs ⊢
    simp only at hs
    split at hs
    · injection hs with hs; simp; omega
    · have := h s hs; simp; omega
  unfold compStep
  split
  · exact hpush
  · rename_i s hs
    split
    · split
      · intro s' hs'
        simp only [Option.some.injEq] at hs'
        subst hs'
        simp only [List.length_set]
        exact h _ hs
      · exact hpush
    · exact hpush
theorem free_iff {D : PD} (h : Good D) {o : List Int × Option Nat} {s : Nat} (hs : o.2 = some s) (c : Int) : lastV D o < classOf D c ↔ free D o.1 s c := by
  have := h.nn c
  unfold lastV free
  rw [hs]
  simp only
  split
  · rename_i e
    exact ⟨fun _ => .inl e, fun _ => by omega⟩
  · rename_i e
    exact ⟨.inr, fun h => h.resolve_left e⟩
theorem push_last {D : PD} {o : List Int × Option Nat} (h : StIn o) (c : Int) : (classOf D c = 0 → startV (push D o c) = (o.1.length : Int) ∧ lastV D (push D o c) = -1) ∧ (classOf D c ≠ 0 → startV (push D o c) = startV o ∧ ∀ s, o.2 = some s → lastV D (push D o c) = classOf D c) := by
  refine ⟨fun h0 => ?_, fun h0 => ?_⟩
  · unfold push startV lastV
    rw [if_pos h0]
    simp
  · unfold push
    rw [if_neg h0]
    refine ⟨rfl, fun s hs => ?_⟩
    have := h s hs
    unfold lastV
    simp only [hs, List.length_append, List.length_cons, List.length_nil]
    rw [if_neg (by omega)]
    simp [List.getD]
theorem set_last {D : PD} {o : List Int × Option Nat} (h : StIn o) {s : Nat} (hs : o.2 = some s) (r : Int) : startV (o.1.set s r, some s) = startV o ∧ lastV D (o.1.set s r, some s) = lastV D o := by
  have hl := h s hs
  refine ⟨by unfold startV; rw [hs], ?_⟩
  unfold lastV
  rw [hs]
  simp only [List.length_set]
  split
  · rfl
  · rename_i e
    congr 1
    simp only [List.getD]
    rw [List.getElem?_set_ne (by omega)]
end Go.Proofs.YtikpkjpnehkbfaaGreatDoor.Nm
